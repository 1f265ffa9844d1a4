/- The law's own helpers on lists of numbers. -/
import Derived.Test.YtmkmmenkjbmppaaBasics
namespace Go.Proofs.Ytmkmmenkjbmppaa
open Go.RowKit
set_option maxHeartbeats 1000000 in
theorem toInt64S_any (a : Option Addr) (cap : Nat) (l : List Int) (w : World) (H : IntAt w a l) (hlen : l.length ≤ 1048576) :
    Calls Try.prog 7 #[.slice a l.length cap] w fun e w' => ∃ g, e = .returned (.slice (some ⟨g, 0, none⟩) l.length l.length) ∧ w.heap.size ≤ g ∧ IntAt w' (some ⟨g, 0, none⟩) l ∧ Blk w' g 2 l.length ∧ Ext w w' := by
  have hmk := run_make_blk (P := Try.prog) (t := 23) Try.underlying23 (by kernel_rfl : (Try.prog.info? 2).map (fun i => (i.zero.map Value.cells, i.size, i.bytes)) = some (some #[.int .i64 0], 1, 8)) .i64 .i64 l.length (by omega) (by omega) w
  have hB := Blk.new w (madeCells #[.int .i64 0] (l.length * 1)) 2
  rw [size_madeCells] at hB
  rw [Nat.mul_one] at hmk hB
  go_enter Try.func7, Try.ntmps7
  go_wp2_with fail
  have hE := (Ext.refl w).alloc (.cells (madeCells #[.int .i64 0] l.length) 2)
  clear hmk
  generalize w.alloc (.cells (madeCells #[.int .i64 0] l.length) 2) = W at *
  obtain ⟨g, hg⟩ : ∃ g, g = w.heap.size := ⟨_, rfl⟩
  have hg0 : w.heap.size ≤ g := by omega
  rw [← hg] at hB ⊢
  clear hg
  go_loopw [4] (fun i wr => ∃ k : Nat, k ≤ l.length ∧ i = .int .i64 k ∧ Blk wr g 2 l.length ∧ (∀ i, i < k → wr.cell? ⟨g, i, none⟩ = some (.int .i64 (nth l i))) ∧ Ext w wr) (fun i _ => l.length - (intOf i).toNat)
  case atStart => exact ⟨0, Nat.zero_le _, rfl, hB, upto_zero, hE⟩
  case round =>
    obtain ⟨k, hk, rfl, hb, hc, he⟩ := hrel
    by_cases hlt : k < l.length
    · obtain ⟨b, off, rfl⟩ := H.base hlt
      obtain ⟨hbl, c0⟩ := IntAt.at (H.ext he) k hlt
      have hg' := hb.lt
      have f0 := hb.frozen k
      obtain ⟨v0, o0⟩ := hb.cell hlt
      have hF := Lib.hid (fill_one (c := fun i => .int .i64 (nth l i)) hb hlt hc rfl)
      clear H hc hb hB hE
      go_wp2_with fail
      go_roundw
      case rel => exact ⟨k + 1, by omega, by go_num, hF.out.1, hF.out.2, he.setCell (p := ⟨g, k, none⟩) hg0 _⟩
      case measure => simp [intOf]; omega
    · obtain rfl : k = l.length := by omega
      have HR : Hid (IntAt wr (some ⟨g, 0, none⟩) l ∧ Blk wr g 2 l.length) := ⟨IntAt.of hb.lt fun k hk => by rw [Nat.zero_add]; exact hc k hk, hb⟩
      clear H hc hb hB hE
      go_wp2_with fail
      go_ret
      exact ⟨g, rfl, hg0, HR.out.1, HR.out.2, he⟩
set_option maxHeartbeats 400000 in
theorem eqInt64S_same (a : Option Addr) (cap : Nat) (a2 : Option Addr) (cap2 : Nat) (l : List Int) (w : World) (H : IntAt w a l) (H2 : IntAt w a2 l) (hlen : l.length ≤ 9223372036854775807) :
    Gives Try.prog 9 #[.slice a l.length cap, .slice a2 l.length cap2] w (.bool true) := by
  unfold Gives
  go_enter Try.func9, Try.ntmps9
  go_wp2_with fail
  go_loopw [5] (fun i wr => ∃ k : Nat, k ≤ l.length ∧ i = .int .i64 k ∧ Ext w wr) (fun i _ => l.length - (intOf i).toNat)
  case atStart => exact ⟨0, Nat.zero_le _, rfl, Ext.refl w⟩
  case round =>
    obtain ⟨k, hk, rfl, he⟩ := hrel
    by_cases hlt : k < l.length
    · obtain ⟨b, off, rfl⟩ := H.base hlt
      obtain ⟨hb, c0⟩ := IntAt.at (H.ext he) k hlt
      obtain ⟨b2, off2, rfl⟩ := H2.base hlt
      obtain ⟨hb2, d0⟩ := IntAt.at (H2.ext he) k hlt
      clear H H2
      go_wp2_with fail
      refine region_quiet (by kernel_rfl) (by kernel_rfl) ?_
      repeat (any_goals (first | go_big_quiet_step ((fail)) | quiet_step ((fail))))
      refine wpQuiet_nil ?_
      intro _ hw'
      obtain ⟨y, hw''⟩ := hw'
      subst hw''
      go_wp2
      go_roundw
      case rel => exact ⟨k + 1, by omega, by go_num, he.lift y⟩
      case measure => simp [intOf]; omega
    · clear H H2
      go_wp2_with fail
      go_ret
      exact ⟨rfl, he⟩
end Go.Proofs.Ytmkmmenkjbmppaa
