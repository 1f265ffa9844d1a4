/- The law's own helpers on areas. -/
import Derived.Test.YtbkjhneemndfgaaSearch
namespace Go.Proofs.Ytbkjhneemndfgaa
open Go.RowKit
def szI (left : Int) (n : Nat) : Int := if left - n < 0 then -1 else left - n
theorem szArea_any (x : Area) (left : Int) (w : World) (hs : x.id.size ≤ 9223372036854775807) (h0 : 0 ≤ left) (h1 : left ≤ 1000000000000) :
    Gives Try.prog 23 #[.agg #[.string x.id, .int .i64 x.chance, .int .i64 x.minutes], .int .i64 left] w (.int .i64 (szI left x.id.size)) := by
  unfold Gives
  have H : Hid (szI left x.id.size = if left - x.id.size < 0 then -1 else left - x.id.size) := rfl
  by_cases h : left - x.id.size < 0
  all_goals
    go_enter Try.func23, Try.ntmps23
    go_wp2
    go_ret
    exact ⟨ret_int (by rw [H.out]; split <;> omega), (Ext.refl _).alloc _⟩
theorem toArea_any (x : Area) (w : World) :
    Gives Try.prog 26 #[.agg #[.string x.id, .int .i64 x.chance, .int .i64 x.minutes]] w (.agg #[.string x.id, .int .i64 x.chance, .int .i64 x.minutes]) := by
  unfold Gives
  go_enter Try.func26, Try.ntmps26
  go_wp2
  exact bodyPost_ret (v := .agg #[.string x.id, .int .i64 x.chance, .int .i64 x.minutes]) (by simp [results, Try.results26, go_sem]) rfl ⟨rfl, (((Ext.refl _).alloc _).alloc _).alloc _⟩
set_option maxHeartbeats 1000000 in
theorem toAreaS_any (a : Option Addr) (cap : Nat) (l : List Area) (w : World) (H : AreaAt w a l) (hlen : l.length ≤ 1048576) :
    Calls Try.prog 9 #[.slice a l.length cap] w fun e w' => ∃ g, e = .returned (.slice (some ⟨g, 0, none⟩) l.length l.length) ∧ w.heap.size ≤ g ∧ AreaAt w' (some ⟨g, 0, none⟩) l ∧ Blk w' g 46 (l.length * 3) ∧ Ext w w' := by
  have hmk := run_make_blk (P := Try.prog) (t := 27) Try.underlying27 (by kernel_rfl : (Try.prog.info? 46).map (fun i => (i.zero.map Value.cells, i.size, i.bytes)) = some (some #[.string ⟨#[]⟩, .int .i64 0, .int .i64 0], 3, 32)) .i64 .i64 l.length (by omega) (by omega) w
  have hB := Blk.new w (madeCells #[.string ⟨#[]⟩, .int .i64 0, .int .i64 0] (l.length * 3)) 46
  rw [size_madeCells] at hB
  go_enter Try.func9, Try.ntmps9
  go_wp2_with fail
  have hE := (Ext.refl w).alloc (.cells (madeCells #[.string ⟨#[]⟩, .int .i64 0, .int .i64 0] (l.length * 3)) 46)
  have hG := Nat.le_refl w.heap.size
  clear hmk
  generalize w.alloc (.cells (madeCells #[.string ⟨#[]⟩, .int .i64 0, .int .i64 0] (l.length * 3)) 46) = W at *
  obtain ⟨g, hg⟩ : ∃ g, g = w.heap.size := ⟨_, rfl⟩
  have hg0 : w.heap.size ≤ g := by omega
  rw [← hg] at hB ⊢
  clear hg hG
  go_loopw [4] (fun i wr => ∃ k : Nat, k ≤ l.length ∧ i = .int .i64 k ∧ Blk wr g 46 (l.length * 3) ∧ (∀ i, i < k → ∀ j, j < 3 → wr.cell? ⟨g, i * 3 + j, none⟩ = some ((nth l i).cell j)) ∧ Ext w wr) (fun i _ => l.length - (intOf i).toNat)
  case atStart => exact ⟨0, Nat.zero_le _, rfl, hB, upto_zero, hE⟩
  case round =>
    obtain ⟨k, hk, rfl, hb, hc, he⟩ := hrel
    by_cases hlt : k < l.length
    · obtain ⟨b, off, rfl⟩ := H.base hlt
      obtain ⟨hbl, c0, c1, c2⟩ := Area.at (H.ext he) k hlt
      have hg' := hb.lt
      have f0 := hb.frozen (k * 3)
      have f1 := hb.frozen (k * 3 + 1)
      have f2 := hb.frozen (k * 3 + 2)
      obtain ⟨v0, o0⟩ := hb.cell (o := k * 3) (by omega)
      obtain ⟨v1, o1⟩ := hb.cell (o := k * 3 + 1) (by omega)
      obtain ⟨v2, o2⟩ := hb.cell (o := k * 3 + 2) (by omega)
      have HB := Lib.hid hb
      have HC := Lib.hid hc
      clear H hc hb hB hE
      go_wp2_with (go_at_call 26; refine (toArea_any (nth l k) _).mono ?_; rintro e w' ⟨rfl, y, rfl⟩)
      have hF := fill_row (c := fun i j => (nth l i).cell j) [.string (nth l k).id, .int .i64 (nth l k).chance, .int .i64 (nth l k).minutes] (HB.out.ext ((Ext.refl wr).lift y)) (k := k) (m := 3) (by omega) rfl
        (fun i hi j hj => ((Ext.refl wr).lift y).cell (HC.out i hi j hj)) (fun j hj => by rcases (show j = 0 ∨ j = 1 ∨ j = 2 by omega) with rfl | rfl | rfl <;> rfl)
      go_roundw
      case rel => exact ⟨k + 1, by omega, by go_num, hF.1, hF.2, ext_setCells hg0 [.string (nth l k).id, .int .i64 (nth l k).chance, .int .i64 (nth l k).minutes] _ _ (he.lift y)⟩
      case measure => simp [intOf]; omega
    · obtain rfl : k = l.length := by omega
      have HR : Hid (AreaAt wr (some ⟨g, 0, none⟩) l ∧ Blk wr g 46 (l.length * 3)) := ⟨fun i hi => ⟨g, 0, rfl, hb.lt, fun j hj => by rw [Nat.zero_add]; exact hc i hi j hj⟩, hb⟩
      clear H hc hb hB hE
      go_wp2_with fail
      go_ret
      exact ⟨g, rfl, hg0, HR.out.1, HR.out.2, he⟩
set_option maxHeartbeats 1000000 in
theorem szAreaS_any (a : Option Addr) (cap : Nat) (l : List Area) (left : Int) (w : World) (H : AreaAt w a l) (hsz : ∀ k, k < l.length → (nth l k).Sz) (hlen : l.length ≤ 9223372036854775807) (h0 : 0 ≤ left) (h1 : left ≤ 1000000000000) :
    Calls Try.prog 7 #[.slice a l.length cap, .int .i64 left] w fun e w' => ∃ r : Int, e = .returned (.int .i64 r) ∧ Ext w w' ∧ -1 ≤ r ∧ (0 ≤ r → (l.length : Int) ≤ left ∧ ∀ k, k < l.length → ((nth l k).id.size : Int) ≤ left) := by
  by_cases hl : left - l.length < 0
  · go_enter Try.func7, Try.ntmps7
    go_wp2_with fail
    go_ret
    exact ⟨-1, rfl, Ext.refl _, by omega, fun h => absurd h (by omega)⟩
  go_enter Try.func7, Try.ntmps7
  go_wp2_with fail
  go_loopw [1, 5] (fun lf i wr => ∃ k : Nat, k ≤ l.length ∧ i = .int .i64 k ∧ (∃ r : Int, lf = .int .i64 r ∧ 0 ≤ r ∧ r ≤ left) ∧ Hid (∀ j, j < k → ((nth l j).id.size : Int) ≤ left) ∧ Ext w wr) (fun _ i _ => l.length - (intOf i).toNat)
  case atStart => exact ⟨0, Nat.zero_le _, rfl, ⟨_, rfl, by omega, by omega⟩, upto_zero, Ext.refl w⟩
  case round =>
    obtain ⟨k, hk, rfl, ⟨r, rfl, r0, r1⟩, hall, he⟩ := hrel
    by_cases hlt : k < l.length
    · obtain ⟨b, off, rfl⟩ := H.base hlt
      obtain ⟨hbl, c0, c1, c2⟩ := Area.at (H.ext he) k hlt
      have hs := hsz k hlt
      unfold Area.Sz at hs
      have hS : Hid (szI r (nth l k).id.size = if r - (nth l k).id.size < 0 then -1 else r - (nth l k).id.size) := rfl
      clear H hsz
      by_cases h : r - (nth l k).id.size < 0
      · have hx : Hid (szI r (nth l k).id.size = -1) := by show _ = _; rw [hS.out, if_pos h]
        go_wp2_with (go_at_call 23; refine (szArea_any (nth l k) _ _ hs (by omega) (by omega)).mono ?_; rintro e w' ⟨rfl, y, rfl⟩; rw [hx.out])
        go_ret
        exact ⟨-1, rfl, he.lift y, by omega, fun h => absurd h (by omega)⟩
      · have hx : Hid (szI r (nth l k).id.size = r - (nth l k).id.size) := by show _ = _; rw [hS.out, if_neg h]
        go_wp2_with (go_at_call 23; refine (szArea_any (nth l k) _ _ hs (by omega) (by omega)).mono ?_; rintro e w' ⟨rfl, y, rfl⟩; rw [hx.out])
        go_roundw
        case rel => exact ⟨k + 1, by omega, by go_num, ⟨_, rfl, by omega, by omega⟩, upto_succ hall.out (by omega), he.lift y⟩
        case measure => simp [intOf]; omega
    · clear H hsz
      go_wp2_with fail
      go_ret
      exact ⟨r, rfl, he, by omega, fun _ => ⟨by omega, fun j hj => hall.out j (by omega)⟩⟩
theorem eqArea_same (x : Area) (w : World) :
    Gives Try.prog 29 #[.agg #[.string x.id, .int .i64 x.chance, .int .i64 x.minutes], .agg #[.string x.id, .int .i64 x.chance, .int .i64 x.minutes]] w (.bool true) := by
  unfold Gives
  have h0 : sEq x.id x.id = true := sEq_iff.2 rfl
  go_enter Try.func29, Try.ntmps29
  go_wp2
  go_ret
  exact ⟨rfl, ((Ext.refl _).alloc _).alloc _⟩
set_option maxHeartbeats 1000000 in
theorem eqAreaS_same (a : Option Addr) (cap : Nat) (a2 : Option Addr) (cap2 : Nat) (l : List Area) (w : World) (H : AreaAt w a l) (H2 : AreaAt w a2 l) (hlen : l.length ≤ 9223372036854775807) :
    Gives Try.prog 12 #[.slice a l.length cap, .slice a2 l.length cap2] w (.bool true) := by
  unfold Gives
  go_enter Try.func12, Try.ntmps12
  go_wp2_with fail
  go_loopw [5] (fun i wr => ∃ k : Nat, k ≤ l.length ∧ i = .int .i64 k ∧ Ext w wr) (fun i _ => l.length - (intOf i).toNat)
  case atStart => exact ⟨0, Nat.zero_le _, rfl, Ext.refl w⟩
  case round =>
    obtain ⟨k, hk, rfl, he⟩ := hrel
    by_cases hlt : k < l.length
    · obtain ⟨b, off, rfl⟩ := H.base hlt
      obtain ⟨hb, c0, c1, c2⟩ := Area.at (H.ext he) k hlt
      obtain ⟨b2, off2, rfl⟩ := H2.base hlt
      obtain ⟨hb2, d0, d1, d2⟩ := Area.at (H2.ext he) k hlt
      clear H H2
      go_wp2_with fail
      refine region_quiet (by kernel_rfl) (by kernel_rfl) ?_
      repeat (any_goals (first | go_big_quiet_step ((exact Gives.quiet (eqArea_same (nth l k) _))) | quiet_step ((exact Gives.quiet (eqArea_same (nth l k) _)))))
      refine wpQuiet_nil ?_
      intro _ hw'
      obtain ⟨y, hw''⟩ := hw'
      subst hw''
      go_wp2
      go_roundw
      case rel => exact ⟨k + 1, by omega, by go_num, he.lift y⟩
      case measure => simp [intOf]; omega
    · clear H H2
      go_wp2_with fail
      go_ret
      exact ⟨rfl, he⟩
end Go.Proofs.Ytbkjhneemndfgaa
