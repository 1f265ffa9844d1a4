/- Lists of strings that a call builds, and the law's own helpers on them. No conditions. -/
import Derived.Test.YtndkcgiadpdcjaaMark
import Derived.Test.YtndkcgiadpdcjaaLst
namespace Go.Proofs.Ytndkcgiadpdcjaa
open Go.RowKit
abbrev cellS : ByteArray → Nat → Value := fun (x : ByteArray) (_ : Nat) => Value.string x
abbrev StrAt (w : World) (a : Option Addr) (l : List ByteArray) : Prop := RowsAt 1 cellS w a l
theorem oneStr : ∀ (x : ByteArray) (j : Nat), j < 1 → (cellS x j).oneCell' = true := fun _ _ _ => rfl
theorem StrAt.at {w : World} {b off : Nat} {l : List ByteArray} (h : StrAt w (some ⟨b, off, none⟩) l) (k : Nat) (hk : k < l.length) : b < w.heap.size ∧ w.cell? ⟨b, off + k, none⟩ = some (.string (nth l k)) :=
  let h' := RowsAt.at h k hk; ⟨h'.1, by have := h'.2 0 (by decide); rwa [Nat.mul_one] at this⟩
theorem rows_str {T : TypeId} (w : World) (x : ByteArray) {n : Nat} (hn : n = w.heap.size) : StrAt (w.alloc (.cells #[.string x] T)) (some ⟨n, 0, none⟩) [x] := by
  subst hn
  refine rows_new (n := 1) (cell := cellS) w #[.string x] x (fun j hj => ?_)
  obtain rfl : j = 0 := by omega
  rfl
theorem elStrs : El Try.prog 24 9 1 16 := El.mk' Try.underlying24 (by kernel_rfl) (by decide)
set_option maxHeartbeats 1000000 in
theorem eqStringS_same (a : Option Addr) (cap : Nat) (a2 : Option Addr) (cap2 : Nat) (l : List ByteArray) (w : World) (H : StrAt w a l) (H2 : StrAt w a2 l) (hlen : l.length ≤ 9223372036854775807) :
    Gives Try.prog 10 #[.slice a l.length cap, .slice a2 l.length cap2] w (.bool true) := by
  unfold Gives
  go_enter Try.func10, Try.ntmps10
  go_wp2_with fail
  go_loopw [5] (fun i wr => ∃ k : Nat, k ≤ l.length ∧ i = .int .i64 k ∧ Ext w wr) (fun i _ => l.length - (intOf i).toNat)
  case atStart => exact ⟨0, Nat.zero_le _, rfl, Ext.refl w⟩
  case round =>
    obtain ⟨k, hk, rfl, he⟩ := hrel
    by_cases hlt : k < l.length
    · obtain ⟨b, off, rfl⟩ := H.base hlt
      obtain ⟨hb, c0⟩ := StrAt.at (H.ext he) k hlt
      obtain ⟨b2, off2, rfl⟩ := H2.base hlt
      obtain ⟨hb2, d0⟩ := StrAt.at (H2.ext he) k hlt
      have h0 : sEq (nth l k) (nth l k) = true := sEq_iff.2 rfl
      clear H H2
      go_wp2_with fail
      refine region_quiet (by kernel_rfl) (by kernel_rfl) ?_
      repeat (any_goals (first | go_big_quiet_step ((fail)) | quiet_step ((fail))))
      refine wpQuiet_nil ?_
      intro _ hw'
      obtain ⟨y, hw''⟩ := hw'
      subst hw''
      go_wp2
      go_roundw
      case rel => exact ⟨k + 1, by omega, by go_num, he.lift y⟩
      case measure => simp [intOf]; omega
    · clear H H2
      go_wp2_with fail
      go_ret
      exact ⟨rfl, he⟩
set_option maxRecDepth 100000 in
set_option maxHeartbeats 2000000 in
theorem markStringS_any (a : Option Addr) (n cap : Nat) (k : Int) (base : Nat) (w : World) (hO : Own w base 9 1 a n) (hn : n ≤ 1000000000) (h0 : 0 ≤ k) (h1 : k ≤ 100000000000) :
    Calls Try.prog 14 #[.slice a n cap, .int .i64 k] w fun e w' => e = .returned (.int .i64 (k + n)) ∧ Chg (ownA n a) w w' ∧ Own w' base 9 1 a n ∧ RowsAt 1 (fun (i : Nat) _ => .string (markS (k + (i : Int)))) w' a (List.range n) := by
  rcases Nat.eq_zero_or_pos n with rfl | hpos
  · clear hO
    go_enter Try.func14, Try.ntmps14
    go_wp2_with fail
    go_loopw [1, 5] (fun kk i wr => kk = .int .i64 k ∧ i = .int .i64 0 ∧ wr = w) (fun _ _ _ => 0)
    case atStart => exact ⟨rfl, rfl, rfl⟩
    case round =>
      obtain ⟨rfl, rfl, rfl⟩ := hrel
      go_wp2_with fail
      go_ret
      exact ⟨ret_int (by simp), Chg.refl _ _, .inl rfl, RowsAt.nil⟩
  simp only [ownA_pos hpos]
  rcases hO with h | ⟨g, N, rfl, hg, hB, hN⟩
  · exact absurd h (by omega)
  rw [Nat.mul_one] at hN
  go_enter Try.func14, Try.ntmps14
  go_wp2_with fail
  go_loopw [1, 5] (fun kk i wr => ∃ j : Nat, j ≤ n ∧ i = .int .i64 j ∧ kk = .int .i64 (k + j) ∧ Hid (Blk wr g 9 N) ∧ Hid (∀ p, p < j → wr.cell? ⟨g, p, none⟩ = some (.string (markS (k + (p : Int))))) ∧ Chg (some ⟨g, 0, none⟩) w wr) (fun _ i _ => n - (intOf i).toNat)
  case atStart => exact ⟨0, Nat.zero_le _, rfl, by simp, hB, upto_zero, Chg.refl _ _⟩
  case round =>
    obtain ⟨j, hj, rfl, rfl, HB, HC, he⟩ := hrel
    by_cases hlt : j < n
    · have HM := Lib.hid (markText_any (k + (j : Int)) wr (by omega) (by omega))
      have hB0 := HB.out
      have hC0 := HC.out
      clear HB HC hB
      have hg' := hB0.lt
      have f0 := hB0.frozen j
      obtain ⟨v0, o0⟩ := hB0.cell (o := j) (by omega)
      have hBh := Lib.hid hB0
      have hCh := Lib.hid hC0
      clear hB0 hC0
      go_wp2_with fail
      refine HM.out.mono ?_
      rintro e w' ⟨rfl, y, rfl⟩
      have hF := Lib.hid (fill_one (c := fun p => .string (markS (k + (p : Int)))) (hBh.out.ext ((Ext.refl _).lift y)) (k := j) (by omega) (fun i hi => ((Ext.refl _).lift y).cell (hCh.out i hi)) rfl)
      clear hBh hCh HM
      go_wp2_with fail
      go_roundw
      case rel => exact ⟨j + 1, by omega, by go_num, by simp only [Value.int.injEq, true_and]; omega, hF.out.1, hF.out.2, (he.lift y).setc j _⟩
      case measure => simp [intOf]; omega
    · obtain rfl : j = n := by omega
      have hR : Hid (Own wr base 9 1 (some ⟨g, 0, none⟩) j ∧ RowsAt 1 (fun (i : Nat) _ => .string (markS (k + (i : Int)))) wr (some ⟨g, 0, none⟩) (List.range j)) :=
        ⟨.inr ⟨g, N, rfl, hg, HB.out, by omega⟩, fun i hi => ⟨g, 0, rfl, HB.out.lt, fun q hq => by
          obtain rfl : q = 0 := by omega
          have hi' : i < j := by simpa using hi
          rw [nth_range hi', Nat.mul_one, Nat.zero_add]; exact HC.out i hi'⟩⟩
      clear HB HC hB
      go_wp2_with fail
      go_ret
      exact ⟨rfl, he, hR.out.1, hR.out.2⟩
set_option maxRecDepth 100000 in
set_option maxHeartbeats 1000000 in
theorem heldStringS_any (a : Option Addr) (n cap : Nat) (k : Int) (w : World) (H : RowsAt 1 (fun (i : Nat) _ => .string (markS (k + (i : Int)))) w a (List.range n)) (hn : n ≤ 1000000000) (h0 : 0 ≤ k) (h1 : k ≤ 100000000000) :
    Gives Try.prog 16 #[.slice a n cap, .int .i64 k] w (.int .i64 (k + n)) := by
  unfold Gives
  go_enter Try.func16, Try.ntmps16
  go_wp2_with fail
  go_loopw [1, 5] (fun kk i wr => ∃ j : Nat, j ≤ n ∧ i = .int .i64 j ∧ kk = .int .i64 (k + j) ∧ Ext w wr) (fun _ i _ => n - (intOf i).toNat)
  case atStart => exact ⟨0, Nat.zero_le _, rfl, by simp, Ext.refl _⟩
  case round =>
    obtain ⟨j, hj, rfl, rfl, he⟩ := hrel
    by_cases hlt : j < n
    · have HM := Lib.hid fun (W : World) => markText_any (k + (j : Int)) W (by omega) (by omega)
      obtain ⟨b, off, rfl⟩ := H.base (k := j) (by simpa using hlt)
      obtain ⟨hb, hc⟩ := (H.ext he).at j (by simpa using hlt)
      have c0 := hc 0 (by omega)
      rw [nth_range hlt, Nat.mul_one, Nat.add_zero] at c0
      have h0 : sEq (markS (k + (j : Int))) (markS (k + (j : Int))) = true := sEq_iff.2 rfl
      clear H hc
      go_wp2_with fail
      refine region_quiet (by kernel_rfl) (by kernel_rfl) ?_
      repeat (any_goals (first | go_big_quiet_step ((exact Gives.quiet (HM.out _))) | quiet_step ((exact Gives.quiet (HM.out _)))))
      refine wpQuiet_nil ?_
      intro _ hw'
      obtain ⟨y, hw''⟩ := hw'
      subst hw''
      go_wp2
      go_roundw
      case rel => exact ⟨j + 1, by omega, by go_num, by simp only [Value.int.injEq, true_and]; omega, he.lift y⟩
      case measure => simp [intOf]; omega
    · obtain rfl : j = n := by omega
      clear H
      go_wp2
      go_ret
      exact ⟨rfl, he⟩
end Go.Proofs.Ytndkcgiadpdcjaa
