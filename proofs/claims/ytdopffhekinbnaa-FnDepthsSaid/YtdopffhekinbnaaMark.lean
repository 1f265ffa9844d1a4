/- The law's own marks: what 'markText' writes, and marks in lists of numbers. -/
import Derived.Test.YtdopffhekinbnaaBasics
import Derived.Test.YtdopffhekinbnaaOut
namespace Go.Proofs.Ytdopffhekinbnaa
open Go.RowKit
/-- One digit ahead of a text, as the marks have it. -/
def digB (n : Nat) : UInt8 := UInt8.ofNat (48 + n % 10)
def markFin : Nat → Nat → ByteArray → ByteArray
  | 0, _, out => out
  | f + 1, n, out => if n = 0 then out else markFin f (n / 10) (⟨#[digB n]⟩ ++ out)
/-- The text for a number. -/
def markS (k : Int) : ByteArray := if k ≤ 0 then ⟨#[109, 48]⟩ else ⟨#[109]⟩ ++ markFin 20 k.toNat ⟨#[]⟩
set_option maxHeartbeats 1000000 in
theorem markInt64S_any (a : Option Addr) (n cap : Nat) (k : Int) (base : Nat) (w : World) (hO : Own w base 2 1 a n) (hn : n ≤ 1000000000000) (h0 : 0 ≤ k) (h1 : k ≤ 1000000000000) :
    Calls Try.prog 35 #[.slice a n cap, .int .i64 k] w fun e w' => e = .returned (.int .i64 (k + n)) ∧ Chg (ownA n a) w w' ∧ Own w' base 2 1 a n ∧ RowsAt 1 (fun (i : Nat) _ => .int .i64 (k + (i : Int))) w' a (List.range n) := by
  rcases Nat.eq_zero_or_pos n with rfl | hpos
  · clear hO
    go_enter Try.func35, Try.ntmps35
    go_wp2_with fail
    go_loopw [1, 5] (fun kk i wr => kk = .int .i64 k ∧ i = .int .i64 0 ∧ wr = w) (fun _ _ _ => 0)
    case atStart => exact ⟨rfl, rfl, rfl⟩
    case round =>
      obtain ⟨rfl, rfl, rfl⟩ := hrel
      go_wp2_with fail
      go_ret
      exact ⟨ret_int (by simp), Chg.refl _ _, .inl rfl, RowsAt.nil⟩
  simp only [ownA_pos hpos]
  rcases hO with h | ⟨g, N, rfl, hg, hB, hN⟩
  · exact absurd h (by omega)
  rw [Nat.mul_one] at hN
  go_enter Try.func35, Try.ntmps35
  go_wp2_with fail
  go_loopw [1, 5] (fun kk i wr => ∃ j : Nat, j ≤ n ∧ i = .int .i64 j ∧ kk = .int .i64 (k + j) ∧ Hid (Blk wr g 2 N) ∧ Hid (∀ p, p < j → wr.cell? ⟨g, p, none⟩ = some (.int .i64 (k + (p : Int)))) ∧ Chg (some ⟨g, 0, none⟩) w wr) (fun _ i _ => n - (intOf i).toNat)
  case atStart => exact ⟨0, Nat.zero_le _, rfl, by simp, hB, upto_zero, Chg.refl _ _⟩
  case round =>
    obtain ⟨j, hj, rfl, rfl, HB, HC, he⟩ := hrel
    by_cases hlt : j < n
    · have hg' := HB.out.lt
      have f0 := HB.out.frozen j
      obtain ⟨v0, o0⟩ := HB.out.cell (o := j) (by omega)
      have hF := Lib.hid (fill_one (c := fun p => .int .i64 (k + (p : Int))) HB.out (k := j) (by omega) HC.out rfl)
      clear HB HC hB
      go_wp2_with fail
      go_roundw
      case rel => exact ⟨j + 1, by omega, by go_num, by simp only [Value.int.injEq, true_and]; omega, hF.out.1, hF.out.2, he.setc j _⟩
      case measure => simp [intOf]; omega
    · obtain rfl : j = n := by omega
      have hR : Hid (Own wr base 2 1 (some ⟨g, 0, none⟩) j ∧ RowsAt 1 (fun (i : Nat) _ => .int .i64 (k + (i : Int))) wr (some ⟨g, 0, none⟩) (List.range j)) :=
        ⟨.inr ⟨g, N, rfl, hg, HB.out, by omega⟩, fun i hi => ⟨g, 0, rfl, HB.out.lt, fun q hq => by
          obtain rfl : q = 0 := by omega
          have hi' : i < j := by simpa using hi
          rw [nth_range hi', Nat.mul_one, Nat.zero_add]; exact HC.out i hi'⟩⟩
      clear HB HC hB
      go_wp2_with fail
      go_ret
      exact ⟨rfl, he, hR.out.1, hR.out.2⟩
set_option maxHeartbeats 1000000 in
theorem heldInt64S_any (a : Option Addr) (n cap : Nat) (k : Int) (w : World) (H : RowsAt 1 (fun (i : Nat) _ => .int .i64 (k + (i : Int))) w a (List.range n)) (hn : n ≤ 1000000000000) (h0 : 0 ≤ k) (h1 : k ≤ 1000000000000) :
    Gives Try.prog 36 #[.slice a n cap, .int .i64 k] w (.int .i64 (k + n)) := by
  apply Gives.same
  go_enter Try.func36, Try.ntmps36
  go_wp2
  go_loop [1, 5] (fun kk i => ∃ j : Nat, j ≤ n ∧ i = .int .i64 j ∧ kk = .int .i64 (k + j)) (fun _ i => n - (intOf i).toNat)
  case atStart => exact ⟨0, Nat.zero_le _, rfl, by simp⟩
  case round =>
    obtain ⟨j, hj, rfl, rfl⟩ := hrel
    by_cases hlt : j < n
    · obtain ⟨b, off, rfl⟩ := H.base (k := j) (by simpa using hlt)
      obtain ⟨hb, hc⟩ := H.at j (by simpa using hlt)
      have c0 := hc 0 (by omega)
      rw [nth_range hlt, Nat.mul_one, Nat.add_zero] at c0
      clear H hc
      go_wp2
      go_round
      case rel => exact ⟨j + 1, by omega, by go_num, by simp only [Value.int.injEq, true_and]; omega⟩
      case measure => simp [intOf]; omega
    · obtain rfl : j = n := by omega
      clear H
      go_wp2
      go_ret
      exact ⟨rfl, rfl⟩
end Go.Proofs.Ytdopffhekinbnaa
