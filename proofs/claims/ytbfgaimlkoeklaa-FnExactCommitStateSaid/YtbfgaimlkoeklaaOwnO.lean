/- A slice of the call's own that begins behind its block's first cell: marks in it. -/
import Derived.Test.YtbfgaimlkoeklaaVrs
import Derived.Test.YtbfgaimlkoeklaaMark
namespace Go.Proofs.Ytbfgaimlkoeklaa
open Go.RowKit
def OwnO (w : World) (base T : Nat) (a : Option Addr) (n : Nat) : Prop := n = 0 ∨ ∃ g o N, a = some ⟨g, o, none⟩ ∧ base ≤ g ∧ Blk w g T N ∧ o + n ≤ N
section
variable {w w' : World} {base T n : Nat} {a : Option Addr}
theorem OwnO.ext (h : OwnO w base T a n) (he : Ext w w') : OwnO w' base T a n := by
  rcases h with h | ⟨g, o, N, e, hg, hB, hn⟩
  · exact .inl h
  · exact .inr ⟨g, o, N, e, hg, hB.ext he, hn⟩
theorem OwnO.mid {lo hi : Nat} (h : OwnO w base T a n) (hm : Mid lo hi w w') (hb : hi ≤ base) : OwnO w' base T a n := by
  rcases h with h | ⟨g, o, N, e, hg, hB, hn⟩
  · exact .inl h
  · exact .inr ⟨g, o, N, e, hg, hB.mid hm (.inr (by omega)), hn⟩
theorem OwnO.block (h : OwnO w base T a n) {g o : Nat} {s : Option Nat} (e : ownA n a = some ⟨g, o, s⟩) : base ≤ g ∧ g < w.heap.size := by
  rcases h with rfl | ⟨g', o', N, rfl, hb, hB, hN⟩
  · cases e
  · unfold ownA at e
    split at e
    · cases e
    · simp only [Option.some.injEq, Addr.mk.injEq] at e
      obtain ⟨rfl, -, -⟩ := e
      exact ⟨hb, hB.lt⟩
theorem Ext.markedO {w0 : World} (he : Ext w0 w) (hc : Chg (ownA n a) w w') (ho : OwnO w base T a n) (hb : w0.heap.size ≤ base) : Ext w0 w' :=
  he.chg hc (fun _ _ _ e => Nat.le_trans hb (ho.block e).1)
theorem RowsAt.midO {α : Type} [Inhabited α] {m lo hi : Nat} {cell : α → Nat → Value} {l : List α} (h : RowsAt m cell w a l) (ho : OwnO w base T a l.length) (hm : Mid lo hi w w') (hb : hi ≤ base) : RowsAt m cell w' a l := fun k hk => by
  obtain ⟨b, off, e, hl, hc⟩ := h k hk
  refine ⟨b, off, e, Nat.lt_of_lt_of_le hl hm.size, fun j hj => hm.cell (.inr ?_) (hc j hj)⟩
  have := (ho.block (show ownA l.length a = some ⟨b, off, none⟩ by rw [ownA_pos (by omega), e])).1
  omega
end
set_option maxHeartbeats 1000000 in
theorem markInt64SO_any (a : Option Addr) (n cap : Nat) (k : Int) (base : Nat) (w : World) (hO : OwnO w base 2 a n) (hn : n ≤ 1000000000000) (h0 : 0 ≤ k) (h1 : k ≤ 1000000000000) :
    Calls Try.prog 19 #[.slice a n cap, .int .i64 k] w fun e w' => e = .returned (.int .i64 (k + n)) ∧ Chg (ownA n a) w w' ∧ OwnO w' base 2 a n ∧ RowsAt 1 (fun (i : Nat) _ => .int .i64 (k + (i : Int))) w' a (List.range n) := by
  rcases Nat.eq_zero_or_pos n with rfl | hpos
  · clear hO
    go_enter Try.func19, Try.ntmps19
    go_wp2_with fail
    go_loopw [1, 5] (fun kk i wr => kk = .int .i64 k ∧ i = .int .i64 0 ∧ wr = w) (fun _ _ _ => 0)
    case atStart => exact ⟨rfl, rfl, rfl⟩
    case round =>
      obtain ⟨rfl, rfl, rfl⟩ := hrel
      go_wp2_with fail
      go_ret
      exact ⟨ret_int (by simp), Chg.refl _ _, .inl rfl, RowsAt.nil⟩
  simp only [ownA_pos hpos]
  rcases hO with h | ⟨g, o, N, rfl, hg, hB, hN⟩
  · exact absurd h (by omega)
  go_enter Try.func19, Try.ntmps19
  go_wp2_with fail
  go_loopw [1, 5] (fun kk i wr => ∃ j : Nat, j ≤ n ∧ i = .int .i64 j ∧ kk = .int .i64 (k + j) ∧ Hid (Blk wr g 2 N) ∧ Hid (∀ p, p < j → wr.cell? ⟨g, o + p, none⟩ = some (.int .i64 (k + (p : Int)))) ∧ Chg (some ⟨g, o, none⟩) w wr) (fun _ i _ => n - (intOf i).toNat)
  case atStart => exact ⟨0, Nat.zero_le _, rfl, by simp, hB, upto_zero, Chg.refl _ _⟩
  case round =>
    obtain ⟨j, hj, rfl, rfl, HB, HC, he⟩ := hrel
    by_cases hlt : j < n
    · have hg' := HB.out.lt
      have f0 := HB.out.frozen (o + j)
      obtain ⟨v0, o0⟩ := HB.out.cell (o := o + j) (by omega)
      have hF : Hid (Blk (wr.setCell ⟨g, o + j, none⟩ (.int .i64 (k + (j : Int)))) g 2 N ∧ ∀ p, p < j + 1 → (wr.setCell ⟨g, o + j, none⟩ (.int .i64 (k + (j : Int)))).cell? ⟨g, o + p, none⟩ = some (.int .i64 (k + (p : Int)))) := by
        refine ⟨HB.out.set _ _ _, fun p hp => ?_⟩
        rcases Nat.lt_or_ge p j with h | h
        · rw [cell_other _ (by omega)]; exact HC.out p h
        · obtain rfl : p = j := by omega
          exact HB.out.same (by omega) _
      have hE2 := Lib.hid (he.setc (o + j) (.int .i64 (k + (j : Int))))
      clear HB HC hB he
      go_wp2_with fail
      go_roundw
      case rel => exact ⟨j + 1, by omega, by go_num, by simp only [Value.int.injEq, true_and]; omega, hF.out.1, hF.out.2, hE2.out⟩
      case measure => simp [intOf]; omega
    · obtain rfl : j = n := by omega
      have hR : Hid (OwnO wr base 2 (some ⟨g, o, none⟩) j ∧ RowsAt 1 (fun (i : Nat) _ => .int .i64 (k + (i : Int))) wr (some ⟨g, o, none⟩) (List.range j)) :=
        ⟨.inr ⟨g, o, N, rfl, hg, HB.out, by omega⟩, fun i hi => ⟨g, o, rfl, HB.out.lt, fun q hq => by
          obtain rfl : q = 0 := by omega
          have hi' : i < j := by simpa using hi
          rw [nth_range hi', Nat.mul_one]; exact HC.out i hi'⟩⟩
      have hE2 := Lib.hid he
      clear HB HC hB he
      go_wp2_with fail
      go_ret
      exact ⟨rfl, hE2.out, hR.out.1, hR.out.2⟩
/-- A call that hands back such numbers, and further values. -/
def OutSO (w : World) (l : List Int) (rest : List Value) (e : Ending) (w' : World) : Prop :=
  ∃ a cap, e = .returned (.tuple (.slice a l.length cap :: rest).toArray) ∧ l.length ≤ cap ∧ OwnO w' w.heap.size 2 a l.length ∧ IntAt w' a l ∧ Ext w w'
end Go.Proofs.Ytbfgaimlkoeklaa
