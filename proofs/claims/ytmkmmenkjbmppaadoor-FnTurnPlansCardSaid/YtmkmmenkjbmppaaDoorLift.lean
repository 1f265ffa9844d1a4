/- From what an argument reads as to what the walks are told of it: slices of numbers, of strings and of structs. -/
import Derived.Test.YtmkmmenkjbmppaaDoorRows
import Derived.Test.YtmkmmenkjbmppaaDoorBase
import Derived.ProofKit
import Derived.OpenShut
import Derived.ShutString
import Derived.ChangeOld
import Derived.Deep.Slices
import Derived.Lib.SmallJoins
namespace Go.Proofs.YtmkmmenkjbmppaaDoor
open Go.ChangeShapes Go.WideShapes Go.ChangeAt Go.RowKit
open Go.ChangeMaps (open_string shut_string)
open Go.Deep (open_slice choose_lt)

theorem own : ownKnob Tryd.prog.godebug = none := by kernel_rfl
theorem laidOut : laidOutB Tryd.prog = true := by kernel_rfl
theorem wf_bd {n : Int} (h : (Lit.int .i64 n).wf = true) : -9223372036854775808 ≤ n ∧ n ≤ 9223372036854775807 := by
  simpa [Lit.wf, IntKind.min, IntKind.max, IntKind.signed, IntKind.bits] using h
theorem nth_map_range {α : Type} [Inhabited α] (f : Nat → α) (n k : Nat) (h : k < n) : nth ((List.range n).map f) k = f k := by
  rw [nth_eq _ _ (by simpa using h)]; simp
section
variable {H : Type} {enc : TypeId × Value → H} {P : Program} {W : World} {base : Nat} {spare : Nat → Bool} {held : Bool}
theorem cells_at {a : Addr} {n : Nat} {cs : List Value} (h : W.cells? base a n = some cs) : cs.length = n ∧ ∀ j, j < n → W.cell? (a.add j) = cs[j]? := by
  unfold World.cells? at h
  split at h
  · refine ⟨by have := mapM_some_length h; simpa using this, fun j hj => ?_⟩
    have := mapM_some_get h j j (by simp [hj])
    exact this
  · cases h
/-- A slice that reads as data, opened. -/
theorem open_rows {α : Type} [Inhabited α] {t e : TypeId} {m fuel : Nat} {cs : List Value} {x : DataW H × List MemPlace} (cell : α → Nat → Value) (Q : α → Prop) (ht : P.underlying t = some (.slice e)) (hm : P.cellsOf e = m) (hpos : 0 < m)
    (hel : ∀ n cs' y, DataW.trod enc P W base spare held n e cs' = some y → ∃ z, Q z ∧ ∀ j, j < m → cs'[j]? = some (cell z j)) (h : DataW.trod enc P W base spare held fuel t cs = some x) :
    ∃ (a : Option Addr) (cap : Nat) (l : List α), cs = [.slice a l.length cap] ∧ l.length ≤ cap ∧ cap ≤ 9223372036854775807 ∧ RowsAt m cell W a l ∧ ∀ k, k < l.length → Q (nth l k) := by
  rcases open_slice ht h with ⟨rfl, rfl⟩ | ⟨a, len, cap, m', n, D, Pl, rfl, hb, hl, hc, hm', rfl, hall⟩
  · exact ⟨none, 0, [], rfl, by simp, by omega, RowsAt.nil, fun k hk => absurd hk (Nat.not_lt_zero _)⟩
  · have hle : len ≤ m' := by rw [hm']; split <;> omega
    have hx : ∀ i, i < len → ∃ z, Q z ∧ ∀ j, j < m → W.cell? ((a.add (i * m)).add j) = some (cell z j) := fun i hi => by
      obtain ⟨cs', h1, h2⟩ := hall i (by omega)
      rw [hm] at h1
      obtain ⟨z, hz, hcz⟩ := hel n cs' _ h2
      exact ⟨z, hz, fun j hj => by rw [(cells_at h1).2 j hj]; exact hcz j hj⟩
    obtain ⟨f, hf⟩ := choose_lt hx
    refine ⟨some a, cap, (List.range len).map f, by simp, by simpa using hl, by unfold maxLen at hc; exact hc, fun k hk => ?_, fun k hk => ?_⟩
    · have hk' : k < len := by simpa using hk
      obtain ⟨b, off, spot⟩ := a
      have h0 := (hf k hk').2 0 hpos
      rw [nth_map_range f len k hk']
      rw [Go.Deep.add_add] at h0
      have hs : spot = none := by
        have h00 := (hf 0 (by omega)).2 0 hpos
        rw [Nat.zero_mul] at h00
        have : W.cell? ⟨b, off, spot⟩ = some (cell (f 0) 0) := by simpa [Addr.add] using h00
        simpa using World.cell?_spot this
      subst hs
      have key : ∀ j, ((⟨b, off, none⟩ : Addr).add (k * m)).add j = ⟨b, off + k * m + j, none⟩ := fun j => by
        rw [Go.Deep.add_add]; unfold Addr.add; split <;> simp <;> omega
      refine ⟨b, off, rfl, ?_, fun j hj => by rw [← key j]; exact (hf k hk').2 j hj⟩
      have := (hf k hk').2 0 hpos
      rw [key 0] at this
      exact block_lt this
    · have hk' : k < len := by simpa using hk
      rw [nth_map_range f len k hk']; exact (hf k hk').1
end
theorem agg_eq {cs : Array Value} {n : Nat} (f : Nat → Value) (hs : cs.size = n) (h : ∀ j, j < n → cs.toList[j]? = some (f j)) : cs = ((List.range n).map f).toArray := by
  apply Array.ext_getElem?
  intro i
  by_cases hi : i < n
  · have := h i hi
    rw [Array.getElem?_toList] at this
    rw [this]; simp [hi]
  · rw [Array.getElem?_eq_none (by omega), Array.getElem?_eq_none (by simp; omega)]
theorem int_el {H : Type} {enc : TypeId × Value → H} {W : World} {base : Nat} {spare : Nat → Bool} {held : Bool} {n : Nat} {cs : List Value} {x : DataW H × List MemPlace} (h : DataW.trod enc Tryd.prog W base spare held n 2 cs = some x) :
    ∃ y : Int, (-9223372036854775808 ≤ y ∧ y ≤ 9223372036854775807) ∧ ∀ j, j < 1 → cs[j]? = some ((fun (x : Int) (_ : Nat) => Value.int .i64 x) y j) := by
  obtain ⟨v, e, _, z⟩ := DataW.trod_int Tryd.underlying2 h
  subst e
  exact ⟨v, wf_bd z, fun j hj => by obtain rfl : j = 0 := by omega
                                    rfl⟩
end Go.Proofs.YtmkmmenkjbmppaaDoor
