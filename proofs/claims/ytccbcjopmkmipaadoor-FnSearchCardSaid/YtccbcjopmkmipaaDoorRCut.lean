/- Texts cut at a byte: the reference's l01Split, and Go's Split, SplitN and Cut. No conditions beyond lengths that fit. -/
import Derived.Test.YtccbcjopmkmipaaDoorRDec
import Derived.Test.YtccbcjopmkmipaaDoorLst
namespace Go.Proofs.YtccbcjopmkmipaaDoor
open Go.RowKit
abbrev cellS : ByteArray → Nat → Value := fun (x : ByteArray) (_ : Nat) => Value.string x
abbrev StrAt (w : World) (a : Option Addr) (l : List ByteArray) : Prop := RowsAt 1 cellS w a l
theorem oneStr : ∀ (x : ByteArray) (j : Nat), j < 1 → (cellS x j).oneCell' = true := fun _ _ _ => rfl
theorem StrAt.at {w : World} {b off : Nat} {l : List ByteArray} (h : StrAt w (some ⟨b, off, none⟩) l) (k : Nat) (hk : k < l.length) : b < w.heap.size ∧ w.cell? ⟨b, off + k, none⟩ = some (.string (nth l k)) :=
  let h' := RowsAt.at h k hk; ⟨h'.1, by have := h'.2 0 (by decide); rwa [Nat.mul_one] at this⟩
theorem StrAt.of {w : World} {b off : Nat} {l : List ByteArray} (hb : b < w.heap.size) (h : ∀ k, k < l.length → w.cell? ⟨b, off + k, none⟩ = some (.string (nth l k))) : StrAt w (some ⟨b, off, none⟩) l :=
  fun k hk => ⟨b, off, rfl, hb, fun j hj => by obtain rfl : j = 0 := by omega
                                               rw [Nat.mul_one]; exact h k hk⟩
def mkB (l : List UInt8) : ByteArray := ⟨l.toArray⟩
theorem mkB_toList (l : List UInt8) : (mkB l).data.toList = l := toList_mk l
/-- The pieces, as strings. -/
def cutsB (c : UInt8) (s : ByteArray) : List ByteArray := (cuts c s.data.toList).map mkB
theorem cutsB_len (c : UInt8) (s : ByteArray) : 1 ≤ (cutsB c s).length ∧ (cutsB c s).length ≤ s.size + 1 := by
  unfold cutsB; rw [List.length_map, size_toList]; exact cuts_len _
theorem piece_size {c : UInt8} {s p : ByteArray} (h : p ∈ cutsB c s) : p.size ≤ s.size := by
  unfold cutsB at h
  rw [List.mem_map] at h
  obtain ⟨q, hq, rfl⟩ := h
  rw [size_toList, mkB_toList, size_toList]
  have key : ∀ (n : Nat) (l : List UInt8), l.length ≤ n → ∀ q ∈ cuts c l, q.length ≤ l.length := by
    intro n
    induction n with
    | zero => intro l hl q hq; have : l = [] := List.length_eq_zero_iff.1 (by omega)
              subst this; simp [cuts] at hq; subst hq; simp
    | succ n ih =>
      intro l hl q hq
      rcases cuts_cases c l with h | ⟨a, b, e, h⟩
      · rw [cuts_none h] at hq; simp only [List.mem_singleton] at hq; subst hq; exact Nat.le_refl _
      · rw [e, cuts_hit b h] at hq
        rw [e, List.length_append, List.length_cons]
        rcases List.mem_cons.1 hq with rfl | hq
        · omega
        · have := ih b (by rw [e, List.length_append, List.length_cons] at hl; omega) q hq
          omega
  exact key _ _ (Nat.le_refl _) q hq
theorem extract_mk {s : ByteArray} {a b : Nat} : s.extract a b = mkB ((s.data.toList.drop a).take (b - a)) := by
  have h := Lib.extract_data s a b
  rw [← h]; exact (mk_toList _).symm
theorem extract_end {s : ByteArray} {a b : Nat} (hb : s.size ≤ b) : s.extract a b = mkB (s.data.toList.drop a) := by
  rw [extract_mk, List.take_of_length_le (by rw [List.length_drop, ← size_toList]; omega)]
theorem rows_str {T : TypeId} (w : World) (x : ByteArray) {n : Nat} (hn : n = w.heap.size) : StrAt (w.alloc (.cells #[.string x] T)) (some ⟨n, 0, none⟩) [x] := by
  subst hn
  refine rows_new (n := 1) (cell := cellS) w #[.string x] x (fun j hj => ?_)
  obtain rfl : j = 0 := by omega
  rfl
theorem strAt_new (w : World) (l : List ByteArray) (cs : Array Value) (T : TypeId) (h : ∀ k, k < l.length → cs[k]? = some (.string (nth l k))) : StrAt (w.alloc (.cells cs T)) (some ⟨w.heap.size, 0, none⟩) l :=
  StrAt.of (by rw [size_new]; omega) fun k hk => by rw [Nat.zero_add, cell_new]; exact h k hk
/-- The pieces that Go's SplitN hands back. -/
def partsB (c : UInt8) (k : Nat) (s : ByteArray) : List ByteArray := (Lib.splitK [c] 0 k s.data.toList).map mkB
theorem splitB_parts (c : UInt8) (k : Nat) (s : ByteArray) : Lib.splitB ⟨#[c]⟩ 0 k s = partsB c k s := by
  have h := Lib.splitB_data ⟨#[c]⟩ 0 k s
  unfold partsB
  have e : (⟨#[c]⟩ : ByteArray).data.toList = [c] := rfl
  rw [e] at h
  rw [← h, List.map_map]
  have : (mkB ∘ fun (x : ByteArray) => x.data.toList) = id := by funext x; exact mk_toList x
  rw [this, List.map_id]
theorem Cut_any (s : ByteArray) (c : UInt8) (w : World) (hs : s.size ≤ 1048576) (ht : RTab w) :
    Calls Tryd.prog 28 #[.string s, .string ⟨#[c]⟩] w fun e w' => e = .returned (.tuple #[.string (mkB (Lib.cut s.data.toList [c]).1), .string (mkB (Lib.cut s.data.toList [c]).2.1), .bool (Lib.cut s.data.toList [c]).2.2]) ∧ Ext w w' := by
  obtain ⟨m, hm⟩ := ht.max
  exact (Tryd.strings_Cut s ⟨#[c]⟩ m w (by omega) hm).mono fun e w' ⟨he, n, hw⟩ => ⟨he, hw ▸ (Ext.refl _).drewN n⟩
end Go.Proofs.YtccbcjopmkmipaaDoor
