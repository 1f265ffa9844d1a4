/- Lists of numbers as text: the program's ListText (strings.Join) and the reference's own; both hand back 'listS l'. -/
import Derived.Test.YtbcpgdidajapoaaDoorDec
import Derived.Lib.ItoaLen
import Derived.Lib.Join
namespace Go.Proofs.YtbcpgdidajapoaaDoor
open Go.RowKit
theorem decS_size (n : Int) (h0 : -9223372036854775808 ≤ n) (h1 : n ≤ 9223372036854775807) : (decS n).size ≤ 21 := by
  have := Lib.itoa_length_le n h0 h1
  show (Lib.itoa n).toArray.size ≤ 21
  simpa using this
def joinK (l : List Int) : Nat → ByteArray
  | 0 => ⟨#[]⟩
  | k + 1 => (if k = 0 then joinK l k else joinK l k ++ ⟨#[44]⟩) ++ decS (nth l k)
def listS (l : List Int) : ByteArray := if l.length = 0 then ⟨#[45]⟩ else joinK l l.length
theorem joinK_size {l : List Int} (h : ∀ k, k < l.length → -9223372036854775808 ≤ nth l k ∧ nth l k ≤ 9223372036854775807) : ∀ {k : Nat}, k ≤ l.length → (joinK l k).size ≤ 22 * k
  | 0, _ => by simp [joinK]; rfl
  | k + 1, hk => by
    have h1 := joinK_size h (k := k) (by omega)
    have h2 := decS_size (nth l k) (h k (by omega)).1 (h k (by omega)).2
    simp only [joinK]
    split
    · rw [ByteArray.size_append]; omega
    · rw [ByteArray.size_append, ByteArray.size_append]; have : (⟨#[44]⟩ : ByteArray).size = 1 := rfl; omega
theorem join_snoc (xs : List (List UInt8)) (x sep : List UInt8) : Lib.join (xs ++ [x]) sep = if xs = [] then x else Lib.join xs sep ++ sep ++ x := by
  cases xs with
  | nil => rw [List.nil_append, Lib.join_one, if_pos rfl]
  | cons y ys => rw [if_neg (by simp), List.cons_append, Lib.join_cons, Lib.join_cons]; simp [Lib.joinTail]
theorem joinK_join (l : List Int) : ∀ k, k ≤ l.length → joinK l k = ⟨(Lib.join ((l.take k).map Lib.itoa) [44]).toArray⟩
  | 0, _ => by simp [joinK, Lib.join_nil]
  | k + 1, hk => by
    rw [take_nth l k (by omega), List.map_append, List.map_singleton, join_snoc]
    simp only [joinK]
    rcases Nat.eq_zero_or_pos k with h | h
    · subst h
      rw [if_pos rfl, if_pos (by simp)]; simp [joinK, decS]; rfl
    · rw [if_neg (by omega), if_neg (by intro e; have e2 := congrArg List.length e; rw [List.length_map, List.length_take, List.length_nil] at e2; omega), joinK_join l k (by omega)]
      unfold decS
      apply ByteArray.ext
      simp
theorem intAt_new (w : World) (l : List Int) (cs : Array Value) (T : TypeId) (h : ∀ k, k < l.length → cs[k]? = some (.int .i64 (nth l k))) : IntAt (w.alloc (.cells cs T)) (some ⟨w.heap.size, 0, none⟩) l :=
  IntAt.of (by rw [size_new]; omega) fun k hk => by rw [Nat.zero_add, cell_new]; exact h k hk
theorem intAt_new' (w : World) (l : List Int) (cs : Array Value) (T : TypeId) (h : ∀ k, k < l.length → cs[k]? = some (.int .i64 (nth l k))) {n : Nat} (hn : n = w.heap.size) : IntAt (w.alloc (.cells cs T)) (some ⟨n, 0, none⟩) l := hn ▸ intAt_new w l cs T h
end Go.Proofs.YtbcpgdidajapoaaDoor
