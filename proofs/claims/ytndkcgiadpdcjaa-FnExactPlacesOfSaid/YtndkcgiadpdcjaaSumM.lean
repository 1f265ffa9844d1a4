/- A map of sums by names, as a datum: plain Lean. -/
import Derived.Test.YtndkcgiadpdcjaaSumP
import Derived.Test.YtndkcgiadpdcjaaL8
import Derived.Sort.KeysCollected
import Derived.Maps.Views
namespace Go.Proofs.Ytndkcgiadpdcjaa
open Go.RowKit Go.Maps
variable {H : Type}
structure Dk (kv : List (ByteArray × Int)) (D : DataW H) : Prop where
  isM : IsMap D
  val : ∀ n : ByteArray, D.atKey (.string n.data.toList) (.lit (.int .i64 0)) = .lit (.int .i64 (totF kv n))
  mem : ∀ x : List UInt8, Go.Maps.has D (.string x) = true ↔ mkS x ∈ kv.map Prod.fst
theorem Dk.nil : Dk [] (.map [] : DataW H) := ⟨isMap_empty, fun _ => rfl, fun x => by constructor <;> (intro h; simp [Go.Maps.has] at h)⟩
theorem lit_ne {n m : ByteArray} (h : m ≠ n) : (Lit.string m.data.toList) ≠ .string n.data.toList := fun e => h (by
  have e2 : m.data.toList = n.data.toList := by injection e
  rw [← mkS_L m, ← mkS_L n, e2])
theorem Dk.add {kv : List (ByteArray × Int)} {D : DataW H} (h : Dk kv D) (n : ByteArray) (v : Int) : Dk (kv ++ [(n, v)]) (D.put (.string n.data.toList) (.lit (.int .i64 (totF kv n + v)))) where
  isM := h.isM.put _ _
  val := fun m => by
    rw [totF_snoc]
    by_cases e : m = n
    · subst e
      rw [atKey_put_same h.isM (show WideAt.IsKeyLit (.string m.data.toList) from True.intro), if_pos rfl]
    · rw [atKey_put_other (lit_ne e), h.val m, if_neg (fun e2 => e e2.symm), Int.add_zero]
  mem := fun x => by
    rw [List.map_append, List.mem_append]
    by_cases e : x = n.data.toList
    · subst e
      rw [mkS_L]
      exact ⟨fun _ => .inr (by simp), fun _ => has_put_same h.isM (show WideAt.IsKeyLit (.string n.data.toList) from True.intro) _⟩
    · rw [has_put_other (by intro e2; injection e2 with e3; exact e e3), h.mem x]
      constructor
      · exact .inl
      · rintro (h1 | h1)
        · exact h1
        · exfalso
          simp only [List.map_cons, List.map_nil, List.mem_singleton] at h1
          exact e (by rw [← L_mkS x, h1])
theorem inc_nodup {l : List ByteArray} (h : Inc sLt l) : (L8 l).Nodup := by
  unfold L8
  refine List.pairwise_map.2 (List.Pairwise.imp ?_ h)
  intro a b hab e
  have : a = b := by rw [← mkS_L a, ← mkS_L b, e]
  rw [this, sLt_irrefl] at hab
  cases hab
theorem mem_L8 {l : List ByteArray} {x : List UInt8} : x ∈ L8 l ↔ mkS x ∈ l := by
  unfold L8
  rw [List.mem_map]
  exact ⟨fun ⟨y, hy, e⟩ => by rw [← e, mkS_L]; exact hy, fun h => ⟨_, h, L_mkS x⟩⟩
theorem sorted_L8 {l : List ByteArray} (h : Inc sLt l) : (L8 l).mergeSort (fun x y => decide (x ≤ y)) = L8 l := by
  refine List.mergeSort_of_pairwise ?_
  unfold L8
  refine List.pairwise_map.2 (List.Pairwise.imp ?_ h)
  intro a b hab
  rw [← lt8_L] at hab
  unfold lt8 at hab
  simp only [decide_eq_true_eq] at *
  exact List.le_of_lt hab
theorem Dk.keys {kv : List (ByteArray × Int)} {D : DataW H} (h : Dk kv D) {P : Program} {k : TypeId} {R : Value → Option (DataW H × List MemPlace)} {w : World} {b n : Nat} (hown : w.ownsMap P k R b n D) (hk : P.underlying k = some .string) {ss : List (List UInt8)} (hp : ss.Perm (strKeys D)) :
    ss.mergeSort (fun x y => decide (x ≤ y)) = L8 (namesF kv) := by
  have hc : Collected D (fun _ => false) (L8 (namesF kv)) := ⟨inc_nodup (namesF_inc kv), fun x => by rw [mem_L8, namesF_mem, h.mem x]; simp⟩
  have h1 := hc.perm hown (string_keyed hk) hk (fun _ => rfl)
  have h2 := mergeSort_of_perm (hp.trans h1.symm)
  rw [h2]
  exact sorted_L8 (namesF_inc kv)
end Go.Proofs.Ytndkcgiadpdcjaa
