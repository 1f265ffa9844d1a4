/- Sums of numbers by names: plain Lean. -/
import Derived.Test.YtndkcgiadpdcjaaStrs
import Derived.Test.YtndkcgiadpdcjaaSrt
import Derived.Test.YtndkcgiadpdcjaaIncL
namespace Go.Proofs.Ytndkcgiadpdcjaa
open Go.RowKit
theorem slo_s : SLO sLt := ⟨fun _ _ h => sLt_asymm h, fun _ _ _ h k => sLt_trans h k, fun _ _ h k => sLt_total h k⟩
/-- The sum of the numbers of a name. -/
def totF : List (ByteArray × Int) → ByteArray → Int
  | [], _ => 0
  | p :: r, n => (if p.1 = n then p.2 else 0) + totF r n
theorem totF_snoc (p : ByteArray × Int) (n : ByteArray) : ∀ kv : List (ByteArray × Int), totF (kv ++ [p]) n = totF kv n + (if p.1 = n then p.2 else 0)
  | [] => by simp [totF]
  | q :: r => by
    show (if q.1 = n then q.2 else 0) + totF (r ++ [p]) n = (if q.1 = n then q.2 else 0) + totF r n + _
    rw [totF_snoc p n r]; omega
theorem totF_none {n : ByteArray} : ∀ {kv : List (ByteArray × Int)}, n ∉ kv.map Prod.fst → totF kv n = 0
  | [], _ => rfl
  | p :: r, h => by
    rw [List.map_cons, List.mem_cons, not_or] at h
    show (if p.1 = n then p.2 else 0) + totF r n = 0
    rw [if_neg (Ne.symm h.1), totF_none h.2]; rfl
theorem totF_bd {m : Int} (hm : 0 ≤ m) : ∀ {kv : List (ByteArray × Int)}, (∀ p ∈ kv, 0 ≤ p.2 ∧ p.2 ≤ m) → ∀ n, 0 ≤ totF kv n ∧ totF kv n ≤ m * kv.length
  | [], _, _ => by simp [totF]
  | p :: r, h, n => by
    have h1 := h p (by simp)
    have h2 := totF_bd hm (kv := r) (fun q hq => h q (by simp [hq])) n
    show 0 ≤ (if p.1 = n then p.2 else 0) + totF r n ∧ (if p.1 = n then p.2 else 0) + totF r n ≤ m * ((r.length + 1 : Nat) : Int)
    rw [Int.natCast_add, Int.mul_add]
    split <;> omega
def namesF (kv : List (ByteArray × Int)) : List ByteArray := putAll sLt [] (kv.map Prod.fst)
def sumsF (kv : List (ByteArray × Int)) : List Int := (namesF kv).map (totF kv)
theorem sumsF_len (kv : List (ByteArray × Int)) : (sumsF kv).length = (namesF kv).length := List.length_map ..
theorem namesF_inc (kv : List (ByteArray × Int)) : Inc sLt (namesF kv) := inc_putAll slo_s List.Pairwise.nil
theorem namesF_mem {kv : List (ByteArray × Int)} {n : ByteArray} : n ∈ namesF kv ↔ n ∈ kv.map Prod.fst := by unfold namesF; rw [mem_putAll slo_s]; simp
theorem namesF_len (kv : List (ByteArray × Int)) : (namesF kv).length ≤ kv.length := by
  have := length_putAll (lt := sLt) (kv.map Prod.fst) []
  rw [List.length_map, List.length_nil, Nat.zero_add] at this
  exact this
theorem namesF_snoc (kv : List (ByteArray × Int)) (p : ByteArray × Int) : namesF (kv ++ [p]) = putL sLt p.1 (namesF kv) := by
  unfold namesF; rw [List.map_append]; exact putAll_snoc ..
theorem inc_at {N : List ByteArray} (h : Inc sLt N) {i j : Nat} (hij : i < j) (hj : j < N.length) : sLt (nth N i) (nth N j) = true := by
  have := List.pairwise_iff_getElem.1 h i j (by omega) hj hij
  rw [nth_eq N i (by omega), nth_eq N j hj]; exact this
theorem putL_hit {N : List ByteArray} (h : Inc sLt N) {k : Nat} (hk : k < N.length) : putL sLt (nth N k) N = N :=
  Inc.ext slo_s (inc_putL slo_s h) h fun z => by
    rw [mem_putL slo_s]
    exact ⟨fun h => h.elim (fun e => e ▸ nth_mem hk) id, .inr⟩
theorem putL_miss {N : List ByteArray} (h : Inc sLt N) {n : ByteArray} {k : Nat} (hlo : ∀ j, j < k → sLt (nth N j) n = true) (hk : k ≤ N.length) (hhi : k < N.length → sLt n (nth N k) = true) : putL sLt n N = N.take k ++ n :: N.drop k := by
  refine Inc.ext slo_s (inc_putL slo_s h) ?_ fun z => ?_
  · unfold Inc
    rw [List.pairwise_append, List.pairwise_cons]
    refine ⟨h.sublist (List.take_sublist _ _), ⟨fun y hy => ?_, h.sublist (List.drop_sublist _ _)⟩, fun a ha b hb => ?_⟩
    · obtain ⟨j, hj, rfl⟩ := List.getElem_of_mem hy
      rw [List.length_drop] at hj
      rw [List.getElem_drop, ← nth_eq N (k + j) (by omega)]
      rcases Nat.eq_zero_or_pos j with h0 | h0
      · subst h0; exact hhi (by omega)
      · exact sLt_trans (hhi (by omega)) (inc_at h (by omega) (by omega))
    · have hsub := List.pairwise_append.1 (show (N.take k ++ N.drop k).Pairwise (fun a b => sLt a b = true) by rw [List.take_append_drop]; exact h)
      rcases List.mem_cons.1 hb with rfl | hb
      · obtain ⟨j, hj, rfl⟩ := List.getElem_of_mem ha
        rw [List.length_take] at hj
        rw [List.getElem_take, ← nth_eq N j (by omega)]
        exact hlo j (by omega)
      · exact hsub.2.2 a ha b hb
  · rw [mem_putL slo_s, List.mem_append, List.mem_cons]
    have : z ∈ N ↔ z ∈ N.take k ∨ z ∈ N.drop k := by rw [← List.mem_append, List.take_append_drop]
    rw [this]
    constructor
    · rintro (h | h | h)
      · exact .inr (.inl h)
      · exact .inl h
      · exact .inr (.inr h)
    · rintro (h | h | h)
      · exact .inr (.inl h)
      · exact .inl h
      · exact .inr (.inr h)
theorem add_hit {kv : List (ByteArray × Int)} {k : Nat} (hk : k < (namesF kv).length) (v : Int) :
    namesF (kv ++ [(nth (namesF kv) k, v)]) = namesF kv ∧ sumsF (kv ++ [(nth (namesF kv) k, v)]) = (sumsF kv).set k (nth (sumsF kv) k + v) := by
  have hi := namesF_inc kv
  have e : namesF (kv ++ [(nth (namesF kv) k, v)]) = namesF kv := by rw [namesF_snoc]; exact putL_hit hi hk
  refine ⟨e, ?_⟩
  have hk2 : k < (sumsF kv).length := by rw [sumsF_len]; exact hk
  apply List.ext_getElem
  · rw [sumsF_len, e, List.length_set, sumsF_len]
  · intro j h1 h2
    rw [sumsF_len, e] at h1
    rw [List.getElem_set]
    have a : (sumsF (kv ++ [(nth (namesF kv) k, v)]))[j] = totF (kv ++ [(nth (namesF kv) k, v)]) (nth (namesF kv) j) := by
      rw [nth_eq _ _ h1]; simp only [sumsF, List.getElem_map, e]
    have b : (sumsF kv)[j]'(by rw [sumsF_len]; exact h1) = totF kv (nth (namesF kv) j) := by
      rw [nth_eq _ _ h1]; simp only [sumsF, List.getElem_map]
    rw [a, totF_snoc]
    by_cases q : k = j
    · subst q
      rw [if_pos rfl, if_pos rfl, nth_eq _ _ hk2, b]
    · rw [if_neg q, b, if_neg, Int.add_zero]
      intro e2
      rcases Nat.lt_or_ge k j with h | h
      · have := inc_at hi h h1
        rw [show nth (namesF kv) k = nth (namesF kv) j from e2, sLt_irrefl] at this; cases this
      · have := inc_at hi (show j < k by omega) hk
        rw [show nth (namesF kv) k = nth (namesF kv) j from e2, sLt_irrefl] at this; cases this
theorem add_miss {kv : List (ByteArray × Int)} {n : ByteArray} {k : Nat} (hlo : ∀ j, j < k → sLt (nth (namesF kv) j) n = true) (hk : k ≤ (namesF kv).length) (hhi : k < (namesF kv).length → sLt n (nth (namesF kv) k) = true) (v : Int) :
    namesF (kv ++ [(n, v)]) = (namesF kv).take k ++ [n] ++ (namesF kv).drop k ∧ sumsF (kv ++ [(n, v)]) = (sumsF kv).take k ++ [v] ++ (sumsF kv).drop k := by
  have hi := namesF_inc kv
  have e : namesF (kv ++ [(n, v)]) = (namesF kv).take k ++ [n] ++ (namesF kv).drop k := by
    rw [namesF_snoc, putL_miss hi hlo hk hhi, List.append_assoc]; rfl
  refine ⟨e, ?_⟩
  have hno : n ∉ namesF kv := fun hm => by
    obtain ⟨j, hj, rfl⟩ := mem_nth hm
    rcases Nat.lt_or_ge j k with h | h
    · have := hlo j h; rw [sLt_irrefl] at this; cases this
    · rcases Nat.lt_or_ge k j with h2 | h2
      · have := sLt_trans (hhi (by omega)) (inc_at hi h2 hj); rw [sLt_irrefl] at this; cases this
      · obtain rfl : k = j := by omega
        have := hhi hj; rw [sLt_irrefl] at this; cases this
  have hcong : ∀ M : List ByteArray, (∀ y ∈ M, y ∈ namesF kv) → M.map (totF (kv ++ [(n, v)])) = M.map (totF kv) := fun M hM => by
    apply List.map_congr_left
    intro y hy
    rw [totF_snoc, if_neg (fun e => hno (by rw [show n = y from e]; exact hM y hy)), Int.add_zero]
  have hone : [n].map (totF (kv ++ [(n, v)])) = [v] := by
    show [totF (kv ++ [(n, v)]) n] = [v]
    rw [totF_snoc, totF_none (fun h => hno (namesF_mem.2 h)), if_pos rfl, Int.zero_add]
  show (namesF (kv ++ [(n, v)])).map (totF (kv ++ [(n, v)])) = _
  rw [e, List.map_append, List.map_append, hone, hcong _ (fun y hy => List.mem_of_mem_take hy), hcong _ (fun y hy => List.mem_of_mem_drop hy)]
  unfold sumsF
  rw [List.map_take, List.map_drop]
/-- The name and the number of an incident. -/
def causeF (x : Incident) : ByteArray × Int := (x.cause, x.caught)
def placeF (x : Incident) : ByteArray × Int := (x.place, 1)
def kvTo (f : Incident → ByteArray × Int) (l : List Incident) (k : Nat) : List (ByteArray × Int) := (l.take k).map f
theorem kvTo_succ (f : Incident → ByteArray × Int) {l : List Incident} {k : Nat} (h : k < l.length) : kvTo f l (k + 1) = kvTo f l k ++ [f (nth l k)] := by
  unfold kvTo; rw [take_nth l k h, List.map_append]; rfl
theorem kvTo_len (f : Incident → ByteArray × Int) {l : List Incident} {k : Nat} (h : k ≤ l.length) : (kvTo f l k).length = k := by unfold kvTo; rw [List.length_map, List.length_take]; omega
def sumC (l : List Incident) : Int := if incidentList l = true then 0 else 1
def sumN (f : Incident → ByteArray × Int) (l : List Incident) : List ByteArray := if incidentList l = true then namesF (kvTo f l l.length) else []
def sumV (f : Incident → ByteArray × Int) (l : List Incident) : List Int := if incidentList l = true then sumsF (kvTo f l l.length) else []
theorem sum_1 {f : Incident → ByteArray × Int} {l : List Incident} (h : incidentList l = false) : sumC l = 1 ∧ sumN f l = [] ∧ sumV f l = [] := by unfold sumC sumN sumV; rw [h]; exact ⟨rfl, rfl, rfl⟩
theorem sum_0 {f : Incident → ByteArray × Int} {l : List Incident} (h : incidentList l = true) : sumC l = 0 ∧ sumN f l = namesF (kvTo f l l.length) ∧ sumV f l = sumsF (kvTo f l l.length) := by unfold sumC sumN sumV; rw [h]; exact ⟨rfl, rfl, rfl⟩
theorem incident_len {l : List Incident} (h : incidentList l = true) : l.length ≤ 48 := vAll_len_le (show vAll incidentB incB 48 l = true from h)
theorem sumN_len (f : Incident → ByteArray × Int) (l : List Incident) : (sumN f l).length ≤ 48 := by
  unfold sumN; split
  · rename_i h
    have := namesF_len (kvTo f l l.length)
    rw [kvTo_len f (Nat.le_refl _)] at this
    have := incident_len h
    omega
  · simp
theorem sumV_len (f : Incident → ByteArray × Int) (l : List Incident) : (sumV f l).length = (sumN f l).length := by
  unfold sumV sumN; split
  · exact sumsF_len _
  · rfl
end Go.Proofs.Ytndkcgiadpdcjaa
