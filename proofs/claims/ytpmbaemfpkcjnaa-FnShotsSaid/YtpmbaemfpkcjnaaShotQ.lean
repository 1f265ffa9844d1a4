/- Chapter 22: what the searches hand back: a plan; none has more gain; the fewest crews. Plain Lean. -/
import Derived.Test.YtpmbaemfpkcjnaaShotP
import Derived.Test.YtpmbaemfpkcjnaaVisO
import Derived.Test.YtpmbaemfpkcjnaaFew
import Derived.Test.YtpmbaemfpkcjnaaBestShots
namespace Go.Proofs.Ytpmbaemfpkcjnaa
open Go.RowKit
theorem Way.lacks {n : Nat} {ok : List Int → Bool} {o e : List Int} (h : Way n ok o e) : lacks n e + e.length ≤ lacks n o + o.length := by
  induction h with
  | here o => exact Nat.le_refl _
  | more k h1 h2 h3 h4 ih =>
    have := lacks_push h1 h2
    rw [List.length_append] at ih; simp only [List.length_cons, List.length_nil] at ih; omega
theorem planS_take {l : List Shot} {ord : List Int} {crews m : Nat} : ∀ {k : Nat}, k ≤ m → m ≤ ord.length → planS l (ord.take m) crews k = planS l ord crews k
  | 0, _, _ => rfl
  | k + 1, hk, hm => by
    show (planS l (ord.take m) crews k).bind (stepP (pickS l (ord.take m) k)) = (planS l ord crews k).bind (stepP (pickS l ord k))
    rw [planS_take (by omega) hm]
    have : pickS l (ord.take m) k = pickS l ord k := by
      unfold pickS
      rw [nth_eq (ord.take m) k (by rw [List.length_take]; omega), nth_eq ord k (by omega), List.getElem_take]
    rw [this]
theorem worksB_take {l : List Shot} {ord : List Int} {crews m : Nat} (h : worksB l ord crews = true) (hm : m ≤ ord.length) : worksB l (ord.take m) crews = true := by
  unfold worksB at h ⊢
  rw [show (ord.take m).length = m by rw [List.length_take]; omega, planS_take (Nat.le_refl _) hm]
  cases hp : planS l ord crews m with
  | none =>
    have := planS_none hp (ord.length - m)
    rw [show m + (ord.length - m) = ord.length by omega] at this
    rw [this] at h; exact h
  | some p => rfl
theorem updI_ok (l : List Shot) : UpdOk (updI l false) (gainS l) := by
  refine ⟨fun o s => ?_, fun o s => ?_, fun o s => ?_, fun o s => ?_⟩
  all_goals
    by_cases hg : s.most < gainS l o
    · rw [updI_ft (by rfl) hg] <;> first | rfl | exact Int.le_refl _ | (show _ ≤ gainS l o; omega)
    · rw [updI_ff (by rfl) hg] <;> first | rfl | exact Int.le_refl _ | omega
/-- An order that is a plan is one that the search can reach. -/
theorem plan_way {l : List Shot} {ord : List Int} {c : Nat} (h1 : orderB l.length ord = true) (h2 : worksB l ord c = true) : Way l.length (okS l c) [] ord := by
  have := Way.of (n := l.length) (ok := okS l c) ord [] fun j hj => by
    have h3 := allB_iff.1 h1 j hj
    unfold ordAt at h3
    simp only [Bool.and_eq_true, inB_iff] at h3
    obtain ⟨k, hk⟩ := Int.eq_ofNat_of_zero_le h3.1.1
    refine ⟨k, by omega, hk, ?_, ?_⟩
    · have h4 := h3.2
      rw [hk] at h4
      rw [List.nil_append]
      simpa using h4
    · rw [List.nil_append]
      exact worksB_take h2 (by omega)
  rwa [List.nil_append] at this
theorem orderB_push {n : Nat} {o : List Int} {k : Nat} (h : orderB n o = true) (hk : k < n) (hh : hasB o (k : Int) = false) : orderB n (o ++ [(k : Int)]) = true := by
  unfold orderB at h ⊢
  refine allB_iff.2 fun j hj => ?_
  rw [List.length_append] at hj
  rcases Nat.lt_or_ge j o.length with h1 | h1
  · have := allB_iff.1 h j h1
    unfold ordAt at this ⊢
    rw [nth_append_left h1, List.take_append_of_le_length (by omega)]
    exact this
  · obtain rfl : j = o.length := by simp only [List.length_cons, List.length_nil] at hj; omega
    unfold ordAt
    rw [nth_append_last, List.take_append_of_le_length (Nat.le_refl _), List.take_length, hh]
    rw [show inB (k : Int) 0 ((n : Int) - 1) = true from inB_iff.2 (by omega)]
    rfl
/-- Orders that are plans. -/
def IsP (l : List Shot) (c : Nat) (o : List Int) : Prop := orderB l.length o = true ∧ worksB l o c = true
theorem IsP.nil (l : List Shot) (c : Nat) : IsP l c [] := ⟨rfl, rfl⟩
theorem IsP.push {l : List Shot} {c : Nat} (o : List Int) (k : Nat) (h : IsP l c o) (hk : k < l.length) (hh : hasB o (k : Int) = false) (hok : okS l c (o ++ [(k : Int)]) = true) : IsP l c (o ++ [(k : Int)]) := ⟨orderB_push h.1 hk hh, hok⟩
theorem vis_isP (l : List Shot) (c : Nat) (b : Int) (all : Bool) : IsP l c (visI l c b all).best ∧ ((visI l c b all).found = true → (visI l c b all).best.length = l.length) :=
  visitV_keeps (n := l.length) (ok := okS l c) (upd := updI l all) (R := IsP l c) (Q := fun s => IsP l c s.best ∧ (s.found = true → s.best.length = l.length)) (fun o k h hk hh hok => h.push o k hk hh hok) (fun s x h => h) (fun o s hR hQ hf => by
    unfold updI
    split
    · rename_i h
      rw [Bool.and_eq_true, beq_iff_eq] at h
      exact ⟨hR, fun _ => h.2⟩
    · rename_i h
      split
      · refine ⟨hR, fun h2 => ?_⟩
        have h2 : s.found = true := h2
        rw [hf] at h2; cases h2
      · exact hQ) l.length [] ⟨[], 0, b, false⟩ (IsP.nil l c) ⟨IsP.nil l c, fun h => by cases h⟩ rfl
/-- What the best plan keeps. -/
theorem best_law {l : List Shot} {ord : List Int} {c b : Int} (h : planC l ord c = 0) (hb : bestC l c b = 0) : gainS l ord ≤ bestG l c b ∧ planC l (bestV l c b) c = 0 := by
  obtain ⟨ha, k, rfl, hk0, hk3, hw, -⟩ := planC_plan h
  obtain ⟨a1, a2, a3⟩ := askS_0 ha
  have hq : askB l k b = 0 := by
    by_cases hq : askB l k b = 0
    · exact hq
    · rw [(best_no hq).1] at hb; exact absurd hb hq
  by_cases hl : (visI l (k : Int).toNat b false).left < 0
  · rw [(best_5 hq hl).1] at hb; cases hb
  · obtain ⟨-, e2, e3⟩ := best_0 hq hl
    have e0 : (k : Int).toNat = k := rfl
    rw [e0] at e2 e3 hl
    rw [e2, e3]
    have hway := plan_way a2 hw
    have hlen : ord.length ≤ l.length := by
      have h1 := hway.lacks
      have h2 := lacks_nil l.length
      have h3 : ([] : List Int).length = 0 := rfl
      omega
    refine ⟨?_, ?_⟩
    · exact visitV_most (updI_ok l) l.length [] ⟨[], 0, b, false⟩ rfl (by have := Int.not_lt.1 hl; exact this) ord hway (by simp only [List.length_nil]; omega)
    · have hp := (vis_isP l k b false).1
      exact planC_of a1 hp.1 a3 hp.2
theorem allC_in (l : List Shot) (c : Nat) (b : Int) : allC l c b = 0 ∨ allC l c b = 5 ∨ allC l c b = 3 := by
  unfold allC
  split
  · exact .inl rfl
  · split
    · exact .inr (.inl rfl)
    · exact .inr (.inr rfl)
theorem fewFrom_law {l : List Shot} {b : Int} : ∀ {m k : Nat}, (fewFrom l b m k).2 = 0 → ∃ q : Nat, (fewFrom l b m k).1 = q ∧ k ≤ q ∧ q < k + m ∧ allC l q b = 0 ∧ ∀ j, k ≤ j → j < q → allC l j b = 3
  | 0, _, h => by cases h
  | m + 1, k, h => by
    cases h0 : (allC l k b == 0)
    · cases h5 : (allC l k b == 5)
      · rw [fewFrom_n h0 h5] at h ⊢
        obtain ⟨q, g1, g2, g3, g4, g5⟩ := fewFrom_law (m := m) (k := k + 1) h
        refine ⟨q, g1, by omega, by omega, g4, fun j hj hq => ?_⟩
        rcases (show j = k ∨ k + 1 ≤ j by omega) with rfl | hj'
        · have h0 := beq_eq_false_iff_ne.1 h0
          have h5 := beq_eq_false_iff_ne.1 h5
          rcases allC_in l j b with h | h | h
          · exact absurd h h0
          · exact absurd h h5
          · exact h
        · exact g5 j hj' hq
      · rw [fewFrom_5 h0 h5] at h; cases h
    · rw [fewFrom_0 h0]
      exact ⟨k, rfl, Nat.le_refl _, by omega, beq_iff_eq.1 h0, fun j hj hq => by omega⟩
theorem fewFrom_no {l : List Shot} {b : Int} : ∀ {m k : Nat}, (fewFrom l b m k).2 ≠ 0 → (fewFrom l b m k).1 = 0
  | 0, _, _ => rfl
  | m + 1, k, h => by
    cases h0 : (allC l k b == 0)
    · cases h5 : (allC l k b == 5)
      · rw [fewFrom_n h0 h5] at h ⊢
        exact fewFrom_no h
      · rw [fewFrom_5 h0 h5]
    · rw [fewFrom_0 h0] at h; exact absurd rfl h
theorem few_no {l : List Shot} {b : Int} (h : (few l b).2 ≠ 0) : (few l b).1 = 0 := by
  unfold few at h ⊢
  split
  · rename_i h1
    rw [if_pos h1] at h
    split
    · rename_i h2
      rw [if_pos h2] at h
      exact fewFrom_no h
    · rfl
  · rfl
/-- The fewest crews: a plan of all shots; with one crew less there is none. -/
theorem few_law {l : List Shot} {b : Int} (h : (few l b).2 = 0) : ∃ q : Nat, (few l b).1 = q ∧ 1 ≤ q ∧ q ≤ 3 ∧ allSC l q b = 0 ∧ (allSV l q b).length = l.length ∧ planC l (allSV l q b) q = 0 ∧ (q ≠ 1 → allSC l ((q : Int) - 1) b = 3) := by
  unfold few at h ⊢
  by_cases h1 : shotList l = true
  · rw [if_pos h1] at h ⊢
    by_cases h2 : inB b 1 20000 = true
    · rw [if_pos h2] at h ⊢
      obtain ⟨q, g1, g2, g3, g4, g5⟩ := fewFrom_law h
      have hq : inB (q : Int) 1 3 = true := inB_iff.2 (by omega)
      obtain ⟨e1, e2⟩ := allS_ok (askB_0 h1 hq h2)
      have e0 : (q : Int).toNat = q := rfl
      rw [e0] at e1 e2
      have hf : (visI l q b true).found = true := by
        unfold allC at g4
        split at g4
        · assumption
        · split at g4
          · cases g4
          · cases g4
      have e3 := (allC_t hf).2
      obtain ⟨p1, p2⟩ := vis_isP l q b true
      refine ⟨q, g1, g2, by omega, e1.trans g4, by rw [e2, e3]; exact p2 hf, ?_, fun hne => ?_⟩
      · rw [e2, e3]; exact planC_of h1 p1.1 hq p1.2
      · have hq1 : inB ((q : Int) - 1) 1 3 = true := inB_iff.2 (by omega)
        rw [(allS_ok (askB_0 h1 hq1 h2)).1, show ((q : Int) - 1).toNat = q - 1 by omega]
        exact g5 _ (by omega) (by omega)
    · rw [if_neg h2] at h; cases h
  · rw [if_neg h1] at h; cases h
end Go.Proofs.Ytpmbaemfpkcjnaa
