/- The search for orders finds a best one, within its steps; a delay never helps; all are found in time. Plain Lean. -/
import Derived.Test.YtccbcjopmkmipaaDoorOptT
import Derived.Test.YtccbcjopmkmipaaDoorDrawA
namespace Go.Proofs.YtccbcjopmkmipaaDoor
open Go.RowKit
/-! ### Orders -/
theorem orderB_iff {n : Nat} {l : List Int} : orderB n l = true ↔ ∀ k, k < l.length → (0 ≤ nth l k ∧ nth l k < n) ∧ hasB (l.take k) (nth l k) = false := by
  unfold orderB
  rw [allB_iff]
  refine forall_congr' fun k => forall_congr' fun _ => ?_
  unfold ordAt
  rw [Bool.and_eq_true, inB_iff, Bool.not_eq_true']
  constructor
  · rintro ⟨⟨h1, h2⟩, h3⟩; exact ⟨⟨h1, by omega⟩, h3⟩
  · rintro ⟨⟨h1, h2⟩, h3⟩; exact ⟨⟨h1, by omega⟩, h3⟩
theorem orderB_in {n : Nat} {l : List Int} (h : orderB n l = true) : InMany n l := fun k hk => (orderB_iff.1 h k hk).1
theorem orderB_nil (n : Nat) : orderB n [] = true := orderB_iff.2 fun _ h => absurd h (Nat.not_lt_zero _)
theorem orderB_push {n : Nat} {l : List Int} (h : orderB n l = true) {k : Nat} (hk : k < n) (hh : hasB l k = false) : orderB n (l ++ [(k : Int)]) = true := orderB_iff.2 fun i hi => by
  rcases nth_push hi with ⟨h1, e⟩ | ⟨h1, e⟩
  · rw [e, List.take_append_of_le_length (by omega)]; exact orderB_iff.1 h i h1
  · rw [e, h1, List.take_append_of_le_length (Nat.le_refl _), List.take_length]
    exact ⟨by omega, hh⟩
theorem orderB_has {n : Nat} {l u : List Int} {x : Int} (h : orderB n (l ++ [x] ++ u) = true) : hasB l x = false := by
  have := (orderB_iff.1 h l.length (by simp)).2
  have e1 : (l ++ [x] ++ u).take l.length = l := by simp
  have e2 : nth (l ++ [x] ++ u) l.length = x := by simp [nth]
  rwa [e1, e2] at this
theorem orderB_take {n : Nat} {l : List Int} (h : orderB n l = true) (m : Nat) : orderB n (l.take m) = true := orderB_iff.2 fun i hi => by
  rw [List.length_take] at hi
  have h1 := orderB_iff.1 h i (by omega)
  have e1 : nth (l.take m) i = nth l i := by simp [nth, show i < m by omega]
  rw [e1, List.take_take, Nat.min_eq_left (by omega)]; exact h1
def underO (n : Nat) (d : Nat) (ord : List Int) (t : List Int) : Prop := under n d ord t ∧ orderB n t = true
def underOK (n : Nat) (d : Nat) (ord : List Int) (k : Nat) (t : List Int) : Prop := underK n d ord k t ∧ orderB n t = true
theorem underO_has {n d : Nat} {ord t : List Int} {k : Nat} (h : underO n d (ord ++ [(k : Int)]) t) : hasB ord k = false := by
  obtain ⟨⟨u, _, _, rfl⟩, h⟩ := h
  exact orderB_has h
section
variable {worth : List Int → Int} {n : Nat}
theorem loop_foundO {d : Nat} {ord : List Int} (ho : orderB n ord = true) {s : Sr} {rec : List Int → Sr → Sr}
    (hr : ∀ o s, orderB n o = true → (nodes n d : Int) ≤ s.left → s.left - nodes n d ≤ (rec o s).left ∧ Found worth n (underO n d o) s (rec o s)) :
    ∀ k, k ≤ n → ((k * nodes n d : Nat) : Int) ≤ s.left → s.left - (k * nodes n d : Nat) ≤ (loopL true rec ord s k).left ∧ Found worth n (underOK n d ord k) s (loopL true rec ord s k)
  | 0, _, _ => ⟨by simp [loopL], ⟨Int.le_refl _, fun t ⟨⟨x, hx, _⟩, _⟩ => absurd hx (Nat.not_lt_zero _), .inl ⟨rfl, rfl⟩⟩⟩
  | k + 1, hkn, h => by
    have hk : (((k + 1) * nodes n d : Nat) : Int) = (k * nodes n d : Nat) + nodes n d := by rw [Nat.succ_mul]; push_cast; rfl
    obtain ⟨e1, F⟩ := loop_foundO ho hr k (by omega) (s := s) (by omega)
    show s.left - _ ≤ (stepL true rec ord (loopL true rec ord s k) k).left ∧ Found worth n (underOK n d ord (k + 1)) s (stepL true rec ord (loopL true rec ord s k) k)
    generalize loopL true rec ord s k = a at *
    cases hh : hasB ord (k : Int)
    · rw [stepL_go (by omega) (by rw [hh]; rfl)]
      obtain ⟨e2, G⟩ := hr (ord ++ [(k : Int)]) a (orderB_push ho (by omega) hh) (by omega)
      refine ⟨by omega, ⟨Int.le_trans F.up G.up, ?_, ?_⟩⟩
      · rintro t ⟨⟨x, hx, ht⟩, hg⟩
        rcases Nat.lt_or_ge x k with h1 | h1
        · exact Int.le_trans (F.all t ⟨⟨x, h1, ht⟩, hg⟩) G.up
        · obtain rfl : x = k := by omega
          exact G.all t ⟨ht, hg⟩
      · rcases G.one with ⟨g1, g2⟩ | ⟨t, ht, g1, g2⟩
        · rcases F.one with ⟨f1, f2⟩ | ⟨t, ⟨⟨x, hx, ht⟩, hg⟩, f1, f2⟩
          · exact .inl ⟨g1.trans f1, g2.trans f2⟩
          · exact .inr ⟨t, ⟨⟨x, by omega, ht⟩, hg⟩, g2.trans f1, g1.trans f2⟩
        · exact .inr ⟨t, ⟨⟨k, Nat.lt_succ_self k, ht.1⟩, ht.2⟩, g1, g2⟩
    · have hn0 : 0 ≤ a.left := by have := nodes_pos n d; omega
      rw [stepL_has hn0 (by rw [hh]; rfl)]
      refine ⟨by omega, ⟨F.up, ?_, ?_⟩⟩
      · rintro t ⟨⟨x, hx, ht⟩, hg⟩
        rcases Nat.lt_or_ge x k with h1 | h1
        · exact F.all t ⟨⟨x, h1, ht⟩, hg⟩
        · obtain rfl : x = k := by omega
          have := underO_has (n := n) (d := d) (t := t) ⟨ht, hg⟩
          rw [hh] at this; cases this
      · rcases F.one with h1 | ⟨t, ⟨⟨x, hx, ht⟩, hg⟩, f1, f2⟩
        · exact .inl h1
        · exact .inr ⟨t, ⟨⟨x, by omega, ht⟩, hg⟩, f1, f2⟩
theorem vis_foundO : ∀ (d : Nat) (ord : List Int) (s : Sr), orderB n ord = true → (nodes n d : Int) ≤ s.left → s.left - nodes n d ≤ (visL true worth n d ord s).left ∧ Found worth n (underO n d ord) s (visL true worth n d ord s)
  | 0, ord, s, ho, h => by
    have h : (1 : Int) ≤ s.left := h
    rw [visL_z (by omega)]
    by_cases hw : s.most < worth ord
    · rw [updL_t (s := { s with left := s.left - 1 }) hw]
      exact ⟨Int.le_refl _, ⟨Int.le_of_lt hw, fun t ⟨⟨u, hu, _, e⟩, _⟩ => by obtain rfl := List.length_eq_zero_iff.1 hu; rw [e, List.append_nil]; exact Int.le_refl _, .inr ⟨ord, ⟨⟨[], rfl, InMany.nil n, by simp⟩, ho⟩, rfl, rfl⟩⟩⟩
    · rw [updL_f (s := { s with left := s.left - 1 }) hw]
      exact ⟨Int.le_refl _, ⟨Int.le_refl _, fun t ⟨⟨u, hu, _, e⟩, _⟩ => by obtain rfl := List.length_eq_zero_iff.1 hu; rw [e, List.append_nil]; show worth ord ≤ s.most; omega, .inl ⟨rfl, rfl⟩⟩⟩
  | d + 1, ord, s, ho, h => by
    have hn : (nodes n (d + 1) : Int) = 1 + (n * nodes n d : Nat) := by simp only [nodes]; push_cast; rfl
    rw [visL_s (by omega)]
    obtain ⟨e, F⟩ := loop_foundO (worth := worth) (n := n) (d := d) ho (s := { s with left := s.left - 1 }) (fun o s ho hs => vis_foundO d o s ho hs) n (Nat.le_refl _) (by show _ ≤ s.left - 1; omega)
    refine ⟨by have e : s.left - 1 - _ ≤ _ := e; omega, ⟨F.up, fun t ht => F.all t ⟨under_succ.1 ht.1, ht.2⟩, ?_⟩⟩
    rcases F.one with h1 | ⟨t, ht, h1⟩
    · exact .inl h1
    · exact .inr ⟨t, ⟨under_succ.2 ht.1, ht.2⟩, h1⟩
end
theorem nodes_few5 {d : Nat} (hd : d ≤ 5) : nodes d d ≤ 20000 := by
  rcases (show d = 0 ∨ d = 1 ∨ d = 2 ∨ d = 3 ∨ d = 4 ∨ d = 5 by omega) with rfl | rfl | rfl | rfl | rfl | rfl <;> decide
theorem orders_best {l : List Area} (hv : validAreas l = true) (h5 : l.length ≤ 5) {s : Int} (s0 : 0 ≤ s) (s1 : s ≤ 1000) :
    ordC l s 20000 = 0 ∧ (ordV l s 20000).length = l.length ∧ orderB l.length (ordV l s 20000) = true ∧ ordG l s 20000 = worthAt l (ordV l s 20000) s l.length ∧ ∀ t, t.length = l.length → orderB l.length t = true → worthAt l t s l.length ≤ ordG l s 20000 := by
  have hn := nodes_few5 h5
  have hok : ordOk s 20000 = true := by
    unfold ordOk
    rw [inB_iff.2 ⟨s0, s1⟩]; rfl
  obtain ⟨e, F⟩ := vis_foundO (worth := fun o => worthAt l o s o.length) (n := l.length) l.length [] ⟨[], -1, 20000⟩ (orderB_nil _) (by show (nodes l.length l.length : Int) ≤ 20000; omega)
  obtain ⟨r, hr⟩ : ∃ r, r = visO l s 20000 := ⟨_, rfl⟩
  have hr' : visL true (fun o => worthAt l o s o.length) l.length l.length [] ⟨[], -1, 20000⟩ = r := hr.symm
  rw [hr'] at e F
  have hl : 0 ≤ r.left := by have e : (20000 : Int) - _ ≤ r.left := e; omega
  obtain ⟨c1, c2, c3⟩ := sr_0 hl
  have C : ordC l s 20000 = 0 := by unfold ordC; rw [hv, hok, ← hr]; exact c1
  have V : ordV l s 20000 = r.best := by unfold ordV; rw [hv, hok, ← hr]; exact c2
  have G : ordG l s 20000 = r.most := by unfold ordG; rw [hv, hok, ← hr]; exact c3
  have hall : ∀ t, t.length = l.length → orderB l.length t = true → worthAt l t s l.length ≤ r.most := fun t ht hm => by
    have := F.all t ⟨⟨t, ht, orderB_in hm, by simp⟩, hm⟩
    rwa [ht] at this
  have hz0 : 0 ≤ worthAt l (ident l.length) s l.length := (InMany.worth hv (orderB_in (ident_order _))).worth_bd s0 (by rw [ident_len]; exact Nat.le_refl _) |>.1
  have hzm := hall (ident l.length) (ident_len _) (ident_order _)
  rw [C, V, G]
  rcases F.one with ⟨h1, -⟩ | ⟨t, ⟨⟨u, hu, _, he⟩, hg⟩, h1, h2⟩
  · have h1 : r.most = -1 := h1
    omega
  · have hu : t.length = l.length := by rw [he]; exact hu
    refine ⟨rfl, by rw [h1]; exact hu, by rw [h1]; exact hg, ?_, hall⟩
    rw [h1, h2]
    show worthAt l t s t.length = _
    rw [hu]
theorem order_ask {l : List Area} {o : List Int} {b : Bool} (hv : validAreas l = true) (hb : b = true) (ho : orderB l.length o = true) : askI l o b = 0 := (askI_0 hv hb ho).symm
/-! ### A delay -/
theorem surv_step : ∀ m : Nat, surv ((m : Int) + 1) ≤ surv m := fun m => by
  rcases Nat.lt_or_ge m 180 with h | h
  · have hall : (List.range 180).all (fun m => decide (surv ((m : Int) + 1) ≤ surv m)) = true := by kernel_rfl
    exact of_decide_eq_true (List.all_eq_true.1 hall m (List.mem_range.2 h))
  · rw [surv_late (by omega), surv_late (by omega)]; exact Int.le_refl _
theorem surv_anti : ∀ (d : Nat) {a : Int}, 0 ≤ a → surv (a + d) ≤ surv a
  | 0, a, _ => by rw [show a + ((0 : Nat) : Int) = a by omega]; exact Int.le_refl _
  | d + 1, a, h => by
    have h1 := surv_anti d h
    have h2 := surv_step (a.toNat + d)
    rw [show ((a.toNat + d : Nat) : Int) = a + d by omega] at h2
    rw [show a + ((d + 1 : Nat) : Int) = a + d + 1 by omega]
    omega
theorem surv_le {a b : Int} (h : 0 ≤ a) (hb : a ≤ b) : surv b ≤ surv a := by
  have := surv_anti (b - a).toNat h
  rwa [show a + ((b - a).toNat : Int) = b by omega] at this
theorem end_late (l : List Area) (o : List Int) (s d : Int) : ∀ k, endAt l o (s + d) k = endAt l o s k + d
  | 0 => rfl
  | k + 1 => by simp only [endAt]; rw [end_late l o s d k]; omega
theorem worth_late {l : List Area} {o : List Int} (h : WorthOk l o) {s d : Int} (s0 : 0 ≤ s) (d0 : 0 ≤ d) : ∀ {k : Nat}, k ≤ o.length → worthAt l o (s + d) k ≤ worthAt l o s k
  | 0, _ => Int.le_refl _
  | k + 1, hk => by
    have h1 := worth_late h s0 d0 (k := k) (by omega)
    have h2 := h.end_bd s (k := k + 1) hk
    have h3 := surv_le (a := endAt l o s (k + 1)) (b := endAt l o (s + d) (k + 1)) (by omega) (by rw [end_late]; omega)
    have h4 := areaB_parts (h.pick (k := k) (by omega))
    have h5 := Int.mul_le_mul_of_nonneg_left h3 h4.2.1
    simp only [worthAt]; omega
/-! ### What is found -/
def foundAt (l : List Area) (ord : List Int) (s m : Int) : Nat → Int
  | 0 => 0
  | k + 1 => foundAt l ord s m k + if endAt l ord s (k + 1) ≤ m then (pickA l ord k).chance else 0
def sumM (l : List Area) : Nat → Int
  | 0 => 0
  | k + 1 => sumM l k + (nth l k).minutes
def sumC (l : List Area) : Nat → Int
  | 0 => 0
  | k + 1 => sumC l k + (nth l k).chance
/-- The sum over the numbers below n that a list has. -/
def sumHas (f : Nat → Int) (ord : List Int) : Nat → Int
  | 0 => 0
  | n + 1 => sumHas f ord n + if hasB ord (n : Int) = true then f n else 0
theorem has_push (ord : List Int) (x y : Int) : hasB (ord ++ [x]) y = (hasB ord y || decide (y = x)) := by
  rw [Bool.eq_iff_iff, hasB_iff, Bool.or_eq_true, hasB_iff, List.mem_append, List.mem_singleton, decide_eq_true_eq]
theorem sumHas_push (f : Nat → Int) {ord : List Int} {k : Nat} (h : hasB ord k = false) : ∀ n, sumHas f (ord ++ [(k : Int)]) n = sumHas f ord n + if k < n then f k else 0
  | 0 => by simp [sumHas]
  | n + 1 => by
    simp only [sumHas]
    rw [sumHas_push f h n, has_push]
    rcases Nat.lt_trichotomy k n with h1 | h1 | h1
    · rw [if_pos h1, if_pos (show k < n + 1 by omega), decide_eq_false (show ¬ ((n : Int) = k) by omega), Bool.or_false]; omega
    · subst h1
      rw [if_neg (Nat.lt_irrefl _), if_pos (Nat.lt_succ_self _), decide_eq_true (rfl : (k : Int) = k), h]; simp
    · rw [if_neg (by omega), if_neg (show ¬ k < n + 1 by omega), decide_eq_false (show ¬ ((n : Int) = k) by omega), Bool.or_false]; omega
theorem sumHas_nil (f : Nat → Int) : ∀ n, sumHas f [] n = 0
  | 0 => rfl
  | n + 1 => by simp only [sumHas]; rw [sumHas_nil f n]; rfl
theorem take_push {l : List Int} {k : Nat} (h : k < l.length) : l.take (k + 1) = l.take k ++ [nth l k] := by
  rw [List.take_succ_eq_append_getElem h, nth_eq l k h]
def sumP (f : Nat → Int) (ord : List Int) : Nat → Int
  | 0 => 0
  | k + 1 => sumP f ord k + f (nth ord k).toNat
theorem sumP_has (f : Nat → Int) {n : Nat} {ord : List Int} (h : orderB n ord = true) : ∀ {k : Nat}, k ≤ ord.length → sumP f ord k = sumHas f (ord.take k) n ∧ lacks n (ord.take k) + k ≤ n
  | 0, _ => ⟨by rw [List.take_zero, sumHas_nil]; rfl, by rw [List.take_zero]; exact lacks_nil n⟩
  | k + 1, hk => by
    obtain ⟨h1, h2⟩ := sumP_has f h (k := k) (by omega)
    obtain ⟨⟨g0, g1⟩, g2⟩ := orderB_iff.1 h k (by omega)
    have e : nth ord k = ((nth ord k).toNat : Int) := by omega
    rw [take_push (by omega)]
    rw [e] at g2 ⊢
    refine ⟨?_, ?_⟩
    · rw [sumHas_push f g2, if_pos (by omega)]
      simp only [sumP]; rw [h1]
    · have := lacks_push (n := n) (k := (nth ord k).toNat) (by omega) g2
      omega
theorem sumHas_all (f : Nat → Int) {ord : List Int} : ∀ {n : Nat}, (∀ k, k < n → hasB ord (k : Int) = true) → sumHas f ord n = sumHas f (ident n) n
  | n => by
    intro h
    have key : ∀ m, m ≤ n → sumHas f ord m = sumHas f (ident n) m := fun m => by
      induction m with
      | zero => intro _; rfl
      | succ m ih =>
        intro hm
        simp only [sumHas]
        rw [ih (by omega), h m (by omega), hasB_iff.2 (show (m : Int) ∈ ident n by
          have := ident_at (n := n) (k := m) (by omega)
          rw [← this]; exact nth_mem (by rw [ident_len]; omega))]
    exact key n (Nat.le_refl _)
theorem sumP_all (f : Nat → Int) {n : Nat} {ord : List Int} (h : orderB n ord = true) (hl : ord.length = n) : sumP f ord n = sumP f (ident n) n := by
  have hall : ∀ {o : List Int}, orderB n o = true → o.length = n → sumP f o n = sumHas f (ident n) n := fun {o} ho hl => by
    obtain ⟨h1, h2⟩ := sumP_has f ho (k := n) (by omega)
    have e : o.take n = o := List.take_of_length_le (by omega)
    rw [e] at h1 h2
    rw [h1, sumHas_all f fun k hk => lacks_zero (by omega) hk]
  rw [hall h hl, hall (ident_order n) (ident_len n)]
theorem sumP_ident (f : Nat → Int) (n : Nat) : ∀ {k : Nat}, k ≤ n → sumP f (ident n) k = sumP f (ident k) k
  | 0, _ => rfl
  | k + 1, h => by
    have key : ∀ m, m ≤ k + 1 → sumP f (ident n) m = sumP f (ident (k + 1)) m := fun m => by
      induction m with
      | zero => intro _; rfl
      | succ m ih =>
        intro hm
        simp only [sumP]
        rw [ih (by omega), ident_at (by omega), ident_at (by omega)]
    exact key (k + 1) (Nat.le_refl _)
theorem sumP_chance (l : List Area) : ∀ {n k : Nat}, k ≤ n → sumP (fun i => (nth l i).chance) (ident n) k = sumC l k
  | _, 0, _ => rfl
  | n, k + 1, h => by
    simp only [sumP, sumC]
    rw [sumP_chance l (by omega), ident_at (by omega)]; simp
theorem sumP_minutes (l : List Area) : ∀ {n k : Nat}, k ≤ n → sumP (fun i => (nth l i).minutes) (ident n) k = sumM l k
  | _, 0, _ => rfl
  | n, k + 1, h => by
    simp only [sumP, sumM]
    rw [sumP_minutes l (by omega), ident_at (by omega)]; simp
theorem end_sum (l : List Area) (o : List Int) (s : Int) : ∀ k, endAt l o s k = s + sumP (fun i => (nth l i).minutes) o k
  | 0 => by simp [endAt, sumP]
  | k + 1 => by simp only [endAt, sumP, pickA]; rw [end_sum l o s k]; omega
theorem end_mono {l : List Area} {o : List Int} (h : WorthOk l o) (s : Int) {k : Nat} : ∀ {m : Nat}, k ≤ m → m ≤ o.length → endAt l o s k ≤ endAt l o s m
  | m, h1, h2 => by
    induction m with
    | zero => obtain rfl : k = 0 := by omega
              exact Int.le_refl _
    | succ m ih =>
      rcases Nat.lt_or_ge k (m + 1) with h3 | h3
      · have := ih (by omega) (by omega)
        have := areaB_parts (h.pick (k := m) (by omega))
        simp only [endAt]; omega
      · obtain rfl : k = m + 1 := by omega
        exact Int.le_refl _
theorem found_all {l : List Area} {o : List Int} (h : WorthOk l o) {s m : Int} (hm : endAt l o s o.length ≤ m) : ∀ {k : Nat}, k ≤ o.length → foundAt l o s m k = sumP (fun i => (nth l i).chance) o k
  | 0, _ => rfl
  | k + 1, hk => by
    have := end_mono h s (k := k + 1) (m := o.length) hk (Nat.le_refl _)
    simp only [foundAt, sumP]
    rw [found_all h hm (by omega), if_pos (by simp only [endAt] at this ⊢; omega)]; rfl
theorem found_none {l : List Area} {o : List Int} (h : WorthOk l o) {s : Int} : ∀ {k : Nat}, k ≤ o.length → foundAt l o s s k = 0
  | 0, _ => rfl
  | k + 1, hk => by
    have h1 := h.end_bd s (k := k) (by omega)
    have h2 := areaB_parts (h.pick (k := k) (by omega))
    simp only [foundAt]
    rw [found_none h (by omega), if_neg (by simp only [endAt]; omega)]; rfl
theorem Drawn.min {l : List Area} {k : Nat} (h : Drawn l k) : ∀ {i : Nat}, i ≤ l.length → 0 ≤ sumM l i ∧ sumM l i ≤ 32 * i
  | 0, _ => by simp [sumM]
  | i + 1, hi => by
    have := h.min (i := i) (by omega)
    have h1 := areaB_parts (h.each i (by omega)).1
    have h2 := h.short i (by omega)
    simp only [sumM]; omega
/-- All that is asked of an order that has been drawn. -/
theorem order_facts {l : List Area} (hD : Drawn l 5) {o : List Int} (ho : orderB l.length o = true) (hl : o.length = l.length) {s : Int} :
    foundAt l o s (s + sumM l l.length) o.length = sumC l l.length ∧ foundAt l o s s o.length = 0 := by
  have hw := InMany.worth hD.valid (orderB_in ho)
  refine ⟨?_, found_none hw (Nat.le_refl _)⟩
  have e : endAt l o s o.length = s + sumM l l.length := by
    rw [end_sum, hl, sumP_all _ ho hl, sumP_minutes l (Nat.le_refl _)]
  rw [found_all hw (by rw [e]; exact Int.le_refl _) (Nat.le_refl _), hl, sumP_all _ ho hl, sumP_chance l (Nat.le_refl _)]
/-! ### An order that is drawn -/
def insAt (o : List Int) (at' : Nat) (x : Int) : List Int := o.take at' ++ [x] ++ o.drop at'
structure OrdK (o : List Int) (k : Nat) : Prop where
  len : o.length = k
  bd : ∀ x, x ∈ o → 0 ≤ x ∧ x < k
  nd : o.Nodup
theorem OrdK.nil : OrdK [] 0 := ⟨rfl, fun _ h => (List.not_mem_nil h).elim, List.nodup_nil⟩
theorem OrdK.ins {o : List Int} {k : Nat} (h : OrdK o k) (a : Nat) : OrdK (insAt o a k) (k + 1) := by
  have hp : (insAt o a k).Perm ((k : Int) :: o) := by
    unfold insAt
    rw [List.append_assoc]
    have := List.perm_middle (a := (k : Int)) (l₁ := o.take a) (l₂ := o.drop a)
    rw [List.take_append_drop] at this
    exact this
  refine ⟨by rw [hp.length_eq, List.length_cons, h.len], fun x hx => ?_, ?_⟩
  · rcases List.mem_cons.1 (hp.mem_iff.1 hx) with rfl | h1
    · omega
    · have := h.bd x h1; omega
  · rw [hp.nodup_iff, List.nodup_cons]
    exact ⟨fun hm => by have := h.bd _ hm; omega, h.nd⟩
theorem OrdK.order {o : List Int} {k : Nat} (h : OrdK o k) : orderB k o = true := orderB_iff.2 fun i hi => by
  refine ⟨h.bd _ (nth_mem hi), ?_⟩
  cases hh : hasB (o.take i) (nth o i)
  · rfl
  · obtain ⟨j, hj, e⟩ := mem_nth (hasB_iff.1 hh)
    rw [List.length_take] at hj
    have e1 : nth (o.take i) j = nth o j := by simp [nth, show j < i by omega]
    rw [e1, nth_eq o j (by omega), nth_eq o i hi] at e
    exact absurd e (List.pairwise_iff_getElem.1 h.nd j i (by omega) hi (by omega))
end Go.Proofs.YtccbcjopmkmipaaDoor
