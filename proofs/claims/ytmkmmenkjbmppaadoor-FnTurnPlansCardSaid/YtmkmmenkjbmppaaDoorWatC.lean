/- How two watches stand, and when a list of watches is valid. -/
import Derived.Test.YtmkmmenkjbmppaaDoorInsWat
import Derived.Test.YtmkmmenkjbmppaaDoorIncC
namespace Go.Proofs.YtmkmmenkjbmppaaDoor
open Go.RowKit
/-- The first watch is over before the second one, if both are of one person. -/
def watOrd (x y : Watch) : Bool := if x.person = y.person then decide (x.start + x.hours ≤ y.start) else sLt x.person y.person
/-- Persons first, then starts. -/
def watB (x y : Watch) : Bool := if x.person = y.person then decide (x.start < y.start) else sLt x.person y.person
def watK (x y : Watch) : Int := orI [cmpS x.person y.person, cmpI x.start y.start]
def watList (l : List Watch) : Bool := vAll watchB watOrd 32 l
theorem watK_person {x y : Watch} (h : x.person ≠ y.person) : watK x y = cmpS x.person y.person := by
  unfold watK orI; rw [if_neg (fun h2 => h (cmpS_eq.1 h2))]
theorem watK_start {x y : Watch} (h : x.person = y.person) : watK x y = cmpI x.start y.start := by
  unfold watK orI; rw [if_pos (cmpS_eq.2 h)]; unfold orI
  split
  · rename_i h3; rw [h3]; rfl
  · rfl
theorem watK_lt {x y : Watch} : watK x y < 0 ↔ watB x y = true := by
  unfold watB
  by_cases h : x.person = y.person
  · rw [if_pos h, watK_start h, cmpI_lt, decide_eq_true_eq]
  · rw [if_neg h, watK_person h]; exact cmpS_lt
theorem watK_ge (x y : Watch) : decide (0 ≤ watK x y) = !watB x y := by
  cases h : watB x y
  · have : ¬ watK x y < 0 := fun h2 => by rw [watK_lt.1 h2] at h; cases h
    rw [decide_eq_true (by omega)]; rfl
  · have := watK_lt.2 h
    rw [decide_eq_false (by omega)]; rfl
theorem watOrd_B {x y : Watch} (hx : watchB x = true) (h : watOrd x y = true) : watB x y = true := by
  have := (watchB_bd hx).2.2
  unfold watOrd at h; unfold watB
  split
  · rename_i h1; rw [if_pos h1, decide_eq_true_eq] at h; rw [decide_eq_true_eq]; omega
  · rename_i h1; rw [if_neg h1] at h; exact h
theorem watB_trans {x y z : Watch} (h : watB x y = true) (k : watB y z = true) : watB x z = true := by
  unfold watB at *
  by_cases h1 : x.person = y.person
  · rw [if_pos h1, decide_eq_true_eq] at h
    by_cases h2 : y.person = z.person
    · rw [if_pos h2, decide_eq_true_eq] at k; rw [if_pos (h1.trans h2), decide_eq_true_eq]; omega
    · rw [if_neg h2] at k; rw [if_neg (fun h5 => h2 (h1.symm.trans h5)), h1]; exact k
  · rw [if_neg h1] at h
    by_cases h2 : y.person = z.person
    · rw [if_neg (fun h5 => h1 (h5.trans h2.symm)), ← h2]; exact h
    · rw [if_neg h2] at k
      have := sLt_trans h k
      rw [if_neg (fun h5 => by rw [h5, sLt_irrefl] at this; cases this)]; exact this
theorem wat_sorted {l : List Watch} (h : watList l = true) : ∀ i j, i < j → j < l.length → watB (nth l i) (nth l j) = true :=
  sorted_rel (r := watB) (l := l) (fun _ _ _ => watB_trans) (fun k hk => watOrd_B (vAll_one h k (by omega)) (vAll_ord h k hk))
def watC (x y : Watch) : Int := watK y x
theorem wat_mono {l : List Watch} (h : watList l = true) (x : Watch) : ∀ i j, i ≤ j → j < l.length → watC x (nth l j) < 0 → watC x (nth l i) < 0 := by
  intro i j hij hj h2
  rcases Nat.lt_or_ge i j with h3 | h3
  · exact watK_lt.2 (watB_trans (wat_sorted h i j h3 hj) (watK_lt.1 h2))
  · obtain rfl : i = j := by omega
    exact h2
set_option maxRecDepth 100000 in
set_option maxHeartbeats 2000000 in
theorem compareWatches_any (x y : Watch) (w : World) : Gives Tryd.prog 47 #[.agg #[.string x.person, .int .i64 x.start, .int .i64 x.hours, .bool x.call], .agg #[.string y.person, .int .i64 y.start, .int .i64 y.hours, .bool y.call]] w (.int .i64 (watK x y)) := by
  unfold Gives
  go_enter Tryd.func47, Tryd.ntmps47
  go_wp2_with fail
  refine Grow.region_tail 11 [0, 1, 2, 3, 4, 5, 6, 7, 8, 9] [(false, 10)] (by kernel_rfl) (by kernel_rfl) ?_
  simp only [Grow.pick, Grow.pickB, List.getElem?_cons_succ, List.getElem?_cons_zero, List.drop_succ_cons, List.drop_zero]
  repeat
    refine Grow.heads_step (fun K' hK => ⟨rfl, ?_⟩)
    apply Exists.intro
    apply And.intro
    · intro w' hw'
      obtain ⟨x', rfl⟩ := hw'
      go_simp
      first | done | rfl | (rw [if_neg (by omega)]; done) | (rw [if_neg (by omega)]; rfl) | (rw [if_pos (by omega)]; done) | (rw [if_pos (by omega)]; rfl)
    go_simp
    refine hK _ ?_
    clear hK K'
  refine Grow.heads_call _ _ _ (fun K' hK => ⟨rfl, ?_, (fun w' h' => Gives.same (CompareS_any x.person y.person w')), ?_⟩)
  · intro w' hw'
    obtain ⟨x', rfl⟩ := hw'
    go_simp
    first | done | rfl
  go_simp
  refine hK _ ?_
  clear hK K'
  repeat
    refine Grow.heads_step (fun K' hK => ⟨rfl, ?_⟩)
    apply Exists.intro
    apply And.intro
    · intro w' hw'
      obtain ⟨x', rfl⟩ := hw'
      go_simp
      first | done | rfl | (rw [if_neg (by omega)]; done) | (rw [if_neg (by omega)]; rfl) | (rw [if_pos (by omega)]; done) | (rw [if_pos (by omega)]; rfl)
    go_simp
    refine hK _ ?_
    clear hK K'
  refine Grow.heads_call _ _ _ (fun K' hK => ⟨rfl, ?_, (fun w' h' => Gives.same (Compare_any x.start y.start w')), ?_⟩)
  · intro w' hw'
    obtain ⟨x', rfl⟩ := hw'
    go_simp
    first | done | rfl
  go_simp
  refine hK _ ?_
  clear hK K'
  refine Grow.heads_nil ?_
  intro w1 e1
  have E1 := Lib.hid (Ext.trans (show Ext w _ from (by repeat (first | exact Ext.refl _ | refine Ext.lift ?_ _ | refine Ext.alloc ?_ _))) e1)
  clear e1
  refine Grow.seq_step (fun K' hK => ⟨rfl, ?_⟩)
  go_simp
  try rw [if_neg (by omega)]
  simp only [Grow.upon]
  refine ⟨(Ext.refl _).alloc _, fun w2 e2 => hK _ _ ?_⟩
  clear hK K'
  have HR : Hid (IntAt w2 (some ⟨w1.heap.size, 0, none⟩) [cmpS x.person y.person, cmpI x.start y.start]) := (intAt_new0 _ _ _ _ (by intro k hk; simp at hk; rcases (show k = 0 ∨ k = 1 by omega) with rfl | rfl <;> rfl)).ext e2
  have E2 := Lib.hid ((E1.out.alloc _).trans e2)
  clear e2 E1
  refine Grow.seq_nil ?_
  have HO := Lib.hid (Or_any _ 2 [cmpS x.person y.person, cmpI x.start y.start] w2 HR.out (by simp))
  go_wp2_with (go_at_call 59; refine HO.out.mono ?_; rintro e w' ⟨rfl, rfl⟩)
  go_ret
  exact ⟨rfl, E2.out⟩
theorem Watch_end (x : Watch) (w : World) (h0 : 0 ≤ x.start ∧ x.start ≤ 10000) (h1 : 1 ≤ x.hours ∧ x.hours ≤ 48) :
    Gives Tryd.prog 48 #[.agg #[.string x.person, .int .i64 x.start, .int .i64 x.hours, .bool x.call]] w (.int .i64 (x.start + x.hours)) := by
  unfold Gives
  obtain ⟨a0, a1⟩ := h0
  obtain ⟨b0, b1⟩ := h1
  go_enter Tryd.func48, Tryd.ntmps48
  go_wp2
  go_ret
  exact ⟨rfl, (by repeat (first | exact Ext.refl _ | refine Ext.lift ?_ _ | refine Ext.alloc ?_ _))⟩
theorem Watch_validS (x : Watch) (w : World) (hz : x.Small) : Gives Tryd.prog 46 #[.agg #[.string x.person, .int .i64 x.start, .int .i64 x.hours, .bool x.call]] w (.bool (watchB x)) := by
  unfold Watch.Small at hz
  exact Watch_valid x w (by omega)
theorem l26One_anyS (b o : Nat) (x : Watch) (w : World) (hz : x.Small) (c0 : w.cell? ⟨b, o, none⟩ = some (.string x.person)) (c1 : w.cell? ⟨b, o + 1, none⟩ = some (.int .i64 x.start)) (c2 : w.cell? ⟨b, o + 2, none⟩ = some (.int .i64 x.hours)) (c3 : w.cell? ⟨b, o + 3, none⟩ = some (.bool x.call)) :
    Gives Tryd.prog 49 #[.pointer (some ⟨b, o, none⟩)] w (.bool (watchB x)) := by
  unfold Watch.Small at hz
  exact l26One_any b o x w (by omega) c0 c1 c2 c3
end Go.Proofs.YtmkmmenkjbmppaaDoor
