/- A test as text. What the program's and the reference's functions on one hand back. -/
import Derived.Test.YtanafhppifhfmaaDoorTest
import Derived.Test.YtanafhppifhfmaaDoorWithId
namespace Go.Proofs.YtanafhppifhfmaaDoor
open Go.RowKit
def kindS (k : Int) : ByteArray := if k = 1 then ⟨#[99, 111, 108, 117, 109, 110]⟩ else if k = 2 then ⟨#[101, 120, 116, 101, 110, 100, 101, 100]⟩ else if k = 3 then ⟨#[98, 108, 111, 99, 107]⟩ else ⟨#[]⟩
theorem kindS_size (k : Int) : (kindS k).size ≤ 8 := by
  unfold kindS; split
  · decide
  · split
    · decide
    · split <;> decide
set_option maxRecDepth 100000 in
theorem TestName_any (k : Int) (w : World) : Gives Tryd.prog 74 #[.int .i64 k] w (.string (kindS k)) := by
  unfold Gives
  rcases kinds4 k with hk | hk | hk | ⟨hk1, hk2, hk3⟩
  · subst hk
    go_enter Tryd.func74, Tryd.ntmps74
    go_wp2
    go_ret
    exact ⟨rfl, Ext.refl _⟩
  · subst hk
    go_enter Tryd.func74, Tryd.ntmps74
    go_wp2
    go_ret
    exact ⟨rfl, Ext.refl _⟩
  · subst hk
    go_enter Tryd.func74, Tryd.ntmps74
    go_wp2
    go_ret
    exact ⟨rfl, Ext.refl _⟩
  · have hv : Hid ((⟨#[]⟩ : ByteArray) = kindS k) := by show _ = _; unfold kindS; rw [if_neg hk1, if_neg hk2, if_neg hk3]
    have h1 : (k == 1) = false := beq_eq_false_iff_ne.2 hk1
    have h2 : (k == 2) = false := beq_eq_false_iff_ne.2 hk2
    have h3 : (k == 3) = false := beq_eq_false_iff_ne.2 hk3
    go_enter Tryd.func74, Tryd.ntmps74
    go_wp2
    go_ret
    exact ⟨by rw [← hv.out]; rfl, Ext.refl _⟩
set_option maxRecDepth 100000 in
theorem l08Name_any (k : Int) (w : World) : Gives Tryd.prog 113 #[.int .i64 k] w (.string (kindS k)) := by
  unfold Gives
  rcases kinds4 k with hk | hk | hk | ⟨hk1, hk2, hk3⟩
  · subst hk
    go_enter Tryd.func113, Tryd.ntmps113
    go_wp2
    go_ret
    exact ⟨rfl, Ext.refl _⟩
  · subst hk
    go_enter Tryd.func113, Tryd.ntmps113
    go_wp2
    go_ret
    exact ⟨rfl, Ext.refl _⟩
  · subst hk
    go_enter Tryd.func113, Tryd.ntmps113
    go_wp2
    go_ret
    exact ⟨rfl, Ext.refl _⟩
  · have hv : Hid ((⟨#[]⟩ : ByteArray) = kindS k) := by show _ = _; unfold kindS; rw [if_neg hk1, if_neg hk2, if_neg hk3]
    have h1 : (k == 1) = false := beq_eq_false_iff_ne.2 hk1
    have h2 : (k == 2) = false := beq_eq_false_iff_ne.2 hk2
    have h3 : (k == 3) = false := beq_eq_false_iff_ne.2 hk3
    go_enter Tryd.func113, Tryd.ntmps113
    go_wp2
    go_ret
    exact ⟨by rw [← hv.out]; rfl, Ext.refl _⟩
def testS (x : Test) : ByteArray := if testB x = true then withS (kindS x.kind) [x.score, x.quality, x.depth, x.hour] else ⟨#[]⟩
set_option maxRecDepth 100000 in
set_option maxHeartbeats 2000000 in
theorem implTestText (x : Test) (w : World)  (ht : Tab w) :
    Gives Tryd.prog 75 #[.agg #[.int .i64 x.kind, .int .i64 x.score, .int .i64 x.quality, .int .i64 x.depth, .int .i64 x.hour]] w (.string (testS x)) := by
  unfold Gives
  have HT := Lib.hid ht
  clear ht
  cases h : testB x
  · have hv : Hid ((⟨#[]⟩ : ByteArray) = testS x) := by show _ = _; unfold testS; rw [h]; rfl
    go_enter Tryd.func75, Tryd.ntmps75
    go_wp2_with (go_at_call 115; refine (Test_valid x _ ).mono ?_; rintro e w' ⟨rfl, y, rfl⟩; rw [h])
    go_ret
    exact ⟨by rw [← hv.out]; rfl, (by repeat (first | exact Ext.refl _ | refine Ext.lift ?_ _ | refine Ext.alloc ?_ _))⟩
  · have hv : Hid (withS (kindS x.kind) [x.score, x.quality, x.depth, x.hour] = testS x) := by show _ = _; unfold testS; rw [if_pos h]
    have hb := Lib.hid (testB_bd h)
    have hid : Hid ((kindS x.kind).size ≤ 2000000) := by show _ ≤ _; have := kindS_size x.kind; omega
    go_enter Tryd.func75, Tryd.ntmps75
    go_wp2_with fail
    refine (Test_valid x _).mono ?_
    rintro e w' ⟨rfl, y, rfl⟩
    rw [h]
    go_wp2_with fail
    refine Grow.region_tail 13 [0, 1, 2, 3, 4, 5, 6, 7, 8, 9, 10] [(false, 11), (false, 12)] (by kernel_rfl) (by kernel_rfl) ?_
    simp only [Grow.pick, Grow.pickB, List.getElem?_cons_succ, List.getElem?_cons_zero, List.drop_succ_cons, List.drop_zero]
    repeat
      refine Grow.heads_step (fun K' hK => ⟨rfl, ?_⟩)
      apply Exists.intro
      apply And.intro
      · intro w' hw'
        obtain ⟨x', rfl⟩ := hw'
        go_simp
        first | done | rfl | (rw [if_neg (by omega)]; done) | (rw [if_neg (by omega)]; rfl)
      go_simp
      refine hK _ ?_
      clear hK K'
    refine Grow.heads_call _ _ _ (fun K' hK => ⟨rfl, ?_, (fun w' h' => TestName_any x.kind w'), ?_⟩)
    · intro w' hw'
      obtain ⟨x', rfl⟩ := hw'
      go_simp
      first | done | rfl
    go_simp
    refine hK _ ?_
    clear hK K'
    repeat
      refine Grow.heads_step (fun K' hK => ⟨rfl, ?_⟩)
      apply Exists.intro
      apply And.intro
      · intro w' hw'
        obtain ⟨x', rfl⟩ := hw'
        go_simp
        first | done | rfl | (rw [if_neg (by omega)]; done) | (rw [if_neg (by omega)]; rfl)
      go_simp
      refine hK _ ?_
      clear hK K'
    refine Grow.heads_nil ?_
    intro w1 e1
    refine Grow.seq_step (fun K' hK => ⟨rfl, ?_⟩)
    go_simp
    try rw [if_neg (by omega)]
    simp only [Grow.upon]
    refine ⟨(Ext.refl _).alloc _, fun w2 e2 => hK _ _ ?_⟩
    clear hK K'
    have T2 : Ext w w2 := ((((Ext.refl w).alloc _).lift y).trans e1).alloc _ |>.trans e2
    refine Grow.seq_step (fun K' hK => ⟨rfl, ?_⟩)
    go_simp
    refine Grow.gives_upon (withId_any _ _ 4 [x.score, x.quality, x.depth, x.hour] _ hid.out ((intAt_new _ _ _ _ (by intro k hk; simp at hk; rcases (show k = 0 ∨ k = 1 ∨ k = 2 ∨ k = 3 by omega) with rfl | rfl | rfl | rfl <;> rfl)).ext e2) (by intro k hk; simp at hk; rw [inB_iff]; have := hb.out; rcases (show k = 0 ∨ k = 1 ∨ k = 2 ∨ k = 3 by omega) with rfl | rfl | rfl | rfl <;> simp [nth] <;> omega) (by simp) (HT.out.ext T2)) fun w3 e3 => hK _ _ ?_
    clear hK K'
    have T3 := Lib.hid (T2.trans e3)
    refine Grow.seq_nil ?_
    clear e1 e2 e3 T2
    go_wp2_with fail
    go_ret
    exact ⟨by rw [← hv.out]; rfl, T3.out⟩
end Go.Proofs.YtanafhppifhfmaaDoor
