/- A gate as text. What the program's and the reference's functions on one hand back. -/
import Derived.Test.YtfiiaegfikocoaaDoorGate
import Derived.Test.YtfiiaegfikocoaaDoorWithId
namespace Go.Proofs.YtfiiaegfikocoaaDoor
open Go.RowKit
def openS : ByteArray := ⟨#[32, 111, 112, 101, 110]⟩
def shutS : ByteArray := ⟨#[32, 115, 104, 117, 116, 32]⟩
def gateS (x : Gate) : ByteArray := if gateB x = true then if x.shuts = true then withS x.id [x.shut, x.opn, x.hold] ++ shutS ++ decS x.calm else withS x.id [x.shut, x.opn, x.hold] ++ openS else ⟨#[]⟩
set_option maxRecDepth 100000 in
set_option maxHeartbeats 2000000 in
theorem implGateText (x : Gate) (w : World) (hs0 : x.id.size ≤ 2000000) (ht : Tab w) :
    Gives Tryd.prog 12 #[.agg #[.string x.id, .int .i64 x.shut, .int .i64 x.opn, .int .i64 x.hold, .bool x.shuts, .int .i64 x.calm]] w (.string (gateS x)) := by
  unfold Gives
  have HT := Lib.hid ht
  clear ht
  cases h : gateB x
  · have hv : Hid ((⟨#[]⟩ : ByteArray) = gateS x) := by show _ = _; unfold gateS; rw [h]; rfl
    go_enter Tryd.func12, Tryd.ntmps12
    go_wp2_with (go_at_call 31; refine (Gate_valid x _ hs0).mono ?_; rintro e w' ⟨rfl, y, rfl⟩; rw [h])
    go_ret
    exact ⟨by rw [← hv.out]; rfl, (by repeat (first | exact Ext.refl _ | refine Ext.lift ?_ _ | refine Ext.alloc ?_ _))⟩
  · have hb := Lib.hid (gateB_bd h)
    have hw : ∀ k, k < [x.shut, x.opn, x.hold].length → -9223372036854775808 ≤ nth [x.shut, x.opn, x.hold] k ∧ nth [x.shut, x.opn, x.hold] k ≤ 9223372036854775807 := by
      intro k hk; simp at hk; have := hb.out; rcases (show k = 0 ∨ k = 1 ∨ k = 2 by omega) with rfl | rfl | rfl <;> simp [nth] <;> omega
    have hl : (withS x.id [x.shut, x.opn, x.hold]).size ≤ 78 := by have e := withS_size (id := x.id) hw; rw [show [x.shut, x.opn, x.hold].length = 3 from rfl] at e; have := hb.out; omega
    have h3 : (⟨#[32, 111, 112, 101, 110]⟩ : ByteArray).size = 5 := rfl
    have h4 : (⟨#[32, 115, 104, 117, 116, 32]⟩ : ByteArray).size = 6 := rfl
    have h5 : (withS x.id [x.shut, x.opn, x.hold] ++ ⟨#[32, 115, 104, 117, 116, 32]⟩).size ≤ 84 := by rw [ByteArray.size_append]; omega
    have h6 := decS_size x.calm (by have := hb.out; omega) (by have := hb.out; omega)
    clear hw
    have HV := Lib.hid fun (w' : World) => Gate_valid x w' hs0
    have HD := Lib.hid fun (w' : World) (ht : Tab w') => Decimal_any x.calm w' (by have := hb.out; omega) (by have := hb.out; omega) ht
    have HI := Lib.hid fun (w1 w2 : World) (n : Nat) (hn : n = w1.heap.size) (he : Ext (w1.alloc (.cells #[.int .i64 x.shut, .int .i64 x.opn, .int .i64 x.hold] 2)) w2) (ht : Tab w2) => withId_any x.id (some ⟨n, 0, none⟩) 3 [x.shut, x.opn, x.hold] w2 hs0 ((intAt_new' w1 _ _ _ (by intro k hk; simp at hk; rcases (show k = 0 ∨ k = 1 ∨ k = 2 by omega) with rfl | rfl | rfl <;> rfl) hn).ext he) (by intro k hk; simp at hk; rw [inB_iff]; have := hb.out; rcases (show k = 0 ∨ k = 1 ∨ k = 2 by omega) with rfl | rfl | rfl <;> simp [nth] <;> omega) (by simp) ht
    rw [h] at HV
    cases hc : x.shuts
    all_goals
      have hv : Hid ((if x.shuts = true then withS x.id [x.shut, x.opn, x.hold] ++ shutS ++ decS x.calm else withS x.id [x.shut, x.opn, x.hold] ++ openS) = gateS x) := by show _ = _; unfold gateS; rw [if_pos h]
      rw [hc] at hv HV
      go_enter Tryd.func12, Tryd.ntmps12
      go_wp2_with fail
      refine (HV.out _).mono ?_
      rintro e w' ⟨rfl, y, rfl⟩
      go_wp2_with fail
    · refine (HI.out _ _ _ (by simp only [lift_size, size_new]) (Ext.refl _) (HT.out.ext (by repeat (first | exact Ext.refl _ | refine Ext.lift ?_ _ | refine Ext.alloc ?_ _)))).mono ?_
      rintro e w' ⟨rfl, z, rfl⟩
      go_wp2_with fail
      go_ret
      exact ⟨by rw [← hv.out]; rfl, (by repeat (first | exact Ext.refl _ | refine Ext.lift ?_ _ | refine Ext.alloc ?_ _))⟩
    · obtain ⟨W, hW⟩ : ∃ W, W = lift (w.alloc (.cells #[.string x.id, .int .i64 x.shut, .int .i64 x.opn, .int .i64 x.hold, .bool true, .int .i64 x.calm] 31)) y := ⟨_, rfl⟩
      refine Grow.region_tail 15 [0, 1, 2, 3, 4, 5, 6, 7, 11, 12] [(false, 8), (false, 9), (true, 13), (false, 10), (false, 14)] (by kernel_rfl) (by kernel_rfl) ?_
      simp only [Grow.pick, Grow.pickB, List.getElem?_cons_succ, List.getElem?_cons_zero, List.drop_succ_cons, List.drop_zero]
      repeat
        refine Grow.heads_step (fun K' hK => ⟨rfl, ?_⟩)
        apply Exists.intro
        apply And.intro
        · intro w' hw'
          obtain ⟨x', rfl⟩ := hw'
          go_simp
          first | done | rfl | (rw [if_neg (by omega)]; done) | (rw [if_neg (by omega)]; rfl) | (rw [if_pos (by omega)]; done) | (rw [if_pos (by omega)]; rfl)
        go_simp
        refine hK _ ?_
        clear hK K'
      refine Grow.heads_nil ?_
      intro w1 e1
      refine Grow.seq_step (fun K' hK => ⟨rfl, ?_⟩)
      go_simp
      try rw [if_neg (by omega)]
      simp only [Grow.upon]
      refine ⟨(Ext.refl _).alloc _, fun w2 e2 => hK _ _ ?_⟩
      clear hK K'
      have T2 : Ext w w2 := ((((Ext.refl w).alloc _).lift y).trans e1).alloc _ |>.trans e2
      refine Grow.seq_step (fun K' hK => ⟨rfl, ?_⟩)
      go_simp
      refine Grow.gives_upon (HI.out _ _ _ rfl e2 (HT.out.ext T2)) fun w3 e3 => hK _ _ ?_
      clear hK K'
      have T3 := T2.trans e3
      refine Grow.seq_pcall _ _ _ (fun K' hK => ⟨rfl, ?_, (fun w' h' => HD.out w' (HT.out.ext (T3.trans h'))), fun w4 e4 => ?_⟩)
      · intro w' hw'
        obtain ⟨x', rfl⟩ := hw'
        go_simp
        first | done | rfl
      go_simp
      refine hK _ _ ?_
      clear hK K'
      refine Grow.seq_step (fun K' hK => ⟨rfl, ?_⟩)
      go_simp
      try rw [if_neg (by omega)]
      simp only [Grow.upon]
      refine ⟨Ext.refl _, fun w5 e5 => hK _ _ ?_⟩
      clear hK K'
      refine Grow.seq_step (fun K' hK => ⟨rfl, ?_⟩)
      go_simp
      try rw [if_neg (by omega)]
      simp only [Grow.upon]
      refine ⟨Ext.refl _, fun w6 e6 => hK _ _ ?_⟩
      clear hK K'
      have T6 := Lib.hid (T3.trans (e4.trans (e5.trans e6)))
      refine Grow.seq_nil ?_
      go_wp2_with fail
      go_ret
      exact ⟨by rw [← hv.out]; rfl, T6.out⟩
end Go.Proofs.YtfiiaegfikocoaaDoor
