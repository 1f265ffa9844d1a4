/- Chapter 25: what a delay costs; the law FnExactDelayCost. -/
import Derived.Test.YtccbcjopmkmipaaDoorWorth
namespace Go.Proofs.YtccbcjopmkmipaaDoor
open Go.RowKit
def delayV (l : List Area) (ord : List Int) (s d : Int) : Int := if askI l ord (inB s 0 1000 && inB d 0 1000) = 0 then worthAt l ord s ord.length - worthAt l ord (s + d) ord.length else 0
theorem delayV_0 {l : List Area} {ord : List Int} {s d : Int} (h : askI l ord (inB s 0 1000 && inB d 0 1000) ≠ 0) : 0 = delayV l ord s d := by unfold delayV; rw [if_neg h]
theorem delayV_1 {l : List Area} {ord : List Int} {s d : Int} (h : askI l ord (inB s 0 1000 && inB d 0 1000) = 0) : worthAt l ord s ord.length - worthAt l ord (s + d) ord.length = delayV l ord s d := by unfold delayV; rw [if_pos h]
theorem intAt_two (w : World) (s d : Int) : IntAt (w.alloc (.cells #[.int .i64 s, .int .i64 d] 2)) (some ⟨w.heap.size, 0, none⟩) [s, d] := fun k hk => by
  refine ⟨_, _, rfl, by rw [size_new]; omega, fun j hj => ?_⟩
  obtain rfl : j = 0 := by omega
  rw [cell_new]
  simp at hk
  rcases (show k = 0 ∨ k = 1 by omega) with rfl | rfl <;> rfl
theorem allIn_two (s d lo hi : Int) : allIn [s, d] lo hi = (inB s lo hi && inB d lo hi) := by simp [allIn]
set_option maxHeartbeats 1000000 in
theorem implDelayCost_any (a : Option Addr) (cap : Nat) (l : List Area) (a2 : Option Addr) (cap2 : Nat) (ord : List Int) (s d : Int) (w : World) (H : AreaAt w a l) (hsz : AreaSz l) (H2 : IntAt w a2 ord) (hn : l.length ≤ 1000000000000) (hlen : ord.length ≤ 1048576) (hcap : ord.length ≤ cap2) :
    Gives Tryd.prog 11 #[.slice a l.length cap, .slice a2 ord.length cap2, .int .i64 s, .int .i64 d] w (.tuple #[.int .i64 (delayV l ord s d), .int .i64 (askI l ord (inB s 0 1000 && inB d 0 1000))]) := by
  unfold Gives
  have hE : Hid (Ext w (w.alloc (.cells #[.int .i64 s, .int .i64 d] 2))) := (Ext.refl w).alloc _
  have HC := Lib.hid (areasCode_any a cap l a2 cap2 ord (some ⟨w.heap.size, 0, none⟩) 2 [s, d] _ (H.ext hE.out) hsz (H2.ext hE.out) (intAt_two w s d) hn (by omega) hcap (by simp))
  rw [allIn_two] at HC
  have HA := Lib.hid H
  have HI := Lib.hid H2
  clear H H2 hsz
  cases h0 : askI l ord (inB s 0 1000 && inB d 0 1000) == 0
  · have hv : Hid (0 = delayV l ord s d) := delayV_0 (beq_eq_false_iff_ne.1 h0)
    have h0' : (askI l ord (inB s 0 1000 && inB d 0 1000) != 0) = true := by rw [bne, h0]; rfl
    clear h0
    go_enter Tryd.func11, Tryd.ntmps11
    go_wp2_with fail
    refine HC.out.mono ?_
    rintro e w' ⟨rfl, y, rfl⟩
    go_wp2_with fail
    go_ret2
    exact ⟨ret_int2 hv.out rfl, hE.out.lift y⟩
  · have he := beq_iff_eq.1 h0
    have hv : Hid (worthAt l ord s ord.length - worthAt l ord (s + d) ord.length = delayV l ord s d ∧ 0 = askI l ord (inB s 0 1000 && inB d 0 1000)) := ⟨delayV_1 he, he.symm⟩
    obtain ⟨g1, g2, g3⟩ := ok_of_ask he
    have HO := Lib.hid (WorthOk.of_valid g1 g3)
    rw [Bool.and_eq_true, inB_iff, inB_iff] at g2
    obtain ⟨g2, g4⟩ := g2
    have b1 := HO.out.worth_bd (s := s) (by omega) (Nat.le_refl _)
    have b2 := HO.out.worth_bd (s := s + d) (by omega) (Nat.le_refl _)
    have h0' : (askI l ord (inB s 0 1000 && inB d 0 1000) != 0) = false := by rw [bne, h0]; rfl
    clear h0 he g1 g3
    go_enter Tryd.func11, Tryd.ntmps11
    go_wp2_with fail
    refine HC.out.mono ?_
    rintro e w' ⟨rfl, y, rfl⟩
    go_wp2_with fail
    refine (worthOfOrder_any a cap l a2 cap2 ord s _ (HA.out.ext (by repeat (first | exact Ext.refl _ | refine Ext.lift ?_ _ | refine Ext.alloc ?_ _))) (HI.out.ext (by repeat (first | exact Ext.refl _ | refine Ext.lift ?_ _ | refine Ext.alloc ?_ _))) HO.out (by omega) (by omega) hlen).mono ?_
    rintro e w' ⟨rfl, u, rfl⟩
    go_wp2_with fail
    refine (worthOfOrder_any a cap l a2 cap2 ord (s + d) _ (HA.out.ext (by repeat (first | exact Ext.refl _ | refine Ext.lift ?_ _ | refine Ext.alloc ?_ _))) (HI.out.ext (by repeat (first | exact Ext.refl _ | refine Ext.lift ?_ _ | refine Ext.alloc ?_ _))) HO.out (by omega) (by omega) hlen).mono ?_
    rintro e w' ⟨rfl, t, rfl⟩
    go_wp2_with fail
    go_ret2
    exact ⟨ret_int2 hv.out.1 hv.out.2, (by repeat (first | exact Ext.refl _ | refine Ext.lift ?_ _ | refine Ext.alloc ?_ _))⟩
end Go.Proofs.YtccbcjopmkmipaaDoor
