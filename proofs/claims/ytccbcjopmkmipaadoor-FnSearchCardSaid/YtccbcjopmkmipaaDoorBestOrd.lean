/- Chapter 25: BestOrder of the program and of the reference. -/
import Derived.Test.YtccbcjopmkmipaaDoorLsS
namespace Go.Proofs.YtccbcjopmkmipaaDoor
open Go.RowKit
@[go_sem] theorem run_store_nilFunc {P : Program} {w : World} {a : Addr} {m : Mode} : (store a .nilFunc m).run P w = stored P w a .nilFunc m := run_store P w a _ m rfl
@[go_sem] theorem run_store_func {P : Program} {w : World} {a : Addr} {m : Mode} (fn : Fn) (fi ca : Array Value) : (store a (.func fn fi ca) m).run P w = stored P w a (.func fn fi ca) m := run_store P w a _ m rfl
/-- What a search through lists hands back, behind its checks. -/
def srC (ok1 ok2 : Bool) (r : Sr) : Int := if ok1 = true then (if ok2 = true then (if r.left < 0 then 5 else 0) else 2) else 1
def srV (ok1 ok2 : Bool) (r : Sr) : List Int := if srC ok1 ok2 r = 0 then r.best else []
def srG (ok1 ok2 : Bool) (r : Sr) : Int := if srC ok1 ok2 r = 0 then r.most else 0
theorem sr_1 {ok2 : Bool} {r : Sr} : srC false ok2 r = 1 ∧ srV false ok2 r = [] ∧ srG false ok2 r = 0 := ⟨rfl, rfl, rfl⟩
theorem sr_2 {r : Sr} : srC true false r = 2 ∧ srV true false r = [] ∧ srG true false r = 0 := ⟨rfl, rfl, rfl⟩
theorem sr_5 {r : Sr} (h : r.left < 0) : srC true true r = 5 ∧ srV true true r = [] ∧ srG true true r = 0 := by
  have e : srC true true r = 5 := by unfold srC; rw [if_pos rfl, if_pos rfl, if_pos h]
  exact ⟨e, by unfold srV; rw [if_neg (by rw [e]; decide)], by unfold srG; rw [if_neg (by rw [e]; decide)]⟩
theorem sr_0 {r : Sr} (h : 0 ≤ r.left) : srC true true r = 0 ∧ srV true true r = r.best ∧ srG true true r = r.most := by
  have e : srC true true r = 0 := by unfold srC; rw [if_pos rfl, if_pos rfl, if_neg (by omega)]
  exact ⟨e, by unfold srV; rw [if_pos e], by unfold srG; rw [if_pos e]⟩
theorem srV_len {ok1 ok2 : Bool} {r : Sr} {n : Nat} (h : r.best.length ≤ n) : (srV ok1 ok2 r).length ≤ n := by
  unfold srV; split
  · exact h
  · simp
theorem InMany.worth {l : List Area} {ord : List Int} (h1 : validAreas l = true) (h : InMany l.length ord) : WorthOk l ord :=
  ⟨fun k hk => okAt_area ((validAreas_all h1).2.1 k hk), fun k hk => h k hk⟩
def visO (l : List Area) (s b : Int) : Sr := visL true (fun o => worthAt l o s o.length) l.length l.length [] ⟨[], -1, b⟩
def ordOk (s b : Int) : Bool := inB s 0 1000 && inB b 1 20000
def ordC (l : List Area) (s b : Int) : Int := srC (validAreas l) (ordOk s b) (visO l s b)
def ordV (l : List Area) (s b : Int) : List Int := srV (validAreas l) (ordOk s b) (visO l s b)
def ordG (l : List Area) (s b : Int) : Int := srG (validAreas l) (ordOk s b) (visO l s b)
theorem ordV_len (l : List Area) (s b : Int) : (ordV l s b).length ≤ l.length := by
  have := visL_len (diff := true) (worth := fun o => worthAt l o s o.length) (many := l.length) l.length (ord := []) (s := ⟨[], -1, b⟩) (by simp)
  exact srV_len (by unfold visO; simpa using this)
theorem area_sz {l : List Area} (h : ∀ k, k < l.length → (nth l k).Small) : AreaSz l := fun k hk => by have := h k hk; unfold Area.Small at this; omega
theorem budgetValid_any (n : Int) (w : World) : Calls Tryd.prog 20 #[.int .i64 n] w fun e w' => e = .returned (.bool (inB n 1 20000)) ∧ w' = w := by
  go_enter Tryd.func20, Tryd.ntmps20
  go_wp2_with (go_at_call 34; refine (within_any _ _ _ _).mono ?_; rintro e w' ⟨rfl, rfl⟩)
  go_ret
  exact ⟨rfl, rfl⟩
set_option maxRecDepth 100000 in
theorem BestOrder1_any (l : List Area) (a : Option Addr) (cap : Nat) (s : Int) (b1 b2 : Nat) (W : World) (c1 : W.cell? ⟨b1, 0, none⟩ = some (.slice a l.length cap)) (c2 : W.cell? ⟨b2, 0, none⟩ = some (.int .i64 s)) (H : AreaAt W a l)
    (av : Option Addr) (cv : Nat) (ord : List Int) (H2 : IntAt W av ord) (hok : WorthOk l ord) (hs : 0 ≤ s) (hs2 : s ≤ 10000) (hlen : ord.length ≤ 1048576) :
    Gives Tryd.prog 21 #[.slice av ord.length cv, .pointer (some ⟨b1, 0, none⟩), .pointer (some ⟨b2, 0, none⟩)] W (.int .i64 (worthAt l ord s ord.length)) := by
  unfold Gives
  have HW := Lib.hid (worthOfOrder_any a cap l av cv ord s W H H2 hok hs hs2 hlen)
  have h1 := block_lt c1
  have h2 := block_lt c2
  clear H H2 hok
  go_enter Tryd.func21, Tryd.ntmps21
  go_wp2_with (go_at_call 22; refine HW.out.mono ?_; rintro e w' ⟨rfl, y, rfl⟩)
  go_ret
  exact ⟨rfl, (by repeat (first | exact Ext.refl _ | refine Ext.lift ?_ _ | refine Ext.alloc ?_ _))⟩
set_option maxRecDepth 100000 in
set_option maxHeartbeats 8000000 in
theorem implBestOrder_any (w : World) (a : Option Addr) (cap : Nat) (l : List Area) (H : AreaAt w a l) (hsz : ∀ k, k < l.length → (nth l k).Small) (hn : l.length ≤ 1048576) (hcap : l.length ≤ cap) (s b : Int) :
    Calls Tryd.prog 7 #[.slice a l.length cap, .int .i64 s, .int .i64 b] w (OutS 2 1 (fun (x : Int) (_ : Nat) => Value.int .i64 x) w (ordV l s b) [.int .i64 (ordG l s b), .int .i64 (ordC l s b)]) := by
  have _ := hcap
  have HA := Lib.hid H
  have HV := Lib.hid fun (W : World) (he : Ext w W) => ValidAreas_any a cap l W (H.ext he) (area_sz hsz) (by omega)
  have hC : Hid (ordC l s b = srC (validAreas l) (ordOk s b) (visO l s b)) := rfl
  have hG : Hid (ordG l s b = srG (validAreas l) (ordOk s b) (visO l s b)) := rfl
  have hL : Hid (ordV l s b = srV (validAreas l) (ordOk s b) (visO l s b)) := rfl
  clear H hsz
  cases h1 : validAreas l
  · rw [h1] at HV hC hG hL
    clear h1
    go_enter Tryd.func7, Tryd.ntmps7
    go_wp2_with (go_at_call 18; refine (HV.out _ (by repeat (first | exact Ext.refl _ | refine Ext.lift ?_ _ | refine Ext.alloc ?_ _))).mono ?_; rintro e w' ⟨rfl, y, rfl⟩)
    go_ret3
    rw [hC.out, hG.out, hL.out]
    exact OutS.nil none 0 rfl (by repeat (first | exact Ext.refl _ | refine Ext.lift ?_ _ | refine Ext.alloc ?_ _))
  rw [h1] at HV hC hG hL
  have hv1 := Lib.hid h1
  clear h1
  have HO : Hid (ordOk s b = (inB s 0 1000 && inB b 1 20000)) := rfl
  cases h2 : inB s 0 1000
  · have hk : Hid (ordOk s b = false) := by show _ = _; rw [HO.out, h2]; rfl
    rw [hk.out] at hC hG hL
    go_enter Tryd.func7, Tryd.ntmps7
    go_wp2_with (first | (go_at_call 18; refine (HV.out _ (by repeat (first | exact Ext.refl _ | refine Ext.lift ?_ _ | refine Ext.alloc ?_ _))).mono ?_; rintro e w' ⟨rfl, y, rfl⟩) | (go_at_call 19; refine (lateOk_any _ _).mono ?_; rintro e w' ⟨rfl, rfl⟩; rw [h2]))
    go_ret3
    rw [hC.out, hG.out, hL.out]
    exact OutS.nil none 0 rfl (by repeat (first | exact Ext.refl _ | refine Ext.lift ?_ _ | refine Ext.alloc ?_ _))
  cases h3 : inB b 1 20000
  · have hk : Hid (ordOk s b = false) := by show _ = _; rw [HO.out, h2, h3]; rfl
    rw [hk.out] at hC hG hL
    go_enter Tryd.func7, Tryd.ntmps7
    go_wp2_with (first | (go_at_call 18; refine (HV.out _ (by repeat (first | exact Ext.refl _ | refine Ext.lift ?_ _ | refine Ext.alloc ?_ _))).mono ?_; rintro e w' ⟨rfl, y, rfl⟩) | (go_at_call 19; refine (lateOk_any _ _).mono ?_; rintro e w' ⟨rfl, rfl⟩; rw [h2]) | (go_at_call 20; refine (budgetValid_any _ _).mono ?_; rintro e w' ⟨rfl, rfl⟩; rw [h3]))
    go_ret3
    rw [hC.out, hG.out, hL.out]
    exact OutS.nil none 0 rfl (by repeat (first | exact Ext.refl _ | refine Ext.lift ?_ _ | refine Ext.alloc ?_ _))
  have hk : Hid (ordOk s b = true) := by show _ = _; rw [HO.out, h2, h3]; rfl
  rw [hk.out] at hC hG hL
  have hb2 := inB_iff.1 h2
  have hb3 := inB_iff.1 h3
  have hl8 : l.length ≤ 8 := (validAreas_all hv1.out).1
  obtain ⟨hs0, hs1⟩ := hb2
  obtain ⟨hbb0, hbb1⟩ := hb3
  obtain ⟨R, hR⟩ : ∃ R, R = visO l s b := ⟨_, rfl⟩
  rw [← hR] at hC hG hL
  have hRh := Lib.hid hR
  clear hR HO hk
  go_enter Tryd.func7, Tryd.ntmps7
  repeat (first | go_values | go_skip | go_guarded | go_step | go_upon | go_back)
  refine (HV.out _ (by repeat (first | exact Ext.refl _ | refine Ext.lift ?_ _ | refine Ext.alloc ?_ _))).mono ?_
  rintro e w' ⟨rfl, yb, rfl⟩
  try dsimp only
  repeat (first | go_values | go_skip | go_guarded | go_step | go_upon | go_back)
  refine (lateOk_any _ _).mono ?_
  rintro e w' ⟨rfl, rfl⟩
  rw [h2]
  try dsimp only
  repeat (first | go_values | go_skip | go_guarded | go_step | go_upon | go_back)
  refine (budgetValid_any _ _).mono ?_
  rintro e w' ⟨rfl, rfl⟩
  rw [h3]
  clear h2 h3 HV
  obtain ⟨w0, hw0⟩ : ∃ w0, w0 = lift ((w.alloc (.cells #[.slice a l.length cap] 24)).alloc (.cells #[.int .i64 s] 2)) yb := ⟨_, rfl⟩
  have E0 : Ext w w0 := by rw [hw0]; exact (by repeat (first | exact Ext.refl _ | refine Ext.lift ?_ _ | refine Ext.alloc ?_ _))
  have k1 : w0.cell? ⟨w.heap.size, 0, none⟩ = some (.slice a l.length cap) := by rw [hw0]; go_simp
  have k2 : w0.cell? ⟨w.heap.size + 1, 0, none⟩ = some (.int .i64 s) := by rw [hw0]; go_simp
  have l1 := block_lt k1
  have l2 := block_lt k2
  rw [← hw0]
  clear hw0
  have HWF := Lib.hid fun (W : World) (av : Option Addr) (cv : Nat) (ord : List Int) (he : Ext w0 W) (hr : IntAt W av ord) (hlen : ord.length = l.length) (hin : InMany l.length ord) =>
    BestOrder1_any l a cap s w.heap.size (w.heap.size + 1) W (he.cell k1) (he.cell k2) (HA.out.ext (E0.trans he)) av cv ord hr (hin.worth hv1.out) hs0 (by omega) (by omega)
  have eg : Enters Tryd.prog 21 := enters_of Tryd.func21 (by kernel_rfl) rfl
  have HVIS := Lib.hid fun (W : World) hLI => visitL_any (fun o => worthAt l o s o.length) l.length l.length true 21 #[.pointer (some ⟨w.heap.size, 0, none⟩), .pointer (some ⟨w.heap.size + 1, 0, none⟩)] eg w0 hl8 hl8 HWF.out w0.heap.size l.length [] (InMany.nil _) (by simp) ⟨[], -1, b⟩ W none 0 none 0 hLI (by show 0 ≤ b; omega)
  clear eg HWF
  have hLI : Hid (LI w0 (w0.alloc (.cells #[.int .i64 (l.length : Int), .int .i64 (l.length : Int), .bool true, .int .i64 b, .func (.func 21) #[] #[.pointer (some ⟨w.heap.size, 0, none⟩), .pointer (some ⟨w.heap.size + 1, 0, none⟩)], .slice none 0 0, .slice none 0 0, .int .i64 (-1)] 48)) l.length l.length true (.func (.func 21) #[] #[.pointer (some ⟨w.heap.size, 0, none⟩), .pointer (some ⟨w.heap.size + 1, 0, none⟩)]) w0.heap.size ⟨[], -1, b⟩ [] none 0 none 0) :=
    ⟨⟨(Ext.refl w0).alloc _, Nat.le_refl _, Objt.new w0 #[.int .i64 (l.length : Int), .int .i64 (l.length : Int), .bool true, .int .i64 b, .func (.func 21) #[] #[.pointer (some ⟨w.heap.size, 0, none⟩), .pointer (some ⟨w.heap.size + 1, 0, none⟩)], .slice none 0 0, .slice none 0 0, .int .i64 (-1)] _ (fun j hj => by
      have hj8 : j < 8 := hj
      rcases (show j = 0 ∨ j = 1 ∨ j = 2 ∨ j = 3 ∨ j = 4 ∨ j = 5 ∨ j = 6 ∨ j = 7 by omega) with rfl | rfl | rfl | rfl | rfl | rfl | rfl | rfl <;> rfl), Lst.nil _ _, .inl rfl, RowsAt.nil, fun b o s e e2 => by cases e2⟩, Nat.le_refl _, Nat.le_refl _, by show -1 ≤ b; omega, by show b ≤ 20000; omega⟩
  try dsimp only
  repeat (first | go_values | go_skip | go_guarded | go_step | go_upon | go_back)
  refine (HVIS.out _ hLI.out).mono ?_
  clear hLI
  rintro e w2 ⟨rfl, av, cv, ab, cb, hV⟩
  change LI _ _ _ _ _ _ _ (visO l s b) _ _ _ _ _ at hV
  rw [← hRh.out] at hV
  have V := Lib.hid hV
  have T : Hid (Ext w w2) := E0.trans V.out.srch.ext
  have hz : w.heap.size ≤ w0.heap.size := E0.size
  clear hV HVIS
  obtain ⟨hgl, c0, c1, c2, c3, c4, c5, c6, c7⟩ := V.out.cells
  rcases Int.lt_or_le R.left 0 with hl | hl
  · have hv := Lib.hid (sr_5 hl)
    have hd : decide (R.left < 0) = true := decide_eq_true hl
    go_wp2_with fail
    go_ret3
    rw [hC.out, hG.out, hL.out, hv.out.1, hv.out.2.1, hv.out.2.2]
    exact OutS.nil none 0 rfl T.out
  · have hv := Lib.hid (sr_0 hl)
    have hd : decide (R.left < 0) = false := decide_eq_false (by omega)
    go_wp2_with fail
    refine region_quiet (by kernel_rfl) (by kernel_rfl) ?_
    repeat (any_goals (first | go_big_quiet_step (fail) | quiet_step (fail)))
    refine wpQuiet_nil ?_
    intro _ hw'
    obtain ⟨y, hw''⟩ := hw'
    subst hw''
    go_wp2_with fail
    go_ret3
    rw [hC.out, hG.out, hL.out, hv.out.1, hv.out.2.1, hv.out.2.2]
    exact OutS.mk rfl V.out.capb ((V.out.srch.own.mono (by omega)).ext (by repeat (first | exact Ext.refl _ | refine Ext.lift ?_ _ | refine Ext.alloc ?_ _))) (V.out.srch.row.ext (by repeat (first | exact Ext.refl _ | refine Ext.lift ?_ _ | refine Ext.alloc ?_ _))) (T.out.lift _)
end Go.Proofs.YtccbcjopmkmipaaDoor
