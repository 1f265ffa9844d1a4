/- Chapter 25: BestOrder of the program and of the reference. -/
import Derived.Test.YtcmgijidehlkjaaLsS
namespace Go.Proofs.Ytcmgijidehlkjaa
open Go.RowKit
@[go_sem] theorem run_store_nilFunc {P : Program} {w : World} {a : Addr} {m : Mode} : (store a .nilFunc m).run P w = stored P w a .nilFunc m := run_store P w a _ m rfl
@[go_sem] theorem run_store_func {P : Program} {w : World} {a : Addr} {m : Mode} (fn : Fn) (fi ca : Array Value) : (store a (.func fn fi ca) m).run P w = stored P w a (.func fn fi ca) m := run_store P w a _ m rfl
/-- What a search through lists hands back, behind its checks. -/
def srC (ok1 ok2 : Bool) (r : Sr) : Int := if ok1 = true then (if ok2 = true then (if r.left < 0 then 5 else 0) else 2) else 1
def srV (ok1 ok2 : Bool) (r : Sr) : List Int := if srC ok1 ok2 r = 0 then r.best else []
def srG (ok1 ok2 : Bool) (r : Sr) : Int := if srC ok1 ok2 r = 0 then r.most else 0
theorem sr_1 {ok2 : Bool} {r : Sr} : srC false ok2 r = 1 ∧ srV false ok2 r = [] ∧ srG false ok2 r = 0 := ⟨rfl, rfl, rfl⟩
theorem sr_2 {r : Sr} : srC true false r = 2 ∧ srV true false r = [] ∧ srG true false r = 0 := ⟨rfl, rfl, rfl⟩
theorem sr_5 {r : Sr} (h : r.left < 0) : srC true true r = 5 ∧ srV true true r = [] ∧ srG true true r = 0 := by
  have e : srC true true r = 5 := by unfold srC; rw [if_pos rfl, if_pos rfl, if_pos h]
  exact ⟨e, by unfold srV; rw [if_neg (by rw [e]; decide)], by unfold srG; rw [if_neg (by rw [e]; decide)]⟩
theorem sr_0 {r : Sr} (h : 0 ≤ r.left) : srC true true r = 0 ∧ srV true true r = r.best ∧ srG true true r = r.most := by
  have e : srC true true r = 0 := by unfold srC; rw [if_pos rfl, if_pos rfl, if_neg (by omega)]
  exact ⟨e, by unfold srV; rw [if_pos e], by unfold srG; rw [if_pos e]⟩
theorem srV_len {ok1 ok2 : Bool} {r : Sr} {n : Nat} (h : r.best.length ≤ n) : (srV ok1 ok2 r).length ≤ n := by
  unfold srV; split
  · exact h
  · simp
theorem InMany.worth {l : List Area} {ord : List Int} (h1 : validAreas l = true) (h : InMany l.length ord) : WorthOk l ord :=
  ⟨fun k hk => okAt_area ((validAreas_all h1).2.1 k hk), fun k hk => h k hk⟩
def visO (l : List Area) (s b : Int) : Sr := visL true (fun o => worthAt l o s o.length) l.length l.length [] ⟨[], -1, b⟩
def ordOk (s b : Int) : Bool := inB s 0 1000 && inB b 1 20000
def ordC (l : List Area) (s b : Int) : Int := srC (validAreas l) (ordOk s b) (visO l s b)
def ordV (l : List Area) (s b : Int) : List Int := srV (validAreas l) (ordOk s b) (visO l s b)
def ordG (l : List Area) (s b : Int) : Int := srG (validAreas l) (ordOk s b) (visO l s b)
theorem ordV_len (l : List Area) (s b : Int) : (ordV l s b).length ≤ l.length := by
  have := visL_len (diff := true) (worth := fun o => worthAt l o s o.length) (many := l.length) l.length (ord := []) (s := ⟨[], -1, b⟩) (by simp)
  exact srV_len (by unfold visO; simpa using this)
theorem area_sz {l : List Area} (h : ∀ k, k < l.length → (nth l k).Small) : AreaSz l := fun k hk => by have := h k hk; unfold Area.Small at this; omega
theorem budgetValid_any (n : Int) (w : World) : Calls Try.prog 37 #[.int .i64 n] w fun e w' => e = .returned (.bool (inB n 1 20000)) ∧ w' = w := by
  go_enter Try.func37, Try.ntmps37
  go_wp2_with (go_at_call 43; refine (within_any _ _ _ _).mono ?_; rintro e w' ⟨rfl, rfl⟩)
  go_ret
  exact ⟨rfl, rfl⟩
theorem l25Budget_any (a : Option Addr) (cap : Nat) (l : List Area) (s b : Int) (w : World) (H : AreaAt w a l) (hsz : AreaSz l) (hlen : l.length ≤ 1000000000000) (c : Int) (hc : (if validAreas l = true then (if ordOk s b = true then 0 else 2) else 1) = c) :
    Gives Try.prog 32 #[.slice a l.length cap, .int .i64 s, .int .i64 b] w (.int .i64 c) := by
  unfold Gives
  have HV := Lib.hid (l25Ok_any a cap l w H hsz hlen)
  have hch := Lib.hid hc
  clear H hsz hc
  cases h1 : validAreas l
  · rw [h1] at HV
    have hcv : Hid (1 = c) := by show _ = _; rw [← hch.out, h1]; rfl
    clear h1 hch
    go_enter Try.func32, Try.ntmps32
    go_wp2_with (go_at_call 30; refine HV.out.mono ?_; rintro e w' ⟨rfl, y, rfl⟩)
    go_ret
    exact ⟨ret_int hcv.out, (by repeat (first | exact Ext.refl _ | refine Ext.lift ?_ _ | refine Ext.alloc ?_ _))⟩
  · rw [h1] at HV
    have hv : Hid (ordOk s b = (inB s 0 1000 && inB b 1 20000)) := rfl
    cases h2 : inB s 0 1000 <;> cases h3 : inB b 1 20000
    all_goals
      first
        | have hcv : Hid (0 = c) := by show _ = _; rw [← hch.out, h1, hv.out, h2, h3]; rfl
        | have hcv : Hid (2 = c) := by show _ = _; rw [← hch.out, h1, hv.out, h2, h3]; rfl
      clear hch
      go_enter Try.func32, Try.ntmps32
      go_wp2_with (first | (go_at_call 30; refine HV.out.mono ?_; rintro e w' ⟨rfl, y, rfl⟩) | (go_at_call 31; refine (l25Late_any _ _).mono ?_; rintro e w' ⟨rfl, rfl⟩; rw [h2]) | (go_at_call 41; refine (l00In_any _ _ _ _).mono ?_; rintro e w' ⟨rfl, rfl⟩; rw [h3]))
      go_ret
      exact ⟨ret_int hcv.out, (by repeat (first | exact Ext.refl _ | refine Ext.lift ?_ _ | refine Ext.alloc ?_ _))⟩
set_option maxRecDepth 100000 in
theorem BestOrder1_any (l : List Area) (a : Option Addr) (cap : Nat) (s : Int) (b1 b2 : Nat) (W : World) (c1 : W.cell? ⟨b1, 0, none⟩ = some (.slice a l.length cap)) (c2 : W.cell? ⟨b2, 0, none⟩ = some (.int .i64 s)) (H : AreaAt W a l)
    (av : Option Addr) (cv : Nat) (ord : List Int) (H2 : IntAt W av ord) (hok : WorthOk l ord) (hs : 0 ≤ s) (hs2 : s ≤ 10000) (hlen : ord.length ≤ 1048576) :
    Gives Try.prog 38 #[.slice av ord.length cv, .pointer (some ⟨b1, 0, none⟩), .pointer (some ⟨b2, 0, none⟩)] W (.int .i64 (worthAt l ord s ord.length)) := by
  unfold Gives
  have HW := Lib.hid (worthOfOrder_any a cap l av cv ord s W H H2 hok hs hs2 hlen)
  have h1 := block_lt c1
  have h2 := block_lt c2
  clear H H2 hok
  go_enter Try.func38, Try.ntmps38
  go_wp2_with (go_at_call 28; refine HW.out.mono ?_; rintro e w' ⟨rfl, y, rfl⟩)
  go_ret
  exact ⟨rfl, (by repeat (first | exact Ext.refl _ | refine Ext.lift ?_ _ | refine Ext.alloc ?_ _))⟩
set_option maxRecDepth 100000 in
set_option maxHeartbeats 8000000 in
theorem implBestOrder_any (w : World) (a : Option Addr) (cap : Nat) (l : List Area) (H : AreaAt w a l) (hsz : ∀ k, k < l.length → (nth l k).Small) (hn : l.length ≤ 1048576) (hcap : l.length ≤ cap) (s b : Int) :
    Calls Try.prog 17 #[.slice a l.length cap, .int .i64 s, .int .i64 b] w (OutS 2 1 (fun (x : Int) (_ : Nat) => Value.int .i64 x) w (ordV l s b) [.int .i64 (ordG l s b), .int .i64 (ordC l s b)]) := by
  have _ := hcap
  have HA := Lib.hid H
  have HV := Lib.hid fun (W : World) (he : Ext w W) => ValidAreas_any a cap l W (H.ext he) (area_sz hsz) (by omega)
  have hC : Hid (ordC l s b = srC (validAreas l) (ordOk s b) (visO l s b)) := rfl
  have hG : Hid (ordG l s b = srG (validAreas l) (ordOk s b) (visO l s b)) := rfl
  have hL : Hid (ordV l s b = srV (validAreas l) (ordOk s b) (visO l s b)) := rfl
  clear H hsz
  cases h1 : validAreas l
  · rw [h1] at HV hC hG hL
    clear h1
    go_enter Try.func17, Try.ntmps17
    go_wp2_with (go_at_call 35; refine (HV.out _ (by repeat (first | exact Ext.refl _ | refine Ext.lift ?_ _ | refine Ext.alloc ?_ _))).mono ?_; rintro e w' ⟨rfl, y, rfl⟩)
    go_ret3
    rw [hC.out, hG.out, hL.out]
    exact OutS.nil none 0 rfl (by repeat (first | exact Ext.refl _ | refine Ext.lift ?_ _ | refine Ext.alloc ?_ _))
  rw [h1] at HV hC hG hL
  have hv1 := Lib.hid h1
  clear h1
  have HO : Hid (ordOk s b = (inB s 0 1000 && inB b 1 20000)) := rfl
  cases h2 : inB s 0 1000
  · have hk : Hid (ordOk s b = false) := by show _ = _; rw [HO.out, h2]; rfl
    rw [hk.out] at hC hG hL
    go_enter Try.func17, Try.ntmps17
    go_wp2_with (first | (go_at_call 35; refine (HV.out _ (by repeat (first | exact Ext.refl _ | refine Ext.lift ?_ _ | refine Ext.alloc ?_ _))).mono ?_; rintro e w' ⟨rfl, y, rfl⟩) | (go_at_call 36; refine (lateOk_any _ _).mono ?_; rintro e w' ⟨rfl, rfl⟩; rw [h2]))
    go_ret3
    rw [hC.out, hG.out, hL.out]
    exact OutS.nil none 0 rfl (by repeat (first | exact Ext.refl _ | refine Ext.lift ?_ _ | refine Ext.alloc ?_ _))
  cases h3 : inB b 1 20000
  · have hk : Hid (ordOk s b = false) := by show _ = _; rw [HO.out, h2, h3]; rfl
    rw [hk.out] at hC hG hL
    go_enter Try.func17, Try.ntmps17
    go_wp2_with (first | (go_at_call 35; refine (HV.out _ (by repeat (first | exact Ext.refl _ | refine Ext.lift ?_ _ | refine Ext.alloc ?_ _))).mono ?_; rintro e w' ⟨rfl, y, rfl⟩) | (go_at_call 36; refine (lateOk_any _ _).mono ?_; rintro e w' ⟨rfl, rfl⟩; rw [h2]) | (go_at_call 37; refine (budgetValid_any _ _).mono ?_; rintro e w' ⟨rfl, rfl⟩; rw [h3]))
    go_ret3
    rw [hC.out, hG.out, hL.out]
    exact OutS.nil none 0 rfl (by repeat (first | exact Ext.refl _ | refine Ext.lift ?_ _ | refine Ext.alloc ?_ _))
  have hk : Hid (ordOk s b = true) := by show _ = _; rw [HO.out, h2, h3]; rfl
  rw [hk.out] at hC hG hL
  have hb2 := inB_iff.1 h2
  have hb3 := inB_iff.1 h3
  have hl8 : l.length ≤ 8 := (validAreas_all hv1.out).1
  obtain ⟨hs0, hs1⟩ := hb2
  obtain ⟨hbb0, hbb1⟩ := hb3
  obtain ⟨R, hR⟩ : ∃ R, R = visO l s b := ⟨_, rfl⟩
  rw [← hR] at hC hG hL
  have hRh := Lib.hid hR
  clear hR HO hk
  go_enter Try.func17, Try.ntmps17
  repeat (first | go_values | go_skip | go_guarded | go_step | go_upon | go_back)
  refine (HV.out _ (by repeat (first | exact Ext.refl _ | refine Ext.lift ?_ _ | refine Ext.alloc ?_ _))).mono ?_
  rintro e w' ⟨rfl, yb, rfl⟩
  try dsimp only
  repeat (first | go_values | go_skip | go_guarded | go_step | go_upon | go_back)
  refine (lateOk_any _ _).mono ?_
  rintro e w' ⟨rfl, rfl⟩
  rw [h2]
  try dsimp only
  repeat (first | go_values | go_skip | go_guarded | go_step | go_upon | go_back)
  refine (budgetValid_any _ _).mono ?_
  rintro e w' ⟨rfl, rfl⟩
  rw [h3]
  clear h2 h3 HV
  obtain ⟨w0, hw0⟩ : ∃ w0, w0 = lift ((w.alloc (.cells #[.slice a l.length cap] 27)).alloc (.cells #[.int .i64 s] 2)) yb := ⟨_, rfl⟩
  have E0 : Ext w w0 := by rw [hw0]; exact (by repeat (first | exact Ext.refl _ | refine Ext.lift ?_ _ | refine Ext.alloc ?_ _))
  have k1 : w0.cell? ⟨w.heap.size, 0, none⟩ = some (.slice a l.length cap) := by rw [hw0]; go_simp
  have k2 : w0.cell? ⟨w.heap.size + 1, 0, none⟩ = some (.int .i64 s) := by rw [hw0]; go_simp
  have l1 := block_lt k1
  have l2 := block_lt k2
  rw [← hw0]
  clear hw0
  have HWF := Lib.hid fun (W : World) (av : Option Addr) (cv : Nat) (ord : List Int) (he : Ext w0 W) (hr : IntAt W av ord) (hlen : ord.length = l.length) (hin : InMany l.length ord) =>
    BestOrder1_any l a cap s w.heap.size (w.heap.size + 1) W (he.cell k1) (he.cell k2) (HA.out.ext (E0.trans he)) av cv ord hr (hin.worth hv1.out) hs0 (by omega) (by omega)
  have eg : Enters Try.prog 38 := enters_of Try.func38 (by kernel_rfl) rfl
  have HVIS := Lib.hid fun (W : World) hLI => visitL_any (fun o => worthAt l o s o.length) l.length l.length true 38 #[.pointer (some ⟨w.heap.size, 0, none⟩), .pointer (some ⟨w.heap.size + 1, 0, none⟩)] eg w0 hl8 hl8 HWF.out w0.heap.size l.length [] (InMany.nil _) (by simp) ⟨[], -1, b⟩ W none 0 none 0 hLI (by show 0 ≤ b; omega)
  clear eg HWF
  have hLI : Hid (LI w0 (w0.alloc (.cells #[.int .i64 (l.length : Int), .int .i64 (l.length : Int), .bool true, .int .i64 b, .func (.func 38) #[] #[.pointer (some ⟨w.heap.size, 0, none⟩), .pointer (some ⟨w.heap.size + 1, 0, none⟩)], .slice none 0 0, .slice none 0 0, .int .i64 (-1)] 59)) l.length l.length true (.func (.func 38) #[] #[.pointer (some ⟨w.heap.size, 0, none⟩), .pointer (some ⟨w.heap.size + 1, 0, none⟩)]) w0.heap.size ⟨[], -1, b⟩ [] none 0 none 0) :=
    ⟨⟨(Ext.refl w0).alloc _, Nat.le_refl _, Objt.new w0 #[.int .i64 (l.length : Int), .int .i64 (l.length : Int), .bool true, .int .i64 b, .func (.func 38) #[] #[.pointer (some ⟨w.heap.size, 0, none⟩), .pointer (some ⟨w.heap.size + 1, 0, none⟩)], .slice none 0 0, .slice none 0 0, .int .i64 (-1)] _ (fun j hj => by
      have hj8 : j < 8 := hj
      rcases (show j = 0 ∨ j = 1 ∨ j = 2 ∨ j = 3 ∨ j = 4 ∨ j = 5 ∨ j = 6 ∨ j = 7 by omega) with rfl | rfl | rfl | rfl | rfl | rfl | rfl | rfl <;> rfl), Lst.nil _ _, .inl rfl, RowsAt.nil, fun b o s e e2 => by cases e2⟩, Nat.le_refl _, Nat.le_refl _, by show -1 ≤ b; omega, by show b ≤ 20000; omega⟩
  try dsimp only
  repeat (first | go_values | go_skip | go_guarded | go_step | go_upon | go_back)
  refine (HVIS.out _ hLI.out).mono ?_
  clear hLI
  rintro e w2 ⟨rfl, av, cv, ab, cb, hV⟩
  change LI _ _ _ _ _ _ _ (visO l s b) _ _ _ _ _ at hV
  rw [← hRh.out] at hV
  have V := Lib.hid hV
  have T : Hid (Ext w w2) := E0.trans V.out.srch.ext
  have hz : w.heap.size ≤ w0.heap.size := E0.size
  clear hV HVIS
  obtain ⟨hgl, c0, c1, c2, c3, c4, c5, c6, c7⟩ := V.out.cells
  rcases Int.lt_or_le R.left 0 with hl | hl
  · have hv := Lib.hid (sr_5 hl)
    have hd : decide (R.left < 0) = true := decide_eq_true hl
    go_wp2_with fail
    go_ret3
    rw [hC.out, hG.out, hL.out, hv.out.1, hv.out.2.1, hv.out.2.2]
    exact OutS.nil none 0 rfl T.out
  · have hv := Lib.hid (sr_0 hl)
    have hd : decide (R.left < 0) = false := decide_eq_false (by omega)
    go_wp2_with fail
    refine region_quiet (by kernel_rfl) (by kernel_rfl) ?_
    repeat (any_goals (first | go_big_quiet_step (fail) | quiet_step (fail)))
    refine wpQuiet_nil ?_
    intro _ hw'
    obtain ⟨y, hw''⟩ := hw'
    subst hw''
    go_wp2_with fail
    go_ret3
    rw [hC.out, hG.out, hL.out, hv.out.1, hv.out.2.1, hv.out.2.2]
    exact OutS.mk rfl V.out.capb ((V.out.srch.own.mono (by omega)).ext (by repeat (first | exact Ext.refl _ | refine Ext.lift ?_ _ | refine Ext.alloc ?_ _))) (V.out.srch.row.ext (by repeat (first | exact Ext.refl _ | refine Ext.lift ?_ _ | refine Ext.alloc ?_ _))) (T.out.lift _)
set_option maxRecDepth 100000 in
set_option maxHeartbeats 8000000 in
theorem specBestOrder_any (w : World) (a : Option Addr) (cap : Nat) (l : List Area) (H : AreaAt w a l) (hsz : ∀ k, k < l.length → (nth l k).Small) (hn : l.length ≤ 1048576) (hcap : l.length ≤ cap) (s b : Int) :
    Calls Try.prog 16 #[.slice a l.length cap, .int .i64 s, .int .i64 b] w (OutR 1 (fun (x : Int) (_ : Nat) => Value.int .i64 x) w (ordV l s b) [.int .i64 (ordG l s b), .int .i64 (ordC l s b)]) := by
  have _ := hcap
  have HA := Lib.hid H
  have HB := Lib.hid fun (c : Int) hc => l25Budget_any a cap l s b w H (area_sz hsz) (by omega) c hc
  have hC : Hid (ordC l s b = srC (validAreas l) (ordOk s b) (visO l s b)) := rfl
  have hG : Hid (ordG l s b = srG (validAreas l) (ordOk s b) (visO l s b)) := rfl
  have hL : Hid (ordV l s b = srV (validAreas l) (ordOk s b) (visO l s b)) := rfl
  clear H hsz
  cases h1 : validAreas l
  · rw [h1] at hC hG hL
    have HB1 := Lib.hid (HB.out 1 (by rw [h1]; rfl))
    clear h1 HB
    go_enter Try.func16, Try.ntmps16
    go_wp2_with (go_at_call 32; refine HB1.out.mono ?_; rintro e w' ⟨rfl, y, rfl⟩)
    go_ret3
    rw [hC.out, hG.out, hL.out]
    exact (OutS.nil (T := 2) none 0 rfl (by repeat (first | exact Ext.refl _ | refine Ext.lift ?_ _ | refine Ext.alloc ?_ _))).read
  rw [h1] at hC hG hL
  have hv1 := Lib.hid h1
  cases h2 : ordOk s b
  · rw [h2] at hC hG hL
    have HB1 := Lib.hid (HB.out 2 (by rw [h1, h2]; rfl))
    clear h1 HB h2
    go_enter Try.func16, Try.ntmps16
    go_wp2_with (go_at_call 32; refine HB1.out.mono ?_; rintro e w' ⟨rfl, y, rfl⟩)
    go_ret3
    rw [hC.out, hG.out, hL.out]
    exact (OutS.nil (T := 2) none 0 rfl (by repeat (first | exact Ext.refl _ | refine Ext.lift ?_ _ | refine Ext.alloc ?_ _))).read
  rw [h2] at hC hG hL
  have HB1 := Lib.hid (HB.out 0 (by rw [h1, h2]; rfl))
  have hh := h2
  unfold ordOk at hh
  simp only [Bool.and_eq_true, inB_iff] at hh
  obtain ⟨⟨hs0, hs1⟩, hbb0, hbb1⟩ := hh
  have hl8 : l.length ≤ 8 := (validAreas_all hv1.out).1
  clear h1 h2 HB
  have hlenR : Hid ((visO l s b).best.length ≤ l.length) := by
    have := visL_len (diff := true) (worth := fun o => worthAt l o s o.length) (many := l.length) l.length (ord := []) (s := ⟨[], -1, b⟩) (by simp)
    show _ ≤ _; unfold visO; simpa using this
  obtain ⟨R, hR⟩ : ∃ R, R = visO l s b := ⟨_, rfl⟩
  rw [← hR] at hC hG hL
  have hRh := Lib.hid hR
  have hvr : Hid (visL true (fun o => worthAt l o s o.length) l.length l.length [] ⟨[], -1, b⟩ = R) := hR.symm
  clear hR
  go_enter Try.func16, Try.ntmps16
  go_wp2_with fail
  refine HB1.out.mono ?_
  rintro e w' ⟨rfl, yb, rfl⟩
  have E0 : Ext w (lift w yb) := (by repeat (first | exact Ext.refl _ | refine Ext.lift ?_ _ | refine Ext.alloc ?_ _))
  generalize lift w yb = w0 at *
  have HWF := Lib.hid fun (W : World) (av : Option Addr) (cv : Nat) (ord : List Int) (he : Ext w0 W) (hr : IntAt W av ord) (hlen : ord.length = l.length) (hin : InMany l.length ord) =>
    l25Worth_any a cap l av cv ord s W (HA.out.ext (E0.trans he)) hr (hin.worth hv1.out) hs0 (by omega) (by omega)
  have HVIS := Lib.hid fun (W : World) hLI => order_any (fun o => worthAt l o s o.length) l l.length s b a cap hbb1 w0 hl8 hl8 rfl HWF.out w0.heap.size l.length [] (InMany.nil _) (by simp) ⟨[], -1, b⟩ W none 0 none 0 hLI (by show 0 ≤ b; omega)
  clear HWF HB1
  have hLS : Hid (LS w0 (w0.alloc (.cells #[.slice a l.length cap, .int .i64 s, .int .i64 0, .slice none 0 0, .slice none 0 0, .int .i64 (-1), .int .i64 0, .int .i64 b] 55)) a l.length cap s 0 b w0.heap.size ⟨[], -1, b⟩ [] none 0 none 0) :=
    ⟨⟨(Ext.refl w0).alloc _, Nat.le_refl _, Objt.new w0 #[.slice a l.length cap, .int .i64 s, .int .i64 0, .slice none 0 0, .slice none 0 0, .int .i64 (-1), .int .i64 0, .int .i64 b] _ (fun j hj => by
      have hj8 : j < 8 := hj
      rcases (show j = 0 ∨ j = 1 ∨ j = 2 ∨ j = 3 ∨ j = 4 ∨ j = 5 ∨ j = 6 ∨ j = 7 by omega) with rfl | rfl | rfl | rfl | rfl | rfl | rfl | rfl
      all_goals first | rfl | (show some (Value.int .i64 0) = some (Value.int .i64 (b - b)); rw [Int.sub_self])), Lst.nil _ _, .inl rfl, RowsAt.nil, fun b o s e e2 => by cases e2⟩, Nat.le_refl _, Nat.le_refl _, fun _ => rfl, by show -1 ≤ b; omega, by show b ≤ b; omega⟩
  try dsimp only
  repeat (first | go_values | go_skip | go_guarded | go_step | go_upon | go_back)
  refine (HVIS.out _ hLS.out).mono ?_
  clear hLS
  rintro e w2 ⟨rfl, T0, hV⟩
  rw [hvr.out] at hV ⊢
  have hVh := Lib.hid hV
  have T : Hid (Ext w w2) := E0.trans T0
  clear hV HVIS T0
  rcases Int.lt_or_le R.left 0 with hl | hl
  · have hv := Lib.hid (sr_5 hl)
    rw [decide_eq_true hl]
    go_wp2_with fail
    go_ret3
    rw [hC.out, hG.out, hL.out, hv.out.1, hv.out.2.1, hv.out.2.2]
    exact (OutS.nil (T := 2) none 0 rfl T.out).read
  · have hv := Lib.hid (sr_0 hl)
    rw [decide_eq_false (by omega)]
    obtain ⟨av, cv, ab, cb, hV8⟩ := hVh.out hl
    have V := Lib.hid hV8
    clear hV8 hVh
    have hbl : R.best.length ≤ 8 := by rw [hRh.out]; exact Nat.le_trans (hlenR.out) hl8
    have HC : Hid (∀ W, Ext w2 W → Calls Try.prog 34 #[.slice ab R.best.length cb] W (fun e w' => ∃ a' cap', e = .returned (.slice a' R.best.length cap') ∧ R.best.length ≤ cap' ∧ Own w' W.heap.size 2 1 a' R.best.length ∧ IntAt w' a' R.best ∧ Ext W w' ∧ (a' = none → cap' = 0))) := fun W he => l00Own_any ab cb R.best W (V.out.srch.row.ext he) V.out.nilb (by omega)
    obtain ⟨hgl, c0, c1, c2, c3, c4, c5, c6, c7⟩ := V.out.cells
    go_wp2_with fail
    refine Grow.region [0, 1, 2, 3, 5, 6, 7, 8] [(false, 4), (true, 9), (true, 10), (true, 11)] (by kernel_rfl) (by kernel_rfl) ?_
    simp only [Grow.pick, Grow.pickB, List.getElem?_cons_succ, List.getElem?_cons_zero]
    repeat
      refine Grow.heads_step (fun K' hK => ⟨rfl, ?_⟩)
      apply Exists.intro
      apply And.intro
      · intro w' hw'
        obtain ⟨x', rfl⟩ := hw'
        go_simp
        first | done | rfl | (rw [if_neg (by omega)]; done) | (rw [if_neg (by omega)]; rfl)
      go_simp
      refine hK _ ?_
      clear hK K'
    refine Grow.heads_nil ?_
    intro w3 e3
    refine Grow.seq_step (fun K' hK => ⟨rfl, ?_⟩)
    go_simp
    simp only [Grow.upon]
    refine (HC.out w3 e3).mono ?_
    rintro e w4 ⟨a4, cap4, rfl, hc4, -, R4, E4, -⟩
    have T4 := Lib.hid ((T.out.trans e3).trans E4)
    have R5 := Lib.hid R4
    refine ⟨_, rfl, E4, fun w7 e7 => hK _ _ ?_⟩
    clear hK K' hgl c0 c1 c2 c3 c4 c5 c6 c7 HC R4 e3 E4
    refine Grow.seq_pure (fun K' hK => ⟨rfl, ?_⟩)
    apply Exists.intro
    apply And.intro
    · intro w' hw'
      obtain ⟨x', rfl⟩ := hw'
      go_simp
      first | done | rfl | (rw [if_neg (by omega)]; done) | (rw [if_neg (by omega)]; rfl)
    intro w8 e8
    go_simp
    refine hK _ _ ?_
    clear hK K'
    refine Grow.seq_pure (fun K' hK => ⟨rfl, ?_⟩)
    apply Exists.intro
    apply And.intro
    · intro w' hw'
      obtain ⟨x', rfl⟩ := hw'
      go_simp
      first | done | rfl | (rw [if_neg (by omega)]; done) | (rw [if_neg (by omega)]; rfl)
    intro w9 e9
    go_simp
    refine hK _ _ ?_
    clear hK K'
    refine Grow.seq_pure (fun K' hK => ⟨rfl, ?_⟩)
    apply Exists.intro
    apply And.intro
    · intro w' hw'
      obtain ⟨x', rfl⟩ := hw'
      go_simp
      first | done | rfl | (rw [if_neg (by omega)]; done) | (rw [if_neg (by omega)]; rfl)
    intro w10 e10
    go_simp
    refine hK _ _ ?_
    clear hK K'
    replace e7 := e7.trans (e8.trans (e9.trans e10))
    clear e8 e9 e10
    refine Grow.seq_nil ?_
    go_wp2_with fail
    go_ret3
    rw [hC.out, hG.out, hL.out, hv.out.1, hv.out.2.1, hv.out.2.2]
    exact ⟨a4, cap4, rfl, hc4, R5.out.ext e7, T4.out.trans e7⟩
end Go.Proofs.Ytcmgijidehlkjaa
