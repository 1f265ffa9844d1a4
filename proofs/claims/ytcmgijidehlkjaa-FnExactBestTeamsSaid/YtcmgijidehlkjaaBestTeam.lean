/- Chapter 25: BestTeams of the program and of the reference. -/
import Derived.Test.YtcmgijidehlkjaaBestOrd
import Derived.Test.YtcmgijidehlkjaaTeams
namespace Go.Proofs.Ytcmgijidehlkjaa
open Go.RowKit
def visT (l : List Area) (m s b : Int) : Sr := visL false (fun o => tW l o s o.length) m.toNat l.length [] ⟨[], -1, b⟩
def teamOk (m s b : Int) : Bool := inB m 1 4 && ordOk s b
def teamC (l : List Area) (m s b : Int) : Int := srC (validAreas l) (teamOk m s b) (visT l m s b)
def teamV (l : List Area) (m s b : Int) : List Int := srV (validAreas l) (teamOk m s b) (visT l m s b)
def teamG (l : List Area) (m s b : Int) : Int := srG (validAreas l) (teamOk m s b) (visT l m s b)
theorem visT_len (l : List Area) (m s b : Int) : (visT l m s b).best.length ≤ l.length := by
  have := visL_len (diff := false) (worth := fun o => tW l o s o.length) (many := m.toNat) l.length (ord := []) (s := ⟨[], -1, b⟩) (by simp)
  unfold visT; simpa using this
theorem teamV_len (l : List Area) (m s b : Int) : (teamV l m s b).length ≤ l.length := srV_len (visT_len l m s b)
theorem InMany.teams {l : List Area} {ts : List Int} {m : Nat} (h1 : validAreas l = true) (h : InMany m ts) (hm : m ≤ 4) (hl : ts.length = l.length) : TeamsOk l ts :=
  ⟨fun k hk => okAt_area ((validAreas_all h1).2.1 k hk), fun k hk => by have := h k hk; omega, hl⟩
set_option maxRecDepth 100000 in
theorem BestTeams1_any (l : List Area) (a : Option Addr) (cap : Nat) (s : Int) (b1 b2 : Nat) (W : World) (c1 : W.cell? ⟨b1, 0, none⟩ = some (.slice a l.length cap)) (c2 : W.cell? ⟨b2, 0, none⟩ = some (.int .i64 s)) (H : AreaAt W a l)
    (av : Option Addr) (cv : Nat) (ord : List Int) (H2 : IntAt W av ord) (hok : TeamsOk l ord) (hs : 0 ≤ s) (hs2 : s ≤ 1000) (hl8 : l.length ≤ 8) :
    Gives Try.prog 44 #[.slice av ord.length cv, .pointer (some ⟨b1, 0, none⟩), .pointer (some ⟨b2, 0, none⟩)] W (.int .i64 (tW l ord s ord.length)) := by
  unfold Gives
  have HW := Lib.hid (teamsWorth_any a cap l av cv ord s W H H2 hok hs hs2 hl8)
  have h1 := block_lt c1
  have h2 := block_lt c2
  clear H H2 hok
  go_enter Try.func44, Try.ntmps44
  go_wp2_with (go_at_call 45; refine HW.out.mono ?_; rintro e w' ⟨rfl, y, rfl⟩)
  go_ret
  exact ⟨rfl, (by repeat (first | exact Ext.refl _ | refine Ext.lift ?_ _ | refine Ext.alloc ?_ _))⟩
set_option maxRecDepth 100000 in
set_option maxHeartbeats 8000000 in
theorem implBestTeams_any (w : World) (a : Option Addr) (cap : Nat) (l : List Area) (H : AreaAt w a l) (hsz : ∀ k, k < l.length → (nth l k).Small) (hn : l.length ≤ 1048576) (hcap : l.length ≤ cap) (m s b : Int) :
    Calls Try.prog 22 #[.slice a l.length cap, .int .i64 m, .int .i64 s, .int .i64 b] w (OutS 2 1 (fun (x : Int) (_ : Nat) => Value.int .i64 x) w (teamV l m s b) [.int .i64 (teamG l m s b), .int .i64 (teamC l m s b)]) := by
  have _ := hcap
  have HA := Lib.hid H
  have HV := Lib.hid fun (W : World) (he : Ext w W) => ValidAreas_any a cap l W (H.ext he) (area_sz hsz) (by omega)
  have hC : Hid (teamC l m s b = srC (validAreas l) (teamOk m s b) (visT l m s b)) := rfl
  have hG : Hid (teamG l m s b = srG (validAreas l) (teamOk m s b) (visT l m s b)) := rfl
  have hL : Hid (teamV l m s b = srV (validAreas l) (teamOk m s b) (visT l m s b)) := rfl
  clear H hsz
  cases h1 : validAreas l
  · rw [h1] at HV hC hG hL
    clear h1
    go_enter Try.func22, Try.ntmps22
    go_wp2_with (go_at_call 35; refine (HV.out _ (by repeat (first | exact Ext.refl _ | refine Ext.lift ?_ _ | refine Ext.alloc ?_ _))).mono ?_; rintro e w' ⟨rfl, y, rfl⟩)
    go_ret3
    rw [hC.out, hG.out, hL.out]
    exact OutS.nil none 0 rfl (by repeat (first | exact Ext.refl _ | refine Ext.lift ?_ _ | refine Ext.alloc ?_ _))
  rw [h1] at HV hC hG hL
  have hv1 := Lib.hid h1
  clear h1
  have HO : Hid (teamOk m s b = (inB m 1 4 && (inB s 0 1000 && inB b 1 20000))) := rfl
  cases h0 : inB m 1 4
  · have hk : Hid (teamOk m s b = false) := by show _ = _; rw [HO.out, h0]; rfl
    rw [hk.out] at hC hG hL
    go_enter Try.func22, Try.ntmps22
    go_wp2_with (first | (go_at_call 35; refine (HV.out _ (by repeat (first | exact Ext.refl _ | refine Ext.lift ?_ _ | refine Ext.alloc ?_ _))).mono ?_; rintro e w' ⟨rfl, y, rfl⟩) | (go_at_call 43; refine (within_any _ _ _ _).mono ?_; rintro e w' ⟨rfl, rfl⟩; rw [h0]))
    go_ret3
    rw [hC.out, hG.out, hL.out]
    exact OutS.nil none 0 rfl (by repeat (first | exact Ext.refl _ | refine Ext.lift ?_ _ | refine Ext.alloc ?_ _))
  cases h2 : inB s 0 1000
  · have hk : Hid (teamOk m s b = false) := by show _ = _; rw [HO.out, h0, h2]; rfl
    rw [hk.out] at hC hG hL
    go_enter Try.func22, Try.ntmps22
    go_wp2_with (first | (go_at_call 35; refine (HV.out _ (by repeat (first | exact Ext.refl _ | refine Ext.lift ?_ _ | refine Ext.alloc ?_ _))).mono ?_; rintro e w' ⟨rfl, y, rfl⟩) | (go_at_call 43; refine (within_any _ _ _ _).mono ?_; rintro e w' ⟨rfl, rfl⟩; rw [h0]) | (go_at_call 36; refine (lateOk_any _ _).mono ?_; rintro e w' ⟨rfl, rfl⟩; rw [h2]))
    go_ret3
    rw [hC.out, hG.out, hL.out]
    exact OutS.nil none 0 rfl (by repeat (first | exact Ext.refl _ | refine Ext.lift ?_ _ | refine Ext.alloc ?_ _))
  cases h3 : inB b 1 20000
  · have hk : Hid (teamOk m s b = false) := by show _ = _; rw [HO.out, h0, h2, h3]; rfl
    rw [hk.out] at hC hG hL
    go_enter Try.func22, Try.ntmps22
    go_wp2_with (first | (go_at_call 35; refine (HV.out _ (by repeat (first | exact Ext.refl _ | refine Ext.lift ?_ _ | refine Ext.alloc ?_ _))).mono ?_; rintro e w' ⟨rfl, y, rfl⟩) | (go_at_call 43; refine (within_any _ _ _ _).mono ?_; rintro e w' ⟨rfl, rfl⟩; rw [h0]) | (go_at_call 36; refine (lateOk_any _ _).mono ?_; rintro e w' ⟨rfl, rfl⟩; rw [h2]) | (go_at_call 37; refine (budgetValid_any _ _).mono ?_; rintro e w' ⟨rfl, rfl⟩; rw [h3]))
    go_ret3
    rw [hC.out, hG.out, hL.out]
    exact OutS.nil none 0 rfl (by repeat (first | exact Ext.refl _ | refine Ext.lift ?_ _ | refine Ext.alloc ?_ _))
  have hk : Hid (teamOk m s b = true) := by show _ = _; rw [HO.out, h0, h2, h3]; rfl
  rw [hk.out] at hC hG hL
  obtain ⟨hm0, hm1⟩ := inB_iff.1 h0
  obtain ⟨hs0, hs1⟩ := inB_iff.1 h2
  obtain ⟨hbb0, hbb1⟩ := inB_iff.1 h3
  obtain ⟨mn, hmn⟩ := Int.eq_ofNat_of_zero_le (show 0 ≤ m by omega)
  subst hmn
  have hl8 : l.length ≤ 8 := (validAreas_all hv1.out).1
  obtain ⟨R, hR⟩ : ∃ R, R = visT l mn s b := ⟨_, rfl⟩
  rw [← hR] at hC hG hL
  have hRh := Lib.hid hR
  clear hR HO hk
  go_enter Try.func22, Try.ntmps22
  repeat (first | go_values | go_skip | go_guarded | go_step | go_upon | go_back)
  refine (HV.out _ (by repeat (first | exact Ext.refl _ | refine Ext.lift ?_ _ | refine Ext.alloc ?_ _))).mono ?_
  rintro e w' ⟨rfl, yb, rfl⟩
  try dsimp only
  repeat (first | go_values | go_skip | go_guarded | go_step | go_upon | go_back)
  refine (within_any _ _ _ _).mono ?_
  rintro e w' ⟨rfl, rfl⟩
  rw [h0]
  try dsimp only
  repeat (first | go_values | go_skip | go_guarded | go_step | go_upon | go_back)
  refine (lateOk_any _ _).mono ?_
  rintro e w' ⟨rfl, rfl⟩
  rw [h2]
  try dsimp only
  repeat (first | go_values | go_skip | go_guarded | go_step | go_upon | go_back)
  refine (budgetValid_any _ _).mono ?_
  rintro e w' ⟨rfl, rfl⟩
  rw [h3]
  clear h0 h2 h3 HV
  obtain ⟨w0, hw0⟩ : ∃ w0, w0 = lift ((w.alloc (.cells #[.slice a l.length cap] 27)).alloc (.cells #[.int .i64 s] 2)) yb := ⟨_, rfl⟩
  have E0 : Ext w w0 := by rw [hw0]; exact (by repeat (first | exact Ext.refl _ | refine Ext.lift ?_ _ | refine Ext.alloc ?_ _))
  have k1 : w0.cell? ⟨w.heap.size, 0, none⟩ = some (.slice a l.length cap) := by rw [hw0]; go_simp
  have k2 : w0.cell? ⟨w.heap.size + 1, 0, none⟩ = some (.int .i64 s) := by rw [hw0]; go_simp
  have l1 := block_lt k1
  have l2 := block_lt k2
  rw [← hw0]
  clear hw0
  have HWF := Lib.hid fun (W : World) (av : Option Addr) (cv : Nat) (ord : List Int) (he : Ext w0 W) (hr : IntAt W av ord) (hlen : ord.length = l.length) (hin : InMany mn ord) =>
    BestTeams1_any l a cap s w.heap.size (w.heap.size + 1) W (he.cell k1) (he.cell k2) (HA.out.ext (E0.trans he)) av cv ord hr (hin.teams hv1.out (by omega) hlen) hs0 (by omega) hl8
  have eg : Enters Try.prog 44 := enters_of Try.func44 (by kernel_rfl) rfl
  have HVIS := Lib.hid fun (W : World) hLI => visitL_any (fun o => tW l o s o.length) mn l.length false 44 #[.pointer (some ⟨w.heap.size, 0, none⟩), .pointer (some ⟨w.heap.size + 1, 0, none⟩)] eg w0 hl8 (by omega) HWF.out w0.heap.size l.length [] (InMany.nil _) (by simp) ⟨[], -1, b⟩ W none 0 none 0 hLI (by show 0 ≤ b; omega)
  clear eg HWF
  have hLI : Hid (LI w0 (w0.alloc (.cells #[.int .i64 (mn : Int), .int .i64 (l.length : Int), .bool false, .int .i64 b, .func (.func 44) #[] #[.pointer (some ⟨w.heap.size, 0, none⟩), .pointer (some ⟨w.heap.size + 1, 0, none⟩)], .slice none 0 0, .slice none 0 0, .int .i64 (-1)] 59)) mn l.length false (.func (.func 44) #[] #[.pointer (some ⟨w.heap.size, 0, none⟩), .pointer (some ⟨w.heap.size + 1, 0, none⟩)]) w0.heap.size ⟨[], -1, b⟩ [] none 0 none 0) :=
    ⟨⟨(Ext.refl w0).alloc _, Nat.le_refl _, Objt.new w0 #[.int .i64 (mn : Int), .int .i64 (l.length : Int), .bool false, .int .i64 b, .func (.func 44) #[] #[.pointer (some ⟨w.heap.size, 0, none⟩), .pointer (some ⟨w.heap.size + 1, 0, none⟩)], .slice none 0 0, .slice none 0 0, .int .i64 (-1)] _ (fun j hj => by
      have hj8 : j < 8 := hj
      rcases (show j = 0 ∨ j = 1 ∨ j = 2 ∨ j = 3 ∨ j = 4 ∨ j = 5 ∨ j = 6 ∨ j = 7 by omega) with rfl | rfl | rfl | rfl | rfl | rfl | rfl | rfl <;> rfl), Lst.nil _ _, .inl rfl, RowsAt.nil, fun b o s e e2 => by cases e2⟩, Nat.le_refl _, Nat.le_refl _, by show -1 ≤ b; omega, by show b ≤ 20000; omega⟩
  try dsimp only
  repeat (first | go_values | go_skip | go_guarded | go_step | go_upon | go_back)
  refine (HVIS.out _ hLI.out).mono ?_
  clear hLI
  rintro e w2 ⟨rfl, av, cv, ab, cb, hV⟩
  change LI _ _ _ _ _ _ _ (visT l mn s b) _ _ _ _ _ at hV
  rw [← hRh.out] at hV
  have V := Lib.hid hV
  have T : Hid (Ext w w2) := E0.trans V.out.srch.ext
  have hz : w.heap.size ≤ w0.heap.size := E0.size
  clear hV HVIS
  obtain ⟨hgl, c0, c1, c2, c3, c4, c5, c6, c7⟩ := V.out.cells
  rcases Int.lt_or_le R.left 0 with hl | hl
  · have hv := Lib.hid (sr_5 hl)
    have hd : decide (R.left < 0) = true := decide_eq_true hl
    go_wp2_with fail
    go_ret3
    rw [hC.out, hG.out, hL.out, hv.out.1, hv.out.2.1, hv.out.2.2]
    exact OutS.nil none 0 rfl T.out
  · have hv := Lib.hid (sr_0 hl)
    have hd : decide (R.left < 0) = false := decide_eq_false (by omega)
    go_wp2_with fail
    refine region_quiet (by kernel_rfl) (by kernel_rfl) ?_
    repeat (any_goals (first | go_big_quiet_step (fail) | quiet_step (fail)))
    refine wpQuiet_nil ?_
    intro _ hw'
    obtain ⟨y, hw''⟩ := hw'
    subst hw''
    go_wp2_with fail
    go_ret3
    rw [hC.out, hG.out, hL.out, hv.out.1, hv.out.2.1, hv.out.2.2]
    exact OutS.mk rfl V.out.capb ((V.out.srch.own.mono (by omega)).ext (by repeat (first | exact Ext.refl _ | refine Ext.lift ?_ _ | refine Ext.alloc ?_ _))) (V.out.srch.row.ext (by repeat (first | exact Ext.refl _ | refine Ext.lift ?_ _ | refine Ext.alloc ?_ _))) (T.out.lift _)
set_option maxRecDepth 100000 in
set_option maxHeartbeats 8000000 in
theorem specBestTeams_any (w : World) (a : Option Addr) (cap : Nat) (l : List Area) (H : AreaAt w a l) (hsz : ∀ k, k < l.length → (nth l k).Small) (hn : l.length ≤ 1048576) (hcap : l.length ≤ cap) (m s b : Int) :
    Calls Try.prog 21 #[.slice a l.length cap, .int .i64 m, .int .i64 s, .int .i64 b] w (OutR 1 (fun (x : Int) (_ : Nat) => Value.int .i64 x) w (teamV l m s b) [.int .i64 (teamG l m s b), .int .i64 (teamC l m s b)]) := by
  have _ := hcap
  have HA := Lib.hid H
  have HK := Lib.hid (l25Ok_any a cap l w H (area_sz hsz) (by omega))
  have HB := Lib.hid fun (c : Int) hc (W : World) (he : Ext w W) => l25Budget_any a cap l s b W (H.ext he) (area_sz hsz) (by omega) c hc
  have hC : Hid (teamC l m s b = srC (validAreas l) (teamOk m s b) (visT l m s b)) := rfl
  have hG : Hid (teamG l m s b = srG (validAreas l) (teamOk m s b) (visT l m s b)) := rfl
  have hL : Hid (teamV l m s b = srV (validAreas l) (teamOk m s b) (visT l m s b)) := rfl
  have HO : Hid (teamOk m s b = (inB m 1 4 && ordOk s b)) := rfl
  clear H hsz
  cases h1 : validAreas l
  · rw [h1] at hC hG hL HK
    clear h1 HB
    go_enter Try.func21, Try.ntmps21
    go_wp2_with (go_at_call 30; refine HK.out.mono ?_; rintro e w' ⟨rfl, y, rfl⟩)
    go_ret3
    rw [hC.out, hG.out, hL.out]
    exact (OutS.nil (T := 2) none 0 rfl (by repeat (first | exact Ext.refl _ | refine Ext.lift ?_ _ | refine Ext.alloc ?_ _))).read
  rw [h1] at hC hG hL HK
  have hv1 := Lib.hid h1
  cases h0 : inB m 1 4
  · have hk : Hid (teamOk m s b = false) := by show _ = _; rw [HO.out, h0]; rfl
    rw [hk.out] at hC hG hL
    clear h1 HB
    go_enter Try.func21, Try.ntmps21
    go_wp2_with (first | (go_at_call 30; refine HK.out.mono ?_; rintro e w' ⟨rfl, y, rfl⟩) | (go_at_call 41; refine (l00In_any _ _ _ _).mono ?_; rintro e w' ⟨rfl, rfl⟩; rw [h0]))
    go_ret3
    rw [hC.out, hG.out, hL.out]
    exact (OutS.nil (T := 2) none 0 rfl (by repeat (first | exact Ext.refl _ | refine Ext.lift ?_ _ | refine Ext.alloc ?_ _))).read
  cases h2 : ordOk s b
  · have hk : Hid (teamOk m s b = false) := by show _ = _; rw [HO.out, h0, h2]; rfl
    rw [hk.out] at hC hG hL
    have HB1 := Lib.hid (HB.out 2 (by rw [h1, h2]; rfl))
    clear h1 HB h2
    go_enter Try.func21, Try.ntmps21
    go_wp2_with (first | (go_at_call 30; refine HK.out.mono ?_; rintro e w' ⟨rfl, y, rfl⟩) | (go_at_call 41; refine (l00In_any _ _ _ _).mono ?_; rintro e w' ⟨rfl, rfl⟩; rw [h0]) | (go_at_call 32; refine (HB1.out _ (by repeat (first | exact Ext.refl _ | refine Ext.lift ?_ _ | refine Ext.alloc ?_ _))).mono ?_; rintro e w' ⟨rfl, y, rfl⟩))
    go_ret3
    rw [hC.out, hG.out, hL.out]
    exact (OutS.nil (T := 2) none 0 rfl (by repeat (first | exact Ext.refl _ | refine Ext.lift ?_ _ | refine Ext.alloc ?_ _))).read
  have hk : Hid (teamOk m s b = true) := by show _ = _; rw [HO.out, h0, h2]; rfl
  rw [hk.out] at hC hG hL
  have HB1 := Lib.hid (HB.out 0 (by rw [h1, h2]; rfl))
  have hh := h2
  unfold ordOk at hh
  simp only [Bool.and_eq_true, inB_iff] at hh
  obtain ⟨⟨hs0, hs1⟩, hbb0, hbb1⟩ := hh
  obtain ⟨hm0, hm1⟩ := inB_iff.1 h0
  obtain ⟨mn, hmn⟩ := Int.eq_ofNat_of_zero_le (show 0 ≤ m by omega)
  subst hmn
  have hl8 : l.length ≤ 8 := (validAreas_all hv1.out).1
  clear h1 h2 HB hk HO
  have hlenR : Hid ((visT l mn s b).best.length ≤ l.length) := visT_len l mn s b
  obtain ⟨R, hR⟩ : ∃ R, R = visT l mn s b := ⟨_, rfl⟩
  rw [← hR] at hC hG hL
  have hRh := Lib.hid hR
  have hvr : Hid (visL false (fun o => tW l o s o.length) mn l.length [] ⟨[], -1, b⟩ = R) := hR.symm
  clear hR
  go_enter Try.func21, Try.ntmps21
  repeat (first | go_values | go_skip | go_guarded | go_step | go_upon | go_back)
  refine HK.out.mono ?_
  rintro e w' ⟨rfl, ya, rfl⟩
  try dsimp only
  repeat (first | go_values | go_skip | go_guarded | go_step | go_upon | go_back)
  refine (l00In_any _ _ _ _).mono ?_
  rintro e w' ⟨rfl, rfl⟩
  rw [h0]
  try dsimp only
  repeat (first | go_values | go_skip | go_guarded | go_step | go_upon | go_back)
  refine (HB1.out _ (by repeat (first | exact Ext.refl _ | refine Ext.lift ?_ _ | refine Ext.alloc ?_ _))).mono ?_
  rintro e w' ⟨rfl, yb, rfl⟩
  have E0 : Ext w (lift (lift w ya) yb) := (by repeat (first | exact Ext.refl _ | refine Ext.lift ?_ _ | refine Ext.alloc ?_ _))
  generalize lift (lift w ya) yb = w0 at *
  have HWF := Lib.hid fun (W : World) (av : Option Addr) (cv : Nat) (ord : List Int) (he : Ext w0 W) (hr : IntAt W av ord) (hlen : ord.length = l.length) (hin : InMany mn ord) =>
    l25Teams_any a cap l av cv ord s W (HA.out.ext (E0.trans he)) hr (hin.teams hv1.out (by omega) hlen) hs0 (by omega) hl8
  have HVIS := Lib.hid fun (W : World) hLI => team_any (fun o => tW l o s o.length) l mn s b a cap hbb1 w0 hl8 (by omega) trivial HWF.out w0.heap.size l.length [] (InMany.nil _) (by simp) ⟨[], -1, b⟩ W none 0 none 0 hLI (by show 0 ≤ b; omega)
  clear HWF HB1 h0
  have hLS : Hid (LS w0 (w0.alloc (.cells #[.slice a l.length cap, .int .i64 s, .int .i64 (mn : Int), .slice none 0 0, .slice none 0 0, .int .i64 (-1), .int .i64 0, .int .i64 b] 55)) a l.length cap s (mn : Int) b w0.heap.size ⟨[], -1, b⟩ [] none 0 none 0) :=
    ⟨⟨(Ext.refl w0).alloc _, Nat.le_refl _, Objt.new w0 #[.slice a l.length cap, .int .i64 s, .int .i64 (mn : Int), .slice none 0 0, .slice none 0 0, .int .i64 (-1), .int .i64 0, .int .i64 b] _ (fun j hj => by
      have hj8 : j < 8 := hj
      rcases (show j = 0 ∨ j = 1 ∨ j = 2 ∨ j = 3 ∨ j = 4 ∨ j = 5 ∨ j = 6 ∨ j = 7 by omega) with rfl | rfl | rfl | rfl | rfl | rfl | rfl | rfl
      all_goals first | rfl | (show some (Value.int .i64 0) = some (Value.int .i64 (b - b)); rw [Int.sub_self])), Lst.nil _ _, .inl rfl, RowsAt.nil, fun b o s e e2 => by cases e2⟩, Nat.le_refl _, Nat.le_refl _, fun _ => rfl, by show -1 ≤ b; omega, by show b ≤ b; omega⟩
  try dsimp only
  repeat (first | go_values | go_skip | go_guarded | go_step | go_upon | go_back)
  refine (HVIS.out _ hLS.out).mono ?_
  clear hLS
  rintro e w2 ⟨rfl, T0, hV⟩
  rw [hvr.out] at hV ⊢
  have hVh := Lib.hid hV
  have T : Hid (Ext w w2) := E0.trans T0
  clear hV HVIS T0
  rcases Int.lt_or_le R.left 0 with hl | hl
  · have hv := Lib.hid (sr_5 hl)
    rw [decide_eq_true hl]
    go_wp2_with fail
    go_ret3
    rw [hC.out, hG.out, hL.out, hv.out.1, hv.out.2.1, hv.out.2.2]
    exact (OutS.nil (T := 2) none 0 rfl T.out).read
  · have hv := Lib.hid (sr_0 hl)
    rw [decide_eq_false (by omega)]
    obtain ⟨av, cv, ab, cb, hV8⟩ := hVh.out hl
    have V := Lib.hid hV8
    clear hV8 hVh
    have hbl : R.best.length ≤ 8 := by rw [hRh.out]; exact Nat.le_trans (hlenR.out) hl8
    have HC : Hid (∀ W, Ext w2 W → Calls Try.prog 34 #[.slice ab R.best.length cb] W (fun e w' => ∃ a' cap', e = .returned (.slice a' R.best.length cap') ∧ R.best.length ≤ cap' ∧ Own w' W.heap.size 2 1 a' R.best.length ∧ IntAt w' a' R.best ∧ Ext W w' ∧ (a' = none → cap' = 0))) := fun W he => l00Own_any ab cb R.best W (V.out.srch.row.ext he) V.out.nilb (by omega)
    obtain ⟨hgl, c0, c1, c2, c3, c4, c5, c6, c7⟩ := V.out.cells
    go_wp2_with fail
    refine Grow.region [0, 1, 2, 3, 5, 6, 7, 8] [(false, 4), (true, 9), (true, 10), (true, 11)] (by kernel_rfl) (by kernel_rfl) ?_
    simp only [Grow.pick, Grow.pickB, List.getElem?_cons_succ, List.getElem?_cons_zero]
    repeat
      refine Grow.heads_step (fun K' hK => ⟨rfl, ?_⟩)
      apply Exists.intro
      apply And.intro
      · intro w' hw'
        obtain ⟨x', rfl⟩ := hw'
        go_simp
        first | done | rfl | (rw [if_neg (by omega)]; done) | (rw [if_neg (by omega)]; rfl)
      go_simp
      refine hK _ ?_
      clear hK K'
    refine Grow.heads_nil ?_
    intro w3 e3
    refine Grow.seq_step (fun K' hK => ⟨rfl, ?_⟩)
    go_simp
    simp only [Grow.upon]
    refine (HC.out w3 e3).mono ?_
    rintro e w4 ⟨a4, cap4, rfl, hc4, -, R4, E4, -⟩
    have T4 := Lib.hid ((T.out.trans e3).trans E4)
    have R5 := Lib.hid R4
    refine ⟨_, rfl, E4, fun w7 e7 => hK _ _ ?_⟩
    clear hK K' hgl c0 c1 c2 c3 c4 c5 c6 c7 HC R4 e3 E4
    refine Grow.seq_pure (fun K' hK => ⟨rfl, ?_⟩)
    apply Exists.intro
    apply And.intro
    · intro w' hw'
      obtain ⟨x', rfl⟩ := hw'
      go_simp
      first | done | rfl | (rw [if_neg (by omega)]; done) | (rw [if_neg (by omega)]; rfl)
    intro w8 e8
    go_simp
    refine hK _ _ ?_
    clear hK K'
    refine Grow.seq_pure (fun K' hK => ⟨rfl, ?_⟩)
    apply Exists.intro
    apply And.intro
    · intro w' hw'
      obtain ⟨x', rfl⟩ := hw'
      go_simp
      first | done | rfl | (rw [if_neg (by omega)]; done) | (rw [if_neg (by omega)]; rfl)
    intro w9 e9
    go_simp
    refine hK _ _ ?_
    clear hK K'
    refine Grow.seq_pure (fun K' hK => ⟨rfl, ?_⟩)
    apply Exists.intro
    apply And.intro
    · intro w' hw'
      obtain ⟨x', rfl⟩ := hw'
      go_simp
      first | done | rfl | (rw [if_neg (by omega)]; done) | (rw [if_neg (by omega)]; rfl)
    intro w10 e10
    go_simp
    refine hK _ _ ?_
    clear hK K'
    replace e7 := e7.trans (e8.trans (e9.trans e10))
    clear e8 e9 e10
    refine Grow.seq_nil ?_
    go_wp2_with fail
    go_ret3
    rw [hC.out, hG.out, hL.out, hv.out.1, hv.out.2.1, hv.out.2.2]
    exact ⟨a4, cap4, rfl, hc4, R5.out.ext e7, T4.out.trans e7⟩
end Go.Proofs.Ytcmgijidehlkjaa
