/- Chapter 25: BestTeams of the program and of the reference. -/
import Derived.Test.YtccbcjopmkmipaaBestOrd
import Derived.Test.YtccbcjopmkmipaaTeams
namespace Go.Proofs.Ytccbcjopmkmipaa
open Go.RowKit
def visT (l : List Area) (m s b : Int) : Sr := visL false (fun o => tW l o s o.length) m.toNat l.length [] ⟨[], -1, b⟩
def teamOk (m s b : Int) : Bool := inB m 1 4 && ordOk s b
def teamC (l : List Area) (m s b : Int) : Int := srC (validAreas l) (teamOk m s b) (visT l m s b)
def teamV (l : List Area) (m s b : Int) : List Int := srV (validAreas l) (teamOk m s b) (visT l m s b)
def teamG (l : List Area) (m s b : Int) : Int := srG (validAreas l) (teamOk m s b) (visT l m s b)
theorem visT_len (l : List Area) (m s b : Int) : (visT l m s b).best.length ≤ l.length := by
  have := visL_len (diff := false) (worth := fun o => tW l o s o.length) (many := m.toNat) l.length (ord := []) (s := ⟨[], -1, b⟩) (by simp)
  unfold visT; simpa using this
theorem teamV_len (l : List Area) (m s b : Int) : (teamV l m s b).length ≤ l.length := srV_len (visT_len l m s b)
theorem InMany.teams {l : List Area} {ts : List Int} {m : Nat} (h1 : validAreas l = true) (h : InMany m ts) (hm : m ≤ 4) (hl : ts.length = l.length) : TeamsOk l ts :=
  ⟨fun k hk => okAt_area ((validAreas_all h1).2.1 k hk), fun k hk => by have := h k hk; omega, hl⟩
set_option maxRecDepth 100000 in
theorem BestTeams1_any (l : List Area) (a : Option Addr) (cap : Nat) (s : Int) (b1 b2 : Nat) (W : World) (c1 : W.cell? ⟨b1, 0, none⟩ = some (.slice a l.length cap)) (c2 : W.cell? ⟨b2, 0, none⟩ = some (.int .i64 s)) (H : AreaAt W a l)
    (av : Option Addr) (cv : Nat) (ord : List Int) (H2 : IntAt W av ord) (hok : TeamsOk l ord) (hs : 0 ≤ s) (hs2 : s ≤ 1000) (hl8 : l.length ≤ 8) :
    Gives Try.prog 17 #[.slice av ord.length cv, .pointer (some ⟨b1, 0, none⟩), .pointer (some ⟨b2, 0, none⟩)] W (.int .i64 (tW l ord s ord.length)) := by
  unfold Gives
  have HW := Lib.hid (teamsWorth_any a cap l av cv ord s W H H2 hok hs hs2 hl8)
  have h1 := block_lt c1
  have h2 := block_lt c2
  clear H H2 hok
  go_enter Try.func17, Try.ntmps17
  go_wp2_with (go_at_call 18; refine HW.out.mono ?_; rintro e w' ⟨rfl, y, rfl⟩)
  go_ret
  exact ⟨rfl, (by repeat (first | exact Ext.refl _ | refine Ext.lift ?_ _ | refine Ext.alloc ?_ _))⟩
set_option maxRecDepth 100000 in
set_option maxHeartbeats 8000000 in
theorem implBestTeams_any (w : World) (a : Option Addr) (cap : Nat) (l : List Area) (H : AreaAt w a l) (hsz : ∀ k, k < l.length → (nth l k).Small) (hn : l.length ≤ 1048576) (hcap : l.length ≤ cap) (m s b : Int) :
    Calls Try.prog 7 #[.slice a l.length cap, .int .i64 m, .int .i64 s, .int .i64 b] w (OutS 2 1 (fun (x : Int) (_ : Nat) => Value.int .i64 x) w (teamV l m s b) [.int .i64 (teamG l m s b), .int .i64 (teamC l m s b)]) := by
  have _ := hcap
  have HA := Lib.hid H
  have HV := Lib.hid fun (W : World) (he : Ext w W) => ValidAreas_any a cap l W (H.ext he) (area_sz hsz) (by omega)
  have hC : Hid (teamC l m s b = srC (validAreas l) (teamOk m s b) (visT l m s b)) := rfl
  have hG : Hid (teamG l m s b = srG (validAreas l) (teamOk m s b) (visT l m s b)) := rfl
  have hL : Hid (teamV l m s b = srV (validAreas l) (teamOk m s b) (visT l m s b)) := rfl
  clear H hsz
  cases h1 : validAreas l
  · rw [h1] at HV hC hG hL
    clear h1
    go_enter Try.func7, Try.ntmps7
    go_wp2_with (go_at_call 13; refine (HV.out _ (by repeat (first | exact Ext.refl _ | refine Ext.lift ?_ _ | refine Ext.alloc ?_ _))).mono ?_; rintro e w' ⟨rfl, y, rfl⟩)
    go_ret3
    rw [hC.out, hG.out, hL.out]
    exact OutS.nil none 0 rfl (by repeat (first | exact Ext.refl _ | refine Ext.lift ?_ _ | refine Ext.alloc ?_ _))
  rw [h1] at HV hC hG hL
  have hv1 := Lib.hid h1
  clear h1
  have HO : Hid (teamOk m s b = (inB m 1 4 && (inB s 0 1000 && inB b 1 20000))) := rfl
  cases h0 : inB m 1 4
  · have hk : Hid (teamOk m s b = false) := by show _ = _; rw [HO.out, h0]; rfl
    rw [hk.out] at hC hG hL
    go_enter Try.func7, Try.ntmps7
    go_wp2_with (first | (go_at_call 13; refine (HV.out _ (by repeat (first | exact Ext.refl _ | refine Ext.lift ?_ _ | refine Ext.alloc ?_ _))).mono ?_; rintro e w' ⟨rfl, y, rfl⟩) | (go_at_call 14; refine (within_any _ _ _ _).mono ?_; rintro e w' ⟨rfl, rfl⟩; rw [h0]))
    go_ret3
    rw [hC.out, hG.out, hL.out]
    exact OutS.nil none 0 rfl (by repeat (first | exact Ext.refl _ | refine Ext.lift ?_ _ | refine Ext.alloc ?_ _))
  cases h2 : inB s 0 1000
  · have hk : Hid (teamOk m s b = false) := by show _ = _; rw [HO.out, h0, h2]; rfl
    rw [hk.out] at hC hG hL
    go_enter Try.func7, Try.ntmps7
    go_wp2_with (first | (go_at_call 13; refine (HV.out _ (by repeat (first | exact Ext.refl _ | refine Ext.lift ?_ _ | refine Ext.alloc ?_ _))).mono ?_; rintro e w' ⟨rfl, y, rfl⟩) | (go_at_call 14; refine (within_any _ _ _ _).mono ?_; rintro e w' ⟨rfl, rfl⟩; rw [h0]) | (go_at_call 15; refine (lateOk_any _ _).mono ?_; rintro e w' ⟨rfl, rfl⟩; rw [h2]))
    go_ret3
    rw [hC.out, hG.out, hL.out]
    exact OutS.nil none 0 rfl (by repeat (first | exact Ext.refl _ | refine Ext.lift ?_ _ | refine Ext.alloc ?_ _))
  cases h3 : inB b 1 20000
  · have hk : Hid (teamOk m s b = false) := by show _ = _; rw [HO.out, h0, h2, h3]; rfl
    rw [hk.out] at hC hG hL
    go_enter Try.func7, Try.ntmps7
    go_wp2_with (first | (go_at_call 13; refine (HV.out _ (by repeat (first | exact Ext.refl _ | refine Ext.lift ?_ _ | refine Ext.alloc ?_ _))).mono ?_; rintro e w' ⟨rfl, y, rfl⟩) | (go_at_call 14; refine (within_any _ _ _ _).mono ?_; rintro e w' ⟨rfl, rfl⟩; rw [h0]) | (go_at_call 15; refine (lateOk_any _ _).mono ?_; rintro e w' ⟨rfl, rfl⟩; rw [h2]) | (go_at_call 16; refine (budgetValid_any _ _).mono ?_; rintro e w' ⟨rfl, rfl⟩; rw [h3]))
    go_ret3
    rw [hC.out, hG.out, hL.out]
    exact OutS.nil none 0 rfl (by repeat (first | exact Ext.refl _ | refine Ext.lift ?_ _ | refine Ext.alloc ?_ _))
  have hk : Hid (teamOk m s b = true) := by show _ = _; rw [HO.out, h0, h2, h3]; rfl
  rw [hk.out] at hC hG hL
  obtain ⟨hm0, hm1⟩ := inB_iff.1 h0
  obtain ⟨hs0, hs1⟩ := inB_iff.1 h2
  obtain ⟨hbb0, hbb1⟩ := inB_iff.1 h3
  obtain ⟨mn, hmn⟩ := Int.eq_ofNat_of_zero_le (show 0 ≤ m by omega)
  subst hmn
  have hl8 : l.length ≤ 8 := (validAreas_all hv1.out).1
  obtain ⟨R, hR⟩ : ∃ R, R = visT l mn s b := ⟨_, rfl⟩
  rw [← hR] at hC hG hL
  have hRh := Lib.hid hR
  clear hR HO hk
  go_enter Try.func7, Try.ntmps7
  repeat (first | go_values | go_skip | go_guarded | go_step | go_upon | go_back)
  refine (HV.out _ (by repeat (first | exact Ext.refl _ | refine Ext.lift ?_ _ | refine Ext.alloc ?_ _))).mono ?_
  rintro e w' ⟨rfl, yb, rfl⟩
  try dsimp only
  repeat (first | go_values | go_skip | go_guarded | go_step | go_upon | go_back)
  refine (within_any _ _ _ _).mono ?_
  rintro e w' ⟨rfl, rfl⟩
  rw [h0]
  try dsimp only
  repeat (first | go_values | go_skip | go_guarded | go_step | go_upon | go_back)
  refine (lateOk_any _ _).mono ?_
  rintro e w' ⟨rfl, rfl⟩
  rw [h2]
  try dsimp only
  repeat (first | go_values | go_skip | go_guarded | go_step | go_upon | go_back)
  refine (budgetValid_any _ _).mono ?_
  rintro e w' ⟨rfl, rfl⟩
  rw [h3]
  clear h0 h2 h3 HV
  obtain ⟨w0, hw0⟩ : ∃ w0, w0 = lift ((w.alloc (.cells #[.slice a l.length cap] 24)).alloc (.cells #[.int .i64 s] 2)) yb := ⟨_, rfl⟩
  have E0 : Ext w w0 := by rw [hw0]; exact (by repeat (first | exact Ext.refl _ | refine Ext.lift ?_ _ | refine Ext.alloc ?_ _))
  have k1 : w0.cell? ⟨w.heap.size, 0, none⟩ = some (.slice a l.length cap) := by rw [hw0]; go_simp
  have k2 : w0.cell? ⟨w.heap.size + 1, 0, none⟩ = some (.int .i64 s) := by rw [hw0]; go_simp
  have l1 := block_lt k1
  have l2 := block_lt k2
  rw [← hw0]
  clear hw0
  have HWF := Lib.hid fun (W : World) (av : Option Addr) (cv : Nat) (ord : List Int) (he : Ext w0 W) (hr : IntAt W av ord) (hlen : ord.length = l.length) (hin : InMany mn ord) =>
    BestTeams1_any l a cap s w.heap.size (w.heap.size + 1) W (he.cell k1) (he.cell k2) (HA.out.ext (E0.trans he)) av cv ord hr (hin.teams hv1.out (by omega) hlen) hs0 (by omega) hl8
  have eg : Enters Try.prog 17 := enters_of Try.func17 (by kernel_rfl) rfl
  have HVIS := Lib.hid fun (W : World) hLI => visitL_any (fun o => tW l o s o.length) mn l.length false 17 #[.pointer (some ⟨w.heap.size, 0, none⟩), .pointer (some ⟨w.heap.size + 1, 0, none⟩)] eg w0 hl8 (by omega) HWF.out w0.heap.size l.length [] (InMany.nil _) (by simp) ⟨[], -1, b⟩ W none 0 none 0 hLI (by show 0 ≤ b; omega)
  clear eg HWF
  have hLI : Hid (LI w0 (w0.alloc (.cells #[.int .i64 (mn : Int), .int .i64 (l.length : Int), .bool false, .int .i64 b, .func (.func 17) #[] #[.pointer (some ⟨w.heap.size, 0, none⟩), .pointer (some ⟨w.heap.size + 1, 0, none⟩)], .slice none 0 0, .slice none 0 0, .int .i64 (-1)] 40)) mn l.length false (.func (.func 17) #[] #[.pointer (some ⟨w.heap.size, 0, none⟩), .pointer (some ⟨w.heap.size + 1, 0, none⟩)]) w0.heap.size ⟨[], -1, b⟩ [] none 0 none 0) :=
    ⟨⟨(Ext.refl w0).alloc _, Nat.le_refl _, Objt.new w0 #[.int .i64 (mn : Int), .int .i64 (l.length : Int), .bool false, .int .i64 b, .func (.func 17) #[] #[.pointer (some ⟨w.heap.size, 0, none⟩), .pointer (some ⟨w.heap.size + 1, 0, none⟩)], .slice none 0 0, .slice none 0 0, .int .i64 (-1)] _ (fun j hj => by
      have hj8 : j < 8 := hj
      rcases (show j = 0 ∨ j = 1 ∨ j = 2 ∨ j = 3 ∨ j = 4 ∨ j = 5 ∨ j = 6 ∨ j = 7 by omega) with rfl | rfl | rfl | rfl | rfl | rfl | rfl | rfl <;> rfl), Lst.nil _ _, .inl rfl, RowsAt.nil, fun b o s e e2 => by cases e2⟩, Nat.le_refl _, Nat.le_refl _, by show -1 ≤ b; omega, by show b ≤ 20000; omega⟩
  try dsimp only
  repeat (first | go_values | go_skip | go_guarded | go_step | go_upon | go_back)
  refine (HVIS.out _ hLI.out).mono ?_
  clear hLI
  rintro e w2 ⟨rfl, av, cv, ab, cb, hV⟩
  change LI _ _ _ _ _ _ _ (visT l mn s b) _ _ _ _ _ at hV
  rw [← hRh.out] at hV
  have V := Lib.hid hV
  have T : Hid (Ext w w2) := E0.trans V.out.srch.ext
  have hz : w.heap.size ≤ w0.heap.size := E0.size
  clear hV HVIS
  obtain ⟨hgl, c0, c1, c2, c3, c4, c5, c6, c7⟩ := V.out.cells
  rcases Int.lt_or_le R.left 0 with hl | hl
  · have hv := Lib.hid (sr_5 hl)
    have hd : decide (R.left < 0) = true := decide_eq_true hl
    go_wp2_with fail
    go_ret3
    rw [hC.out, hG.out, hL.out, hv.out.1, hv.out.2.1, hv.out.2.2]
    exact OutS.nil none 0 rfl T.out
  · have hv := Lib.hid (sr_0 hl)
    have hd : decide (R.left < 0) = false := decide_eq_false (by omega)
    go_wp2_with fail
    refine region_quiet (by kernel_rfl) (by kernel_rfl) ?_
    repeat (any_goals (first | go_big_quiet_step (fail) | quiet_step (fail)))
    refine wpQuiet_nil ?_
    intro _ hw'
    obtain ⟨y, hw''⟩ := hw'
    subst hw''
    go_wp2_with fail
    go_ret3
    rw [hC.out, hG.out, hL.out, hv.out.1, hv.out.2.1, hv.out.2.2]
    exact OutS.mk rfl V.out.capb ((V.out.srch.own.mono (by omega)).ext (by repeat (first | exact Ext.refl _ | refine Ext.lift ?_ _ | refine Ext.alloc ?_ _))) (V.out.srch.row.ext (by repeat (first | exact Ext.refl _ | refine Ext.lift ?_ _ | refine Ext.alloc ?_ _))) (T.out.lift _)
end Go.Proofs.Ytccbcjopmkmipaa
