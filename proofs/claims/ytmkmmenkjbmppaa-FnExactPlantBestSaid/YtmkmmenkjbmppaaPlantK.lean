/- Chapter 10: PlantBest of the program. -/
import Derived.Test.YtmkmmenkjbmppaaPlantJ
namespace Go.Proofs.Ytmkmmenkjbmppaa
open Go.RowKit
theorem visitP_any (l : List Stand) (costs : List Int) (hcl : costs.length = l.length) (a : Option Addr) (cap : Nat) (ca : Option Addr) (cc : Nat) (snow least : Int) (w0 : World) (H : StandAt w0 a l) (H2 : IntAt w0 ca costs) (hn : l.length ≤ 16) (hs0 : 0 ≤ snow) (hs1 : snow ≤ 2000) (hfew : ∀ k, k < l.length → fewS (nth l k))
    (hcs : ∀ k, k < costs.length → 0 ≤ nth costs k ∧ nth costs k ≤ 1000000) (g : Nat) :
    ∀ (d i : Nat), i + d = l.length → ∀ (money : Int), 0 ≤ money → money ≤ 100000000 → ∀ (set : List Int), set.length ≤ i → Below0 set i → ∀ (s : Ps) (W : World) (b : Int), 0 ≤ b → ∀ (av : Option Addr) (cv : Nat) (ab : Option Addr) (cb : Nat), VP w0 W a l.length cap ca cc snow least g b s set av cv ab cb →
      Calls Try.prog 26 #[.pointer (some ⟨g, 0, none⟩), .int .i64 (i : Int), .int .i64 money, .int .i64 (cntP l snow least set i)] W (VisI w0 a l.length cap ca cc snow least g (visP l costs snow least d i money set s) set W (.slice av set.length cv) (-(2 * (d : Int))))
  | 0, i, hid, money, _, _, set, hset, _, s, W, b, hb, av, cv, ab, cb, hV => by
    have hbd := cntP_bd l snow least set i
    obtain rfl : i = l.length := by omega
    exact visitP_leaf a l.length cap ca cc snow least w0 hn g money _ hbd.1 (by omega) set (by omega) s W b hb av cv ab cb hV
  | d + 1, i, hid, money, hy0, hy1, set, hset, hbl, s, W, b, hb, av, cv, ab, cb, hV => by
    have hbd := cntP_bd l snow least set i
    obtain ⟨q0, q1⟩ := hcs i (by omega)
    have := visitP_step l costs hcl a cap ca cc snow least w0 H H2 hn hs0 hs1 hfew g i d hid q0 q1 money (cntP l snow least set i) hy0 hy1 hbd.1 (by omega) set hset
      (visP l costs snow least d (i + 1) (money - nth costs i) (set ++ [(i : Int)])) (visP l costs snow least d (i + 1) money set)
      (fun s W b av cv ab cb hV hb hcm => by
        have h := visitP_any l costs hcl a cap ca cc snow least w0 H H2 hn hs0 hs1 hfew hcs g d (i + 1) (by omega) (money - nth costs i) (by omega) (by omega) (set ++ [(i : Int)]) (by rw [List.length_append]; simp only [List.length_cons, List.length_nil]; omega) hbl.push s W b hb av cv ab cb hV
        rwa [cntP_plant, Int.natCast_add] at h)
      (fun s W b av cv ab cb hV hb => by
        have h := visitP_any l costs hcl a cap ca cc snow least w0 H H2 hn hs0 hs1 hfew hcs g d (i + 1) (by omega) money hy0 hy1 set (by omega) hbl.keep s W b hb av cv ab cb hV
        rwa [cntP_keep hbl, Int.natCast_add] at h)
      s W b hb av cv ab cb hV
    rwa [Int.natCast_add] 
/-- The first visit. -/
theorem visitP_new (l : List Stand) (costs : List Int) (hcl : costs.length = l.length) (a : Option Addr) (cap : Nat) (ca : Option Addr) (cc : Nat) (snow least money budget : Int) (w : World) (H : StandAt w a l) (H2 : IntAt w ca costs) (hv : standList l = true) (hq : plantAsk l costs money snow least budget = true) :
    Calls Try.prog 26 #[.pointer (some ⟨w.heap.size, 0, none⟩), .int .i64 0, .int .i64 money, .int .i64 0] (w.alloc (.cells #[.slice a l.length cap, .slice ca l.length cc, .int .i64 snow, .int .i64 least, .int .i64 budget, .slice none 0 0, .slice none 0 0, .int .i64 (-1)] 50))
      (VisI w a l.length cap ca cc snow least w.heap.size (bestP l costs money snow least budget) [] (w.alloc (.cells #[.slice a l.length cap, .slice ca l.length cc, .int .i64 snow, .int .i64 least, .int .i64 budget, .slice none 0 0, .slice none 0 0, .int .i64 (-1)] 50)) (.slice none 0 0) (-(2 * (l.length : Int)))) := by
  unfold plantAsk at hq
  simp only [Bool.and_eq_true, inB_iff, decide_eq_true_eq] at hq
  obtain ⟨⟨⟨s0, s1⟩, h0, h1⟩, -, hci, ⟨y0, y1⟩, b0, b1⟩ := hq
  have hV : VP w (w.alloc (.cells #[.slice a l.length cap, .slice ca l.length cc, .int .i64 snow, .int .i64 least, .int .i64 budget, .slice none 0 0, .slice none 0 0, .int .i64 (-1)] 50)) a l.length cap ca cc snow least w.heap.size budget ⟨[], -1, budget⟩ [] none 0 none 0 :=
    ⟨⟨(Ext.refl w).alloc _, Nat.le_refl _, Objt.new w #[.slice a l.length cap, .slice ca l.length cc, .int .i64 snow, .int .i64 least, .int .i64 budget, .slice none 0 0, .slice none 0 0, .int .i64 (-1)] _ (fun j hj => by
      have hj8 : j < 8 := hj
      rcases (show j = 0 ∨ j = 1 ∨ j = 2 ∨ j = 3 ∨ j = 4 ∨ j = 5 ∨ j = 6 ∨ j = 7 by omega) with rfl | rfl | rfl | rfl | rfl | rfl | rfl | rfl <;> rfl), Lst.nil _ _, .inl rfl, RowsAt.nil, fun b o s e e2 => by cases e2⟩, Nat.le_refl _, Nat.le_refl _, ⟨Int.le_refl _, by show (-1 : Int) ≤ _; omega, Nat.zero_le _, by show -1 ≤ budget; omega, b1⟩, .inl ⟨by omega, rfl⟩⟩
  exact visitP_any l costs hcl a cap ca cc snow least w H H2 (vAll_len_le (show vAll _ _ 16 l = true from hv)) s0 s1 (fun k hk => fewS_of (vAll_one (show vAll _ _ 16 l = true from hv) k hk)) (fun k hk => by have := inB_iff.1 (allIn_iff.1 hci k hk); exact this) w.heap.size l.length 0 (by omega) money y0 y1 [] (Nat.le_refl _) (Below0.nil 0) ⟨[], -1, budget⟩ _ budget (by omega) none 0 none 0 hV
theorem protectOk_any (snow least : Int) (w : World) : Calls Try.prog 22 #[.int .i64 snow, .int .i64 least] w fun e w' => e = .returned (.bool (inB snow 0 2000 && inB least 0 1000)) ∧ w' = w := by
  cases h1 : inB snow 0 2000 <;> cases h2 : inB least 0 1000
  all_goals
    go_enter Try.func22, Try.ntmps22
    go_wp2_with (go_at_call 24; refine (within_any _ _ _ _).mono ?_; rintro e w' ⟨rfl, rfl⟩)
    go_ret
    exact ⟨rfl, rfl⟩
theorem budgetValid_any (n : Int) (w : World) : Calls Try.prog 25 #[.int .i64 n] w fun e w' => e = .returned (.bool (inB n 1 20000)) ∧ w' = w := by
  go_enter Try.func25, Try.ntmps25
  go_wp2_with (go_at_call 24; refine (within_any _ _ _ _).mono ?_; rintro e w' ⟨rfl, rfl⟩)
  go_ret
  exact ⟨rfl, rfl⟩
theorem ask6 {a b c d e : Bool} (h : (a && (b && (c && (d && e)))) = false) : a = false ∨ (a = true ∧ b = false) ∨ (a = true ∧ b = true ∧ c = false) ∨ (a = true ∧ b = true ∧ c = true ∧ d = false) ∨ (a = true ∧ b = true ∧ c = true ∧ d = true ∧ e = false) := by
  cases a <;> cases b <;> cases c <;> cases d <;> cases e <;> simp_all
set_option maxRecDepth 100000 in
set_option maxHeartbeats 8000000 in
theorem implPlantBest_any (w : World) (a : Option Addr) (cap : Nat) (l : List Stand) (H : StandAt w a l) (hsz : ∀ k, k < l.length → (nth l k).Small) (hn : l.length ≤ 1048576) (_ : l.length ≤ cap)
    (ca : Option Addr) (cc : Nat) (costs : List Int) (H2 : IntAt w ca costs) (_ : ∀ k, k < costs.length → -9223372036854775808 ≤ nth costs k ∧ nth costs k ≤ 9223372036854775807) (hn2 : costs.length ≤ 1048576) (_ : costs.length ≤ cc) (money snow least budget : Int) :
    Calls Try.prog 8 #[.slice a l.length cap, .slice ca costs.length cc, .int .i64 money, .int .i64 snow, .int .i64 least, .int .i64 budget] w (OutS 2 1 (fun (x : Int) (_ : Nat) => Value.int .i64 x) w (plantV l costs money snow least budget) [.int .i64 (plantG l costs money snow least budget), .int .i64 (plantC l costs money snow least budget)]) := by
  have HA := Lib.hid H
  have HB := Lib.hid H2
  have HV := Lib.hid (ValidStands_any a cap l w H hsz hn)
  have HP := Lib.hid (protectOk_any snow least)
  have HI := Lib.hid fun (W : World) (he : Ext w W) => allWithin_any ca cc costs 0 1000000 W (H2.ext he) (by omega)
  have HW := Lib.hid (within_any money 0 100000000)
  have HU := Lib.hid (budgetValid_any budget)
  clear H H2 hsz
  cases h1 : standList l
  · have hv := Lib.hid (plant_1 (costs := costs) (money := money) (snow := snow) (least := least) (budget := budget) h1)
    rw [h1] at HV
    clear h1 HP HI HW HU
    go_enter Try.func8, Try.ntmps8
    go_wp2_with fail
    refine HV.out.mono ?_
    rintro e w' ⟨rfl, y, rfl⟩
    go_wp2_with fail
    go_ret3
    rw [hv.out.1, hv.out.2.1, hv.out.2.2]
    exact OutS.nil none 0 rfl (by repeat (first | exact Ext.refl _ | refine Ext.lift ?_ _ | refine Ext.alloc ?_ _))
  rw [h1] at HV
  cases hq : plantAsk l costs money snow least budget
  · have hv := Lib.hid (plant_2 h1 hq)
    unfold plantAsk at hq
    rcases ask6 hq with h2 | ⟨h2, h3⟩ | ⟨h2, h3, h4⟩ | ⟨h2, h3, h4, h5⟩ | ⟨h2, h3, h4, h5, h6⟩
    all_goals
      first | rw [h2] at HP | skip
      first | (have hlq : ((costs.length : Int) != (l.length : Int)) = true := bne_iff_ne.2 (by have := of_decide_eq_false h3; omega)) | (have hlq : ((costs.length : Int) != (l.length : Int)) = false := by rw [of_decide_eq_true h3]; simp) | skip
      first | rw [h4] at HI | skip
      first | rw [h5] at HW | skip
      first | rw [h6] at HU | skip
      clear hq h1
      try clear h2
      try clear h3
      try clear h4
      try clear h5
      try clear h6
      go_enter Try.func8, Try.ntmps8
      go_wp2_with fail
      refine HV.out.mono ?_
      rintro e w1 ⟨rfl, e1⟩
      go_wp2_with (first | (go_at_call 22; refine (HP.out _).mono ?_; rintro e w' ⟨rfl, hw⟩; subst hw) | (go_at_call 23; refine (HI.out _ e1).mono ?_; rintro e w2 ⟨rfl, e2⟩; replace e1 := e1.trans e2) | (go_at_call 24; refine (HW.out _).mono ?_; rintro e w' ⟨rfl, hw⟩; subst hw) | (go_at_call 25; refine (HU.out _).mono ?_; rintro e w' ⟨rfl, hw⟩; subst hw))
      go_ret3
      rw [hv.out.1, hv.out.2.1, hv.out.2.2]
      exact OutS.nil none 0 rfl e1
  have hq' := hq
  unfold plantAsk at hq'
  simp only [Bool.and_eq_true, decide_eq_true_eq] at hq'
  obtain ⟨h2, hcl, h4, h5, h6⟩ := hq'
  rw [show (inB snow 0 2000 && inB least 0 1000) = true by rw [h2.1, h2.2]; rfl] at HP
  rw [h4] at HI
  rw [h5] at HW
  rw [h6] at HU
  have hcs := Lib.hid hcl
  have hN := Lib.hid fun (W : World) (he : Ext w W) => visitP_new l costs hcl a cap ca cc snow least money budget W (HA.out.ext he) (HB.out.ext he) h1 hq
  have h5v := Lib.hid fun (h : (bestP l costs money snow least budget).left < 0) => plant_5 h1 hq h
  have h0v := Lib.hid fun (h : ¬ (bestP l costs money snow least budget).left < 0) => plant_0 h1 hq h
  have hlen : (bestP l costs money snow least budget).best.length ≤ 16 := by
    have b := inB_iff.1 h6
    have := (bestP_ok l costs money snow least budget (by omega) (by omega)).len
    have := vAll_len_le (show vAll _ _ 16 l = true from h1)
    omega
  rw [hcl]
  clear h1 hq h2 h4 h5 h6 hcl
  have hlq : ((l.length : Int) != (l.length : Int)) = false := by simp
  rw [hcs.out] at HI
  go_enter Try.func8, Try.ntmps8
  go_wp2_with fail
  refine HV.out.mono ?_
  rintro e w1 ⟨rfl, e1⟩
  go_wp2_with (first | (go_at_call 22; refine (HP.out _).mono ?_; rintro e w' ⟨rfl, hw⟩; subst hw) | (go_at_call 23; refine (HI.out _ e1).mono ?_; rintro e w2 ⟨rfl, e2⟩; replace e1 := e1.trans e2) | (go_at_call 24; refine (HW.out _).mono ?_; rintro e w' ⟨rfl, hw⟩; subst hw) | (go_at_call 25; refine (HU.out _).mono ?_; rintro e w' ⟨rfl, hw⟩; subst hw))
  refine (hN.out _ e1).mono ?_
  rintro e w2 ⟨rfl, b', av', cv', ab', cb', hV, -, -⟩
  have V := Lib.hid hV
  have T : Hid (Ext w w2) := e1.trans V.out.srch.ext
  have hz := e1.size
  have hlo : LeftOk b' (bestP l costs money snow least budget) := V.out.left
  have hcb := V.out.capb
  obtain ⟨hgl, c0, c1, c2, c3, c4, c5, c6, c7⟩ := V.out.cells
  generalize bestP l costs money snow least budget = R at *
  clear hV hN
  rcases Int.lt_or_le b' 0 with hl | hl
  · have hv := Lib.hid (h5v.out (by rcases hlo with h | h <;> omega))
    have hd : decide (b' < 0) = true := decide_eq_true hl
    clear hlo
    go_wp2_with fail
    go_ret3
    rw [hv.out.1, hv.out.2.1, hv.out.2.2]
    exact OutS.nil none 0 rfl T.out
  · have hv := Lib.hid (h0v.out (by rcases hlo with h | h <;> omega))
    have hd : decide (b' < 0) = false := decide_eq_false (by omega)
    clear hlo
    go_wp2_with fail
    refine region_quiet (by kernel_rfl) (by kernel_rfl) ?_
    repeat (any_goals (first | go_big_quiet_step (fail) | quiet_step (fail)))
    refine wpQuiet_nil ?_
    intro _ hw'
    obtain ⟨y, hw''⟩ := hw'
    subst hw''
    go_wp2_with fail
    go_ret3
    rw [hv.out.1, hv.out.2.1, hv.out.2.2]
    exact OutS.mk rfl hcb ((V.out.srch.own.mono (by omega)).ext (by repeat (first | exact Ext.refl _ | refine Ext.lift ?_ _ | refine Ext.alloc ?_ _))) (V.out.srch.row.ext (by repeat (first | exact Ext.refl _ | refine Ext.lift ?_ _ | refine Ext.alloc ?_ _))) (T.out.lift _)
end Go.Proofs.Ytmkmmenkjbmppaa
