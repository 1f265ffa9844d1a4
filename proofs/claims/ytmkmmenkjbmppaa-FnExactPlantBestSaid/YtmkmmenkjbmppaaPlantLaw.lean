/- The law FnExactPlantBest: whatever the arguments, the program's best stands to be planted are the reference's, in memory of their own. -/
import Derived.Test.YtmkmmenkjbmppaaPlantK
import Derived.Test.YtmkmmenkjbmppaaPlantU
import Derived.Test.YtmkmmenkjbmppaaHelpStand
import Derived.Test.YtmkmmenkjbmppaaHelpInt
namespace Go.Proofs.Ytmkmmenkjbmppaa
open Go.RowKit
theorem l10Snow_any (n : Int) (w : World) : Calls Try.prog 17 #[.int .i64 n] w fun e w' => e = .returned (.bool (inB n 0 2000)) ∧ w' = w := by
  go_enter Try.func17, Try.ntmps17
  go_wp2_with (go_at_call 16; refine (l00In_any _ _ _ _).mono ?_; rintro e w' ⟨rfl, rfl⟩)
  go_ret
  exact ⟨rfl, rfl⟩
theorem l10Least_any (n : Int) (w : World) : Calls Try.prog 18 #[.int .i64 n] w fun e w' => e = .returned (.bool (inB n 0 1000)) ∧ w' = w := by
  go_enter Try.func18, Try.ntmps18
  go_wp2_with (go_at_call 16; refine (l00In_any _ _ _ _).mono ?_; rintro e w' ⟨rfl, rfl⟩)
  go_ret
  exact ⟨rfl, rfl⟩
theorem allIn_snoc (l : List Int) (x lo hi : Int) : allIn (l ++ [x]) lo hi = (allIn l lo hi && inB x lo hi) := by
  unfold allIn; rw [List.all_append]; simp
theorem allIn_take {l : List Int} {k : Nat} {lo hi : Int} (h : false = allIn (l.take k) lo hi) : allIn l lo hi = false := by
  cases hq : allIn l lo hi
  · rfl
  · have : allIn (l.take k) lo hi = true := by
      unfold allIn at hq ⊢
      rw [List.all_eq_true] at hq ⊢
      exact fun x hx => hq x (List.mem_of_mem_take hx)
    rw [this] at h; cases h
/-- The first visit of the reference's search. -/
theorem runQ_new (l : List Stand) (costs : List Int) (hcl : costs.length = l.length) (a : Option Addr) (cap : Nat) (ca : Option Addr) (cc : Nat) (snow least money budget : Int) (w : World) (H : StandAt w a l) (H2 : IntAt w ca costs) (hv : standList l = true) (hq : plantAsk l costs money snow least budget = true) :
    Calls Try.prog 19 #[.pointer (some ⟨w.heap.size, 0, none⟩), .int .i64 0, .int .i64 money] (w.alloc (.cells #[.slice a l.length cap, .slice ca l.length cc, .int .i64 snow, .int .i64 least, .slice none 0 0, .slice none 0 0, .int .i64 (-1), .int .i64 0, .int .i64 budget, .bool false] 43))
      (VisQ w a l.length cap ca cc snow least budget w.heap.size (bestP l costs money snow least budget) []) := by
  unfold plantAsk at hq
  simp only [Bool.and_eq_true, inB_iff, decide_eq_true_eq] at hq
  obtain ⟨⟨⟨s0, s1⟩, h0, h1⟩, -, hci, ⟨y0, y1⟩, b0, b1⟩ := hq
  have hV : VQ w (w.alloc (.cells #[.slice a l.length cap, .slice ca l.length cc, .int .i64 snow, .int .i64 least, .slice none 0 0, .slice none 0 0, .int .i64 (-1), .int .i64 0, .int .i64 budget, .bool false] 43)) a l.length cap ca cc snow least budget w.heap.size ⟨[], -1, budget⟩ [] none 0 none 0 :=
    ⟨⟨(Ext.refl w).alloc _, Nat.le_refl _, Objt.new w #[.slice a l.length cap, .slice ca l.length cc, .int .i64 snow, .int .i64 least, .slice none 0 0, .slice none 0 0, .int .i64 (-1), .int .i64 0, .int .i64 budget, .bool false] _ (fun j hj => by
      have hj8 : j < 10 := hj
      have e1 : nodesQ budget budget = 0 := by unfold nodesQ; omega
      have e2 : decide (budget < 0) = false := decide_eq_false (by omega)
      rcases (show j = 0 ∨ j = 1 ∨ j = 2 ∨ j = 3 ∨ j = 4 ∨ j = 5 ∨ j = 6 ∨ j = 7 ∨ j = 8 ∨ j = 9 by omega) with rfl | rfl | rfl | rfl | rfl | rfl | rfl | rfl | rfl | rfl
      all_goals first | rfl | (show some (Value.int .i64 0) = some (Value.int .i64 (nodesQ budget budget)); rw [e1]) | (show some (Value.bool false) = some (Value.bool (decide (budget < 0))); rw [e2])), Lst.nil _ _, .inl rfl, RowsAt.nil, fun b o s e e2 => by cases e2⟩, Nat.le_refl _, Nat.le_refl _, ⟨Int.le_refl _, by show (-1 : Int) ≤ _; omega, Nat.zero_le _, by show -1 ≤ budget; omega, b1⟩, Int.le_refl _, b1⟩
  exact runQ_any l costs hcl a cap ca cc snow least budget w H H2 (vAll_len_le (show vAll _ _ 16 l = true from hv)) s0 s1 (fun k hk => fewS_of (vAll_one (show vAll _ _ 16 l = true from hv) k hk)) (fun k hk => by have := inB_iff.1 (allIn_iff.1 hci k hk); exact this) w.heap.size l.length 0 (by omega) money y0 y1 [] (Nat.le_refl _) ⟨[], -1, budget⟩ _ none 0 none 0 hV
theorem ask6s {a b c d e : Bool} (h : (a && (b && (c && (d && e)))) = false) : a = false ∨ (a = true ∧ b = false) ∨ (a = true ∧ b = true ∧ c = false) ∨ (a = true ∧ b = true ∧ c = true ∧ d = false) ∨ (a = true ∧ b = true ∧ c = true ∧ d = true ∧ e = false) := by
  cases a <;> cases b <;> cases c <;> cases d <;> cases e <;> simp_all
/-- The reference asks in this order: the first five at once, then the costs one by one. -/
def ask5 (l : List Stand) (costs : List Int) (money snow least budget : Int) : Bool := decide (costs.length = l.length) && (inB money 0 100000000 && (inB snow 0 2000 && (inB least 0 1000 && inB budget 1 20000)))
theorem ask_split (l : List Stand) (costs : List Int) (money snow least budget : Int) : plantAsk l costs money snow least budget = (ask5 l costs money snow least budget && allIn costs 0 1000000) := by
  unfold plantAsk ask5
  cases inB snow 0 2000 <;> cases inB least 0 1000 <;> cases decide (costs.length = l.length) <;> cases allIn costs 0 1000000 <;> cases inB money 0 100000000 <;> cases inB budget 1 20000 <;> rfl
set_option maxRecDepth 100000 in
set_option maxHeartbeats 8000000 in
theorem specPlantBest_any (w : World) (a : Option Addr) (cap : Nat) (l : List Stand) (H : StandAt w a l) (hsz : ∀ k, k < l.length → (nth l k).Small) (hn : l.length ≤ 1048576) (_ : l.length ≤ cap)
    (ca : Option Addr) (cc : Nat) (costs : List Int) (H2 : IntAt w ca costs) (_ : ∀ k, k < costs.length → -9223372036854775808 ≤ nth costs k ∧ nth costs k ≤ 9223372036854775807) (hn2 : costs.length ≤ 1048576) (_ : costs.length ≤ cc) (money snow least budget : Int) :
    Calls Try.prog 5 #[.slice a l.length cap, .slice ca costs.length cc, .int .i64 money, .int .i64 snow, .int .i64 least, .int .i64 budget] w (OutR 1 (fun (x : Int) (_ : Nat) => Value.int .i64 x) w (plantV l costs money snow least budget) [.int .i64 (plantG l costs money snow least budget), .int .i64 (plantC l costs money snow least budget)]) := by
  have HA := Lib.hid H
  have HB := Lib.hid H2
  have HV := Lib.hid (l10Ok_any a cap l w H hsz hn)
  have HS := Lib.hid (l10Snow_any snow)
  have HL := Lib.hid (l10Least_any least)
  have HM := Lib.hid (l00In_any money 0 100000000)
  have HU := Lib.hid (l00In_any budget 1 20000)
  clear H H2 hsz
  cases h1 : standList l
  · have hv := Lib.hid (plant_1 (costs := costs) (money := money) (snow := snow) (least := least) (budget := budget) h1)
    rw [h1] at HV
    clear h1 HS HL HM HU
    go_enter Try.func5, Try.ntmps5
    go_wp2_with fail
    refine HV.out.mono ?_
    rintro e w' ⟨rfl, y, rfl⟩
    go_wp2_with fail
    go_ret3
    rw [hv.out.1, hv.out.2.1, hv.out.2.2]
    exact (OutS.nil (T := 2) none 0 rfl (by repeat (first | exact Ext.refl _ | refine Ext.lift ?_ _ | refine Ext.alloc ?_ _))).read
  rw [h1] at HV
  have hsp := Lib.hid (ask_split l costs money snow least budget)
  cases h5 : ask5 l costs money snow least budget
  · have hv := Lib.hid (plant_2 (budget := budget) h1 (by rw [hsp.out, h5]; rfl))
    unfold ask5 at h5
    rcases ask6s h5 with h2 | ⟨h2, h3⟩ | ⟨h2, h3, h4⟩ | ⟨h2, h3, h4, h6⟩ | ⟨h2, h3, h4, h6, h7⟩
    · clear h1 h5
      have hlq : ((costs.length : Int) == (l.length : Int)) = false := beq_eq_false_iff_ne.2 (by have := of_decide_eq_false h2; omega)
      clear h2
      go_enter Try.func5, Try.ntmps5
      go_wp2_with fail
      refine HV.out.mono ?_
      rintro e w1 ⟨rfl, e1⟩
      go_wp2_with fail
      go_loop [15, 16] (fun ok i => ok = .bool false ∧ i = .int .i64 0) (fun _ _ => 0)
      case atStart => exact ⟨rfl, rfl⟩
      case round =>
        obtain ⟨rfl, rfl⟩ := hrel
        go_wp2_with fail
        all_goals
          go_ret3
          rw [hv.out.1, hv.out.2.1, hv.out.2.2]
          exact (OutS.nil (T := 2) none 0 rfl e1).read
    · clear h1 h5
      have hlq : ((costs.length : Int) == (l.length : Int)) = true := by rw [of_decide_eq_true h2]; simp
      rw [h3] at HM
      clear h2 h3
      go_enter Try.func5, Try.ntmps5
      go_wp2_with fail
      refine HV.out.mono ?_
      rintro e w1 ⟨rfl, e1⟩
      go_wp2_with fail
      refine (HM.out _).mono ?_
      rintro e w2 ⟨rfl, hw⟩
      subst hw
      go_wp2_with fail
      go_loop [15, 16] (fun ok i => ok = .bool false ∧ i = .int .i64 0) (fun _ _ => 0)
      case atStart => exact ⟨rfl, rfl⟩
      case round =>
        obtain ⟨rfl, rfl⟩ := hrel
        go_wp2_with fail
        all_goals
          go_ret3
          rw [hv.out.1, hv.out.2.1, hv.out.2.2]
          exact (OutS.nil (T := 2) none 0 rfl e1).read
    · clear h1 h5
      have hlq : ((costs.length : Int) == (l.length : Int)) = true := by rw [of_decide_eq_true h2]; simp
      rw [h3] at HM
      rw [h4] at HS
      clear h2 h3 h4
      go_enter Try.func5, Try.ntmps5
      go_wp2_with fail
      refine HV.out.mono ?_
      rintro e w1 ⟨rfl, e1⟩
      go_wp2_with fail
      refine (HM.out _).mono ?_
      rintro e w2 ⟨rfl, hw⟩
      subst hw
      go_wp2_with fail
      refine (HS.out _).mono ?_
      rintro e w2 ⟨rfl, hw⟩
      subst hw
      go_wp2_with fail
      go_loop [15, 16] (fun ok i => ok = .bool false ∧ i = .int .i64 0) (fun _ _ => 0)
      case atStart => exact ⟨rfl, rfl⟩
      case round =>
        obtain ⟨rfl, rfl⟩ := hrel
        go_wp2_with fail
        all_goals
          go_ret3
          rw [hv.out.1, hv.out.2.1, hv.out.2.2]
          exact (OutS.nil (T := 2) none 0 rfl e1).read
    · clear h1 h5
      have hlq : ((costs.length : Int) == (l.length : Int)) = true := by rw [of_decide_eq_true h2]; simp
      rw [h3] at HM
      rw [h4] at HS
      rw [h6] at HL
      clear h2 h3 h4 h6
      go_enter Try.func5, Try.ntmps5
      go_wp2_with fail
      refine HV.out.mono ?_
      rintro e w1 ⟨rfl, e1⟩
      go_wp2_with fail
      refine (HM.out _).mono ?_
      rintro e w2 ⟨rfl, hw⟩
      subst hw
      go_wp2_with fail
      refine (HS.out _).mono ?_
      rintro e w2 ⟨rfl, hw⟩
      subst hw
      go_wp2_with fail
      refine (HL.out _).mono ?_
      rintro e w2 ⟨rfl, hw⟩
      subst hw
      go_wp2_with fail
      go_loop [15, 16] (fun ok i => ok = .bool false ∧ i = .int .i64 0) (fun _ _ => 0)
      case atStart => exact ⟨rfl, rfl⟩
      case round =>
        obtain ⟨rfl, rfl⟩ := hrel
        go_wp2_with fail
        all_goals
          go_ret3
          rw [hv.out.1, hv.out.2.1, hv.out.2.2]
          exact (OutS.nil (T := 2) none 0 rfl e1).read
    · clear h1 h5
      have hlq : ((costs.length : Int) == (l.length : Int)) = true := by rw [of_decide_eq_true h2]; simp
      rw [h3] at HM
      rw [h4] at HS
      rw [h6] at HL
      rw [h7] at HU
      clear h2 h3 h4 h6 h7
      go_enter Try.func5, Try.ntmps5
      go_wp2_with fail
      refine HV.out.mono ?_
      rintro e w1 ⟨rfl, e1⟩
      go_wp2_with fail
      refine (HM.out _).mono ?_
      rintro e w2 ⟨rfl, hw⟩
      subst hw
      go_wp2_with fail
      refine (HS.out _).mono ?_
      rintro e w2 ⟨rfl, hw⟩
      subst hw
      go_wp2_with fail
      refine (HL.out _).mono ?_
      rintro e w2 ⟨rfl, hw⟩
      subst hw
      go_wp2_with fail
      refine (HU.out _).mono ?_
      rintro e w2 ⟨rfl, hw⟩
      subst hw
      go_wp2_with fail
      go_loop [15, 16] (fun ok i => ok = .bool false ∧ i = .int .i64 0) (fun _ _ => 0)
      case atStart => exact ⟨rfl, rfl⟩
      case round =>
        obtain ⟨rfl, rfl⟩ := hrel
        go_wp2_with fail
        all_goals
          go_ret3
          rw [hv.out.1, hv.out.2.1, hv.out.2.2]
          exact (OutS.nil (T := 2) none 0 rfl e1).read
  have h5' := h5
  unfold ask5 at h5'
  simp only [Bool.and_eq_true, decide_eq_true_eq] at h5'
  obtain ⟨hcl, h3, h4, h6, h7⟩ := h5'
  rw [h3] at HM
  rw [h4] at HS
  rw [h6] at HL
  rw [h7] at HU
  have hb2 := (inB_iff.1 h7).2
  have hlq : ((costs.length : Int) == (l.length : Int)) = true := by rw [hcl]; simp
  have h1h := Lib.hid h1
  have h5h := Lib.hid h5
  have hcs := Lib.hid hcl
  clear h3 h4 h6 h7 h5 h1 hcl
  go_enter Try.func5, Try.ntmps5
  go_wp2_with fail
  refine HV.out.mono ?_
  rintro e w1 ⟨rfl, e1⟩
  go_wp2_with fail
  refine (HM.out _).mono ?_
  rintro e w2 ⟨rfl, hw⟩
  subst hw
  go_wp2_with fail
  refine (HS.out _).mono ?_
  rintro e w2 ⟨rfl, hw⟩
  subst hw
  go_wp2_with fail
  refine (HL.out _).mono ?_
  rintro e w2 ⟨rfl, hw⟩
  subst hw
  go_wp2_with fail
  refine (HU.out _).mono ?_
  rintro e w2 ⟨rfl, hw⟩
  subst hw
  go_wp2_with fail
  go_loop [15, 16] (fun ok i => ∃ (k : Nat) (b : Bool), k ≤ costs.length ∧ i = .int .i64 k ∧ ok = .bool b ∧ Hid (b = allIn (costs.take k) 0 1000000)) (fun _ i => costs.length - (intOf i).toNat)
  case atStart => exact ⟨0, true, Nat.zero_le _, rfl, rfl, rfl⟩
  case round =>
    obtain ⟨k, b, hk, rfl, rfl, hb⟩ := hrel
    by_cases hlt : k < costs.length
    · cases b
      · have hv := Lib.hid (plant_2 (budget := budget) h1h.out (by rw [hsp.out, h5h.out, Bool.true_and]; exact allIn_take hb.out))
        go_wp2_with fail
        go_ret3
        rw [hv.out.1, hv.out.2.1, hv.out.2.2]
        exact (OutS.nil (T := 2) none 0 rfl e1).read
      · obtain ⟨kb, ko, rfl⟩ := HB.out.base hlt
        obtain ⟨hkb, f0⟩ := IntAt.at (HB.out.ext e1) k hlt
        have HI := Lib.hid (l00In_any (nth costs k) 0 1000000)
        have hnx : Hid (inB (nth costs k) 0 1000000 = allIn (costs.take (k + 1)) 0 1000000) := by
          show _ = _
          rw [take_nth costs k hlt, allIn_snoc, ← hb.out, Bool.true_and]
        generalize inB (nth costs k) 0 1000000 = b2 at *
        go_wp2_with fail
        refine (HI.out _).mono ?_
        rintro e w2 ⟨rfl, hw⟩
        subst hw
        go_wp2_with fail
        go_round
        case rel => exact ⟨k + 1, b2, by omega, by go_num, rfl, hnx.out⟩
        case measure => simp [intOf]; omega
    · obtain rfl : k = costs.length := by omega
      rw [List.take_length] at hb
      cases b
      · have hv := Lib.hid (plant_2 (budget := budget) h1h.out (by rw [hsp.out, h5h.out, ← hb.out]; rfl))
        go_wp2_with fail
        go_ret3
        rw [hv.out.1, hv.out.2.1, hv.out.2.2]
        exact (OutS.nil (T := 2) none 0 rfl e1).read
      · have hq : plantAsk l costs money snow least budget = true := by rw [hsp.out, h5h.out, ← hb.out]; rfl
        have hN := Lib.hid fun (W : World) (he : Ext w W) => runQ_new l costs hcs.out a cap ca cc snow least money budget W (HA.out.ext he) (HB.out.ext he) h1h.out hq
        have h5v := Lib.hid fun (h : (bestP l costs money snow least budget).left < 0) => plant_5 h1h.out hq h
        have h0v := Lib.hid fun (h : ¬ (bestP l costs money snow least budget).left < 0) => plant_0 h1h.out hq h
        clear hq hb h5h
        go_wp2_with fail
        rw [hcs.out]
        refine (hN.out _ e1).mono ?_
        rintro e w2 ⟨rfl, av', cv', ab', cb', hV⟩
        have V := Lib.hid hV
        have T : Hid (Ext w w2) := e1.trans V.out.srch.ext
        have hcb := V.out.capb
        obtain ⟨hgl, c0, c1, c2, c3, c4, c5, c6, c7, c8, c9⟩ := V.out.cells
        generalize bestP l costs money snow least budget = R at *
        clear hV hN
        rcases Int.lt_or_le R.left 0 with hl | hl
        · have hv := Lib.hid (h5v.out hl)
          rw [decide_eq_true hl] at c9
          go_wp2_with fail
          go_ret3
          rw [hv.out.1, hv.out.2.1, hv.out.2.2]
          exact (OutS.nil (T := 2) none 0 rfl T.out).read
        · have hv := Lib.hid (h0v.out (by omega))
          rw [decide_eq_false (Int.not_lt.2 hl)] at c9
          go_wp2_with fail
          refine region_quiet (by kernel_rfl) (by kernel_rfl) ?_
          repeat (any_goals (first | go_big_quiet_step (fail) | quiet_step (fail)))
          refine wpQuiet_nil ?_
          intro _ hw'
          obtain ⟨y, hw''⟩ := hw'
          subst hw''
          go_wp2_with fail
          go_ret3
          rw [hv.out.1, hv.out.2.1, hv.out.2.2]
          exact ⟨ab', cb', rfl, hcb, V.out.srch.row.ext (by repeat (first | exact Ext.refl _ | refine Ext.lift ?_ _ | refine Ext.alloc ?_ _)), T.out.lift _⟩
set_option maxRecDepth 100000 in
set_option maxHeartbeats 8000000 in
theorem plantBest_law (w : World) (a0 : Option Addr) (cap0 : Nat) (l0 : List Stand) (H0 : StandAt w a0 l0) (hz0 : ∀ k, k < l0.length → (nth l0 k).Sz ∧ (nth l0 k).Wf) (hn0 : l0.length ≤ 9223372036854775807) (_ : l0.length ≤ cap0) (a1 : Option Addr) (cap1 : Nat) (l1 : List Int) (H1 : IntAt w a1 l1) (hz1 : ∀ k, k < l1.length → -9223372036854775808 ≤ nth l1 k ∧ nth l1 k ≤ 9223372036854775807) (hn1 : l1.length ≤ 9223372036854775807) (_ : l1.length ≤ cap1) (x2 : Int) (_ : -9223372036854775808 ≤ x2 ∧ x2 ≤ 9223372036854775807) (x3 : Int) (_ : -9223372036854775808 ≤ x3 ∧ x3 ≤ 9223372036854775807) (x4 : Int) (_ : -9223372036854775808 ≤ x4 ∧ x4 ≤ 9223372036854775807) (x5 : Int) (_ : -9223372036854775808 ≤ x5 ∧ x5 ≤ 9223372036854775807) :
    Gives Try.prog 3 #[.slice a0 l0.length cap0, .slice a1 l1.length cap1, .int .i64 x2, .int .i64 x3, .int .i64 x4, .int .i64 x5] w (.bool true) := by
  unfold Gives
  have HH0 := Lib.hid H0
  have HZ0 := Lib.hid hz0
  clear H0 hz0
  have HH1 := Lib.hid H1
  have HZ1 := Lib.hid hz1
  clear H1 hz1
  by_cases hbig1 : 1048576 < l1.length
  · go_enter Try.func3, Try.ntmps3
    go_wp2_with fail
    go_ret
    exact ⟨rfl, Ext.refl _⟩
  have hb1 : l1.length ≤ 1048576 := by omega
  clear hbig1
  go_enter Try.func3, Try.ntmps3
  go_wp2_with fail
  have T := Ext.refl w
  refine (szStandS_any a0 cap0 l0 (1048576) _ (HH0.out.ext T) (fun k hk => (HZ0.out k hk).1) hn0 (by omega) (by omega)).mono ?_
  rintro e W1 ⟨r0, rfl, E, r0a, r0b, hr⟩
  have HR := Lib.hid hr
  clear hr
  replace T := T.trans E
  clear E
  by_cases hneg : r0 < 0
  · go_wp2_with fail
    go_ret
    exact ⟨rfl, T⟩
  obtain ⟨hl0, hs0⟩ := HR.out (by omega)
  have hS0 : Hid (∀ k, k < l0.length → (nth l0 k).Small) := fun k hk => by have := hs0 k hk; unfold Stand.Small; omega
  clear HR hs0
  go_wp2_with fail
  refine (toStandS_any a0 cap0 l0 _ (HH0.out.ext T) (by omega)).mono ?_
  rintro e W2 ⟨sg0, rfl, sb0, sc0, A, B, E⟩
  replace T := T.trans E
  have sA0 := Lib.hid A
  clear sc0
  clear A B E sb0
  go_wp2_with fail
  refine (toInt64S_any a1 cap1 l1 _ (HH1.out.ext T) (by omega)).mono ?_
  rintro e W3 ⟨sg1, rfl, sb1, A, B, E⟩
  replace T := T.trans E
  replace sA0 := Lib.hid (sA0.out.ext E)
  have sA1 := Lib.hid A
  clear A B E sb1
  go_wp2_with fail
  refine (specPlantBest_any _ _ _ l0 sA0.out hS0.out (by omega) (Nat.le_refl _) _ _ l1 sA1.out HZ1.out (by omega) (Nat.le_refl _) x2 x3 x4 x5).mono ?_
  rintro e W4 ⟨sa, scap, rfl, sk, SR, E⟩
  clear sA0
  clear sA1
  replace T := T.trans E
  clear E
  have SR0 := Lib.hid SR
  clear SR
  have U := Ext.refl W4
  go_wp2_with fail
  have hlenR := plantV_len l0 l1 x2 x3 x4 x5
  refine (toStandS_any a0 cap0 l0 _ (HH0.out.ext T) (by omega)).mono ?_
  rintro e W5 ⟨xg0, rfl, xb0, xc0, A, B, E⟩
  have xbT0 := Nat.le_trans T.size xb0
  have xbU0 := Nat.le_trans U.size xb0
  replace T := T.trans E
  replace U := U.trans E
  have xA0 := Lib.hid A
  have xB0 := Lib.hid B
  clear A B E xb0
  go_wp2_with fail
  refine (toInt64S_any a1 cap1 l1 _ (HH1.out.ext T) (by omega)).mono ?_
  rintro e W6 ⟨xg1, rfl, xb1, A, B, E⟩
  have xo0_1 := Nat.lt_of_lt_of_le xc0 xb1
  have xbT1 := Nat.le_trans T.size xb1
  have xbU1 := Nat.le_trans U.size xb1
  replace T := T.trans E
  replace U := U.trans E
  replace xA0 := Lib.hid (xA0.out.ext E)
  replace xB0 := Lib.hid (xB0.out.ext E)
  replace xc0 := Nat.lt_of_lt_of_le xc0 E.size
  have xA1 := Lib.hid A
  have xc1 := B.lt
  have xB1 := Lib.hid B
  clear A B E xb1
  go_wp2_with fail
  refine (implPlantBest_any _ _ _ l0 xA0.out hS0.out (by omega) (Nat.le_refl _) _ _ l1 xA1.out HZ1.out (by omega) (Nat.le_refl _) x2 x3 x4 x5).mono ?_
  rintro e W7 ⟨xa, xcap, rfl, xk, xO, xR, E⟩
  have gT := T.size
  have gU := U.size
  have xc0i := xc0
  have xc1i := xc1
  replace T := T.trans E
  replace U := U.trans E
  replace xA0 := Lib.hid (xA0.out.ext E)
  replace xB0 := Lib.hid (xB0.out.ext E)
  replace xA1 := Lib.hid (xA1.out.ext E)
  replace xB1 := Lib.hid (xB1.out.ext E)
  clear E
  have xRR := Lib.hid xR
  clear xR
  have xOO := Lib.hid xO
  clear xO
  go_wp2_with fail
  refine (eqInt64S_same _ _ _ _ _ _ xRR.out (SR0.out.ext U) (by omega)).mono ?_
  rintro e W8 ⟨rfl, E⟩
  replace T := T.trans E
  replace U := U.trans E
  replace xA0 := Lib.hid (xA0.out.ext E)
  replace xB0 := Lib.hid (xB0.out.ext E)
  replace xA1 := Lib.hid (xA1.out.ext E)
  replace xB1 := Lib.hid (xB1.out.ext E)
  replace xRR := Lib.hid (xRR.out.ext E)
  replace xOO := Lib.hid (xOO.out.ext E)
  clear E
  go_wp2_with fail
  refine (toStandS_any a0 cap0 l0 _ (HH0.out.ext T) (by omega)).mono ?_
  rintro e W9 ⟨tg, rfl, tb, tc, A, B, E⟩
  replace T := T.trans E
  replace U := U.trans E
  replace xA0 := Lib.hid (xA0.out.ext E)
  replace xB0 := Lib.hid (xB0.out.ext E)
  replace xA1 := Lib.hid (xA1.out.ext E)
  replace xB1 := Lib.hid (xB1.out.ext E)
  replace xRR := Lib.hid (xRR.out.ext E)
  replace xOO := Lib.hid (xOO.out.ext E)
  have AA := Lib.hid A
  clear A B E tb tc
  go_wp2_with fail
  refine (eqStandS_same _ _ _ _ l0 _ xA0.out AA.out (by omega)).mono ?_
  rintro e W10 ⟨rfl, E⟩
  clear AA xA0
  replace T := T.trans E
  replace U := U.trans E
  replace xB0 := Lib.hid (xB0.out.ext E)
  replace xA1 := Lib.hid (xA1.out.ext E)
  replace xB1 := Lib.hid (xB1.out.ext E)
  replace xRR := Lib.hid (xRR.out.ext E)
  replace xOO := Lib.hid (xOO.out.ext E)
  clear E
  go_wp2_with fail
  refine (toInt64S_any a1 cap1 l1 _ (HH1.out.ext T) (by omega)).mono ?_
  rintro e W11 ⟨tg, rfl, tb, A, B, E⟩
  replace T := T.trans E
  replace U := U.trans E
  replace xB0 := Lib.hid (xB0.out.ext E)
  replace xA1 := Lib.hid (xA1.out.ext E)
  replace xB1 := Lib.hid (xB1.out.ext E)
  replace xRR := Lib.hid (xRR.out.ext E)
  replace xOO := Lib.hid (xOO.out.ext E)
  have AA := Lib.hid A
  clear A B E tb
  go_wp2_with fail
  refine (eqInt64S_same _ _ _ _ l1 _ xA1.out AA.out (by omega)).mono ?_
  rintro e W12 ⟨rfl, E⟩
  clear AA xA1
  replace T := T.trans E
  replace U := U.trans E
  replace xB0 := Lib.hid (xB0.out.ext E)
  replace xB1 := Lib.hid (xB1.out.ext E)
  replace xRR := Lib.hid (xRR.out.ext E)
  replace xOO := Lib.hid (xOO.out.ext E)
  clear E
  go_wp2_with fail
  have O : Hid (Own _ xg0 45 5 (some ⟨xg0, 0, none⟩) l0.length) := Own.of_blk xB0.out (Nat.le_refl _) (by omega)
  refine (markStandS_any _ l0.length _ _ xg0 _ O.out (by omega) (by omega) (by omega)).mono ?_
  rintro e W13 ⟨rfl, C, -, -⟩
  clear xB0
  have xB1n := Lib.hid (xB1.out.chg C (fun g' o s e => by have := ownA_lt (n := l0.length) (base := xg0 + 1) (Nat.lt_succ_self xg0) g' o s e; omega))
  clear xB1
  have xB1 := xB1n
  clear xB1n
  replace T := T.marked C O.out xbT0
  replace U := U.marked C O.out xbU0
  have xRRn := Lib.hid (xRR.out.marked xOO.out C (ownA_lt xc0i))
  replace xOO := Lib.hid (xOO.out.marked C (ownA_lt xc0i))
  clear xRR
  have xRR := xRRn
  clear xRRn
  clear O C
  go_wp2_with fail
  have O : Hid (Own _ xg1 2 1 (some ⟨xg1, 0, none⟩) l1.length) := Own.of_blk xB1.out (Nat.le_refl _) (by omega)
  refine (markInt64S_any _ l1.length _ _ xg1 _ O.out (by omega) (by omega) (by omega)).mono ?_
  rintro e W14 ⟨rfl, C, -, -⟩
  clear xB1
  replace T := T.marked C O.out xbT1
  replace U := U.marked C O.out xbU1
  have xRRn := Lib.hid (xRR.out.marked xOO.out C (ownA_lt xc1i))
  replace xOO := Lib.hid (xOO.out.marked C (ownA_lt xc1i))
  clear xRR
  have xRR := xRRn
  clear xRRn
  clear O C
  go_wp2_with fail
  refine (eqInt64S_same _ _ _ _ _ _ xRR.out (SR0.out.ext U) (by omega)).mono ?_
  rintro e W15 ⟨rfl, E⟩
  replace T := T.trans E
  replace U := U.trans E
  replace xRR := Lib.hid (xRR.out.ext E)
  replace xOO := Lib.hid (xOO.out.ext E)
  clear E
  go_wp2_with fail
  refine (markInt64S_any _ _ _ _ _ _ xOO.out (by omega) (by omega) (by omega)).mono ?_
  rintro e W16 ⟨rfl, C, -, M⟩
  replace T := T.marked C xOO.out gT
  replace U := U.marked C xOO.out gU
  have MM := Lib.hid M
  clear xRR xOO C M
  go_wp2_with fail
  refine (heldInt64S_any _ _ _ _ _ MM.out (by omega) (by omega) (by omega)).mono ?_
  rintro e W17 ⟨rfl, E⟩
  replace T := T.trans E
  replace U := U.trans E
  replace MM := Lib.hid (MM.out.ext E)
  clear E
  go_wp2_with fail
  refine (toStandS_any a0 cap0 l0 _ (HH0.out.ext T) (by omega)).mono ?_
  rintro e W18 ⟨yg0, rfl, yb0, yc0, A, B, E⟩
  replace T := T.trans E
  replace U := U.trans E
  replace MM := Lib.hid (MM.out.ext E)
  have yA0 := Lib.hid A
  clear yc0
  clear A B E yb0
  go_wp2_with fail
  refine (toInt64S_any a1 cap1 l1 _ (HH1.out.ext T) (by omega)).mono ?_
  rintro e W19 ⟨yg1, rfl, yb1, A, B, E⟩
  replace T := T.trans E
  replace U := U.trans E
  replace MM := Lib.hid (MM.out.ext E)
  replace yA0 := Lib.hid (yA0.out.ext E)
  have yA1 := Lib.hid A
  clear A B E yb1
  go_wp2_with fail
  refine (implPlantBest_any _ _ _ l0 yA0.out hS0.out (by omega) (Nat.le_refl _) _ _ l1 yA1.out HZ1.out (by omega) (Nat.le_refl _) x2 x3 x4 x5).mono ?_
  rintro e W20 ⟨ya, ycap, rfl, yk, yO, yR, E⟩
  replace T := T.trans E
  replace U := U.trans E
  replace MM := Lib.hid (MM.out.ext E)
  replace yA0 := Lib.hid (yA0.out.ext E)
  replace yA1 := Lib.hid (yA1.out.ext E)
  clear E
  have yRR := Lib.hid yR
  clear yR
  clear yO
  go_wp2_with fail
  refine (eqInt64S_same _ _ _ _ _ _ yRR.out (SR0.out.ext U) (by omega)).mono ?_
  rintro e W21 ⟨rfl, E⟩
  replace T := T.trans E
  replace U := U.trans E
  replace MM := Lib.hid (MM.out.ext E)
  replace yA0 := Lib.hid (yA0.out.ext E)
  replace yA1 := Lib.hid (yA1.out.ext E)
  replace yRR := Lib.hid (yRR.out.ext E)
  clear E
  go_wp2_with fail
  refine (heldInt64S_any _ _ _ _ _ MM.out (by omega) (by omega) (by omega)).mono ?_
  rintro e W22 ⟨rfl, E⟩
  replace T := T.trans E
  replace U := U.trans E
  replace MM := Lib.hid (MM.out.ext E)
  replace yA0 := Lib.hid (yA0.out.ext E)
  replace yA1 := Lib.hid (yA1.out.ext E)
  replace yRR := Lib.hid (yRR.out.ext E)
  clear E
  go_wp2_with fail
  go_ret
  exact ⟨rfl, T⟩
open Go.ChangeShapes Go.WideShapes Go.ChangeAt
open Go.ChangeMaps (open_string shut_string)
namespace lawFnExactPlantBest
set_option maxRecDepth 100000 in
theorem lifted (os : Os) (started : os.Started) (H : Type) (enc : TypeId × Value → H) :
    ReturnsInHanded {} Try.checked os 3 .any (Rows.fnExactPlantBestSpec.pre6 enc Try.prog Try.f3 Rows.fnExactPlantBestRow.domain false) (Rows.fnExactPlantBestSpec.post enc Try.prog Try.f3 false true false false) := by
  refine returnsInHanded_of_change (C := Try.checked) own started (by kernel_rfl) Try.func3
    (ChangeSpec.witness6 (enc := enc) (C := Try.checked) false ⟨#[], #[.slice none 0 0, .slice none 0 0, .int .i64 0, .int .i64 0, .int .i64 0, .int .i64 0], []⟩ 8 (by kernel_rfl) (by kernel_rfl) (by kernel_rfl) (by kernel_rfl)) ?_
  intro W base args ds gs before hval0 hW hcnd _
  have hval : ∀ (j : Nat) t v, Try.f3.params[j]? = some t → args[j]? = some v → Value.okWide Try.prog W .any base t v := hval0
  have hW' := hW
  obtain ⟨p, q, hA0, hV, rfl, hfz, hnd⟩ := hW
  have hA : DataW.TrodAll enc Try.prog W 0 (fun _ => true) true Try.f3.params.toList args.toList ds p := hA0
  rw [Try.params3] at hA hval
  obtain ⟨v0, vs0, d0, ds0, p0, q0, hargs, rfl, rfl, h0, r0⟩ := trodAll_cons hA
  obtain ⟨v1, vs1, d1, ds1, p1, q1, rfl, rfl, rfl, h1, r1⟩ := trodAll_cons r0
  obtain ⟨v2, vs2, d2, ds2, p2, q2, rfl, rfl, rfl, h2, r2⟩ := trodAll_cons r1
  obtain ⟨v3, vs3, d3, ds3, p3, q3, rfl, rfl, rfl, h3, r3⟩ := trodAll_cons r2
  obtain ⟨v4, vs4, d4, ds4, p4, q4, rfl, rfl, rfl, h4, r4⟩ := trodAll_cons r3
  obtain ⟨v5, vs5, d5, ds5, p5, q5, rfl, rfl, rfl, h5, r5⟩ := trodAll_cons r4
  obtain ⟨rfl, rfl, rfl⟩ := trodAll_nil r5
  obtain rfl : args = #[v0, v1, v2, v3, v4, v5] := by cases args; simp_all
  obtain ⟨rfl, rfl⟩ := trodVars_none hV
  have k0 := h0
  have lt0 : ∀ x ∈ p0, x.block < W.heap.size := by obtain ⟨m, hm⟩ := k0; exact DataW.trod_lt m _ _ _ hm
  obtain ⟨a0, len0, cap0, rfl⟩ := okWide_slice Try.underlying22 (hval 0 22 v0 rfl rfl)
  obtain ⟨fuel0, hf0⟩ := h0
  obtain ⟨b0, c0, l0, e0, hl0, hc0, H0, Q0⟩ := open_rows Stand.cell (fun y => y.Sz ∧ y.Wf) Try.underlying22 (by kernel_rfl : Try.prog.cellsOf 37 = 5) (by decide) (fun _ _ _ => Stand.el) hf0
  simp only [Value.cells, List.cons.injEq, Value.slice.injEq, and_true] at e0
  obtain ⟨rfl, rfl, rfl⟩ := e0
  have k1 := h1
  have lt1 : ∀ x ∈ p1, x.block < W.heap.size := by obtain ⟨m, hm⟩ := k1; exact DataW.trod_lt m _ _ _ hm
  obtain ⟨a1, len1, cap1, rfl⟩ := okWide_slice Try.underlying23 (hval 1 23 v1 rfl rfl)
  obtain ⟨fuel1, hf1⟩ := h1
  obtain ⟨b1, c1, l1, e1, hl1, hc1, H1, Q1⟩ := open_rows (fun (x : Int) (_ : Nat) => Value.int .i64 x) (fun y => -9223372036854775808 ≤ y ∧ y ≤ 9223372036854775807) Try.underlying23 (by kernel_rfl : Try.prog.cellsOf 2 = 1) (by decide) (fun _ _ _ => int_el) hf1
  simp only [Value.cells, List.cons.injEq, Value.slice.injEq, and_true] at e1
  obtain ⟨rfl, rfl, rfl⟩ := e1
  have k2 := h2
  have lt2 : ∀ x ∈ p2, x.block < W.heap.size := by obtain ⟨m, hm⟩ := k2; exact DataW.trod_lt m _ _ _ hm
  obtain ⟨x2, e2, _, _, w2⟩ := open_int Try.underlying2 (hval 2 2 v2 rfl rfl) h2
  subst e2
  have k3 := h3
  have lt3 : ∀ x ∈ p3, x.block < W.heap.size := by obtain ⟨m, hm⟩ := k3; exact DataW.trod_lt m _ _ _ hm
  obtain ⟨x3, e3, _, _, w3⟩ := open_int Try.underlying2 (hval 3 2 v3 rfl rfl) h3
  subst e3
  have k4 := h4
  have lt4 : ∀ x ∈ p4, x.block < W.heap.size := by obtain ⟨m, hm⟩ := k4; exact DataW.trod_lt m _ _ _ hm
  obtain ⟨x4, e4, _, _, w4⟩ := open_int Try.underlying2 (hval 4 2 v4 rfl rfl) h4
  subst e4
  have k5 := h5
  have lt5 : ∀ x ∈ p5, x.block < W.heap.size := by obtain ⟨m, hm⟩ := k5; exact DataW.trod_lt m _ _ _ hm
  obtain ⟨x5, e5, _, _, w5⟩ := open_int Try.underlying2 (hval 5 2 v5 rfl rfl) h5
  subst e5
  clear hA0 hval0
  refine (plantBest_law W a0 cap0 l0 H0 Q0 (by omega) hl0 a1 cap1 l1 H1 Q1 (by omega) hl1 x2 (wf_bd w2) x3 (wf_bd w3) x4 (wf_bd w4) x5 (wf_bd w5)).mono fun e W' ⟨he, bx⟩ => ?_
  have bel := bx.below
  subst he
  exact ⟨_, rfl, _, _, _, [], _, [], hW', trodAll_mk1 (shut_bool Try.underlying4 _), (trodAll_cons_mk (Below.trod laidOut (by kernel_rfl) (of_decide_eq_true (by kernel_rfl)) k0 bel lt0) (trodAll_cons_mk (Below.trod laidOut (by kernel_rfl) (of_decide_eq_true (by kernel_rfl)) k1 bel lt1) (trodAll_cons_mk (Below.trod laidOut (by kernel_rfl) (of_decide_eq_true (by kernel_rfl)) k2 bel lt2) (trodAll_cons_mk (Below.trod laidOut (by kernel_rfl) (of_decide_eq_true (by kernel_rfl)) k3 bel lt3) (trodAll_cons_mk (Below.trod laidOut (by kernel_rfl) (of_decide_eq_true (by kernel_rfl)) k4 bel lt4) (trodAll_cons_mk (Below.trod laidOut (by kernel_rfl) (of_decide_eq_true (by kernel_rfl)) k5 bel lt5) trodAll_mk0)))))), rfl, bel.frame _, fun h => by cases h⟩
theorem over : Rows.fnExactPlantBestRow.holds Try.pinned (OpenSpec.ofChange Rows.fnExactPlantBestSpec) :=
  OpenClaim.holds_of_wide 3 Try.f3 rfl rfl rfl rfl rfl rfl rfl ⟨rfl, rfl, rfl, rfl, rfl⟩ rfl rfl rfl rfl rfl (by kernel_rfl) Try.func3 (by kernel_rfl)
    (of_decide_eq_true (by kernel_rfl)) (by unfold Func.isWrapper; first | (rw [if_pos (by decide +kernel)]; kernel_rfl) | (rw [if_neg (by decide +kernel)]; exact ⟨rfl, rfl⟩))
    (fun os started H enc _ => lifted os started H enc)
/-- The given statement. -/
theorem proved : Rows.FnExactPlantBestSaid := over
end lawFnExactPlantBest
end Go.Proofs.Ytmkmmenkjbmppaa
