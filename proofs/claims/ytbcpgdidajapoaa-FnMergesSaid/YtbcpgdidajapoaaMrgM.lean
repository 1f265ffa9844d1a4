/- The reference's l27Merge, ConflictsOf and MergeStates. -/
import Derived.Test.YtbcpgdidajapoaaMrgS
import Derived.Test.YtbcpgdidajapoaaLstP
namespace Go.Proofs.Ytbcpgdidajapoaa
open Go.RowKit
theorem three_split {a b c : Bool} : (a && (b && c)) = true ↔ a = true ∧ b = true ∧ c = true := by cases a <;> cases b <;> cases c <;> decide
theorem one_set {n : ByteArray} {v : Int} (w : World) {g : Nat} (hg : g = w.heap.size) : SettingAt (w.alloc (.cells #[.string n, .int .i64 v] 74)) (some ⟨g, 0, none⟩) [⟨n, v⟩] := by
  subst hg
  exact rows_new (n := 2) (cell := Setting.cell) w #[.string n, .int .i64 v] (⟨n, v⟩ : Setting) (fun j hj => by rcases (show j = 0 ∨ j = 1 by omega) with rfl | rfl <;> rfl)
set_option maxRecDepth 100000 in
set_option maxHeartbeats 8000000 in
theorem l27Merge_any (a1 a2 a3 : Option Addr) (p1 p2 p3 : Nat) (x y z : List Setting) (w : World) (H1 : SettingAt w a1 x) (H2 : SettingAt w a2 y) (H3 : SettingAt w a3 z) (hok : ok3 x y z = true) :
    Calls Try.prog 27 #[.slice a1 x.length p1, .slice a2 y.length p2, .slice a3 z.length p3] w (OutS 74 2 Setting.cell w (mrgV x y z) [.int .i64 (mrgC x y z)]) := by
  obtain ⟨v1, v2, v3⟩ := ok3_split hok
  have l1 := state_len v1
  have l2 := state_len v2
  have l3 := state_len v3
  have HC := Lib.hid (l27Conflicts_any a1 a2 a3 p1 p2 p3 x y z w H1 H2 H3 hok)
  have h1 := Lib.hid H1
  have h2 := Lib.hid H2
  have h3 := Lib.hid H3
  by_cases hc : 0 < (confl x y z).length
  · obtain ⟨e1, e2⟩ := mrg_6 hc
    have e1h := Lib.hid e1
    have e2h := Lib.hid e2
    clear H1 H2 H3 e1 e2 v1 v2 v3 hok
    go_enter Try.func27, Try.ntmps27
    go_wp2_with fail
    refine HC.out.mono ?_
    rintro e wo ⟨na, nc, rfl, -, -, -, hNE⟩
    go_wp2_with fail
    go_ret2
    rw [e1h.out, e2h.out]
    exact OutS.nil none 0 rfl hNE
  have hc0 : (confl x y z).length = 0 := by omega
  have hc0h := Lib.hid hc0
  have hNl := names3_len hok
  have hNn : Hid (∀ k, k < (names3 x y z).length → nth (names3 x y z) k ≠ ⟨#[]⟩) := fun k hk => name_ne (names3_name hok (nth_mem hk))
  have hfin : Hid (mergeTo x y z (names3 x y z) (names3 x y z).length = mergeL x y z) := rfl
  clear H1 H2 H3 v1 v2 v3 hok hc hc0
  go_enter Try.func27, Try.ntmps27
  go_wp2_with fail
  refine HC.out.mono ?_
  rintro e w1 ⟨na, nc, rfl, -, -, -, hNE⟩
  rw [hc0h.out]
  have HN := Lib.hid (l27Names_any a1 a2 a3 p1 p2 p3 x y z w1 (RowsAt.ext h1.out hNE) (RowsAt.ext h2.out hNE) (RowsAt.ext h3.out hNE) l1 l2 l3)
  have hE1 := Lib.hid hNE
  clear hNE HC
  generalize names3 x y z = N at *
  go_wp2_with fail
  refine HN.out.mono ?_
  rintro e wo ⟨na, nc, rfl, -, -, hNR, hNE⟩
  have hR := Lib.hid hNR
  have hE := Lib.hid (hE1.out.trans hNE)
  have hwo := hE.out.size
  have HL0 := Lib.hid (Lst.new (T := 74) (n := 2) (cell := Setting.cell) wo wo.heap.size (Nat.le_refl _))
  have HX3 := Lib.hid ((Ext.refl wo).alloc (.cells #[] 74))
  clear hNR hNE HN hE1
  go_wp2_with fail
  go_loopw [9, 10] (fun o i wr => ∃ (k : Nat) (acc : List Setting), k ≤ N.length ∧ i = .int .i64 k ∧ acc.length ≤ k ∧ Hid (acc = mergeTo x y z N k) ∧ Hid (Lst 74 2 Setting.cell wr wo.heap.size o acc) ∧ Hid (Ext wo wr)) (fun _ i _ => N.length - (intOf i).toNat)
  case atStart => exact ⟨0, [], Nat.zero_le _, rfl, Nat.le_refl _, rfl, HL0.out, HX3.out⟩
  case round =>
    clear HL0 HX3
    obtain ⟨k, acc, hk, rfl, hal, hst, HL, HX⟩ := hrel
    by_cases hlt : k < N.length
    · have hnx : Hid (mergeTo x y z N (k + 1) = mergeTo x y z N k ++ setAt (nth N k) (merAt x y z (nth N k))) := rfl
      have hne := hNn.out k hlt
      obtain ⟨b, off, rfl⟩ := hR.out.base hlt
      obtain ⟨hb, c0⟩ := StrAt.at (hR.out.ext HX.out) k hlt
      have G1 := Lib.hid fun (W : World) (he : Ext wo W) => l27Get_any a1 p1 x (nth N k) W (RowsAt.ext h1.out (hE.out.trans he)) (by omega)
      have G2 := Lib.hid fun (W : World) (he : Ext wo W) => l27Get_any a2 p2 y (nth N k) W (RowsAt.ext h2.out (hE.out.trans he)) (by omega)
      have G3 := Lib.hid fun (W : World) (he : Ext wo W) => l27Get_any a3 p3 z (nth N k) W (RowsAt.ext h3.out (hE.out.trans he)) (by omega)
      have hmm : Hid (merAt x y z (nth N k) = if thg y (nth N k) = thg x (nth N k) then thg z (nth N k) else thg y (nth N k)) := rfl
      have hn0 : sEq (nth N k) ⟨#[]⟩ = false := sEq_not.2 hne
      generalize thg x (nth N k) = o1 at *
      generalize thg y (nth N k) = o2 at *
      generalize thg z (nth N k) = o3 at *
      generalize merAt x y z (nth N k) = M at *
      obtain ⟨nn, hnn⟩ : ∃ nn, nn = nth N k := ⟨_, rfl⟩
      rw [← hnn] at c0 G1 G2 G3 hnx hn0 hne
      have hnh := Lib.hid hnn
      clear hnn
      go_wp2_with fail
      refine (G2.out _ HX.out).mono ?_
      rintro e vq ⟨rfl, eq⟩
      obtain ⟨bY, hbx⟩ : ∃ b, b = vq.heap.size := ⟨_, rfl⟩
      obtain ⟨V1, hvv⟩ : ∃ v, v = vq.alloc (.cells #[.string (getS nn o2).name, .int .i64 (getS nn o2).value] 74) := ⟨_, rfl⟩
      have P1 : Hid (Ext wr V1) := by show Ext _ _; rw [hvv]; exact eq.alloc _
      have E1 : Hid (Ext wo V1) := HX.out.trans P1.out
      have hB1 : Hid (Blk V1 bY 74 2) := by show Blk _ _ _ _; rw [hvv, hbx]; exact Blk.new vq _ _
      have y0 : V1.cell? ⟨bY, 0, none⟩ = some (.string (getS nn o2).name) := by rw [hvv, hbx, cell_new]; rfl
      have y1 : V1.cell? ⟨bY, 1, none⟩ = some (.int .i64 (getS nn o2).value) := by rw [hvv, hbx, cell_new]; rfl
      have yl := block_lt y0
      have hbw : wr.heap.size ≤ bY := by rw [hbx]; exact eq.size
      clear c0 hb
      obtain ⟨hb, c0⟩ := StrAt.at (hR.out.ext (HX.out.trans eq)) k hlt
      rw [← hnh.out] at c0
      go_wp2_with fail
      rw [← hvv, ← hbx]
      clear c0 hb
      obtain ⟨hb, c0⟩ := StrAt.at (hR.out.ext E1.out) k hlt
      rw [← hnh.out] at c0
      have HL1 := Lib.hid (HL.out.ext P1.out)
      have hwr := HX.out.size
      have hnb : Hid (∀ g, Value.ownBlock u9 = some g → g ≠ bY) := fun g hg => by have := HL.out.lt g hg; omega
      clear hvv hbx eq G2 HL HX P1
      by_cases h12 : o2 = o1
      · subst h12
        have q1 : sEq (getS nn o2).name (getS nn o2).name = true := sEq_iff.2 rfl
        have hmv0 : Hid (M = o3) := hmm.out.trans (if_pos rfl)
        refine region_quiet (by kernel_rfl) (by kernel_rfl) ?_
        repeat (any_goals (first | go_big_quiet_step ((exact Gives.quiet (G1.out _ (by repeat (first | exact E1.out | refine Ext.lift ?_ _ | refine Ext.alloc ?_ _))))) | quiet_step ((exact Gives.quiet (G1.out _ (by repeat (first | exact E1.out | refine Ext.lift ?_ _ | refine Ext.alloc ?_ _)))))))
        refine wpQuiet_nil ?_
        intro _ hw'
        obtain ⟨y, hw''⟩ := hw'
        subst hw''
        obtain ⟨V2, hV2⟩ : ∃ V2, V2 = lift V1 y := ⟨_, rfl⟩
        have P2 : Ext V1 V2 := by rw [hV2]; exact (Ext.refl _).lift _
        have HL2 := Lib.hid (HL1.out.ext P2)
        have E2 := Lib.hid (E1.out.trans P2)
        have hB2 := Lib.hid (hB1.out.ext P2)
        rw [← hV2]
        clear hV2 P2 G1 E1 HL1 hB1 y0 y1 yl c0 hb q1
        obtain ⟨hb, c0⟩ := StrAt.at (hR.out.ext E2.out) k hlt
        rw [← hnh.out] at c0
        go_wp2_with fail
        refine (G3.out _ E2.out).mono ?_
        rintro e V3 ⟨rfl, e3⟩
        have HL3 := Lib.hid (HL2.out.ext e3)
        have E3 := Lib.hid (E2.out.trans e3)
        have hB3 := hB2.out.ext e3
        have f0 := hB3.frozen 0
        have f1 := hB3.frozen 1
        obtain ⟨u0, x0⟩ := hB3.cell (o := 0) (by decide)
        obtain ⟨u1, x1⟩ := hB3.cell (o := 1) (by decide)
        have yl := hB3.lt
        clear HL2 E2 hB2 hB3 e3 G3 c0 hb hmm
        rcases o3 with _ | vo
        · simp only [getS]
          have hmv := hmv0
          have HL4 := Lib.hid ((HL3.out.setN (o := 0) hnb.out (.string ⟨#[]⟩)).setN (o := 1) hnb.out (.int .i64 0))
          have E4 := Lib.hid ((E3.out.setCell (p := ⟨bY, 0, none⟩) (by show wo.heap.size ≤ bY; omega) (.string ⟨#[]⟩)).setCell (p := ⟨bY, 1, none⟩) (by show wo.heap.size ≤ bY; omega) (.int .i64 0))
          have hmn := Lib.hid (show acc = _ from (hnx.out.trans (by rw [hmv.out, ← hst.out]; exact List.append_nil _)).symm)
          clear hst hnx hmv
          go_wp2_with fail
          go_roundw
          case rel => exact ⟨k + 1, acc, by omega, by go_num, by omega, hmn.out, HL4.out, E4.out⟩
          case measure => simp [intOf]; omega
        · simp only [getS]
          have hmv := hmv0
          have HL4 := Lib.hid ((HL3.out.setN (o := 0) hnb.out (.string nn)).setN (o := 1) hnb.out (.int .i64 vo))
          have E4 := Lib.hid ((E3.out.setCell (p := ⟨bY, 0, none⟩) (by show wo.heap.size ≤ bY; omega) (.string nn)).setCell (p := ⟨bY, 1, none⟩) (by show wo.heap.size ≤ bY; omega) (.int .i64 vo))
          have hmn := Lib.hid (show acc ++ [(⟨nn, vo⟩ : Setting)] = _ from (hnx.out.trans (by rw [hmv.out, ← hst.out]; rfl)).symm)
          have HLA := Lib.hid (HL4.out.ext ((Ext.refl _).alloc (.cells #[.string nn, .int .i64 vo] 74)))
          have HRA : Hid (∀ g, g = (((V3.setCell ⟨bY, 0, none⟩ (.string nn)).setCell ⟨bY, 1, none⟩ (.int .i64 vo))).heap.size → SettingAt ((((V3.setCell ⟨bY, 0, none⟩ (.string nn)).setCell ⟨bY, 1, none⟩ (.int .i64 vo))).alloc (.cells #[.string nn, .int .i64 vo] 74)) (some ⟨g, 0, none⟩) [⟨nn, vo⟩]) := fun g hg => one_set (((V3.setCell ⟨bY, 0, none⟩ (.string nn)).setCell ⟨bY, 1, none⟩ (.int .i64 vo))) hg
          have hEA := Lib.hid (E4.out.alloc (.cells #[.string nn, .int .i64 vo] 74))
          have hsA := hEA.out.size
          clear hst hnx hmv
          try dsimp only
          repeat (first | (at_builtin; refine Hid.out ?_) | go_values | go_skip | go_guarded | go_step | go_upon | go_back)
          refine Lib.hid ?_
          refine wpList_pushL elSetting oneSetting rfl _ _ rfl wo.heap.size _ acc (by rfl) HLA.out _ 1 1 [⟨nn, vo⟩] rfl (by rfl) (HRA.out _ (by first | rfl | (simp; done) | (simp; omega))) (by first | omega | (simp; omega)) (by first | omega | (simp; omega)) hsA ?_
          intro v' w9 HL9 hs9 _
          have HL8 := Lib.hid HL9
          have hE8 := Lib.hid (hs9.ext hEA.out (Nat.le_refl _))
          clear HL9 hs9 HLA HRA hEA hsA
          go_wp2_with fail
          go_roundw
          case rel => exact ⟨k + 1, acc ++ [(⟨nn, vo⟩ : Setting)], by omega, by go_num, by rw [List.length_append, List.length_cons, List.length_nil]; omega, hmn.out, HL8.out, hE8.out⟩
          case measure => simp [intOf]; omega
      · have hq := getS_eq hne o2 o1
        rw [decide_eq_false h12] at hq
        cases hqn : sEq (getS nn o2).name (getS nn o1).name
        · clear hq
          refine region_quiet (by kernel_rfl) (by kernel_rfl) ?_
          repeat (any_goals (first | go_big_quiet_step ((exact Gives.quiet (G1.out _ (by repeat (first | exact E1.out | refine Ext.lift ?_ _ | refine Ext.alloc ?_ _))))) | quiet_step ((exact Gives.quiet (G1.out _ (by repeat (first | exact E1.out | refine Ext.lift ?_ _ | refine Ext.alloc ?_ _)))))))
          refine wpQuiet_nil ?_
          intro _ hw'
          obtain ⟨y, hw''⟩ := hw'
          subst hw''
          obtain ⟨V2, hV2⟩ : ∃ V2, V2 = lift V1 y := ⟨_, rfl⟩
          have P2 : Ext V1 V2 := by rw [hV2]; exact (Ext.refl _).lift _
          have HL2 := Lib.hid (HL1.out.ext P2)
          have E2 := Lib.hid (E1.out.trans P2)
          have y0 := P2.cell y0
          have y1 := P2.cell y1
          have yl := block_lt y0
          rw [← hV2]
          clear hV2 P2 G1 G3 E1 HL1 hB1
          rcases o2 with _ | vo
          · have hmv : Hid (M = none) := hmm.out.trans (if_neg h12)
            simp only [getS] at y0 y1
            have hmn := Lib.hid (show acc = _ from (hnx.out.trans (by rw [hmv.out, ← hst.out]; exact List.append_nil _)).symm)
            clear hst hnx hmv
            go_wp2_with fail
            go_roundw
            case rel => exact ⟨k + 1, acc, by omega, by go_num, by omega, hmn.out, HL2.out, E2.out⟩
            case measure => simp [intOf]; omega
          · have hmv : Hid (M = some vo) := hmm.out.trans (if_neg h12)
            simp only [getS] at y0 y1
            have hmn := Lib.hid (show acc ++ [(⟨nn, vo⟩ : Setting)] = _ from (hnx.out.trans (by rw [hmv.out, ← hst.out]; rfl)).symm)
            have HLA := Lib.hid (HL2.out.ext ((Ext.refl _).alloc (.cells #[.string nn, .int .i64 vo] 74)))
            have HRA : Hid (∀ g, g = (V2).heap.size → SettingAt ((V2).alloc (.cells #[.string nn, .int .i64 vo] 74)) (some ⟨g, 0, none⟩) [⟨nn, vo⟩]) := fun g hg => one_set (V2) hg
            have hEA := Lib.hid (E2.out.alloc (.cells #[.string nn, .int .i64 vo] 74))
            have hsA := hEA.out.size
            clear hst hnx hmv
            try dsimp only
            repeat (first | (at_builtin; refine Hid.out ?_) | go_values | go_skip | go_guarded | go_step | go_upon | go_back)
            refine Lib.hid ?_
            refine wpList_pushL elSetting oneSetting rfl _ _ rfl wo.heap.size _ acc (by rfl) HLA.out _ 1 1 [⟨nn, vo⟩] rfl (by rfl) (HRA.out _ (by first | rfl | (simp; done) | (simp; omega))) (by first | omega | (simp; omega)) (by first | omega | (simp; omega)) hsA ?_
            intro v' w9 HL9 hs9 _
            have HL8 := Lib.hid HL9
            have hE8 := Lib.hid (hs9.ext hEA.out (Nat.le_refl _))
            clear HL9 hs9 HLA HRA hEA hsA
            go_wp2_with fail
            go_roundw
            case rel => exact ⟨k + 1, acc ++ [(⟨nn, vo⟩ : Setting)], by omega, by go_num, by rw [List.length_append, List.length_cons, List.length_nil]; omega, hmn.out, HL8.out, hE8.out⟩
            case measure => simp [intOf]; omega
        · rw [hqn, Bool.true_and] at hq
          refine region_quiet (by kernel_rfl) (by kernel_rfl) ?_
          repeat (any_goals (first | go_big_quiet_step ((exact Gives.quiet (G1.out _ (by repeat (first | exact E1.out | refine Ext.lift ?_ _ | refine Ext.alloc ?_ _))))) | quiet_step ((exact Gives.quiet (G1.out _ (by repeat (first | exact E1.out | refine Ext.lift ?_ _ | refine Ext.alloc ?_ _)))))))
          refine wpQuiet_nil ?_
          intro _ hw'
          obtain ⟨y, hw''⟩ := hw'
          subst hw''
          obtain ⟨V2, hV2⟩ : ∃ V2, V2 = lift V1 y := ⟨_, rfl⟩
          have P2 : Ext V1 V2 := by rw [hV2]; exact (Ext.refl _).lift _
          have HL2 := Lib.hid (HL1.out.ext P2)
          have E2 := Lib.hid (E1.out.trans P2)
          have y0 := P2.cell y0
          have y1 := P2.cell y1
          have yl := block_lt y0
          rw [← hV2]
          clear hV2 P2 G1 G3 E1 HL1 hB1
          rcases o2 with _ | vo
          · have hmv : Hid (M = none) := hmm.out.trans (if_neg h12)
            simp only [getS] at y0 y1
            have hmn := Lib.hid (show acc = _ from (hnx.out.trans (by rw [hmv.out, ← hst.out]; exact List.append_nil _)).symm)
            clear hst hnx hmv
            go_wp2_with fail
            go_roundw
            case rel => exact ⟨k + 1, acc, by omega, by go_num, by omega, hmn.out, HL2.out, E2.out⟩
            case measure => simp [intOf]; omega
          · have hmv : Hid (M = some vo) := hmm.out.trans (if_neg h12)
            simp only [getS] at y0 y1
            have hmn := Lib.hid (show acc ++ [(⟨nn, vo⟩ : Setting)] = _ from (hnx.out.trans (by rw [hmv.out, ← hst.out]; rfl)).symm)
            have HLA := Lib.hid (HL2.out.ext ((Ext.refl _).alloc (.cells #[.string nn, .int .i64 vo] 74)))
            have HRA : Hid (∀ g, g = (V2).heap.size → SettingAt ((V2).alloc (.cells #[.string nn, .int .i64 vo] 74)) (some ⟨g, 0, none⟩) [⟨nn, vo⟩]) := fun g hg => one_set (V2) hg
            have hEA := Lib.hid (E2.out.alloc (.cells #[.string nn, .int .i64 vo] 74))
            have hsA := hEA.out.size
            clear hst hnx hmv
            try dsimp only
            repeat (first | (at_builtin; refine Hid.out ?_) | go_values | go_skip | go_guarded | go_step | go_upon | go_back)
            refine Lib.hid ?_
            refine wpList_pushL elSetting oneSetting rfl _ _ rfl wo.heap.size _ acc (by rfl) HLA.out _ 1 1 [⟨nn, vo⟩] rfl (by rfl) (HRA.out _ (by first | rfl | (simp; done) | (simp; omega))) (by first | omega | (simp; omega)) (by first | omega | (simp; omega)) hsA ?_
            intro v' w9 HL9 hs9 _
            have HL8 := Lib.hid HL9
            have hE8 := Lib.hid (hs9.ext hEA.out (Nat.le_refl _))
            clear HL9 hs9 HLA HRA hEA hsA
            go_wp2_with fail
            go_roundw
            case rel => exact ⟨k + 1, acc ++ [(⟨nn, vo⟩ : Setting)], by omega, by go_num, by rw [List.length_append, List.length_cons, List.length_nil]; omega, hmn.out, HL8.out, hE8.out⟩
            case measure => simp [intOf]; omega
    · obtain rfl : k = N.length := by omega
      have hst2 : Hid (acc = mergeL x y z) := by show _ = _; rw [hst.out, hfin.out]
      obtain ⟨a', cap', rfl, hc', -, hR5, hO5⟩ := HL.out.shape
      have hR6 := Lib.hid hR5
      have hO6 := Lib.hid hO5
      clear hR5 hO5 HL hst
      by_cases h24 : 24 < acc.length
      · have hv := Lib.hid (mrg_5 hc0h.out (by rw [← hst2.out]; exact h24))
        go_wp2_with fail
        go_ret2
        rw [hv.out.1, hv.out.2]
        exact OutS.nil none 0 rfl (hE.out.trans HX.out)
      · have hv := Lib.hid (mrg_0 hc0h.out (by rw [← hst2.out]; omega))
        go_wp2_with fail
        go_ret2
        rw [hv.out.1, hv.out.2, ← hst2.out]
        exact ⟨a', cap', rfl, hc', hO6.out.low hwo, hR6.out, hE.out.trans HX.out⟩
end Go.Proofs.Ytbcpgdidajapoaa
