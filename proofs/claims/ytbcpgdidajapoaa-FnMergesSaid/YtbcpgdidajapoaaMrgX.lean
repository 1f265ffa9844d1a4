/- ConflictsOf and MergeStates, of the program and of the reference: what they hand back. -/
import Derived.Test.YtbcpgdidajapoaaMrgM
import Derived.Test.YtbcpgdidajapoaaMrgN
namespace Go.Proofs.Ytbcpgdidajapoaa
open Go.RowKit
theorem outR_nil {α : Type} [Inhabited α] {m : Nat} {cell : α → Nat → Value} {w w' : World} {rest : List Value} {e : Ending} (he : e = .returned (.tuple (.slice none 0 0 :: rest).toArray)) (hE : Ext w w') : OutR m cell w ([] : List α) rest e w' :=
  ⟨none, 0, he, Nat.zero_le _, RowsAt.nil, hE⟩
theorem outS_nil {α : Type} [Inhabited α] {T m : Nat} {cell : α → Nat → Value} {w w' : World} {rest : List Value} {e : Ending} (he : e = .returned (.tuple (.slice none 0 0 :: rest).toArray)) (hE : Ext w w') : OutS T m cell w ([] : List α) rest e w' :=
  OutS.nil none 0 he hE
theorem three_ok (x y z : List Setting) : (settingList x = false ∨ (settingList x = true ∧ settingList y = false)) ∨ ((settingList x = true ∧ settingList y = true ∧ settingList z = false) ∨ ok3 x y z = true) := by
  unfold ok3; cases settingList x <;> cases settingList y <;> cases settingList z <;> simp
set_option maxRecDepth 100000 in
set_option maxHeartbeats 4000000 in
theorem implConflictsOf_any (w : World) (a1 : Option Addr) (p1 : Nat) (x : List Setting) (H1 : SettingAt w a1 x) (z1 : ∀ k, k < x.length → (nth x k).Small) (n1 : x.length ≤ 1048576) (_ : x.length ≤ p1) (a2 : Option Addr) (p2 : Nat) (y : List Setting) (H2 : SettingAt w a2 y) (z2 : ∀ k, k < y.length → (nth y k).Small) (n2 : y.length ≤ 1048576) (_ : y.length ≤ p2) (a3 : Option Addr) (p3 : Nat) (z : List Setting) (H3 : SettingAt w a3 z) (z3 : ∀ k, k < z.length → (nth z k).Small) (n3 : z.length ≤ 1048576) (_ : z.length ≤ p3) :
    Calls Try.prog 17 #[.slice a1 x.length p1, .slice a2 y.length p2, .slice a3 z.length p3] w (OutS 9 1 cellS w (conflV x y z) [.int .i64 (conflC x y z)]) := by
  have V1 := Lib.hid fun (W : World) (he : Ext w W) => ValidSettings_any a1 p1 x W (RowsAt.ext H1 he) z1 n1
  have V2 := Lib.hid fun (W : World) (he : Ext w W) => ValidSettings_any a2 p2 y W (RowsAt.ext H2 he) z2 n2
  have V3 := Lib.hid fun (W : World) (he : Ext w W) => ValidSettings_any a3 p3 z W (RowsAt.ext H3 he) z3 n3
  have HC := Lib.hid fun (W : World) (he : Ext w W) => conflictsOf_any a1 a2 a3 p1 p2 p3 x y z W (RowsAt.ext H1 he) (RowsAt.ext H2 he) (RowsAt.ext H3 he)
  clear H1 H2 H3 z1 z2 z3
  rcases three_ok x y z with (h1 | ⟨h1, h2⟩) | (⟨h1, h2, h3⟩ | hok)
  · rw [h1] at V1
    obtain ⟨e1, e2, e3, e4⟩ := confl_bad (show ok3 x y z = false by unfold ok3; rw [h1]; rfl)
    have ev := Lib.hid e2
    have ec := Lib.hid e1
    clear e1 e2 e3 e4 h1
    go_enter Try.func17, Try.ntmps17
    go_wp2_with fail
    refine (V1.out _ (Ext.refl _)).mono ?_
    rintro e w1 ⟨rfl, q1⟩
    go_wp2_with fail
    go_ret2
    rw [ev.out, ec.out]
    exact outS_nil rfl q1
  · rw [h1] at V1
    rw [h2] at V2
    obtain ⟨e1, e2, e3, e4⟩ := confl_bad (show ok3 x y z = false by unfold ok3; rw [h1, h2]; rfl)
    have ev := Lib.hid e2
    have ec := Lib.hid e1
    clear e1 e2 e3 e4 h1 h2
    go_enter Try.func17, Try.ntmps17
    go_wp2_with fail
    refine (V1.out _ (Ext.refl _)).mono ?_
    rintro e w1 ⟨rfl, q1⟩
    go_wp2_with fail
    refine (V2.out _ q1).mono ?_
    rintro e w2 ⟨rfl, q2⟩
    go_wp2_with fail
    go_ret2
    rw [ev.out, ec.out]
    exact outS_nil rfl (q1.trans q2)
  · rw [h1] at V1
    rw [h2] at V2
    rw [h3] at V3
    obtain ⟨e1, e2, e3, e4⟩ := confl_bad (show ok3 x y z = false by unfold ok3; rw [h1, h2, h3]; rfl)
    have ev := Lib.hid e2
    have ec := Lib.hid e1
    clear e1 e2 e3 e4 h1 h2 h3
    go_enter Try.func17, Try.ntmps17
    go_wp2_with fail
    refine (V1.out _ (Ext.refl _)).mono ?_
    rintro e w1 ⟨rfl, q1⟩
    go_wp2_with fail
    refine (V2.out _ q1).mono ?_
    rintro e w2 ⟨rfl, q2⟩
    go_wp2_with fail
    refine (V3.out _ (q1.trans q2)).mono ?_
    rintro e w3 ⟨rfl, q3⟩
    go_wp2_with fail
    go_ret2
    rw [ev.out, ec.out]
    exact outS_nil rfl (q1.trans (q2.trans q3))
  obtain ⟨h1, h2, h3⟩ := ok3_split hok
  rw [h1] at V1
  rw [h2] at V2
  rw [h3] at V3
  obtain ⟨e1, e2, e3, e4⟩ := confl_good hok
  have ev := Lib.hid e2
  have ec := Lib.hid e1
  have l1 := state_len h1
  have l2 := state_len h2
  have l3 := state_len h3
  clear e1 e2 e3 e4 h1 h2 h3
  go_enter Try.func17, Try.ntmps17
  go_wp2_with fail
  refine (V1.out _ (Ext.refl _)).mono ?_
  rintro e w1 ⟨rfl, q1⟩
  go_wp2_with fail
  refine (V2.out _ q1).mono ?_
  rintro e w2 ⟨rfl, q2⟩
  go_wp2_with fail
  refine (V3.out _ (q1.trans q2)).mono ?_
  rintro e w3 ⟨rfl, q3⟩
  have Q3 := Lib.hid (q1.trans (q2.trans q3))
  clear q1 q2 q3 V1 V2 V3
  have HC1 := Lib.hid (HC.out w3 Q3.out l1 l2 l3)
  have hs3 := Q3.out.size
  clear HC hok
  go_wp2_with fail
  refine HC1.out.mono ?_
  rintro e w4 ⟨a, c, rfl, hc, hO, hR, hE⟩
  have hR := Lib.hid hR
  have hO := Lib.hid (hO.low' hs3)
  have hE := Lib.hid (Q3.out.trans hE)
  clear HC1
  go_wp2_with fail
  go_ret2
  rw [ev.out, ec.out]
  exact ⟨a, c, rfl, hc, hO.out, hR.out, hE.out⟩
set_option maxRecDepth 100000 in
set_option maxHeartbeats 8000000 in
theorem implMergeStates_any (w : World) (a1 : Option Addr) (p1 : Nat) (x : List Setting) (H1 : SettingAt w a1 x) (z1 : ∀ k, k < x.length → (nth x k).Small) (n1 : x.length ≤ 1048576) (_ : x.length ≤ p1) (a2 : Option Addr) (p2 : Nat) (y : List Setting) (H2 : SettingAt w a2 y) (z2 : ∀ k, k < y.length → (nth y k).Small) (n2 : y.length ≤ 1048576) (_ : y.length ≤ p2) (a3 : Option Addr) (p3 : Nat) (z : List Setting) (H3 : SettingAt w a3 z) (z3 : ∀ k, k < z.length → (nth z k).Small) (n3 : z.length ≤ 1048576) (_ : z.length ≤ p3) :
    Calls Try.prog 15 #[.slice a1 x.length p1, .slice a2 y.length p2, .slice a3 z.length p3] w (OutS 74 2 Setting.cell w (mergeV x y z) [.int .i64 (mergeC x y z)]) := by
  have V1 := Lib.hid fun (W : World) (he : Ext w W) => ValidSettings_any a1 p1 x W (RowsAt.ext H1 he) z1 n1
  have V2 := Lib.hid fun (W : World) (he : Ext w W) => ValidSettings_any a2 p2 y W (RowsAt.ext H2 he) z2 n2
  have V3 := Lib.hid fun (W : World) (he : Ext w W) => ValidSettings_any a3 p3 z W (RowsAt.ext H3 he) z3 n3
  have HC := Lib.hid fun (W : World) (he : Ext w W) => conflictsOf_any a1 a2 a3 p1 p2 p3 x y z W (RowsAt.ext H1 he) (RowsAt.ext H2 he) (RowsAt.ext H3 he)
  have hh1 := Lib.hid H1
  have hh2 := Lib.hid H2
  have hh3 := Lib.hid H3
  clear H1 H2 H3 z1 z2 z3
  rcases three_ok x y z with (h1 | ⟨h1, h2⟩) | (⟨h1, h2, h3⟩ | hok)
  · rw [h1] at V1
    obtain ⟨e1, e2, e3, e4⟩ := confl_bad (show ok3 x y z = false by unfold ok3; rw [h1]; rfl)
    have ev := Lib.hid e4
    have ec := Lib.hid e3
    clear e1 e2 e3 e4 h1
    go_enter Try.func15, Try.ntmps15
    go_wp2_with fail
    refine (V1.out _ (Ext.refl _)).mono ?_
    rintro e w1 ⟨rfl, q1⟩
    go_wp2_with fail
    go_ret2
    rw [ev.out, ec.out]
    exact outS_nil rfl q1
  · rw [h1] at V1
    rw [h2] at V2
    obtain ⟨e1, e2, e3, e4⟩ := confl_bad (show ok3 x y z = false by unfold ok3; rw [h1, h2]; rfl)
    have ev := Lib.hid e4
    have ec := Lib.hid e3
    clear e1 e2 e3 e4 h1 h2
    go_enter Try.func15, Try.ntmps15
    go_wp2_with fail
    refine (V1.out _ (Ext.refl _)).mono ?_
    rintro e w1 ⟨rfl, q1⟩
    go_wp2_with fail
    refine (V2.out _ q1).mono ?_
    rintro e w2 ⟨rfl, q2⟩
    go_wp2_with fail
    go_ret2
    rw [ev.out, ec.out]
    exact outS_nil rfl (q1.trans q2)
  · rw [h1] at V1
    rw [h2] at V2
    rw [h3] at V3
    obtain ⟨e1, e2, e3, e4⟩ := confl_bad (show ok3 x y z = false by unfold ok3; rw [h1, h2, h3]; rfl)
    have ev := Lib.hid e4
    have ec := Lib.hid e3
    clear e1 e2 e3 e4 h1 h2 h3
    go_enter Try.func15, Try.ntmps15
    go_wp2_with fail
    refine (V1.out _ (Ext.refl _)).mono ?_
    rintro e w1 ⟨rfl, q1⟩
    go_wp2_with fail
    refine (V2.out _ q1).mono ?_
    rintro e w2 ⟨rfl, q2⟩
    go_wp2_with fail
    refine (V3.out _ (q1.trans q2)).mono ?_
    rintro e w3 ⟨rfl, q3⟩
    go_wp2_with fail
    go_ret2
    rw [ev.out, ec.out]
    exact outS_nil rfl (q1.trans (q2.trans q3))
  obtain ⟨h1, h2, h3⟩ := ok3_split hok
  rw [h1] at V1
  rw [h2] at V2
  rw [h3] at V3
  obtain ⟨e1, e2, e3, e4⟩ := confl_good hok
  have ev := Lib.hid e4
  have ec := Lib.hid e3
  have l1 := state_len h1
  have l2 := state_len h2
  have l3 := state_len h3
  clear e1 e2 e3 e4 h1 h2 h3
  go_enter Try.func15, Try.ntmps15
  go_wp2_with fail
  refine (V1.out _ (Ext.refl _)).mono ?_
  rintro e w1 ⟨rfl, q1⟩
  go_wp2_with fail
  refine (V2.out _ q1).mono ?_
  rintro e w2 ⟨rfl, q2⟩
  go_wp2_with fail
  refine (V3.out _ (q1.trans q2)).mono ?_
  rintro e w3 ⟨rfl, q3⟩
  have Q3 := Lib.hid (q1.trans (q2.trans q3))
  clear q1 q2 q3 V1 V2 V3
  have HC1 := Lib.hid (HC.out w3 Q3.out l1 l2 l3)
  have hs3 := Q3.out.size
  have hNl := names3_len hok
  clear HC hok
  by_cases hc : 0 < (confl x y z).length
  · obtain ⟨e1, e2⟩ := mrg_6 hc
    have e1h := Lib.hid e1
    have e2h := Lib.hid e2
    clear e1 e2
    go_wp2_with fail
    refine HC1.out.mono ?_
    rintro e w4 ⟨a, c, rfl, -, -, -, hE⟩
    go_wp2_with fail
    go_ret2
    rw [ev.out, ec.out, e1h.out, e2h.out]
    exact outS_nil rfl (Q3.out.trans hE)
  have hc0 : Hid ((confl x y z).length = 0) := by show _ = _; omega
  clear hc
  go_wp2_with fail
  refine HC1.out.mono ?_
  rintro e w4 ⟨a, c, rfl, -, -, -, hE4⟩
  rw [hc0.out]
  have E4 := Lib.hid (Q3.out.trans hE4)
  clear HC1 hE4
  obtain ⟨W5, hW5⟩ : ∃ W5, W5 = w4.alloc (.cells #[.slice a1 x.length p1, .slice a2 y.length p2, .slice a3 z.length p3] 33) := ⟨_, rfl⟩
  have E45 : Ext w4 W5 := by rw [hW5]; exact (Ext.refl _).alloc _
  have q : ∀ j, W5.cell? ⟨w4.heap.size, j, none⟩ = (#[.slice a1 x.length p1, .slice a2 y.length p2, .slice a3 z.length p3] : Array Value)[j]? := fun j => by rw [hW5, cell_new]
  have E5 := Lib.hid (E4.out.trans E45)
  have HN := Lib.hid fun cp => namesOf_three w4.heap.size cp a1 a2 a3 p1 p2 p3 x y z W5 (by rw [hW5, size_new]; omega) (q 0) (q 1) (q 2) (RowsAt.ext hh1.out E5.out) (RowsAt.ext hh2.out E5.out) (RowsAt.ext hh3.out E5.out) l1 l2 l3
  clear q E45 E4
  have hfin : Hid (mergeTo x y z (names3 x y z) (names3 x y z).length = mergeL x y z) := rfl
  generalize names3 x y z = N at *
  go_wp2_with fail
  rw [← hW5]
  clear hW5
  refine (HN.out _).mono ?_
  rintro e wo ⟨na, nc, rfl, hNL, hNE⟩
  obtain ⟨na', nc', e9, -, -, hNR, -⟩ := hNL.shape
  simp only [Value.slice.injEq, true_and] at e9
  obtain ⟨rfl, rfl⟩ := e9
  have hR := Lib.hid hNR
  have hE := Lib.hid (E5.out.trans hNE)
  have hwo := hE.out.size
  clear hNR hNE HN hNL E5 Q3
  go_wp2_with fail
  go_loopw [8, 39] (fun o i wr => ∃ (k : Nat) (acc : List Setting), k ≤ N.length ∧ i = .int .i64 k ∧ acc.length ≤ k ∧ Hid (acc = mergeTo x y z N k) ∧ Hid (Lst 74 2 Setting.cell wr wo.heap.size o acc) ∧ Hid (Ext wo wr)) (fun _ i _ => N.length - (intOf i).toNat)
  case atStart => exact ⟨0, [], Nat.zero_le _, rfl, Nat.le_refl _, rfl, Lst.nil _ _, Ext.refl _⟩
  case round =>
    obtain ⟨k, acc, hk, rfl, hal, hst, HL, HX⟩ := hrel
    by_cases hlt : k < N.length
    · have hnx : Hid (mergeTo x y z N (k + 1) = mergeTo x y z N k ++ setAt (nth N k) (merAt x y z (nth N k))) := rfl
      obtain ⟨b, off, rfl⟩ := hR.out.base hlt
      obtain ⟨hb, c0⟩ := StrAt.at (hR.out.ext HX.out) k hlt
      have G1 := Lib.hid fun (W : World) (he : Ext wo W) => thingAt_any a1 p1 x (nth N k) W (RowsAt.ext hh1.out (hE.out.trans he)) (by omega)
      have G2 := Lib.hid fun (W : World) (he : Ext wo W) => thingAt_any a2 p2 y (nth N k) W (RowsAt.ext hh2.out (hE.out.trans he)) (by omega)
      have G3 := Lib.hid fun (W : World) (he : Ext wo W) => thingAt_any a3 p3 z (nth N k) W (RowsAt.ext hh3.out (hE.out.trans he)) (by omega)
      have hmm : Hid (merAt x y z (nth N k) = if thg y (nth N k) = thg x (nth N k) then thg z (nth N k) else thg y (nth N k)) := rfl
      generalize thg x (nth N k) = o1 at *
      generalize thg y (nth N k) = o2 at *
      generalize thg z (nth N k) = o3 at *
      generalize merAt x y z (nth N k) = M at *
      obtain ⟨nn, hnn⟩ : ∃ nn, nn = nth N k := ⟨_, rfl⟩
      rw [← hnn] at c0 G1 G2 G3 hnx
      clear hnn
      go_wp2_with fail
      refine (G2.out _ HX.out).mono ?_
      rintro e vq ⟨rfl, eq⟩
      obtain ⟨bY, hbx⟩ : ∃ b, b = vq.heap.size := ⟨_, rfl⟩
      obtain ⟨V1, hvv⟩ : ∃ v, v = vq.alloc (.cells #[.int .i64 (o2.getD 0), .bool o2.isSome] 71) := ⟨_, rfl⟩
      have P1 : Hid (Ext wr V1) := by show Ext _ _; rw [hvv]; exact eq.alloc _
      have E1 : Hid (Ext wo V1) := HX.out.trans P1.out
      have hB1 : Hid (Blk V1 bY 71 2) := by show Blk _ _ _ _; rw [hvv, hbx]; exact Blk.new vq _ _
      have y0 : V1.cell? ⟨bY, 0, none⟩ = some (.int .i64 (o2.getD 0)) := by rw [hvv, hbx, cell_new]; rfl
      have y1 : V1.cell? ⟨bY, 1, none⟩ = some (.bool o2.isSome) := by rw [hvv, hbx, cell_new]; rfl
      have yl := block_lt y0
      have hbw : wr.heap.size ≤ bY := by rw [hbx]; exact eq.size
      clear c0 hb
      go_wp2_with fail
      rw [← hvv, ← hbx]
      have HL1 := Lib.hid (HL.out.ext P1.out)
      have hwr := HX.out.size
      have hnb : Hid (∀ g, Value.ownBlock u8 = some g → g ≠ bY) := fun g hg => by have := HL.out.lt g hg; omega
      clear hvv hbx eq G2 HL HX P1
      by_cases h12 : o2 = o1
      · subst h12
        have hmv0 : Hid (M = o3) := hmm.out.trans (if_pos rfl)
        refine region_quiet (by kernel_rfl) (by kernel_rfl) ?_
        repeat (any_goals (first | go_big_quiet_step ((exact Gives.quiet (G1.out _ (by repeat (first | exact E1.out | refine Ext.lift ?_ _ | refine Ext.alloc ?_ _))))) | quiet_step ((exact Gives.quiet (G1.out _ (by repeat (first | exact E1.out | refine Ext.lift ?_ _ | refine Ext.alloc ?_ _)))))))
        refine wpQuiet_nil ?_
        intro _ hw'
        obtain ⟨y, hw''⟩ := hw'
        subst hw''
        obtain ⟨V2, hV2⟩ : ∃ V2, V2 = lift V1 y := ⟨_, rfl⟩
        have P2 : Ext V1 V2 := by rw [hV2]; exact (Ext.refl _).lift _
        have HL2 := Lib.hid (HL1.out.ext P2)
        have E2 := Lib.hid (E1.out.trans P2)
        have hB2 := Lib.hid (hB1.out.ext P2)
        rw [← hV2]
        clear hV2 P2 G1 E1 HL1 hB1 y0 y1 yl
        go_wp2_with fail
        refine (G3.out _ E2.out).mono ?_
        rintro e V3 ⟨rfl, e3⟩
        have HL3 := Lib.hid (HL2.out.ext e3)
        have E3 := Lib.hid (E2.out.trans e3)
        have hB3 := hB2.out.ext e3
        have f0 := hB3.frozen 0
        have f1 := hB3.frozen 1
        obtain ⟨u0, x0⟩ := hB3.cell (o := 0) (by decide)
        obtain ⟨u1, x1⟩ := hB3.cell (o := 1) (by decide)
        have yl := hB3.lt
        clear HL2 E2 hB2 hB3 e3 G3 hmm
        rcases o3 with _ | vo
        · simp only [Option.getD_none, Option.isSome_none]
          have hmv := hmv0
          have HL4 := Lib.hid ((HL3.out.setN (o := 0) hnb.out (.int .i64 0)).setN (o := 1) hnb.out (.bool false))
          have E4 := Lib.hid ((E3.out.setCell (p := ⟨bY, 0, none⟩) (by show wo.heap.size ≤ bY; omega) (.int .i64 0)).setCell (p := ⟨bY, 1, none⟩) (by show wo.heap.size ≤ bY; omega) (.bool false))
          have hmn := Lib.hid (show acc = _ from (hnx.out.trans (by rw [hmv.out, ← hst.out]; exact List.append_nil _)).symm)
          clear hst hnx hmv
          go_wp2_with fail
          go_roundw
          case rel => exact ⟨k + 1, acc, by omega, by go_num, by omega, hmn.out, HL4.out, E4.out⟩
          case measure => simp [intOf]; omega
        · simp only [Option.getD_some, Option.isSome_some]
          have hmv := hmv0
          have HL4 := Lib.hid ((HL3.out.setN (o := 0) hnb.out (.int .i64 vo)).setN (o := 1) hnb.out (.bool true))
          have E4 := Lib.hid ((E3.out.setCell (p := ⟨bY, 0, none⟩) (by show wo.heap.size ≤ bY; omega) (.int .i64 vo)).setCell (p := ⟨bY, 1, none⟩) (by show wo.heap.size ≤ bY; omega) (.bool true))
          have hmn := Lib.hid (show acc ++ [(⟨nn, vo⟩ : Setting)] = _ from (hnx.out.trans (by rw [hmv.out, ← hst.out]; rfl)).symm)
          have HLA := Lib.hid (HL4.out.ext ((Ext.refl _).alloc (.cells #[.string nn, .int .i64 vo] 74)))
          have HRA : Hid (∀ g, g = (((V3.setCell ⟨bY, 0, none⟩ (.int .i64 vo)).setCell ⟨bY, 1, none⟩ (.bool true))).heap.size → SettingAt ((((V3.setCell ⟨bY, 0, none⟩ (.int .i64 vo)).setCell ⟨bY, 1, none⟩ (.bool true))).alloc (.cells #[.string nn, .int .i64 vo] 74)) (some ⟨g, 0, none⟩) [⟨nn, vo⟩]) := fun g hg => one_set (((V3.setCell ⟨bY, 0, none⟩ (.int .i64 vo)).setCell ⟨bY, 1, none⟩ (.bool true))) hg
          have hEA := Lib.hid (E4.out.alloc (.cells #[.string nn, .int .i64 vo] 74))
          have hsA := hEA.out.size
          clear hst hnx hmv
          try dsimp only
          repeat (first | (at_builtin; refine Hid.out ?_) | go_values | go_skip | go_guarded | go_step | go_upon | go_back)
          refine Lib.hid ?_
          refine wpList_pushL elSetting oneSetting rfl _ _ rfl wo.heap.size _ acc (by rfl) HLA.out _ 1 1 [⟨nn, vo⟩] rfl (by rfl) (HRA.out _ (by first | rfl | (simp; done) | (simp; omega))) (by first | omega | (simp; omega)) (by first | omega | (simp; omega)) hsA ?_
          intro v' w9 HL9 hs9 _
          have HL8 := Lib.hid HL9
          have hE8 := Lib.hid (hs9.ext hEA.out (Nat.le_refl _))
          clear HL9 hs9 HLA HRA hEA hsA
          go_wp2_with fail
          go_roundw
          case rel => exact ⟨k + 1, acc ++ [(⟨nn, vo⟩ : Setting)], by omega, by go_num, by rw [List.length_append, List.length_cons, List.length_nil]; omega, hmn.out, HL8.out, hE8.out⟩
          case measure => simp [intOf]; omega
      · have hq := thg_eq o2 o1
        rw [decide_eq_false h12] at hq
        cases hqn : (o2.getD 0 == o1.getD 0)
        · clear hq
          refine region_quiet (by kernel_rfl) (by kernel_rfl) ?_
          repeat (any_goals (first | go_big_quiet_step ((exact Gives.quiet (G1.out _ (by repeat (first | exact E1.out | refine Ext.lift ?_ _ | refine Ext.alloc ?_ _))))) | quiet_step ((exact Gives.quiet (G1.out _ (by repeat (first | exact E1.out | refine Ext.lift ?_ _ | refine Ext.alloc ?_ _)))))))
          refine wpQuiet_nil ?_
          intro _ hw'
          obtain ⟨y, hw''⟩ := hw'
          subst hw''
          obtain ⟨V2, hV2⟩ : ∃ V2, V2 = lift V1 y := ⟨_, rfl⟩
          have P2 : Ext V1 V2 := by rw [hV2]; exact (Ext.refl _).lift _
          have HL2 := Lib.hid (HL1.out.ext P2)
          have E2 := Lib.hid (E1.out.trans P2)
          have y0 := P2.cell y0
          have y1 := P2.cell y1
          have yl := block_lt y0
          rw [← hV2]
          clear hV2 P2 G1 G3 E1 HL1 hB1
          rcases o2 with _ | vo
          · have hmv : Hid (M = none) := hmm.out.trans (if_neg h12)
            simp only [Option.getD_none, Option.isSome_none] at y0 y1
            have hmn := Lib.hid (show acc = _ from (hnx.out.trans (by rw [hmv.out, ← hst.out]; exact List.append_nil _)).symm)
            clear hst hnx hmv
            go_wp2_with fail
            go_roundw
            case rel => exact ⟨k + 1, acc, by omega, by go_num, by omega, hmn.out, HL2.out, E2.out⟩
            case measure => simp [intOf]; omega
          · have hmv : Hid (M = some vo) := hmm.out.trans (if_neg h12)
            simp only [Option.getD_some, Option.isSome_some] at y0 y1
            have hmn := Lib.hid (show acc ++ [(⟨nn, vo⟩ : Setting)] = _ from (hnx.out.trans (by rw [hmv.out, ← hst.out]; rfl)).symm)
            have HLA := Lib.hid (HL2.out.ext ((Ext.refl _).alloc (.cells #[.string nn, .int .i64 vo] 74)))
            have HRA : Hid (∀ g, g = (V2).heap.size → SettingAt ((V2).alloc (.cells #[.string nn, .int .i64 vo] 74)) (some ⟨g, 0, none⟩) [⟨nn, vo⟩]) := fun g hg => one_set (V2) hg
            have hEA := Lib.hid (E2.out.alloc (.cells #[.string nn, .int .i64 vo] 74))
            have hsA := hEA.out.size
            clear hst hnx hmv
            try dsimp only
            repeat (first | (at_builtin; refine Hid.out ?_) | go_values | go_skip | go_guarded | go_step | go_upon | go_back)
            refine Lib.hid ?_
            refine wpList_pushL elSetting oneSetting rfl _ _ rfl wo.heap.size _ acc (by rfl) HLA.out _ 1 1 [⟨nn, vo⟩] rfl (by rfl) (HRA.out _ (by first | rfl | (simp; done) | (simp; omega))) (by first | omega | (simp; omega)) (by first | omega | (simp; omega)) hsA ?_
            intro v' w9 HL9 hs9 _
            have HL8 := Lib.hid HL9
            have hE8 := Lib.hid (hs9.ext hEA.out (Nat.le_refl _))
            clear HL9 hs9 HLA HRA hEA hsA
            go_wp2_with fail
            go_roundw
            case rel => exact ⟨k + 1, acc ++ [(⟨nn, vo⟩ : Setting)], by omega, by go_num, by rw [List.length_append, List.length_cons, List.length_nil]; omega, hmn.out, HL8.out, hE8.out⟩
            case measure => simp [intOf]; omega
        · rw [hqn, Bool.true_and] at hq
          refine region_quiet (by kernel_rfl) (by kernel_rfl) ?_
          repeat (any_goals (first | go_big_quiet_step ((exact Gives.quiet (G1.out _ (by repeat (first | exact E1.out | refine Ext.lift ?_ _ | refine Ext.alloc ?_ _))))) | quiet_step ((exact Gives.quiet (G1.out _ (by repeat (first | exact E1.out | refine Ext.lift ?_ _ | refine Ext.alloc ?_ _)))))))
          refine wpQuiet_nil ?_
          intro _ hw'
          obtain ⟨y, hw''⟩ := hw'
          subst hw''
          obtain ⟨V2, hV2⟩ : ∃ V2, V2 = lift V1 y := ⟨_, rfl⟩
          have P2 : Ext V1 V2 := by rw [hV2]; exact (Ext.refl _).lift _
          have HL2 := Lib.hid (HL1.out.ext P2)
          have E2 := Lib.hid (E1.out.trans P2)
          have y0 := P2.cell y0
          have y1 := P2.cell y1
          have yl := block_lt y0
          rw [← hV2]
          clear hV2 P2 G1 G3 E1 HL1 hB1
          rcases o2 with _ | vo
          · have hmv : Hid (M = none) := hmm.out.trans (if_neg h12)
            simp only [Option.getD_none, Option.isSome_none] at y0 y1
            have hmn := Lib.hid (show acc = _ from (hnx.out.trans (by rw [hmv.out, ← hst.out]; exact List.append_nil _)).symm)
            clear hst hnx hmv
            go_wp2_with fail
            go_roundw
            case rel => exact ⟨k + 1, acc, by omega, by go_num, by omega, hmn.out, HL2.out, E2.out⟩
            case measure => simp [intOf]; omega
          · have hmv : Hid (M = some vo) := hmm.out.trans (if_neg h12)
            simp only [Option.getD_some, Option.isSome_some] at y0 y1
            have hmn := Lib.hid (show acc ++ [(⟨nn, vo⟩ : Setting)] = _ from (hnx.out.trans (by rw [hmv.out, ← hst.out]; rfl)).symm)
            have HLA := Lib.hid (HL2.out.ext ((Ext.refl _).alloc (.cells #[.string nn, .int .i64 vo] 74)))
            have HRA : Hid (∀ g, g = (V2).heap.size → SettingAt ((V2).alloc (.cells #[.string nn, .int .i64 vo] 74)) (some ⟨g, 0, none⟩) [⟨nn, vo⟩]) := fun g hg => one_set (V2) hg
            have hEA := Lib.hid (E2.out.alloc (.cells #[.string nn, .int .i64 vo] 74))
            have hsA := hEA.out.size
            clear hst hnx hmv
            try dsimp only
            repeat (first | (at_builtin; refine Hid.out ?_) | go_values | go_skip | go_guarded | go_step | go_upon | go_back)
            refine Lib.hid ?_
            refine wpList_pushL elSetting oneSetting rfl _ _ rfl wo.heap.size _ acc (by rfl) HLA.out _ 1 1 [⟨nn, vo⟩] rfl (by rfl) (HRA.out _ (by first | rfl | (simp; done) | (simp; omega))) (by first | omega | (simp; omega)) (by first | omega | (simp; omega)) hsA ?_
            intro v' w9 HL9 hs9 _
            have HL8 := Lib.hid HL9
            have hE8 := Lib.hid (hs9.ext hEA.out (Nat.le_refl _))
            clear HL9 hs9 HLA HRA hEA hsA
            go_wp2_with fail
            go_roundw
            case rel => exact ⟨k + 1, acc ++ [(⟨nn, vo⟩ : Setting)], by omega, by go_num, by rw [List.length_append, List.length_cons, List.length_nil]; omega, hmn.out, HL8.out, hE8.out⟩
            case measure => simp [intOf]; omega
    · obtain rfl : k = N.length := by omega
      have hst2 : Hid (acc = mergeL x y z) := by show _ = _; rw [hst.out, hfin.out]
      obtain ⟨a', cap', rfl, hc', -, hR5, hO5⟩ := HL.out.shape
      have hR6 := Lib.hid hR5
      have hO6 := Lib.hid hO5
      clear hR5 hO5 HL hst
      by_cases h24 : 24 < acc.length
      · have hv := Lib.hid (mrg_5 hc0.out (by rw [← hst2.out]; exact h24))
        go_wp2_with fail
        go_ret2
        rw [ev.out, ec.out, hv.out.1, hv.out.2]
        exact outS_nil rfl (hE.out.trans HX.out)
      · have hv := Lib.hid (mrg_0 hc0.out (by rw [← hst2.out]; omega))
        go_wp2_with fail
        go_ret2
        rw [ev.out, ec.out, hv.out.1, hv.out.2, ← hst2.out]
        exact ⟨a', cap', rfl, hc', hO6.out.low' hwo, hR6.out, hE.out.trans HX.out⟩
end Go.Proofs.Ytbcpgdidajapoaa
