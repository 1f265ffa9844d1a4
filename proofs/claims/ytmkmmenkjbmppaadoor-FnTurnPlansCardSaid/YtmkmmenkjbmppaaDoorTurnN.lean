/- Turns given to people: what turns are given by, and the code. -/
import Derived.Test.YtmkmmenkjbmppaaDoorTurnC
namespace Go.Proofs.YtmkmmenkjbmppaaDoor
open Go.RowKit Go.Maps
/-- Numbers that rise. -/
def incT (l : List Int) : Bool := allB l.length (fun k => decide (k = 0) || decide (nth l (k - 1) < nth l k))
theorem incT_bad {l : List Int} {k : Nat} (h0 : 0 < k) (hk : k < l.length) (h : nth l k ≤ nth l (k - 1)) : false = incT l := by
  refine (allB_bad hk ?_).symm
  rw [decide_eq_false (by omega), decide_eq_false (by omega)]; rfl
set_option maxRecDepth 100000 in
set_option maxHeartbeats 2000000 in
theorem increasing_any (a : Option Addr) (cap : Nat) (l : List Int) (w : World) (H : IntAt w a l) (hl : l.length ≤ 1048576) :
    Gives Tryd.prog 35 #[.slice a l.length cap] w (.bool (incT l)) := by
  unfold Gives
  have HX := Lib.hid H
  clear H
  go_enter Tryd.func35, Tryd.ntmps35
  go_wp2_with fail
  go_loopw [3] (fun i wr => ∃ k : Nat, 1 ≤ k ∧ i = .int .i64 k ∧ Hid (∀ j, 0 < j → j < k → j < l.length → nth l (j - 1) < nth l j) ∧ Ext w wr) (fun i _ => l.length - (intOf i).toNat)
  case atStart => exact ⟨1, Nat.le_refl _, rfl, fun j h1 h2 => absurd h2 (by omega), Ext.refl w⟩
  case round =>
    obtain ⟨k, hk, rfl, hall, he⟩ := hrel
    by_cases hlt : k < l.length
    · have hd : decide (k < l.length) = true := decide_eq_true hlt
      have HR := RowsAt.ext HX.out he
      obtain ⟨b, off, rfl⟩ := RowsAt.base HR hlt
      obtain ⟨hb, c0⟩ := IntAt.at HR k hlt
      obtain ⟨-, c1⟩ := IntAt.at HR (k - 1) (by omega)
      clear HR
      rcases Int.lt_or_le (nth l (k - 1)) (nth l k) with hc | hc
      · have hd2 : decide (nth l k ≤ nth l (k - 1)) = false := decide_eq_false (by omega)
        have hn : Hid (∀ j, 0 < j → j < k + 1 → j < l.length → nth l (j - 1) < nth l j) := fun j h1 h2 h3 => by
          rcases (show j < k ∨ j = k by omega) with h4 | rfl
          · exact hall.out j h1 h4 h3
          · exact hc
        generalize nth l (k - 1) = p at *
        generalize nth l k = q at *
        go_wp2_with fail
        refine region_quiet (by kernel_rfl) (by kernel_rfl) ?_
        repeat (any_goals (first | go_big_quiet_step (fail) | quiet_step (fail)))
        refine wpQuiet_nil ?_
        intro _ hw'
        obtain ⟨y, hw''⟩ := hw'
        subst hw''
        go_wp2_with fail
        go_roundw
        case rel => exact ⟨k + 1, by omega, by go_num, hn.out, he.lift y⟩
        case measure => simp [intOf]; omega
      · have hd2 : decide (nth l k ≤ nth l (k - 1)) = true := decide_eq_true hc
        have hv := Lib.hid (incT_bad (by omega) hlt hc)
        generalize nth l (k - 1) = p at *
        generalize nth l k = q at *
        go_wp2_with fail
        refine region_quiet (by kernel_rfl) (by kernel_rfl) ?_
        repeat (any_goals (first | go_big_quiet_step (fail) | quiet_step (fail)))
        refine wpQuiet_nil ?_
        intro _ hw'
        obtain ⟨y, hw''⟩ := hw'
        subst hw''
        go_wp2_with fail
        go_ret
        exact ⟨ret_bool hv.out, he.lift y⟩
    · have hd : decide (k < l.length) = false := decide_eq_false hlt
      have hv : Hid (true = incT l) := (allB_end fun j hj => by
        rcases Nat.eq_zero_or_pos j with h0 | h0
        · rw [decide_eq_true h0]; rfl
        · rw [decide_eq_true (hall.out j h0 (by omega) hj)]; simp).symm
      go_wp2_with fail
      go_ret
      exact ⟨ret_bool hv.out, he⟩
/-- The absences of one. -/
def rowT (T : Int) (l : List Int) : Bool := incT l && allIn l 0 (T - 1)
/-- The code. -/
def codeT (P T G : Int) (A : List (List Int)) : Int := if (inB P 1 8 && inB T 0 12 && inB G 1 12) = true then (if (A.length : Int) = P then (if allB A.length (fun k => rowT T (nth A k)) = true then 0 else 7) else 7) else 2
theorem codeT_2 {P T G : Int} {A : List (List Int)} (h : (inB P 1 8 && inB T 0 12 && inB G 1 12) = false) : codeT P T G A = 2 := by unfold codeT; rw [h]; rfl
theorem codeT_7 {P T G : Int} {A : List (List Int)} (h : (inB P 1 8 && inB T 0 12 && inB G 1 12) = true) (h2 : ¬ (A.length : Int) = P) : codeT P T G A = 7 := by unfold codeT; rw [if_pos h, if_neg h2]
theorem codeT_8 {P T G : Int} {A : List (List Int)} (h : (inB P 1 8 && inB T 0 12 && inB G 1 12) = true) (h2 : (A.length : Int) = P) {k : Nat} (hk : k < A.length) (h3 : rowT T (nth A k) = false) : codeT P T G A = 7 := by
  unfold codeT; rw [if_pos h, if_pos h2, allB_bad hk h3]; rfl
theorem codeT_0 {P T G : Int} {A : List (List Int)} (h : (inB P 1 8 && inB T 0 12 && inB G 1 12) = true) (h2 : (A.length : Int) = P) (h3 : ∀ k, k < A.length → rowT T (nth A k) = true) : codeT P T G A = 0 := by
  unfold codeT; rw [if_pos h, if_pos h2, allB_end h3]; rfl
theorem codeT_ok {P T G : Int} {A : List (List Int)} (h : codeT P T G A = 0) : (1 ≤ P ∧ P ≤ 8) ∧ (0 ≤ T ∧ T ≤ 12) ∧ (1 ≤ G ∧ G ≤ 12) ∧ (A.length : Int) = P := by
  unfold codeT at h
  split at h
  · rename_i h1
    simp only [Bool.and_eq_true, inB_iff] at h1
    split at h
    · rename_i h2
      exact ⟨h1.1.1, h1.1.2, h1.2, h2⟩
    · cases h
  · cases h
theorem ownsMap_set {H : Type} {P : Program} {k : TypeId} {R : Value → Option (DataW H × List MemPlace)} {w : World} {b n : Nat} {D : DataW H} (h : w.ownsMap P k R b n D) {rb : Nat} (hne : b ≠ rb) (o : Nat) (v : Value) : (w.setCell ⟨rb, o, none⟩ v).ownsMap P k R b n D := by
  obtain ⟨es, clock, hb, F, hs, hD⟩ := h
  exact ⟨es, clock, by rw [heap_setCell_other w ⟨rb, o, none⟩ b _ hne]; exact hb, F, hs, hD⟩
set_option maxRecDepth 100000 in
set_option maxHeartbeats 8000000 in
theorem newTurns_any (w : World) (P T G : Int) (aa : Option Addr) (A : List (List Int)) (vs : List Sl) (ac : Nat) (HA : IIs w aa A vs) (hAin : ∀ k, k < A.length → (nth A k).length ≤ 1048576) (hAl : A.length ≤ 100) :
    Calls Tryd.prog 16 #[.int .i64 P, .int .i64 T, .int .i64 G, .slice aa A.length ac] w fun e w' => Ext w w' ∧ ∃ v0 v1 v2 v3 v4, e = .returned (.tuple #[.agg #[v0, v1, v2, v3, v4], .int .i64 (codeT P T G A)]) ∧
      (codeT P T G A = 0 → ∃ mb, w.heap.size ≤ mb ∧ v0 = .int .i64 P ∧ v1 = .int .i64 T ∧ v2 = .int .i64 G ∧ v3 = .slice aa A.length ac ∧ v4 = .map (some mb) ∧ w'.ownsMap Tryd.prog 9 (plainElem (H := Unit) Tryd.prog 2) mb 0 (.map [])) ∧ (codeT P T G A ≠ 0 → v0 = .int .i64 0 ∧ v1 = .int .i64 0 ∧ v2 = .int .i64 0 ∧ v3 = .slice none 0 0 ∧ v4 = .map none) := by
  have HX := Lib.hid HA
  have hin := Lib.hid hAin
  clear HA hAin
  have HB := Lib.hid (Blk.new w #[.int .i64 0, .int .i64 0, .int .i64 0, .slice none 0 0, .map none] 50)
  obtain ⟨W1, hW1⟩ : ∃ W1, W1 = w.alloc (.cells #[.int .i64 0, .int .i64 0, .int .i64 0, .slice none 0 0, .map none] 50) := ⟨_, rfl⟩
  have hE1 := Lib.hid (show Ext w W1 by rw [hW1]; exact (Ext.refl w).alloc _)
  obtain ⟨rb, hrb⟩ : ∃ rb, rb = w.heap.size := ⟨_, rfl⟩
  rw [← hW1, ← hrb] at HB
  replace hW1 := Lib.hid hW1
  have hrw : w.heap.size ≤ rb := by omega
  replace hrb := Lib.hid hrb
  rcases (show (inB P 1 8 && inB T 0 12 && inB G 1 12) = true ∨ (inB P 1 8 && inB T 0 12 && inB G 1 12) = false by cases (inB P 1 8 && inB T 0 12 && inB G 1 12) <;> simp) with hq | hq
  case inr =>
    have hc := Lib.hid (codeT_2 (A := A) hq)
    rw [hc.out]
    rcases (show (inB P 1 8 = false ∨ (inB P 1 8 = true ∧ inB T 0 12 = false) ∨ (inB P 1 8 = true ∧ inB T 0 12 = true ∧ inB G 1 12 = false)) by
      revert hq; cases inB P 1 8 <;> cases inB T 0 12 <;> cases inB G 1 12 <;> simp) with h1 | ⟨h1, h2⟩ | ⟨h1, h2, h3⟩
    all_goals
      clear hq
      have rl0 := (HB.out).lt
      obtain ⟨z0, o0⟩ := (HB.out).cell (o := 0) (by decide)
      obtain ⟨z1, o1⟩ := (HB.out).cell (o := 1) (by decide)
      obtain ⟨z2, o2⟩ := (HB.out).cell (o := 2) (by decide)
      obtain ⟨z3, o3⟩ := (HB.out).cell (o := 3) (by decide)
      obtain ⟨z4, o4⟩ := (HB.out).cell (o := 4) (by decide)
      have n0 := (HB.out).frozen 0
      have n1 := (HB.out).frozen 1
      have n2 := (HB.out).frozen 2
      have n3 := (HB.out).frozen 3
      have n4 := (HB.out).frozen 4
      go_enter Tryd.func16, Tryd.ntmps16
      go_wp2_with fail
      rw [← hW1.out, ← hrb.out]
      iterate 3 (try (go_at_call 34; refine (within_any _ _ _ _).mono ?_; rintro e w' ⟨rfl, hw'⟩; rw [hw']; clear hw'; go_wp2_with fail))
      refine bodyPost_ret (v := .tuple #[.agg #[.int .i64 0, .int .i64 0, .int .i64 0, .slice none 0 0, .map none], .int .i64 2]) (by simp [results, Tryd.results16, go_sem, o0, o1, o2, o3, o4]) rfl ?_
      try rw [hc.out]
      exact ⟨(by repeat (first | with_reducible exact hE1.out | with_reducible refine Ext.setCell ?_ hrw _ | with_reducible refine Ext.lift ?_ _ | with_reducible refine Ext.alloc ?_ _)), _, _, _, _, _, rfl, fun h => absurd h (by decide), fun _ => ⟨rfl, rfl, rfl, rfl, rfl⟩⟩
  case inl =>
    obtain ⟨hq12, hq3⟩ := Bool.and_eq_true_iff.1 hq
    obtain ⟨hq1, hq2⟩ := Bool.and_eq_true_iff.1 hq12
    have hqh := Lib.hid hq
    obtain ⟨t0, t1⟩ := inB_iff.1 hq2
    clear hq hq12
    by_cases hAP : (A.length : Int) = P
    · have hne : ((A.length : Int) != P) = false := bne_eq_false_iff_eq.2 hAP
      replace hAP := Lib.hid hAP
      go_enter Tryd.func16, Tryd.ntmps16
      go_wp2_with fail
      rw [← hW1.out, ← hrb.out]
      iterate 3 (try (go_at_call 34; refine (within_any _ _ _ _).mono ?_; rintro e w' ⟨rfl, hw'⟩; rw [hw']; clear hw'; go_wp2_with fail))
      go_loopw [33] (fun i wr => ∃ k : Nat, k ≤ A.length ∧ i = .int .i64 k ∧ Hid (∀ j, j < k → rowT T (nth A j) = true) ∧ Hid (Ext W1 wr)) (fun i _ => A.length - (intOf i).toNat)
      case atStart => exact ⟨0, Nat.zero_le _, rfl, upto_zero, Ext.refl _⟩
      case round =>
        obtain ⟨k, hk, rfl, hall, he⟩ := hrel
        have hEr := Lib.hid (hE1.out.trans he.out)
        by_cases hlt : k < A.length
        · have hd : decide (k < A.length) = true := decide_eq_true hlt
          have hIW := HX.out.ext hEr.out
          obtain ⟨pb, po, rfl⟩ := RowsAt.base hIW.row (by rw [hIW.len]; exact hlt)
          obtain ⟨hpb, ad, cp, c0, -, hIA⟩ := hIW.at hlt
          have hil := hin.out k hlt
          have HI := Lib.hid (increasing_any ad cp (nth A k) wr hIA hil)
          have HW := Lib.hid fun (W' : World) (hw : Ext wr W') => allWithin_any ad cp (nth A k) 0 (T - 1) W' (RowsAt.ext hIA hw) (by omega)
          clear hIA hIW
          cases h1 : incT (nth A k)
          · have hc : Hid (codeT P T G A = 7) := codeT_8 hqh.out hAP.out hlt (by unfold rowT; rw [h1]; rfl)
            rw [h1] at HI
            go_wp2_with fail
            refine HI.out.mono ?_
            rintro e w5 ⟨rfl, E5⟩
            have hEr5 := Lib.hid (hEr.out.trans E5)
            have rl0 := ((HB.out.ext (he.out.trans E5))).lt
            obtain ⟨z0, o0⟩ := ((HB.out.ext (he.out.trans E5))).cell (o := 0) (by decide)
            obtain ⟨z1, o1⟩ := ((HB.out.ext (he.out.trans E5))).cell (o := 1) (by decide)
            obtain ⟨z2, o2⟩ := ((HB.out.ext (he.out.trans E5))).cell (o := 2) (by decide)
            obtain ⟨z3, o3⟩ := ((HB.out.ext (he.out.trans E5))).cell (o := 3) (by decide)
            obtain ⟨z4, o4⟩ := ((HB.out.ext (he.out.trans E5))).cell (o := 4) (by decide)
            have n0 := ((HB.out.ext (he.out.trans E5))).frozen 0
            have n1 := ((HB.out.ext (he.out.trans E5))).frozen 1
            have n2 := ((HB.out.ext (he.out.trans E5))).frozen 2
            have n3 := ((HB.out.ext (he.out.trans E5))).frozen 3
            have n4 := ((HB.out.ext (he.out.trans E5))).frozen 4
            clear HI HW E5 h1
            go_wp2_with fail
            refine bodyPost_ret (v := .tuple #[.agg #[.int .i64 0, .int .i64 0, .int .i64 0, .slice none 0 0, .map none], .int .i64 7]) (by simp [results, Tryd.results16, go_sem, o0, o1, o2, o3, o4]) rfl ?_
            try rw [hc.out]
            exact ⟨(by repeat (first | with_reducible exact hEr5.out | with_reducible refine Ext.setCell ?_ hrw _ | with_reducible refine Ext.lift ?_ _ | with_reducible refine Ext.alloc ?_ _)), _, _, _, _, _, rfl, fun h => absurd h (by decide), fun _ => ⟨rfl, rfl, rfl, rfl, rfl⟩⟩
          · rw [h1] at HI
            cases h2 : allIn (nth A k) 0 (T - 1)
            · have hc : Hid (codeT P T G A = 7) := codeT_8 hqh.out hAP.out hlt (by unfold rowT; rw [h1, h2]; rfl)
              rw [h2] at HW
              go_wp2_with fail
              refine HI.out.mono ?_
              rintro e w5 ⟨rfl, E5⟩
              go_wp2_with fail
              refine (HW.out _ E5).mono ?_
              rintro e w6 ⟨rfl, E6⟩
              have hEr5 := Lib.hid (hEr.out.trans (E5.trans E6))
              have rl0 := ((HB.out.ext (he.out.trans (E5.trans E6)))).lt
              obtain ⟨z0, o0⟩ := ((HB.out.ext (he.out.trans (E5.trans E6)))).cell (o := 0) (by decide)
              obtain ⟨z1, o1⟩ := ((HB.out.ext (he.out.trans (E5.trans E6)))).cell (o := 1) (by decide)
              obtain ⟨z2, o2⟩ := ((HB.out.ext (he.out.trans (E5.trans E6)))).cell (o := 2) (by decide)
              obtain ⟨z3, o3⟩ := ((HB.out.ext (he.out.trans (E5.trans E6)))).cell (o := 3) (by decide)
              obtain ⟨z4, o4⟩ := ((HB.out.ext (he.out.trans (E5.trans E6)))).cell (o := 4) (by decide)
              have n0 := ((HB.out.ext (he.out.trans (E5.trans E6)))).frozen 0
              have n1 := ((HB.out.ext (he.out.trans (E5.trans E6)))).frozen 1
              have n2 := ((HB.out.ext (he.out.trans (E5.trans E6)))).frozen 2
              have n3 := ((HB.out.ext (he.out.trans (E5.trans E6)))).frozen 3
              have n4 := ((HB.out.ext (he.out.trans (E5.trans E6)))).frozen 4
              clear HI HW E5 E6 h1 h2
              go_wp2_with fail
              refine bodyPost_ret (v := .tuple #[.agg #[.int .i64 0, .int .i64 0, .int .i64 0, .slice none 0 0, .map none], .int .i64 7]) (by simp [results, Tryd.results16, go_sem, o0, o1, o2, o3, o4]) rfl ?_
              try rw [hc.out]
              exact ⟨(by repeat (first | with_reducible exact hEr5.out | with_reducible refine Ext.setCell ?_ hrw _ | with_reducible refine Ext.lift ?_ _ | with_reducible refine Ext.alloc ?_ _)), _, _, _, _, _, rfl, fun h => absurd h (by decide), fun _ => ⟨rfl, rfl, rfl, rfl, rfl⟩⟩
            · have hr : Hid (rowT T (nth A k) = true) := by show _ = _; unfold rowT; rw [h1, h2]; rfl
              rw [h2] at HW
              go_wp2_with fail
              refine HI.out.mono ?_
              rintro e w5 ⟨rfl, E5⟩
              go_wp2_with fail
              refine (HW.out _ E5).mono ?_
              rintro e w6 ⟨rfl, E6⟩
              have E6 := Lib.hid (he.out.trans (E5.trans E6))
              clear HI HW E5 h1 h2
              go_wp2_with fail
              go_roundw
              case rel => exact ⟨k + 1, by omega, by go_num, upto_succ hall.out hr.out, E6.out⟩
              case measure => simp [intOf]; omega
        · have hd : decide (k < A.length) = false := decide_eq_false hlt
          have hc : Hid (codeT P T G A = 0) := codeT_0 hqh.out hAP.out (fun j hj => hall.out j (by omega))
          have hmm := @run_makeMap Tryd.prog
          obtain ⟨mb, hmb⟩ : ∃ mb, mb = wr.heap.size := ⟨_, rfl⟩
          have hm0 := World.ownsMap_made wr Tryd.prog 9 (plainElem (H := Unit) Tryd.prog 2)
          rw [← hmb] at hm0
          have hx3 : Ext wr (wr.alloc (.map #[] 0)) := (Ext.refl _).alloc _
          have rl0 := ((HB.out.ext (he.out.trans hx3))).lt
          obtain ⟨z0, o0⟩ := ((HB.out.ext (he.out.trans hx3))).cell (o := 0) (by decide)
          obtain ⟨z1, o1⟩ := ((HB.out.ext (he.out.trans hx3))).cell (o := 1) (by decide)
          obtain ⟨z2, o2⟩ := ((HB.out.ext (he.out.trans hx3))).cell (o := 2) (by decide)
          obtain ⟨z3, o3⟩ := ((HB.out.ext (he.out.trans hx3))).cell (o := 3) (by decide)
          obtain ⟨z4, o4⟩ := ((HB.out.ext (he.out.trans hx3))).cell (o := 4) (by decide)
          have n0 := ((HB.out.ext (he.out.trans hx3))).frozen 0
          have n1 := ((HB.out.ext (he.out.trans hx3))).frozen 1
          have n2 := ((HB.out.ext (he.out.trans hx3))).frozen 2
          have n3 := ((HB.out.ext (he.out.trans hx3))).frozen 3
          have n4 := ((HB.out.ext (he.out.trans hx3))).frozen 4
          have hmw : w.heap.size ≤ mb := by rw [hmb]; exact hEr.out.size
          have hE3 := Lib.hid (hEr.out.trans hx3)
          have hmr : mb ≠ rb := by have := Nat.lt_of_lt_of_le HB.out.lt he.out.size; omega
          have hm1 : Hid (((((((wr.alloc (.map #[] 0)).setCell ⟨rb, 0, none⟩ (.int .i64 P)).setCell ⟨rb, 1, none⟩ (.int .i64 T)).setCell ⟨rb, 2, none⟩ (.int .i64 G)).setCell ⟨rb, 3, none⟩ (.slice aa A.length ac)).setCell ⟨rb, 4, none⟩ (.map (some mb))).ownsMap Tryd.prog 9 (plainElem (H := Unit) Tryd.prog 2) mb 0 (.map [])) :=
            ownsMap_set (ownsMap_set (ownsMap_set (ownsMap_set (ownsMap_set hm0 hmr _ _) hmr _ _) hmr _ _) hmr _ _) hmr _ _
          replace hmb := Lib.hid hmb
          clear hx3 he hEr hm0
          go_wp2_with fail
          rw [← hmb.out]
          refine bodyPost_ret (v := .tuple #[.agg #[.int .i64 P, .int .i64 T, .int .i64 G, .slice aa A.length ac, .map (some mb)], .int .i64 0]) (by simp [results, Tryd.results16, go_sem, o0, o1, o2, o3, o4]) rfl ?_
          rw [hc.out]
          exact ⟨(by repeat (first | with_reducible exact hE3.out | with_reducible refine Ext.setCell ?_ hrw _ | with_reducible refine Ext.lift ?_ _ | with_reducible refine Ext.alloc ?_ _)), _, _, _, _, _, rfl, fun _ => ⟨mb, hmw, rfl, rfl, rfl, rfl, rfl, hm1.out⟩, fun h => absurd rfl h⟩
    · have hne : ((A.length : Int) != P) = true := bne_iff_ne.2 hAP
      have hc := Lib.hid (codeT_7 hqh.out hAP)
      rw [hc.out]
      have rl0 := (HB.out).lt
      obtain ⟨z0, o0⟩ := (HB.out).cell (o := 0) (by decide)
      obtain ⟨z1, o1⟩ := (HB.out).cell (o := 1) (by decide)
      obtain ⟨z2, o2⟩ := (HB.out).cell (o := 2) (by decide)
      obtain ⟨z3, o3⟩ := (HB.out).cell (o := 3) (by decide)
      obtain ⟨z4, o4⟩ := (HB.out).cell (o := 4) (by decide)
      have n0 := (HB.out).frozen 0
      have n1 := (HB.out).frozen 1
      have n2 := (HB.out).frozen 2
      have n3 := (HB.out).frozen 3
      have n4 := (HB.out).frozen 4
      clear hAP
      go_enter Tryd.func16, Tryd.ntmps16
      go_wp2_with fail
      rw [← hW1.out, ← hrb.out]
      iterate 3 (try (go_at_call 34; refine (within_any _ _ _ _).mono ?_; rintro e w' ⟨rfl, hw'⟩; rw [hw']; clear hw'; go_wp2_with fail))
      refine bodyPost_ret (v := .tuple #[.agg #[.int .i64 0, .int .i64 0, .int .i64 0, .slice none 0 0, .map none], .int .i64 7]) (by simp [results, Tryd.results16, go_sem, o0, o1, o2, o3, o4]) rfl ?_
      try rw [hc.out]
      exact ⟨(by repeat (first | with_reducible exact hE1.out | with_reducible refine Ext.setCell ?_ hrw _ | with_reducible refine Ext.lift ?_ _ | with_reducible refine Ext.alloc ?_ _)), _, _, _, _, _, rfl, fun h => absurd h (by decide), fun _ => ⟨rfl, rfl, rfl, rfl, rfl⟩⟩
end Go.Proofs.YtmkmmenkjbmppaaDoor
