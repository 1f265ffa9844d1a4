/- A setting set in a state, and found by its name: the reference's l27Set and l27At. No conditions but the length of the state. -/
import Derived.Test.YtbcpgdidajapoaaDoorState
import Derived.Test.YtbcpgdidajapoaaDoorLst
import Derived.Test.YtbcpgdidajapoaaDoorKey
namespace Go.Proofs.YtbcpgdidajapoaaDoor
open Go.RowKit
theorem elSetting : El Tryd.prog 26 57 2 24 := El.mk' Tryd.underlying26 (by kernel_rfl) (by decide)
theorem oneSetting : ∀ (x : Setting) (j : Nat), j < 2 → (Setting.cell x j).oneCell' = true := fun x j hj => by rcases (show j = 0 ∨ j = 1 by omega) with rfl | rfl <;> rfl
abbrev setS (e : Setting) (l : List Setting) : List Setting := setK Setting.name sLt e l
abbrev idxS (n : ByteArray) (l : List Setting) : Int := idxK Setting.name n l
def stD (e : Setting) (d : Bool) (y : Setting) : Bool := d || !sLt y.name e.name
def stO (e : Setting) (d : Bool) (o : List Setting) (y : Setting) : List Setting := (if (!d && !sLt y.name e.name) = true then o ++ [e] else o) ++ (if sEq y.name e.name = true then [] else [y])
def stP (e : Setting) (l : List Setting) : Nat → Bool × List Setting
  | 0 => (false, [])
  | k + 1 => (stD e (stP e l k).1 (nth l k), stO e (stP e l k).1 (stP e l k).2 (nth l k))
def stF (e : Setting) (s : Bool × List Setting) (l : List Setting) : Bool × List Setting := l.foldl (fun s y => (stD e s.1 y, stO e s.1 s.2 y)) s
theorem sLt_irr (a : ByteArray) : sLt a a = false := by
  rw [sLt_not]; exact List.lt_irrefl _
theorem stP_take (e : Setting) (l : List Setting) : ∀ k, k ≤ l.length → stP e l k = stF e (false, []) (l.take k)
  | 0, _ => rfl
  | k + 1, h => by
    have e1 : l.take (k + 1) = l.take k ++ [nth l k] := by rw [List.take_succ_eq_append_getElem h, nth_eq l k h]
    rw [e1]
    unfold stF
    rw [List.foldl_append]
    show (stD e (stP e l k).1 (nth l k), stO e (stP e l k).1 (stP e l k).2 (nth l k)) = _
    rw [stP_take e l k (by omega)]; rfl
theorem stF_done (e : Setting) : ∀ (l : List Setting) (o : List Setting), stF e (true, o) l = (true, o ++ l.filter (fun z => !decide (z.name = e.name)))
  | [], o => by simp [stF]
  | y :: l, o => by
    have h : stF e (true, o) (y :: l) = stF e (stD e true y, stO e true o y) l := rfl
    have h2 : stD e true y = true := rfl
    have h3 : stO e true o y = o ++ (if sEq y.name e.name = true then [] else [y]) := rfl
    rw [h, h2, stF_done e l, h3, List.filter_cons]
    by_cases hn : y.name = e.name
    · rw [if_pos (sEq_iff.2 hn), if_neg (by simp [hn])]; simp
    · rw [if_neg (by rw [sEq_iff]; exact hn), if_pos (by simp [hn])]; simp
theorem stF_fin (e : Setting) : ∀ (l : List Setting) (o : List Setting), (if (stF e (false, o) l).1 = true then (stF e (false, o) l).2 else (stF e (false, o) l).2 ++ [e]) = o ++ setS e l
  | [], o => rfl
  | y :: l, o => by
    have h : stF e (false, o) (y :: l) = stF e (stD e false y, stO e false o y) l := rfl
    rw [h]
    show _ = o ++ setK Setting.name sLt e (y :: l)
    unfold setK
    cases hl : sLt y.name e.name
    · have h2 : stD e false y = true := by unfold stD; rw [hl]; rfl
      have h3 : stO e false o y = (o ++ [e]) ++ (if sEq y.name e.name = true then [] else [y]) := by unfold stO; rw [hl]; rfl
      rw [h2, stF_done, h3, List.filter_cons]
      by_cases hn : y.name = e.name
      · rw [if_pos (sEq_iff.2 hn)]; simp [hn]
      · rw [if_neg (fun h => hn (sEq_iff.1 h))]; simp [hn]
    · have hn : ¬ y.name = e.name := fun h => by rw [h, sLt_irr] at hl; cases hl
      have h2 : stD e false y = false := by unfold stD; rw [hl]; rfl
      have h3 : stO e false o y = o ++ [y] := by unfold stO; rw [hl, if_neg (by decide), if_neg (fun h => hn (sEq_iff.1 h))]
      rw [h2, h3, stF_fin e l, if_pos rfl]; simp
theorem stP_fin (e : Setting) (l : List Setting) : (if (stP e l l.length).1 = true then (stP e l l.length).2 else (stP e l l.length).2 ++ [e]) = setS e l := by
  rw [stP_take e l l.length (Nat.le_refl _), List.take_length, stF_fin]; rfl
theorem stP_len (e : Setting) (l : List Setting) : ∀ k, (stP e l k).2.length ≤ 2 * k
  | 0 => by simp [stP]
  | k + 1 => by
    have := stP_len e l k
    show (stO e _ _ _).length ≤ _
    unfold stO
    rw [List.length_append]
    have h1 : (if sEq (nth l k).name e.name = true then [] else [nth l k]).length ≤ 1 := by split <;> simp
    have h2 : (if (!(stP e l k).1 && !sLt (nth l k).name e.name) = true then (stP e l k).2 ++ [e] else (stP e l k).2).length ≤ (stP e l k).2.length + 1 := by split <;> simp
    omega
theorem idxK_at {α κ : Type} [Inhabited α] [DecidableEq κ] {nm : α → κ} {n : κ} : ∀ {l : List α} {k : Nat}, (∀ j, j < k → nm (nth l j) ≠ n) → k < l.length → nm (nth l k) = n → idxK nm n l = (k : Int)
  | [], _, _, h, _ => absurd h (Nat.not_lt_zero _)
  | y :: l, 0, _, _, h => by unfold idxK; exact if_pos h
  | y :: l, k + 1, h0, h1, h2 => by
    have h3 : nm y ≠ n := h0 0 (Nat.succ_pos _)
    have := idxK_at (nm := nm) (n := n) (l := l) (k := k) (fun j hj => h0 (j + 1) (by omega)) (by simpa using h1) h2
    unfold idxK
    rw [if_neg h3, this, if_neg (by omega)]; push_cast; rfl
theorem idxK_none {α κ : Type} [Inhabited α] [DecidableEq κ] {nm : α → κ} {n : κ} : ∀ {l : List α}, (∀ j, j < l.length → nm (nth l j) ≠ n) → idxK nm n l = -1
  | [], _ => rfl
  | y :: l, h => by
    have h3 : nm y ≠ n := h 0 (by simp)
    have := idxK_none (nm := nm) (n := n) (l := l) (fun j hj => h (j + 1) (by simpa using hj))
    unfold idxK
    rw [if_neg h3, this]; rfl
set_option maxRecDepth 100000 in
set_option maxHeartbeats 2000000 in
theorem l27At_any (a : Option Addr) (cap : Nat) (l : List Setting) (n : ByteArray) (w : World) (H : SettingAt w a l) (hl : l.length ≤ 1048576) :
    Calls Tryd.prog 50 #[.slice a l.length cap, .string n] w fun e w' => e = .returned (.int .i64 (idxS n l)) ∧ w' = w := by
  have HA := Lib.hid H
  clear H
  go_enter Tryd.func50, Tryd.ntmps50
  go_wp2_with fail
  go_loop [5] (fun i => ∃ k : Nat, k ≤ l.length ∧ i = .int .i64 k ∧ Hid (∀ j, j < k → (nth l j).name ≠ n)) (fun i => l.length - (intOf i).toNat)
  case atStart => exact ⟨0, Nat.zero_le _, rfl, upto_zero⟩
  case round =>
    obtain ⟨k, hk, rfl, hall⟩ := hrel
    by_cases hlt : k < l.length
    · obtain ⟨b, off, rfl⟩ := HA.out.base hlt
      obtain ⟨hb, c0, c1⟩ := Setting.at HA.out k hlt
      cases h1 : sEq (nth l k).name n
      · have hnx : Hid (∀ j, j < k + 1 → (nth l j).name ≠ n) := upto_succ hall.out (sEq_not.1 h1)
        go_wp2_with fail
        go_round
        case rel => exact ⟨k + 1, by omega, by go_num, hnx.out⟩
        case measure => simp [intOf]; omega
      · have hv : Hid (idxS n l = (k : Int)) := idxK_at hall.out hlt (sEq_iff.1 h1)
        go_wp2_with fail
        go_ret
        exact ⟨ret_int hv.out.symm, rfl⟩
    · have hv : Hid (idxS n l = -1) := idxK_none fun j hj => hall.out j (by omega)
      go_wp2_with fail
      go_ret
      exact ⟨ret_int hv.out.symm, rfl⟩
set_option maxRecDepth 100000 in
set_option maxHeartbeats 8000000 in
theorem l27Set_any (w : World) (a : Option Addr) (cap : Nat) (l : List Setting) (e : Setting) (H : SettingAt w a l) (hl : l.length ≤ 1000) :
    Calls Tryd.prog 51 #[.slice a l.length cap, .agg #[.string e.name, .int .i64 e.value]] w (OutL 57 2 Setting.cell w (setS e l)) := by
  have HA := Lib.hid H
  have hfin := Lib.hid (stP_fin e l)
  clear H
  go_enter Tryd.func51, Tryd.ntmps51
  go_wp2_with fail
  obtain ⟨w0, hw0⟩ : ∃ w0, w0 = w.alloc (.cells #[.string e.name, .int .i64 e.value] 57) := ⟨_, rfl⟩
  have hs0 : w0.heap.size = w.heap.size + 1 := by rw [hw0, size_new]
  obtain ⟨bx, hbx⟩ : ∃ bx, bx = w.heap.size := ⟨_, rfl⟩
  obtain ⟨base, hb1, hb2⟩ : ∃ base, base ≤ w0.heap.size ∧ w0.heap.size ≤ base := ⟨_, Nat.le_refl _, Nat.le_refl _⟩
  have hL0 := Lst.new (T := 57) (n := 2) (cell := Setting.cell) w0 base (by omega)
  rw [hs0, ← hbx] at hL0
  have hL0 := Lib.hid hL0
  have hX0 := Lib.hid ((Ext.refl w0).alloc (.cells #[] 57))
  have hE0 : Hid (Ext w w0) := by show Ext w w0; rw [hw0]; exact (Ext.refl w).alloc _
  have hD : Hid (∀ W, Ext w0 W → W.cell? ⟨bx, 0, none⟩ = some (.string e.name) ∧ W.cell? ⟨bx, 0 + 1, none⟩ = some (.int .i64 e.value) ∧ bx < W.heap.size) := fun W he => by
    rw [hbx]
    exact ⟨he.cell (by rw [hw0, cell_new]; rfl), he.cell (by rw [hw0, cell_new]; rfl), by have := he.size; omega⟩
  have hbw : w.heap.size ≤ base := by omega
  rw [← hw0, ← hbx]
  clear hw0 hs0 hbx
  go_loopw [5, 6, 7] (fun o d i wr => ∃ k : Nat, k ≤ l.length ∧ i = .int .i64 k ∧ d = .bool (stP e l k).1 ∧ Hid (Lst 57 2 Setting.cell wr base o (stP e l k).2) ∧ Hid (Ext w0 wr)) (fun _ _ i _ => l.length - (intOf i).toNat)
  case atStart => exact ⟨0, Nat.zero_le _, rfl, rfl, hL0.out, hX0.out⟩
  case round =>
    clear hL0 hX0
    obtain ⟨k, hk, rfl, rfl, HO, HE⟩ := hrel
    have hlen := stP_len e l k
    obtain ⟨ca, cc, rfl, hcc, hcm, -, -⟩ := HO.out.shape
    have hszr := HE.out.size
    by_cases hlt : k < l.length
    · have hnx : Hid (stP e l (k + 1) = (stD e (stP e l k).1 (nth l k), stO e (stP e l k).1 (stP e l k).2 (nth l k))) := rfl
      have hlo := hlen
      obtain ⟨D, hD1⟩ : ∃ D, D = (stP e l k).1 := ⟨_, rfl⟩
      obtain ⟨O, hO1⟩ : ∃ O, O = (stP e l k).2 := ⟨_, rfl⟩
      rw [← hD1, ← hO1] at hnx
      rw [← hO1] at HO hlo hcc ⊢
      rw [← hD1]
      clear hD1 hO1 hlen
      obtain ⟨b, off, rfl⟩ := HA.out.base hlt
      obtain ⟨hb, c0, c1⟩ := Setting.at (HA.out.ext (hE0.out.trans HE.out)) k hlt
      obtain ⟨e0, e1, hbl⟩ := hD.out wr HE.out
      cases hl1 : sLt (nth l k).name e.name
      case true =>
        have h2 : sEq (nth l k).name e.name = false := by
          rw [sEq_not]; intro h; rw [h, sLt_irr] at hl1; cases hl1
        have hd2 : Hid ((stP e l (k + 1)).1 = D ∧ (stP e l (k + 1)).2 = O ++ [nth l k]) := by
          show _ ∧ _
          rw [hnx.out]
          refine ⟨?_, ?_⟩
          · show stD e D _ = D
            unfold stD; rw [hl1]; simp
          · show stO e D O _ = _
            unfold stO; rw [hl1, h2]; simp
        cases D
        all_goals
          go_wp2_with fail
          refine region_quiet (by kernel_rfl) (by kernel_rfl) ?_
          repeat (any_goals (first | go_big_quiet_step ((fail)) | quiet_step ((fail))))
          refine wpQuiet_nil ?_
          intro _ hw'
          obtain ⟨y, hw''⟩ := hw'
          subst hw''
          obtain ⟨y1, hy⟩ : ∃ z, z = y := ⟨_, rfl⟩
          subst hy
          go_wp2_with fail
          refine region_quiet (by kernel_rfl) (by kernel_rfl) ?_
          repeat (any_goals (first | go_big_quiet_step ((fail)) | quiet_step ((fail))))
          refine wpQuiet_nil ?_
          intro _ hw'
          obtain ⟨y, hw''⟩ := hw'
          subst hw''
          have hxA : Hid (Ext wr ((lift (lift wr y1) y).alloc (.cells #[.string (nth l k).name, .int .i64 (nth l k).value] 57))) := by show Ext _ _; repeat (first | exact Ext.refl _ | refine Ext.lift ?_ _ | refine Ext.alloc ?_ _)
          have HLA := Lib.hid (HO.out.ext hxA.out)
          have HRA : Hid (∀ n, n = (lift (lift wr y1) y).heap.size → SettingAt ((lift (lift wr y1) y).alloc (.cells #[.string (nth l k).name, .int .i64 (nth l k).value] 57)) (some ⟨n, 0, none⟩) [(nth l k)]) := fun n hn => by
            subst hn
            exact rows_new (lift (lift wr y1) y) #[.string (nth l k).name, .int .i64 (nth l k).value] (nth l k) (fun j hj => by rcases (show j = 0 ∨ j = 1 by omega) with rfl | rfl <;> rfl)
          have hEA := Lib.hid (HE.out.trans hxA.out)
          have hszA := hEA.out.size
          try dsimp only
          repeat (first | (at_builtin; refine Hid.out ?_) | go_values | go_skip | go_guarded | go_step | go_upon | go_back)
          refine Lib.hid ?_
          refine wpList_pushL elSetting oneSetting rfl _ _ rfl base _ (O) rfl HLA.out _ 1 1 [(nth l k)] rfl rfl (HRA.out _ (by first | rfl | (simp; done) | (simp; omega))) (by first | omega | (simp; omega)) (by first | omega | (simp; omega)) (by omega) ?_
          intro v1 w1 hLz hsz9 hgz
          have L1 := Lib.hid hLz
          have E1 := Lib.hid (hsz9 w0 hEA.out hb2)
          clear hLz hsz9 hgz HLA HRA hEA hxA hszA
          go_wp2_with fail
          go_roundw
          case rel => exact ⟨k + 1, by omega, by go_num, by rw [hd2.out.1], by rw [hd2.out.2]; exact L1.out, E1.out⟩
          case measure => simp [intOf]; omega
      case false =>
        cases h2 : sEq (nth l k).name e.name
        all_goals cases D
        all_goals
          first
            | have hd2 : Hid ((stP e l (k + 1)).1 = true ∧ (stP e l (k + 1)).2 = O ++ [e] ++ [nth l k]) := by
                show _ ∧ _
                rw [hnx.out]
                simp [stD, stO, hl1, h2]
                done
            | have hd3 : Hid ((stP e l (k + 1)).1 = true ∧ (stP e l (k + 1)).2 = O ++ [nth l k]) := by
                show _ ∧ _
                rw [hnx.out]
                simp [stD, stO, h2]
                done
            | have hd4 : Hid ((stP e l (k + 1)).1 = true ∧ (stP e l (k + 1)).2 = O ++ [e]) := by
                show _ ∧ _
                rw [hnx.out]
                simp [stD, stO, hl1, h2]
                done
            | have hd5 : Hid ((stP e l (k + 1)).1 = true ∧ (stP e l (k + 1)).2 = O) := by
                show _ ∧ _
                rw [hnx.out]
                simp [stD, stO, h2]
                done
        · -- not yet set, then the other one
          go_wp2_with fail
          refine region_quiet (by kernel_rfl) (by kernel_rfl) ?_
          repeat (any_goals (first | go_big_quiet_step ((fail)) | quiet_step ((fail))))
          refine wpQuiet_nil ?_
          intro _ hw'
          obtain ⟨y, hw''⟩ := hw'
          subst hw''
          have hxA : Hid (Ext wr ((lift wr y).alloc (.cells #[.string e.name, .int .i64 e.value] 57))) := by show Ext _ _; repeat (first | exact Ext.refl _ | refine Ext.lift ?_ _ | refine Ext.alloc ?_ _)
          have HLA := Lib.hid (HO.out.ext hxA.out)
          have HRA : Hid (∀ n, n = (lift wr y).heap.size → SettingAt ((lift wr y).alloc (.cells #[.string e.name, .int .i64 e.value] 57)) (some ⟨n, 0, none⟩) [e]) := fun n hn => by
            subst hn
            exact rows_new (lift wr y) #[.string e.name, .int .i64 e.value] e (fun j hj => by rcases (show j = 0 ∨ j = 1 by omega) with rfl | rfl <;> rfl)
          have hEA := Lib.hid (HE.out.trans hxA.out)
          have hszA := hEA.out.size
          try dsimp only
          repeat (first | (at_builtin; refine Hid.out ?_) | go_values | go_skip | go_guarded | go_step | go_upon | go_back)
          refine Lib.hid ?_
          refine wpList_pushL elSetting oneSetting rfl _ _ rfl base _ (O) rfl HLA.out _ 1 1 [e] rfl rfl (HRA.out _ (by first | rfl | (simp; done) | (simp; omega))) (by first | omega | (simp; omega)) (by first | omega | (simp; omega)) (by omega) ?_
          intro v1 w1 hLz hsz9 hgz
          have L1 := Lib.hid hLz
          have E1 := Lib.hid (hsz9 w0 hEA.out hb2)
          clear hLz hsz9 hgz HLA HRA hEA hxA hszA
          obtain ⟨P, hP⟩ : ∃ P, P = O ++ [e] := ⟨_, rfl⟩
          have hPl : P.length ≤ O.length + 1 := by rw [hP]; simp
          rw [← hP] at L1 hd2
          clear hP
          obtain ⟨ca1, cc1, rfl, hcc1, hcm1, -, -⟩ := L1.out.shape
          clear c0 c1 e0 e1 hbl hb
          obtain ⟨hb, c0, c1⟩ := Setting.at (HA.out.ext (hE0.out.trans E1.out)) k hlt
          obtain ⟨e0, e1, hbl⟩ := hD.out w1 E1.out
          go_wp2_with fail
          refine region_quiet (by kernel_rfl) (by kernel_rfl) ?_
          repeat (any_goals (first | go_big_quiet_step ((fail)) | quiet_step ((fail))))
          refine wpQuiet_nil ?_
          intro _ hw'
          obtain ⟨y, hw''⟩ := hw'
          subst hw''
          have hxA : Hid (Ext w1 ((lift w1 y).alloc (.cells #[.string (nth l k).name, .int .i64 (nth l k).value] 57))) := by show Ext _ _; repeat (first | exact Ext.refl _ | refine Ext.lift ?_ _ | refine Ext.alloc ?_ _)
          have HLA := Lib.hid (L1.out.ext hxA.out)
          have HRA : Hid (∀ n, n = (lift w1 y).heap.size → SettingAt ((lift w1 y).alloc (.cells #[.string (nth l k).name, .int .i64 (nth l k).value] 57)) (some ⟨n, 0, none⟩) [(nth l k)]) := fun n hn => by
            subst hn
            exact rows_new (lift w1 y) #[.string (nth l k).name, .int .i64 (nth l k).value] (nth l k) (fun j hj => by rcases (show j = 0 ∨ j = 1 by omega) with rfl | rfl <;> rfl)
          have hEA := Lib.hid (E1.out.trans hxA.out)
          have hszA := hEA.out.size
          try dsimp only
          repeat (first | (at_builtin; refine Hid.out ?_) | go_values | go_skip | go_guarded | go_step | go_upon | go_back)
          refine Lib.hid ?_
          refine wpList_pushL elSetting oneSetting rfl _ _ rfl base _ (P) rfl HLA.out _ 1 1 [(nth l k)] rfl rfl (HRA.out _ (by first | rfl | (simp; done) | (simp; omega))) (by first | omega | (simp; omega)) (by first | omega | (simp; omega)) (by omega) ?_
          intro v2 w2 hLz hsz9 hgz
          have L2 := Lib.hid hLz
          have E2 := Lib.hid (hsz9 w0 hEA.out hb2)
          clear hLz hsz9 hgz HLA HRA hEA hxA hszA
          go_wp2_with fail
          go_roundw
          case rel => exact ⟨k + 1, by omega, by go_num, by rw [hd2.out.1], by rw [hd2.out.2]; exact L2.out, E2.out⟩
          case measure => simp [intOf]; omega
        · -- set before
          go_wp2_with fail
          refine region_quiet (by kernel_rfl) (by kernel_rfl) ?_
          repeat (any_goals (first | go_big_quiet_step ((fail)) | quiet_step ((fail))))
          refine wpQuiet_nil ?_
          intro _ hw'
          obtain ⟨y, hw''⟩ := hw'
          subst hw''
          obtain ⟨y1, hy⟩ : ∃ z, z = y := ⟨_, rfl⟩
          subst hy
          go_wp2_with fail
          refine region_quiet (by kernel_rfl) (by kernel_rfl) ?_
          repeat (any_goals (first | go_big_quiet_step ((fail)) | quiet_step ((fail))))
          refine wpQuiet_nil ?_
          intro _ hw'
          obtain ⟨y, hw''⟩ := hw'
          subst hw''
          have hxA : Hid (Ext wr ((lift (lift wr y1) y).alloc (.cells #[.string (nth l k).name, .int .i64 (nth l k).value] 57))) := by show Ext _ _; repeat (first | exact Ext.refl _ | refine Ext.lift ?_ _ | refine Ext.alloc ?_ _)
          have HLA := Lib.hid (HO.out.ext hxA.out)
          have HRA : Hid (∀ n, n = (lift (lift wr y1) y).heap.size → SettingAt ((lift (lift wr y1) y).alloc (.cells #[.string (nth l k).name, .int .i64 (nth l k).value] 57)) (some ⟨n, 0, none⟩) [(nth l k)]) := fun n hn => by
            subst hn
            exact rows_new (lift (lift wr y1) y) #[.string (nth l k).name, .int .i64 (nth l k).value] (nth l k) (fun j hj => by rcases (show j = 0 ∨ j = 1 by omega) with rfl | rfl <;> rfl)
          have hEA := Lib.hid (HE.out.trans hxA.out)
          have hszA := hEA.out.size
          try dsimp only
          repeat (first | (at_builtin; refine Hid.out ?_) | go_values | go_skip | go_guarded | go_step | go_upon | go_back)
          refine Lib.hid ?_
          refine wpList_pushL elSetting oneSetting rfl _ _ rfl base _ (O) rfl HLA.out _ 1 1 [(nth l k)] rfl rfl (HRA.out _ (by first | rfl | (simp; done) | (simp; omega))) (by first | omega | (simp; omega)) (by first | omega | (simp; omega)) (by omega) ?_
          intro v1 w1 hLz hsz9 hgz
          have L1 := Lib.hid hLz
          have E1 := Lib.hid (hsz9 w0 hEA.out hb2)
          clear hLz hsz9 hgz HLA HRA hEA hxA hszA
          go_wp2_with fail
          go_roundw
          case rel => exact ⟨k + 1, by omega, by go_num, by rw [hd3.out.1], by rw [hd3.out.2]; exact L1.out, E1.out⟩
          case measure => simp [intOf]; omega
        · -- in its place
          go_wp2_with fail
          refine region_quiet (by kernel_rfl) (by kernel_rfl) ?_
          repeat (any_goals (first | go_big_quiet_step ((fail)) | quiet_step ((fail))))
          refine wpQuiet_nil ?_
          intro _ hw'
          obtain ⟨y, hw''⟩ := hw'
          subst hw''
          have hxA : Hid (Ext wr ((lift wr y).alloc (.cells #[.string e.name, .int .i64 e.value] 57))) := by show Ext _ _; repeat (first | exact Ext.refl _ | refine Ext.lift ?_ _ | refine Ext.alloc ?_ _)
          have HLA := Lib.hid (HO.out.ext hxA.out)
          have HRA : Hid (∀ n, n = (lift wr y).heap.size → SettingAt ((lift wr y).alloc (.cells #[.string e.name, .int .i64 e.value] 57)) (some ⟨n, 0, none⟩) [e]) := fun n hn => by
            subst hn
            exact rows_new (lift wr y) #[.string e.name, .int .i64 e.value] e (fun j hj => by rcases (show j = 0 ∨ j = 1 by omega) with rfl | rfl <;> rfl)
          have hEA := Lib.hid (HE.out.trans hxA.out)
          have hszA := hEA.out.size
          try dsimp only
          repeat (first | (at_builtin; refine Hid.out ?_) | go_values | go_skip | go_guarded | go_step | go_upon | go_back)
          refine Lib.hid ?_
          refine wpList_pushL elSetting oneSetting rfl _ _ rfl base _ (O) rfl HLA.out _ 1 1 [e] rfl rfl (HRA.out _ (by first | rfl | (simp; done) | (simp; omega))) (by first | omega | (simp; omega)) (by first | omega | (simp; omega)) (by omega) ?_
          intro v1 w1 hLz hsz9 hgz
          have L1 := Lib.hid hLz
          have E1 := Lib.hid (hsz9 w0 hEA.out hb2)
          clear hLz hsz9 hgz HLA HRA hEA hxA hszA
          obtain ⟨P, hP⟩ : ∃ P, P = O ++ [e] := ⟨_, rfl⟩
          have hPl : P.length ≤ O.length + 1 := by rw [hP]; simp
          rw [← hP] at L1 hd4
          clear hP
          obtain ⟨ca1, cc1, rfl, hcc1, hcm1, -, -⟩ := L1.out.shape
          clear c0 c1 e0 e1 hbl hb
          obtain ⟨hb, c0, c1⟩ := Setting.at (HA.out.ext (hE0.out.trans E1.out)) k hlt
          obtain ⟨e0, e1, hbl⟩ := hD.out w1 E1.out
          go_wp2_with fail
          refine region_quiet (by kernel_rfl) (by kernel_rfl) ?_
          repeat (any_goals (first | go_big_quiet_step ((fail)) | quiet_step ((fail))))
          refine wpQuiet_nil ?_
          intro _ hw'
          obtain ⟨y, hw''⟩ := hw'
          subst hw''
          go_wp2_with fail
          go_roundw
          case rel => exact ⟨k + 1, by omega, by go_num, by rw [hd4.out.1], by rw [hd4.out.2]; exact L1.out.ext ((Ext.refl _).lift _), E1.out.lift _⟩
          case measure => simp [intOf]; omega
        · -- its like, set before
          go_wp2_with fail
          refine region_quiet (by kernel_rfl) (by kernel_rfl) ?_
          repeat (any_goals (first | go_big_quiet_step ((fail)) | quiet_step ((fail))))
          refine wpQuiet_nil ?_
          intro _ hw'
          obtain ⟨y, hw''⟩ := hw'
          subst hw''
          obtain ⟨y1, hy⟩ : ∃ z, z = y := ⟨_, rfl⟩
          subst hy
          go_wp2_with fail
          refine region_quiet (by kernel_rfl) (by kernel_rfl) ?_
          repeat (any_goals (first | go_big_quiet_step ((fail)) | quiet_step ((fail))))
          refine wpQuiet_nil ?_
          intro _ hw'
          obtain ⟨y, hw''⟩ := hw'
          subst hw''
          go_wp2_with fail
          go_roundw
          case rel => exact ⟨k + 1, by omega, by go_num, by rw [hd5.out.1], by rw [hd5.out.2]; exact HO.out.ext (by repeat (first | exact Ext.refl _ | refine Ext.lift ?_ _ | refine Ext.alloc ?_ _)), (HE.out.lift _).lift _⟩
          case measure => simp [intOf]; omega
    · obtain rfl : k = l.length := by omega
      obtain ⟨D, hD1⟩ : ∃ D, D = (stP e l l.length).1 := ⟨_, rfl⟩
      obtain ⟨O, hO1⟩ : ∃ O, O = (stP e l l.length).2 := ⟨_, rfl⟩
      rw [← hD1, ← hO1] at hfin
      rw [← hO1] at HO hlen hcc ⊢
      rw [← hD1]
      clear hD1 hO1
      obtain ⟨e0, e1, hbl⟩ := hD.out wr HE.out
      cases D
      · have hv : Hid (O ++ [e] = setS e l) := hfin.out
        have hxA : Hid (Ext wr ((wr).alloc (.cells #[.string e.name, .int .i64 e.value] 57))) := by show Ext _ _; repeat (first | exact Ext.refl _ | refine Ext.lift ?_ _ | refine Ext.alloc ?_ _)
        have HLA := Lib.hid (HO.out.ext hxA.out)
        have HRA : Hid (∀ n, n = (wr).heap.size → SettingAt ((wr).alloc (.cells #[.string e.name, .int .i64 e.value] 57)) (some ⟨n, 0, none⟩) [e]) := fun n hn => by
          subst hn
          exact rows_new (wr) #[.string e.name, .int .i64 e.value] e (fun j hj => by rcases (show j = 0 ∨ j = 1 by omega) with rfl | rfl <;> rfl)
        have hEA := Lib.hid (HE.out.trans hxA.out)
        have hszA := hEA.out.size
        try dsimp only
        repeat (first | (at_builtin; refine Hid.out ?_) | go_values | go_skip | go_guarded | go_step | go_upon | go_back)
        refine Lib.hid ?_
        refine wpList_pushL elSetting oneSetting rfl _ _ rfl base _ (O) rfl HLA.out _ 1 1 [e] rfl rfl (HRA.out _ (by first | rfl | (simp; done) | (simp; omega))) (by first | omega | (simp; omega)) (by first | omega | (simp; omega)) (by omega) ?_
        intro v1 w1 hLz hsz9 hgz
        have L1 := Lib.hid hLz
        have E1 := Lib.hid (hsz9 w0 hEA.out hb2)
        clear hLz hsz9 hgz HLA HRA hEA hxA hszA
        go_wp2_with fail
        go_ret
        obtain ⟨ra, rc, rfl, hrc, -, hR, hOw⟩ := L1.out.shape
        rw [hv.out] at hrc hR hOw ⊢
        exact ⟨ra, rc, rfl, hrc, Own.low hOw hbw, hR, hE0.out.trans E1.out⟩
      · obtain rfl : O = setS e l := hfin.out
        obtain ⟨ra, rc, hre, hrc, -, hR, hOw⟩ := HO.out.shape
        simp only [Value.slice.injEq, true_and] at hre
        obtain ⟨rfl, rfl⟩ := hre
        have hR := Lib.hid hR
        have hOw := Lib.hid hOw
        clear HO hfin
        go_wp2_with fail
        go_ret
        exact ⟨ca, cc, rfl, hrc, Own.low hOw.out hbw, hR.out, hE0.out.trans HE.out⟩
end Go.Proofs.YtbcpgdidajapoaaDoor
