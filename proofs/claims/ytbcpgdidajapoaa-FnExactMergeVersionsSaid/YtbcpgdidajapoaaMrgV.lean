/- MergeVersions: what the program and the reference hand back. -/
import Derived.Test.YtbcpgdidajapoaaCommitS
import Derived.Test.YtbcpgdidajapoaaStateOf
import Derived.Test.YtbcpgdidajapoaaMrgX
import Derived.Test.YtbcpgdidajapoaaComA
namespace Go.Proofs.Ytbcpgdidajapoaa
open Go.RowKit
theorem lineF_mem {P : List VerP} (h : histP P = true) : ∀ (f : Nat) (n : Int), n ≤ P.length → ∀ x ∈ lineF P f n, 0 < x ∧ x ≤ n
  | 0, _, _, _, hx => by cases hx
  | f + 1, n, hn, x, hx => by
    change x ∈ (if 0 < n then n :: lineF P f (nth P (n.toNat - 1)).parent else []) at hx
    by_cases h0 : 0 < n
    · rw [if_pos h0] at hx
      have hp := par_bd h h0 hn
      rcases List.mem_cons.1 hx with rfl | hx
      · exact ⟨h0, Int.le_refl _⟩
      · have := lineF_mem h f _ (by omega) x hx
        omega
    · rw [if_neg h0] at hx; cases hx
theorem comL_bd {n : Int} {M : List Int} (hn : 0 ≤ n) : ∀ {L : List Int}, (∀ x ∈ L, 0 < x ∧ x ≤ n) → 0 ≤ comL L M ∧ comL L M ≤ n
  | [], _ => ⟨Int.le_refl _, hn⟩
  | x :: L, h => by
    show 0 ≤ (if hasB M x = true then x else comL L M) ∧ (if hasB M x = true then x else comL L M) ≤ n
    split
    · have := h x (by simp); omega
    · exact comL_bd hn fun y hy => h y (by simp [hy])
theorem comP_bd {P : List VerP} (h : histP P = true) {a b : Int} (h0 : 0 ≤ a) (h1 : a ≤ P.length) : 0 ≤ comP P a b ∧ comP P a b ≤ a := comL_bd h0 (lineF_mem h _ _ h1)
theorem stateP_ok {P : List VerP} (h : histP P = true) {n : Int} (h0 : 0 ≤ n) (h1 : n ≤ P.length) : settingList (stateP P n) = true := by
  unfold stateP; split
  · rfl
  · exact ((histP_bd h).2 _ (by omega)).2.2.2
def s0P (P : List VerP) (a b : Int) : List Setting := stateP P (comP P a b)
def mgC (P : List VerP) (a b : Int) (m : ByteArray) : Int :=
  if (histP P && memoB m) = true then (if vcodeP P [a, b] = 0 then (if mrgC (s0P P a b) (stateP P a) (stateP P b) = 0 then addCode P else mrgC (s0P P a b) (stateP P a) (stateP P b)) else 3) else 1
def mgV (P : List VerP) (a b : Int) (m : ByteArray) : List VerP :=
  if (histP P && memoB m) = true then (if vcodeP P [a, b] = 0 then (if mrgC (s0P P a b) (stateP P a) (stateP P b) = 0 then addVers P a m (mrgV (s0P P a b) (stateP P a) (stateP P b)) else []) else []) else []
section
variable {P : List VerP} {a b : Int} {m : ByteArray}
theorem mg_1 (h : (histP P && memoB m) = false) : mgC P a b m = 1 ∧ mgV P a b m = [] := by
  unfold mgC mgV; rw [h]; exact ⟨rfl, rfl⟩
theorem mg_3 (h : (histP P && memoB m) = true) (h2 : vcodeP P [a, b] ≠ 0) : mgC P a b m = 3 ∧ mgV P a b m = [] := by
  unfold mgC mgV; rw [if_pos h, if_pos h, if_neg h2, if_neg h2]; exact ⟨rfl, rfl⟩
theorem mg_c (h : (histP P && memoB m) = true) (h2 : vcodeP P [a, b] = 0) (h3 : mrgC (s0P P a b) (stateP P a) (stateP P b) ≠ 0) : mgC P a b m = mrgC (s0P P a b) (stateP P a) (stateP P b) ∧ mgV P a b m = [] := by
  unfold mgC mgV; rw [if_pos h, if_pos h, if_pos h2, if_pos h2, if_neg h3, if_neg h3]; exact ⟨rfl, rfl⟩
theorem mg_0 (h : (histP P && memoB m) = true) (h2 : vcodeP P [a, b] = 0) (h3 : mrgC (s0P P a b) (stateP P a) (stateP P b) = 0) : mgC P a b m = addCode P ∧ mgV P a b m = addVers P a m (mrgV (s0P P a b) (stateP P a) (stateP P b)) := by
  unfold mgC mgV; rw [if_pos h, if_pos h, if_pos h2, if_pos h2, if_pos h3, if_pos h3]; exact ⟨rfl, rfl⟩
end
theorem mrgV_len (x y z : List Setting) : (mrgV x y z).length ≤ 24 := by
  unfold mrgV
  split
  · rename_i h
    unfold mrgC at h
    split at h
    · cases h
    · split at h
      · cases h
      · omega
  · simp
theorem mgV_good (P : List VerP) (a b : Int) (m : ByteArray) : GoodP (mgV P a b m) := by
  unfold mgV
  split
  · rename_i h
    simp only [Bool.and_eq_true] at h
    split
    · split
      · exact addVers_good h.1 (mrgV_len _ _ _)
      · exact good_nil
    · exact good_nil
  · exact good_nil
theorem setting_small {l : List Setting} (h : settingList l = true) : ∀ k, k < l.length → (nth l k).Small := fun k hk => by
  have := (settingB_bd (state_one h hk)).1
  unfold Setting.Small; omega
/-- What a merge of three versions' states needs. -/
theorem three_hist {l : List Version} {x y : Int} (h0 : vcodeP (strips l) [x, y] = 0) : histP (strips l) = true ∧ (1 ≤ x ∧ x ≤ l.length) ∧ (1 ≤ y ∧ y ≤ l.length) ∧ (0 ≤ comP (strips l) x y ∧ comP (strips l) x y ≤ l.length) ∧ settingList (s0P (strips l) x y) = true ∧ settingList (stateP (strips l) x) = true ∧ settingList (stateP (strips l) y) = true := by
  obtain ⟨hh, hall⟩ := vcodeP_zero h0
  have hall2 : inB x 1 l.length = true ∧ inB y 1 l.length = true := by
    rw [strips_len] at hall; unfold allIn at hall; simpa using hall
  have hx := inB_iff.1 hall2.1
  have hy := inB_iff.1 hall2.2
  have hl := strips_len l
  have hc := comP_bd hh (a := x) (b := y) (by omega) (by omega)
  exact ⟨hh, hx, hy, by omega, stateP_ok hh hc.1 (by omega), stateP_ok hh (by omega) (by omega), stateP_ok hh (by omega) (by omega)⟩
set_option maxRecDepth 100000 in
set_option maxHeartbeats 4000000 in
theorem implMergeVersions_any (w : World) (a : Option Addr) (cap : Nat) (l : List Version) (H : VersAt w a l) (hsz : ∀ k, k < l.length → (nth l k).Small) (hn : l.length ≤ 1048576) (x y : Int) (m : ByteArray) (hm : m.size ≤ 1048576) :
    Calls Try.prog 8 #[.slice a l.length cap, .int .i64 x, .int .i64 y, .string m] w (OutVS w (mgV (strips l) x y m) [.int .i64 (mgC (strips l) x y m)]) := by
  have HV : Hid (Gives Try.prog 32 #[.slice a l.length cap, .slice (some ⟨w.heap.size, 0, none⟩) 2 2] (w.alloc (.cells #[.int .i64 x, .int .i64 y] 2)) (.int .i64 (vcodeP (strips l) [x, y]))) :=
    versionsCode_any _ a cap l (some ⟨w.heap.size, 0, none⟩) 2 [x, y] (H.ext ((Ext.refl _).alloc _)) hsz hn (int_two w x y) (by simp)
  have HM := Lib.hid fun (w' : World) => memoValid_any m w' (by omega)
  have E1 : Hid (Ext w (w.alloc (.cells #[.int .i64 x, .int .i64 y] 2))) := (Ext.refl w).alloc _
  by_cases h0 : vcodeP (strips l) [x, y] = 0
  · obtain ⟨hh, hx, hy, hc, k0, k1, k2⟩ := three_hist h0
    rw [h0] at HV
    cases h2 : memoB m
    · have hv := Lib.hid (mg_1 (P := strips l) (a := x) (b := y) (m := m) (by rw [h2, Bool.and_false]))
      rw [h2] at HM
      clear h0 h2 hh hx hy hc k0 k1 k2 H hsz
      go_enter Try.func8, Try.ntmps8
      go_wp2_with fail
      refine HV.out.mono ?_
      rintro e w1 ⟨rfl, e1⟩
      go_wp2_with fail
      refine (HM.out _).mono ?_
      rintro e w2 ⟨rfl, hw⟩
      subst hw
      go_wp2_with fail
      go_ret2
      rw [hv.out.1, hv.out.2]
      exact OutVS.nil none 0 rfl (E1.out.trans e1)
    · have hall : Hid ((histP (strips l) && memoB m) = true) := by show _ = _; rw [hh, h2]; rfl
      have h0h := Lib.hid h0
      rw [h2] at HM
      obtain ⟨hl32, hb8⟩ := hist_bd hh
      have hin := Lib.hid fun k (hk : k < l.length) => (show (nth l k).state.length ≤ 1000 from by have := vAll_len_le (hb8 k hk).2.2.2; omega)
      have HC := Lib.hid fun (W : World) (he : Ext w W) => commonAncestor_any W a cap l x y (H.ext he) hh (by omega) hx.2 (by omega) hy.2
      have HS0 := Lib.hid fun (W : World) (he : Ext w W) => versionState_any W a cap l (comP (strips l) x y) (H.ext he) hc.1 hc.2 hl32
      have HS1 := Lib.hid fun (W : World) (he : Ext w W) => versionState_any W a cap l x (H.ext he) (by omega) hx.2 hl32
      have HS2 := Lib.hid fun (W : World) (he : Ext w W) => versionState_any W a cap l y (H.ext he) (by omega) hy.2 hl32
      have HA := Lib.hid H
      have hv0 : Hid (mrgC (s0P (strips l) x y) (stateP (strips l) x) (stateP (strips l) y) = 0 → mgC (strips l) x y m = addCode (strips l) ∧ mgV (strips l) x y m = addVers (strips l) x m (mrgV (s0P (strips l) x y) (stateP (strips l) x) (stateP (strips l) y))) := fun h => mg_0 hall.out h0h.out h
      have hvc : Hid (mrgC (s0P (strips l) x y) (stateP (strips l) x) (stateP (strips l) y) ≠ 0 → mgC (strips l) x y m = mrgC (s0P (strips l) x y) (stateP (strips l) x) (stateP (strips l) y) ∧ mgV (strips l) x y m = []) := fun h => mg_c hall.out h0h.out h
      have hgd := Lib.hid (confl_good (show ok3 (s0P (strips l) x y) (stateP (strips l) x) (stateP (strips l) y) = true by unfold ok3; rw [k0, k1, k2]; rfl))
      have hml := mrgV_len (s0P (strips l) x y) (stateP (strips l) x) (stateP (strips l) y)
      have q0 := Lib.hid (setting_small k0)
      have q1 := Lib.hid (setting_small k1)
      have q2 := Lib.hid (setting_small k2)
      have n0 := state_len k0
      have n1 := state_len k1
      have n2 := state_len k2
      obtain ⟨cc, hcc⟩ : ∃ cc, cc = comP (strips l) x y := ⟨_, rfl⟩
      have e0 : stateP (strips l) (comP (strips l) x y) = s0P (strips l) x y := rfl
      rw [← hcc] at HC HS0 e0
      rw [e0] at HS0
      generalize s0P (strips l) x y = X at *
      generalize stateP (strips l) x = Y at *
      generalize stateP (strips l) y = Z at *
      clear h0 h2 hh hb8 hx hy hc k0 k1 k2 H hsz e0 hcc
      go_enter Try.func8, Try.ntmps8
      go_wp2_with fail
      refine HV.out.mono ?_
      rintro e w1 ⟨rfl, e1⟩
      have F1 := Lib.hid (E1.out.trans e1)
      clear e1
      go_wp2_with fail
      refine (HM.out _).mono ?_
      rintro e w2 ⟨rfl, hw⟩
      subst hw
      go_wp2_with fail
      refine (HC.out _ F1.out).mono ?_
      rintro e w3 ⟨rfl, e3⟩
      have F3 := Lib.hid (F1.out.trans e3)
      clear e3 F1
      go_wp2_with fail
      refine (HS0.out _ F3.out).mono ?_
      rintro e w4 ⟨sa0, sc0, rfl, R0, c0, e4⟩
      have F4 := Lib.hid (F3.out.trans e4)
      have R0 := Lib.hid R0
      clear e4 F3 HS0
      go_wp2_with fail
      refine (HS1.out _ F4.out).mono ?_
      rintro e w5 ⟨sa1, sc1, rfl, R1, c1, e5⟩
      have F5 := Lib.hid (F4.out.trans e5)
      have R1 := Lib.hid R1
      replace R0 := Lib.hid (RowsAt.ext R0.out e5)
      clear e5 F4 HS1
      go_wp2_with fail
      refine (HS2.out _ F5.out).mono ?_
      rintro e w6 ⟨sa2, sc2, rfl, R2, c2, e6⟩
      have F6 := Lib.hid (F5.out.trans e6)
      have HG := Lib.hid (implMergeStates_any w6 sa0 sc0 X (RowsAt.ext R0.out e6) q0.out (by omega) c0 sa1 sc1 Y (RowsAt.ext R1.out e6) q1.out (by omega) c1 sa2 sc2 Z R2 q2.out (by omega) c2)
      rw [hgd.out.2.2.1, hgd.out.2.2.2] at HG
      clear e6 F5 HS2 R0 R1 R2
      go_wp2_with fail
      refine HG.out.mono ?_
      rintro e w7 ⟨oa, oc, rfl, hoc, -, RO, e7⟩
      have F7 := Lib.hid (F6.out.trans e7)
      have RO := Lib.hid RO
      clear e7 F6 HG
      by_cases hz : mrgC X Y Z = 0
      · have hv := Lib.hid (hv0.out hz)
        have HW := Lib.hid (withVersion_any w7 a cap l (HA.out.ext F7.out) hl32 hin.out x m oa oc (mrgV X Y Z) RO.out (by omega) hoc)
        rw [hz]
        generalize mrgV X Y Z = S at *
        clear hv0 hvc hz hgd
        go_wp2_with fail
        refine HW.out.mono ?_
        rintro e w8 ⟨a', cap', l', rfl, h5, h6, h7, h8⟩
        have R7 := Lib.hid (h7.low F7.out.size)
        have R8 := Lib.hid (F7.out.trans h8)
        have R5 := Lib.hid h5
        clear h7 h8 h5
        go_wp2_with fail
        go_ret2
        rw [hv.out.1, hv.out.2]
        exact ⟨a', cap', l', rfl, R5.out, h6, R7.out, R8.out⟩
      · have hv := Lib.hid (hvc.out hz)
        have hd : (mrgC X Y Z == 0) = false := beq_eq_false_iff_ne.2 hz
        generalize mrgC X Y Z = C at *
        clear hv0 hvc hz hgd
        go_wp2_with fail
        go_ret2
        rw [hv.out.1, hv.out.2]
        exact OutVS.nil none 0 rfl F7.out
  · cases h1 : histP (strips l)
    · have hv := Lib.hid (mg_1 (P := strips l) (a := x) (b := y) (m := m) (by rw [h1, Bool.false_and]))
      rw [vcodeP_bad _ h1] at HV
      clear h0 h1 H hsz
      go_enter Try.func8, Try.ntmps8
      go_wp2_with fail
      refine HV.out.mono ?_
      rintro e w1 ⟨rfl, e1⟩
      go_wp2_with fail
      go_ret2
      rw [hv.out.1, hv.out.2]
      exact OutVS.nil none 0 rfl (E1.out.trans e1)
    · have hv3 : vcodeP (strips l) [x, y] = 3 := by
        have := vcodeP_two (P := strips l) x y h1
        rw [this] at h0 ⊢
        split at h0
        · exact absurd rfl h0
        · rename_i hh; rw [if_neg hh]
      rw [hv3] at HV
      cases h2 : memoB m
      · have hv := Lib.hid (mg_1 (P := strips l) (a := x) (b := y) (m := m) (by rw [h2, Bool.and_false]))
        rw [h2] at HM
        clear h0 h1 h2 hv3 H hsz
        go_enter Try.func8, Try.ntmps8
        go_wp2_with fail
        refine HV.out.mono ?_
        rintro e w1 ⟨rfl, e1⟩
        go_wp2_with fail
        refine (HM.out _).mono ?_
        rintro e w2 ⟨rfl, hw⟩
        subst hw
        go_wp2_with fail
        go_ret2
        rw [hv.out.1, hv.out.2]
        exact OutVS.nil none 0 rfl (E1.out.trans e1)
      · have hv := Lib.hid (mg_3 (P := strips l) (a := x) (b := y) (m := m) (by rw [h1, h2]; rfl) h0)
        rw [h2] at HM
        clear h0 h1 h2 hv3 H hsz
        go_enter Try.func8, Try.ntmps8
        go_wp2_with fail
        refine HV.out.mono ?_
        rintro e w1 ⟨rfl, e1⟩
        go_wp2_with fail
        refine (HM.out _).mono ?_
        rintro e w2 ⟨rfl, hw⟩
        subst hw
        go_wp2_with fail
        go_ret2
        rw [hv.out.1, hv.out.2]
        exact OutVS.nil none 0 rfl (E1.out.trans e1)
set_option maxRecDepth 100000 in
set_option maxHeartbeats 4000000 in
theorem specMergeVersions_any (w : World) (a : Option Addr) (cap : Nat) (l : List Version) (H : VersAt w a l) (hsz : ∀ k, k < l.length → (nth l k).Small) (hn : l.length ≤ 1048576) (x y : Int) (m : ByteArray) (hm : m.size ≤ 1048576) :
    Calls Try.prog 6 #[.slice a l.length cap, .int .i64 x, .int .i64 y, .string m] w (OutVR w (mgV (strips l) x y m) [.int .i64 (mgC (strips l) x y m)]) := by
  have HV := Lib.hid fun (w' : World) (he : Ext w w') => l27Ok_any a cap l w' (H.ext he) hsz hn
  have HM := Lib.hid fun (w' : World) => l27Memo_any m w' (by omega)
  have HNx := Lib.hid fun (w' : World) => l27Number_any w' a cap l.length x hn
  have HNy := Lib.hid fun (w' : World) => l27Number_any w' a cap l.length y hn
  cases h1 : histP (strips l)
  · have hv := Lib.hid (mg_1 (P := strips l) (a := x) (b := y) (m := m) (by rw [h1, Bool.false_and]))
    rw [h1] at HV
    clear h1 H hsz HNx HNy
    go_enter Try.func6, Try.ntmps6
    go_wp2_with fail
    refine (HV.out _ (Ext.refl _)).mono ?_
    rintro e w1 ⟨rfl, e1⟩
    go_wp2_with fail
    go_ret2
    rw [hv.out.1, hv.out.2]
    exact (OutVS.nil none 0 rfl e1).read
  rw [h1] at HV
  cases h2 : memoB m
  · have hv := Lib.hid (mg_1 (P := strips l) (a := x) (b := y) (m := m) (by rw [h2, Bool.and_false]))
    rw [h2] at HM
    clear h1 h2 H hsz HNx HNy
    go_enter Try.func6, Try.ntmps6
    go_wp2_with fail
    refine (HV.out _ (Ext.refl _)).mono ?_
    rintro e w1 ⟨rfl, e1⟩
    go_wp2_with fail
    refine (HM.out _).mono ?_
    rintro e w2 ⟨rfl, hw⟩
    subst hw
    go_wp2_with fail
    go_ret2
    rw [hv.out.1, hv.out.2]
    exact (OutVS.nil none 0 rfl e1).read
  rw [h2] at HM
  have hall : (histP (strips l) && memoB m) = true := by rw [h1, h2]; rfl
  have hvt := vcodeP_two (P := strips l) x y h1
  rw [strips_len] at hvt
  cases h3 : inB x 1 l.length
  · have hv := Lib.hid (mg_3 (P := strips l) (a := x) (b := y) (m := m) hall (by rw [hvt, h3, Bool.false_and]; decide))
    rw [h3] at HNx
    clear h1 h2 h3 H hsz HNy hvt hall
    go_enter Try.func6, Try.ntmps6
    go_wp2_with fail
    refine (HV.out _ (Ext.refl _)).mono ?_
    rintro e w1 ⟨rfl, e1⟩
    go_wp2_with fail
    refine (HM.out _).mono ?_
    rintro e w2 ⟨rfl, hw⟩
    subst hw
    go_wp2_with fail
    refine (HNx.out _).mono ?_
    rintro e w2 ⟨rfl, hw⟩
    subst hw
    go_wp2_with fail
    go_ret2
    rw [hv.out.1, hv.out.2]
    exact (OutVS.nil none 0 rfl e1).read
  rw [h3] at HNx
  cases h4 : inB y 1 l.length
  · have hv := Lib.hid (mg_3 (P := strips l) (a := x) (b := y) (m := m) hall (by rw [hvt, h3, h4]; decide))
    rw [h4] at HNy
    clear h1 h2 h3 h4 H hsz hvt hall
    go_enter Try.func6, Try.ntmps6
    go_wp2_with fail
    refine (HV.out _ (Ext.refl _)).mono ?_
    rintro e w1 ⟨rfl, e1⟩
    go_wp2_with fail
    refine (HM.out _).mono ?_
    rintro e w2 ⟨rfl, hw⟩
    subst hw
    go_wp2_with fail
    refine (HNx.out _).mono ?_
    rintro e w2 ⟨rfl, hw⟩
    subst hw
    go_wp2_with fail
    refine (HNy.out _).mono ?_
    rintro e w2 ⟨rfl, hw⟩
    subst hw
    go_wp2_with fail
    go_ret2
    rw [hv.out.1, hv.out.2]
    exact (OutVS.nil none 0 rfl e1).read
  rw [h4] at HNy
  have h0 : vcodeP (strips l) [x, y] = 0 := by rw [hvt, h3, h4]; rfl
  obtain ⟨hh, hx, hy, hc, k0, k1, k2⟩ := three_hist h0
  have hallh := Lib.hid hall
  have h0h := Lib.hid h0
  obtain ⟨hl32, hb8⟩ := hist_bd hh
  have hin := Lib.hid fun k (hk : k < l.length) => (show (nth l k).state.length ≤ 1000 from by have := vAll_len_le (hb8 k hk).2.2.2; omega)
  have HC := Lib.hid fun (W : World) (he : Ext w W) => l27Common_any W a cap l x y (H.ext he) hh (by omega) hx.2 (by omega) hy.2
  have HS0 := Lib.hid fun (W : World) (he : Ext w W) => l27StateOf_any W a cap l (comP (strips l) x y) (H.ext he) hc.1 hc.2 hl32
  have HS1 := Lib.hid fun (W : World) (he : Ext w W) => l27StateOf_any W a cap l x (H.ext he) (by omega) hx.2 hl32
  have HS2 := Lib.hid fun (W : World) (he : Ext w W) => l27StateOf_any W a cap l y (H.ext he) (by omega) hy.2 hl32
  have HA := Lib.hid H
  have hv0 : Hid (mrgC (s0P (strips l) x y) (stateP (strips l) x) (stateP (strips l) y) = 0 → mgC (strips l) x y m = addCode (strips l) ∧ mgV (strips l) x y m = addVers (strips l) x m (mrgV (s0P (strips l) x y) (stateP (strips l) x) (stateP (strips l) y))) := fun h => mg_0 hallh.out h0h.out h
  have hvc : Hid (mrgC (s0P (strips l) x y) (stateP (strips l) x) (stateP (strips l) y) ≠ 0 → mgC (strips l) x y m = mrgC (s0P (strips l) x y) (stateP (strips l) x) (stateP (strips l) y) ∧ mgV (strips l) x y m = []) := fun h => mg_c hallh.out h0h.out h
  have hok := Lib.hid (show ok3 (s0P (strips l) x y) (stateP (strips l) x) (stateP (strips l) y) = true by unfold ok3; rw [k0, k1, k2]; rfl)
  have hml := mrgV_len (s0P (strips l) x y) (stateP (strips l) x) (stateP (strips l) y)
  obtain ⟨cc, hcc⟩ : ∃ cc, cc = comP (strips l) x y := ⟨_, rfl⟩
  have e0 : stateP (strips l) (comP (strips l) x y) = s0P (strips l) x y := rfl
  rw [← hcc] at HC HS0 e0
  rw [e0] at HS0
  generalize s0P (strips l) x y = X at *
  generalize stateP (strips l) x = Y at *
  generalize stateP (strips l) y = Z at *
  clear h0 h1 h2 h3 h4 hall hvt hh hb8 hx hy hc k0 k1 k2 H hsz e0 hcc
  go_enter Try.func6, Try.ntmps6
  go_wp2_with fail
  refine (HV.out _ (Ext.refl _)).mono ?_
  rintro e w1 ⟨rfl, e1⟩
  have F1 := Lib.hid e1
  clear e1
  go_wp2_with fail
  refine (HM.out _).mono ?_
  rintro e w2 ⟨rfl, hw⟩
  subst hw
  go_wp2_with fail
  refine (HNx.out _).mono ?_
  rintro e w2 ⟨rfl, hw⟩
  subst hw
  go_wp2_with fail
  refine (HNy.out _).mono ?_
  rintro e w2 ⟨rfl, hw⟩
  subst hw
  go_wp2_with fail
  refine (HC.out _ F1.out).mono ?_
  rintro e w3 ⟨rfl, e3⟩
  have F3 := Lib.hid (F1.out.trans e3)
  clear e3 F1
  go_wp2_with fail
  refine (HS0.out _ F3.out).mono ?_
  rintro e w4 ⟨sa0, sc0, rfl, R0, c0, e4⟩
  have F4 := Lib.hid (F3.out.trans e4)
  have R0 := Lib.hid R0
  clear e4 F3 HS0
  go_wp2_with fail
  refine (HS1.out _ F4.out).mono ?_
  rintro e w5 ⟨sa1, sc1, rfl, R1, c1, e5⟩
  have F5 := Lib.hid (F4.out.trans e5)
  have R1 := Lib.hid R1
  replace R0 := Lib.hid (RowsAt.ext R0.out e5)
  clear e5 F4 HS1
  go_wp2_with fail
  refine (HS2.out _ F5.out).mono ?_
  rintro e w6 ⟨sa2, sc2, rfl, R2, c2, e6⟩
  have F6 := Lib.hid (F5.out.trans e6)
  have HG := Lib.hid (l27Merge_any sa0 sa1 sa2 sc0 sc1 sc2 X Y Z w6 (RowsAt.ext R0.out e6) (RowsAt.ext R1.out e6) R2 hok.out)
  clear e6 F5 HS2 R0 R1 R2
  go_wp2_with fail
  refine HG.out.mono ?_
  rintro e w7 ⟨oa, oc, rfl, hoc, -, RO, e7⟩
  have F7 := Lib.hid (F6.out.trans e7)
  have RO := Lib.hid RO
  clear e7 F6 HG
  by_cases hz : mrgC X Y Z = 0
  · have hv := Lib.hid (hv0.out hz)
    have HW := Lib.hid (l27Add_any w7 a cap l (HA.out.ext F7.out) hl32 hin.out x m oa oc (mrgV X Y Z) RO.out (by omega))
    rw [hz]
    generalize mrgV X Y Z = S at *
    clear hv0 hvc hz hok
    go_wp2_with fail
    refine HW.out.mono ?_
    rintro e w8 ⟨a', cap', l', rfl, h5, h6, h7, h8⟩
    have R7 := Lib.hid h7
    have R8 := Lib.hid (F7.out.trans h8)
    have R5 := Lib.hid h5
    clear h7 h8 h5
    go_wp2_with fail
    go_ret2
    rw [hv.out.1, hv.out.2]
    exact ⟨a', cap', l', rfl, R5.out, h6, R7.out, R8.out⟩
  · have hv := Lib.hid (hvc.out hz)
    have hd : (mrgC X Y Z == 0) = false := beq_eq_false_iff_ne.2 hz
    have hd2 : (mrgC X Y Z != 0) = true := by simpa using hz
    generalize mrgC X Y Z = C at *
    clear hv0 hvc hz hok
    go_wp2_with fail
    go_ret2
    rw [hv.out.1, hv.out.2]
    exact (OutVS.nil none 0 rfl F7.out).read
end Go.Proofs.Ytbcpgdidajapoaa
