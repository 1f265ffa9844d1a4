/- The law FnExactMergeStates: whatever the states, the program's merge is the reference's, in memory of its own. -/
import Derived.Test.YtbfgaimlkoeklaaMrgX
import Derived.Test.YtbfgaimlkoeklaaHelpSetting
import Derived.Test.YtbfgaimlkoeklaaHelpInt
namespace Go.Proofs.Ytbfgaimlkoeklaa
open Go.RowKit
theorem mergeV_len (x y z : List Setting) : (mergeV x y z).length ≤ 24 := by
  unfold mergeV
  split
  · unfold mrgV
    split
    · rename_i h
      unfold mrgC at h
      split at h
      · cases h
      · split at h
        · cases h
        · omega
    · simp
  · simp
set_option maxRecDepth 100000 in
set_option maxHeartbeats 8000000 in
theorem mergeStates_law (w : World) (a0 : Option Addr) (cap0 : Nat) (l0 : List Setting) (H0 : SettingAt w a0 l0) (hz0 : ∀ k, k < l0.length → (nth l0 k).Sz ∧ (nth l0 k).Wf) (hn0 : l0.length ≤ 9223372036854775807) (_ : l0.length ≤ cap0) (a1 : Option Addr) (cap1 : Nat) (l1 : List Setting) (H1 : SettingAt w a1 l1) (hz1 : ∀ k, k < l1.length → (nth l1 k).Sz ∧ (nth l1 k).Wf) (hn1 : l1.length ≤ 9223372036854775807) (_ : l1.length ≤ cap1) (a2 : Option Addr) (cap2 : Nat) (l2 : List Setting) (H2 : SettingAt w a2 l2) (hz2 : ∀ k, k < l2.length → (nth l2 k).Sz ∧ (nth l2 k).Wf) (hn2 : l2.length ≤ 9223372036854775807) (_ : l2.length ≤ cap2) :
    Gives Try.prog 9 #[.slice a0 l0.length cap0, .slice a1 l1.length cap1, .slice a2 l2.length cap2] w (.bool true) := by
  unfold Gives
  have HH0 := Lib.hid H0
  have HZ0 := Lib.hid hz0
  clear H0 hz0
  have HH1 := Lib.hid H1
  have HZ1 := Lib.hid hz1
  clear H1 hz1
  have HH2 := Lib.hid H2
  have HZ2 := Lib.hid hz2
  clear H2 hz2
  go_enter Try.func9, Try.ntmps9
  go_wp2_with fail
  have T := Ext.refl w
  refine (szSettingS_any a0 cap0 l0 (1048576) _ (HH0.out.ext T) (fun k hk => (HZ0.out k hk).1) hn0 (by omega) (by omega)).mono ?_
  rintro e W1 ⟨r0, rfl, E, r0a, r0b, hr⟩
  have HR := Lib.hid hr
  clear hr
  replace T := T.trans E
  clear E
  by_cases hneg : r0 < 0
  · go_wp2_with fail
    go_ret
    exact ⟨rfl, T⟩
  obtain ⟨hl0, hs0⟩ := HR.out (by omega)
  have hS0 : Hid (∀ k, k < l0.length → (nth l0 k).Small) := fun k hk => by have := hs0 k hk; unfold Setting.Small; omega
  clear HR hs0
  go_wp2_with fail
  refine (szSettingS_any a1 cap1 l1 (r0) _ (HH1.out.ext T) (fun k hk => (HZ1.out k hk).1) hn1 (by omega) (by omega)).mono ?_
  rintro e W2 ⟨r1, rfl, E, r1a, r1b, hr⟩
  have HR := Lib.hid hr
  clear hr
  replace T := T.trans E
  clear E
  by_cases hneg : r1 < 0
  · go_wp2_with fail
    go_ret
    exact ⟨rfl, T⟩
  obtain ⟨hl1, hs1⟩ := HR.out (by omega)
  have hS1 : Hid (∀ k, k < l1.length → (nth l1 k).Small) := fun k hk => by have := hs1 k hk; unfold Setting.Small; omega
  clear HR hs1
  go_wp2_with fail
  refine (szSettingS_any a2 cap2 l2 (r1) _ (HH2.out.ext T) (fun k hk => (HZ2.out k hk).1) hn2 (by omega) (by omega)).mono ?_
  rintro e W3 ⟨r2, rfl, E, r2a, r2b, hr⟩
  have HR := Lib.hid hr
  clear hr
  replace T := T.trans E
  clear E
  by_cases hneg : r2 < 0
  · go_wp2_with fail
    go_ret
    exact ⟨rfl, T⟩
  obtain ⟨hl2, hs2⟩ := HR.out (by omega)
  have hS2 : Hid (∀ k, k < l2.length → (nth l2 k).Small) := fun k hk => by have := hs2 k hk; unfold Setting.Small; omega
  clear HR hs2
  go_wp2_with fail
  refine (toSettingS_any a0 cap0 l0 _ (HH0.out.ext T) (by omega)).mono ?_
  rintro e W4 ⟨sg0, rfl, sb0, sc0, A, B, E⟩
  replace T := T.trans E
  have sA0 := Lib.hid A
  clear sc0
  clear A B E sb0
  go_wp2_with fail
  refine (toSettingS_any a1 cap1 l1 _ (HH1.out.ext T) (by omega)).mono ?_
  rintro e W5 ⟨sg1, rfl, sb1, sc1, A, B, E⟩
  replace T := T.trans E
  replace sA0 := Lib.hid (sA0.out.ext E)
  have sA1 := Lib.hid A
  clear sc1
  clear A B E sb1
  go_wp2_with fail
  refine (toSettingS_any a2 cap2 l2 _ (HH2.out.ext T) (by omega)).mono ?_
  rintro e W6 ⟨sg2, rfl, sb2, sc2, A, B, E⟩
  replace T := T.trans E
  replace sA0 := Lib.hid (sA0.out.ext E)
  replace sA1 := Lib.hid (sA1.out.ext E)
  have sA2 := Lib.hid A
  clear sc2
  clear A B E sb2
  go_wp2_with fail
  refine (specMergeStates_any _ _ _ l0 sA0.out hS0.out (by omega) (Nat.le_refl _) _ _ l1 sA1.out hS1.out (by omega) (Nat.le_refl _) _ _ l2 sA2.out hS2.out (by omega) (Nat.le_refl _)).mono ?_
  rintro e W7 ⟨sa, scap, rfl, sk, SR, E⟩
  clear sA0
  clear sA1
  clear sA2
  replace T := T.trans E
  clear E
  have SR0 := Lib.hid SR
  clear SR
  have U := Ext.refl W7
  go_wp2_with fail
  have hlenR := mergeV_len l0 l1 l2
  refine (toSettingS_any a0 cap0 l0 _ (HH0.out.ext T) (by omega)).mono ?_
  rintro e W8 ⟨xg0, rfl, xb0, xc0, A, B, E⟩
  have xbT0 := Nat.le_trans T.size xb0
  have xbU0 := Nat.le_trans U.size xb0
  replace T := T.trans E
  replace U := U.trans E
  have xA0 := Lib.hid A
  have xB0 := Lib.hid B
  clear A B E xb0
  go_wp2_with fail
  refine (toSettingS_any a1 cap1 l1 _ (HH1.out.ext T) (by omega)).mono ?_
  rintro e W9 ⟨xg1, rfl, xb1, xc1, A, B, E⟩
  have xo0_1 := Nat.lt_of_lt_of_le xc0 xb1
  have xbT1 := Nat.le_trans T.size xb1
  have xbU1 := Nat.le_trans U.size xb1
  replace T := T.trans E
  replace U := U.trans E
  replace xA0 := Lib.hid (xA0.out.ext E)
  replace xB0 := Lib.hid (xB0.out.ext E)
  replace xc0 := Nat.lt_of_lt_of_le xc0 E.size
  have xA1 := Lib.hid A
  have xB1 := Lib.hid B
  clear A B E xb1
  go_wp2_with fail
  refine (toSettingS_any a2 cap2 l2 _ (HH2.out.ext T) (by omega)).mono ?_
  rintro e W10 ⟨xg2, rfl, xb2, xc2, A, B, E⟩
  have xo0_2 := Nat.lt_of_lt_of_le xc0 xb2
  have xo1_2 := Nat.lt_of_lt_of_le xc1 xb2
  have xbT2 := Nat.le_trans T.size xb2
  have xbU2 := Nat.le_trans U.size xb2
  replace T := T.trans E
  replace U := U.trans E
  replace xA0 := Lib.hid (xA0.out.ext E)
  replace xB0 := Lib.hid (xB0.out.ext E)
  replace xA1 := Lib.hid (xA1.out.ext E)
  replace xB1 := Lib.hid (xB1.out.ext E)
  replace xc0 := Nat.lt_of_lt_of_le xc0 E.size
  replace xc1 := Nat.lt_of_lt_of_le xc1 E.size
  have xA2 := Lib.hid A
  have xB2 := Lib.hid B
  clear A B E xb2
  go_wp2_with fail
  refine (implMergeStates_any _ _ _ l0 xA0.out hS0.out (by omega) (Nat.le_refl _) _ _ l1 xA1.out hS1.out (by omega) (Nat.le_refl _) _ _ l2 xA2.out hS2.out (by omega) (Nat.le_refl _)).mono ?_
  rintro e W11 ⟨xa, xcap, rfl, xk, xO, xR, E⟩
  have gT := T.size
  have gU := U.size
  have xc0i := xc0
  have xc1i := xc1
  have xc2i := xc2
  replace T := T.trans E
  replace U := U.trans E
  replace xA0 := Lib.hid (xA0.out.ext E)
  replace xB0 := Lib.hid (xB0.out.ext E)
  replace xA1 := Lib.hid (xA1.out.ext E)
  replace xB1 := Lib.hid (xB1.out.ext E)
  replace xA2 := Lib.hid (xA2.out.ext E)
  replace xB2 := Lib.hid (xB2.out.ext E)
  clear E
  have xRR := Lib.hid xR
  clear xR
  have xOO := Lib.hid xO
  clear xO
  go_wp2_with fail
  refine (eqSettingS_same _ _ _ _ _ _ xRR.out (SR0.out.ext U) (by omega)).mono ?_
  rintro e W12 ⟨rfl, E⟩
  replace T := T.trans E
  replace U := U.trans E
  replace xA0 := Lib.hid (xA0.out.ext E)
  replace xB0 := Lib.hid (xB0.out.ext E)
  replace xA1 := Lib.hid (xA1.out.ext E)
  replace xB1 := Lib.hid (xB1.out.ext E)
  replace xA2 := Lib.hid (xA2.out.ext E)
  replace xB2 := Lib.hid (xB2.out.ext E)
  replace xRR := Lib.hid (xRR.out.ext E)
  replace xOO := Lib.hid (xOO.out.ext E)
  clear E
  go_wp2_with fail
  refine (toSettingS_any a0 cap0 l0 _ (HH0.out.ext T) (by omega)).mono ?_
  rintro e W13 ⟨tg, rfl, tb, tc, A, B, E⟩
  replace T := T.trans E
  replace U := U.trans E
  replace xA0 := Lib.hid (xA0.out.ext E)
  replace xB0 := Lib.hid (xB0.out.ext E)
  replace xA1 := Lib.hid (xA1.out.ext E)
  replace xB1 := Lib.hid (xB1.out.ext E)
  replace xA2 := Lib.hid (xA2.out.ext E)
  replace xB2 := Lib.hid (xB2.out.ext E)
  replace xRR := Lib.hid (xRR.out.ext E)
  replace xOO := Lib.hid (xOO.out.ext E)
  have AA := Lib.hid A
  clear A B E tb tc
  go_wp2_with fail
  refine (eqSettingS_same _ _ _ _ l0 _ xA0.out AA.out (by omega)).mono ?_
  rintro e W14 ⟨rfl, E⟩
  clear AA xA0
  replace T := T.trans E
  replace U := U.trans E
  replace xB0 := Lib.hid (xB0.out.ext E)
  replace xA1 := Lib.hid (xA1.out.ext E)
  replace xB1 := Lib.hid (xB1.out.ext E)
  replace xA2 := Lib.hid (xA2.out.ext E)
  replace xB2 := Lib.hid (xB2.out.ext E)
  replace xRR := Lib.hid (xRR.out.ext E)
  replace xOO := Lib.hid (xOO.out.ext E)
  clear E
  go_wp2_with fail
  refine (toSettingS_any a1 cap1 l1 _ (HH1.out.ext T) (by omega)).mono ?_
  rintro e W15 ⟨tg, rfl, tb, tc, A, B, E⟩
  replace T := T.trans E
  replace U := U.trans E
  replace xB0 := Lib.hid (xB0.out.ext E)
  replace xA1 := Lib.hid (xA1.out.ext E)
  replace xB1 := Lib.hid (xB1.out.ext E)
  replace xA2 := Lib.hid (xA2.out.ext E)
  replace xB2 := Lib.hid (xB2.out.ext E)
  replace xRR := Lib.hid (xRR.out.ext E)
  replace xOO := Lib.hid (xOO.out.ext E)
  have AA := Lib.hid A
  clear A B E tb tc
  go_wp2_with fail
  refine (eqSettingS_same _ _ _ _ l1 _ xA1.out AA.out (by omega)).mono ?_
  rintro e W16 ⟨rfl, E⟩
  clear AA xA1
  replace T := T.trans E
  replace U := U.trans E
  replace xB0 := Lib.hid (xB0.out.ext E)
  replace xB1 := Lib.hid (xB1.out.ext E)
  replace xA2 := Lib.hid (xA2.out.ext E)
  replace xB2 := Lib.hid (xB2.out.ext E)
  replace xRR := Lib.hid (xRR.out.ext E)
  replace xOO := Lib.hid (xOO.out.ext E)
  clear E
  go_wp2_with fail
  refine (toSettingS_any a2 cap2 l2 _ (HH2.out.ext T) (by omega)).mono ?_
  rintro e W17 ⟨tg, rfl, tb, tc, A, B, E⟩
  replace T := T.trans E
  replace U := U.trans E
  replace xB0 := Lib.hid (xB0.out.ext E)
  replace xB1 := Lib.hid (xB1.out.ext E)
  replace xA2 := Lib.hid (xA2.out.ext E)
  replace xB2 := Lib.hid (xB2.out.ext E)
  replace xRR := Lib.hid (xRR.out.ext E)
  replace xOO := Lib.hid (xOO.out.ext E)
  have AA := Lib.hid A
  clear A B E tb tc
  go_wp2_with fail
  refine (eqSettingS_same _ _ _ _ l2 _ xA2.out AA.out (by omega)).mono ?_
  rintro e W18 ⟨rfl, E⟩
  clear AA xA2
  replace T := T.trans E
  replace U := U.trans E
  replace xB0 := Lib.hid (xB0.out.ext E)
  replace xB1 := Lib.hid (xB1.out.ext E)
  replace xB2 := Lib.hid (xB2.out.ext E)
  replace xRR := Lib.hid (xRR.out.ext E)
  replace xOO := Lib.hid (xOO.out.ext E)
  clear E
  go_wp2_with fail
  have O : Hid (Own _ xg0 92 2 (some ⟨xg0, 0, none⟩) l0.length) := Own.of_blk xB0.out (Nat.le_refl _) (by omega)
  refine (markSettingS_any _ l0.length _ _ xg0 _ O.out (by omega) (by omega) (by omega)).mono ?_
  rintro e W19 ⟨rfl, C, -, -⟩
  clear xB0
  have xB1n := Lib.hid (xB1.out.chg C (fun g' o s e => by have := ownA_lt (n := l0.length) (base := xg0 + 1) (Nat.lt_succ_self xg0) g' o s e; omega))
  clear xB1
  have xB1 := xB1n
  clear xB1n
  have xB2n := Lib.hid (xB2.out.chg C (fun g' o s e => by have := ownA_lt (n := l0.length) (base := xg0 + 1) (Nat.lt_succ_self xg0) g' o s e; omega))
  clear xB2
  have xB2 := xB2n
  clear xB2n
  replace T := T.marked C O.out xbT0
  replace U := U.marked C O.out xbU0
  have xRRn := Lib.hid (xRR.out.marked xOO.out C (ownA_lt xc0i))
  replace xOO := Lib.hid (xOO.out.marked C (ownA_lt xc0i))
  clear xRR
  have xRR := xRRn
  clear xRRn
  clear O C
  go_wp2_with fail
  have O : Hid (Own _ xg1 92 2 (some ⟨xg1, 0, none⟩) l1.length) := Own.of_blk xB1.out (Nat.le_refl _) (by omega)
  refine (markSettingS_any _ l1.length _ _ xg1 _ O.out (by omega) (by omega) (by omega)).mono ?_
  rintro e W20 ⟨rfl, C, -, -⟩
  clear xB1
  have xB2n := Lib.hid (xB2.out.chg C (fun g' o s e => by have := ownA_lt (n := l1.length) (base := xg1 + 1) (Nat.lt_succ_self xg1) g' o s e; omega))
  clear xB2
  have xB2 := xB2n
  clear xB2n
  replace T := T.marked C O.out xbT1
  replace U := U.marked C O.out xbU1
  have xRRn := Lib.hid (xRR.out.marked xOO.out C (ownA_lt xc1i))
  replace xOO := Lib.hid (xOO.out.marked C (ownA_lt xc1i))
  clear xRR
  have xRR := xRRn
  clear xRRn
  clear O C
  go_wp2_with fail
  have O : Hid (Own _ xg2 92 2 (some ⟨xg2, 0, none⟩) l2.length) := Own.of_blk xB2.out (Nat.le_refl _) (by omega)
  refine (markSettingS_any _ l2.length _ _ xg2 _ O.out (by omega) (by omega) (by omega)).mono ?_
  rintro e W21 ⟨rfl, C, -, -⟩
  clear xB2
  replace T := T.marked C O.out xbT2
  replace U := U.marked C O.out xbU2
  have xRRn := Lib.hid (xRR.out.marked xOO.out C (ownA_lt xc2i))
  replace xOO := Lib.hid (xOO.out.marked C (ownA_lt xc2i))
  clear xRR
  have xRR := xRRn
  clear xRRn
  clear O C
  go_wp2_with fail
  refine (eqSettingS_same _ _ _ _ _ _ xRR.out (SR0.out.ext U) (by omega)).mono ?_
  rintro e W22 ⟨rfl, E⟩
  replace T := T.trans E
  replace U := U.trans E
  replace xRR := Lib.hid (xRR.out.ext E)
  replace xOO := Lib.hid (xOO.out.ext E)
  clear E
  go_wp2_with fail
  refine (markSettingS_any _ _ _ _ _ _ xOO.out (by omega) (by omega) (by omega)).mono ?_
  rintro e W23 ⟨rfl, C, -, M⟩
  replace T := T.marked C xOO.out gT
  replace U := U.marked C xOO.out gU
  have MM := Lib.hid M
  clear xRR xOO C M
  go_wp2_with fail
  refine (heldSettingS_any _ _ _ _ _ MM.out (by omega) (by omega) (by omega)).mono ?_
  rintro e W24 ⟨rfl, E⟩
  replace T := T.trans E
  replace U := U.trans E
  replace MM := Lib.hid (MM.out.ext E)
  clear E
  go_wp2_with fail
  refine (toSettingS_any a0 cap0 l0 _ (HH0.out.ext T) (by omega)).mono ?_
  rintro e W25 ⟨yg0, rfl, yb0, yc0, A, B, E⟩
  replace T := T.trans E
  replace U := U.trans E
  replace MM := Lib.hid (MM.out.ext E)
  have yA0 := Lib.hid A
  clear yc0
  clear A B E yb0
  go_wp2_with fail
  refine (toSettingS_any a1 cap1 l1 _ (HH1.out.ext T) (by omega)).mono ?_
  rintro e W26 ⟨yg1, rfl, yb1, yc1, A, B, E⟩
  replace T := T.trans E
  replace U := U.trans E
  replace MM := Lib.hid (MM.out.ext E)
  replace yA0 := Lib.hid (yA0.out.ext E)
  have yA1 := Lib.hid A
  clear yc1
  clear A B E yb1
  go_wp2_with fail
  refine (toSettingS_any a2 cap2 l2 _ (HH2.out.ext T) (by omega)).mono ?_
  rintro e W27 ⟨yg2, rfl, yb2, yc2, A, B, E⟩
  replace T := T.trans E
  replace U := U.trans E
  replace MM := Lib.hid (MM.out.ext E)
  replace yA0 := Lib.hid (yA0.out.ext E)
  replace yA1 := Lib.hid (yA1.out.ext E)
  have yA2 := Lib.hid A
  clear yc2
  clear A B E yb2
  go_wp2_with fail
  refine (implMergeStates_any _ _ _ l0 yA0.out hS0.out (by omega) (Nat.le_refl _) _ _ l1 yA1.out hS1.out (by omega) (Nat.le_refl _) _ _ l2 yA2.out hS2.out (by omega) (Nat.le_refl _)).mono ?_
  rintro e W28 ⟨ya, ycap, rfl, yk, yO, yR, E⟩
  replace T := T.trans E
  replace U := U.trans E
  replace MM := Lib.hid (MM.out.ext E)
  replace yA0 := Lib.hid (yA0.out.ext E)
  replace yA1 := Lib.hid (yA1.out.ext E)
  replace yA2 := Lib.hid (yA2.out.ext E)
  clear E
  have yRR := Lib.hid yR
  clear yR
  clear yO
  go_wp2_with fail
  refine (eqSettingS_same _ _ _ _ _ _ yRR.out (SR0.out.ext U) (by omega)).mono ?_
  rintro e W29 ⟨rfl, E⟩
  replace T := T.trans E
  replace U := U.trans E
  replace MM := Lib.hid (MM.out.ext E)
  replace yA0 := Lib.hid (yA0.out.ext E)
  replace yA1 := Lib.hid (yA1.out.ext E)
  replace yA2 := Lib.hid (yA2.out.ext E)
  replace yRR := Lib.hid (yRR.out.ext E)
  clear E
  go_wp2_with fail
  refine (heldSettingS_any _ _ _ _ _ MM.out (by omega) (by omega) (by omega)).mono ?_
  rintro e W30 ⟨rfl, E⟩
  replace T := T.trans E
  replace U := U.trans E
  replace MM := Lib.hid (MM.out.ext E)
  replace yA0 := Lib.hid (yA0.out.ext E)
  replace yA1 := Lib.hid (yA1.out.ext E)
  replace yA2 := Lib.hid (yA2.out.ext E)
  replace yRR := Lib.hid (yRR.out.ext E)
  clear E
  go_wp2_with fail
  go_ret
  exact ⟨rfl, T⟩
open Go.ChangeShapes Go.WideShapes Go.ChangeAt
open Go.ChangeMaps (open_string shut_string)
namespace lawFnExactMergeStates
set_option maxRecDepth 100000 in
theorem lifted (os : Os) (started : os.Started) (H : Type) (enc : TypeId × Value → H) :
    ReturnsInHanded {} Try.checked os 9 .any (Rows.fnExactMergeStatesSpec.pre6 enc Try.prog Try.f9 Rows.fnExactMergeStatesRow.domain false) (Rows.fnExactMergeStatesSpec.post enc Try.prog Try.f9 false true false false) := by
  refine returnsInHanded_of_change (C := Try.checked) own started (by kernel_rfl) Try.func9
    (ChangeSpec.witness6 (enc := enc) (C := Try.checked) false ⟨#[], #[.slice none 0 0, .slice none 0 0, .slice none 0 0], []⟩ 8 (by kernel_rfl) (by kernel_rfl) (by kernel_rfl) (by kernel_rfl)) ?_
  intro W base args ds gs before hval0 hW hcnd _
  have hval : ∀ (j : Nat) t v, Try.f9.params[j]? = some t → args[j]? = some v → Value.okWide Try.prog W .any base t v := hval0
  have hW' := hW
  obtain ⟨p, q, hA0, hV, rfl, hfz, hnd⟩ := hW
  have hA : DataW.TrodAll enc Try.prog W 0 (fun _ => true) true Try.f9.params.toList args.toList ds p := hA0
  rw [Try.params9] at hA hval
  obtain ⟨v0, vs0, d0, ds0, p0, q0, hargs, rfl, rfl, h0, r0⟩ := trodAll_cons hA
  obtain ⟨v1, vs1, d1, ds1, p1, q1, rfl, rfl, rfl, h1, r1⟩ := trodAll_cons r0
  obtain ⟨v2, vs2, d2, ds2, p2, q2, rfl, rfl, rfl, h2, r2⟩ := trodAll_cons r1
  obtain ⟨rfl, rfl, rfl⟩ := trodAll_nil r2
  obtain rfl : args = #[v0, v1, v2] := by cases args; simp_all
  obtain ⟨rfl, rfl⟩ := trodVars_none hV
  have k0 := h0
  have lt0 : ∀ x ∈ p0, x.block < W.heap.size := by obtain ⟨m, hm⟩ := k0; exact DataW.trod_lt m _ _ _ hm
  obtain ⟨a0, len0, cap0, rfl⟩ := okWide_slice Try.underlying39 (hval 0 39 v0 rfl rfl)
  obtain ⟨fuel0, hf0⟩ := h0
  obtain ⟨b0, c0, l0, e0, hl0, hc0, H0, Q0⟩ := open_rows Setting.cell (fun y => y.Sz ∧ y.Wf) Try.underlying39 (by kernel_rfl : Try.prog.cellsOf 90 = 2) (by decide) (fun _ _ _ => Setting.el) hf0
  simp only [Value.cells, List.cons.injEq, Value.slice.injEq, and_true] at e0
  obtain ⟨rfl, rfl, rfl⟩ := e0
  have k1 := h1
  have lt1 : ∀ x ∈ p1, x.block < W.heap.size := by obtain ⟨m, hm⟩ := k1; exact DataW.trod_lt m _ _ _ hm
  obtain ⟨a1, len1, cap1, rfl⟩ := okWide_slice Try.underlying39 (hval 1 39 v1 rfl rfl)
  obtain ⟨fuel1, hf1⟩ := h1
  obtain ⟨b1, c1, l1, e1, hl1, hc1, H1, Q1⟩ := open_rows Setting.cell (fun y => y.Sz ∧ y.Wf) Try.underlying39 (by kernel_rfl : Try.prog.cellsOf 90 = 2) (by decide) (fun _ _ _ => Setting.el) hf1
  simp only [Value.cells, List.cons.injEq, Value.slice.injEq, and_true] at e1
  obtain ⟨rfl, rfl, rfl⟩ := e1
  have k2 := h2
  have lt2 : ∀ x ∈ p2, x.block < W.heap.size := by obtain ⟨m, hm⟩ := k2; exact DataW.trod_lt m _ _ _ hm
  obtain ⟨a2, len2, cap2, rfl⟩ := okWide_slice Try.underlying39 (hval 2 39 v2 rfl rfl)
  obtain ⟨fuel2, hf2⟩ := h2
  obtain ⟨b2, c2, l2, e2, hl2, hc2, H2, Q2⟩ := open_rows Setting.cell (fun y => y.Sz ∧ y.Wf) Try.underlying39 (by kernel_rfl : Try.prog.cellsOf 90 = 2) (by decide) (fun _ _ _ => Setting.el) hf2
  simp only [Value.cells, List.cons.injEq, Value.slice.injEq, and_true] at e2
  obtain ⟨rfl, rfl, rfl⟩ := e2
  clear hA0 hval0
  refine (mergeStates_law W a0 cap0 l0 H0 Q0 (by omega) hl0 a1 cap1 l1 H1 Q1 (by omega) hl1 a2 cap2 l2 H2 Q2 (by omega) hl2).mono fun e W' ⟨he, bx⟩ => ?_
  have bel := bx.below
  subst he
  exact ⟨_, rfl, _, _, _, [], _, [], hW', trodAll_mk1 (shut_bool Try.underlying4 _), (trodAll_cons_mk (Below.trod laidOut (by kernel_rfl) (of_decide_eq_true (by kernel_rfl)) k0 bel lt0) (trodAll_cons_mk (Below.trod laidOut (by kernel_rfl) (of_decide_eq_true (by kernel_rfl)) k1 bel lt1) (trodAll_cons_mk (Below.trod laidOut (by kernel_rfl) (of_decide_eq_true (by kernel_rfl)) k2 bel lt2) trodAll_mk0))), rfl, bel.frame _, fun h => by cases h⟩
theorem over : Rows.fnExactMergeStatesRow.holds Try.pinned (OpenSpec.ofChange Rows.fnExactMergeStatesSpec) :=
  OpenClaim.holds_of_wide 9 Try.f9 rfl rfl rfl rfl rfl rfl rfl ⟨rfl, rfl, rfl, rfl, rfl⟩ rfl rfl rfl rfl rfl (by kernel_rfl) Try.func9 (by kernel_rfl)
    (of_decide_eq_true (by kernel_rfl)) (by unfold Func.isWrapper; first | (rw [if_pos (by decide +kernel)]; kernel_rfl) | (rw [if_neg (by decide +kernel)]; exact ⟨rfl, rfl⟩))
    (fun os started H enc _ => lifted os started H enc)
/-- The given statement. -/
theorem proved : Rows.FnExactMergeStatesSaid := over
end lawFnExactMergeStates
end Go.Proofs.Ytbfgaimlkoeklaa
