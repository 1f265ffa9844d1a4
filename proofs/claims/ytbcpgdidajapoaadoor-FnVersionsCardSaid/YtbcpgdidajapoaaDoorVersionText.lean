/- A version as text. What the program's and the reference's functions hand back. -/
import Derived.Test.YtbcpgdidajapoaaDoorVersion
import Derived.Test.YtbcpgdidajapoaaDoorWithId
namespace Go.Proofs.YtbcpgdidajapoaaDoor
open Go.RowKit
def stTxt (x : Version) : Nat → ByteArray
  | 0 => decS x.number ++ ⟨#[60]⟩ ++ decS x.parent
  | k + 1 => stTxt x k ++ (⟨#[32]⟩ ++ (nth x.state k).name ++ ⟨#[61]⟩ ++ decS (nth x.state k).value)
def versionS (x : Version) : ByteArray := if versionB x = true then (if sEq x.memo ⟨#[]⟩ = true then stTxt x x.state.length else stTxt x x.state.length ++ (⟨#[32, 35, 32]⟩ ++ x.memo)) else ⟨#[]⟩
theorem stTxt_same {x y : Version} (h : x.Same y) : ∀ k, stTxt x k = stTxt y k
  | 0 => by simp only [stTxt]; rw [h.1, h.2.1]
  | k + 1 => by simp only [stTxt]; rw [stTxt_same h k, h.2.2.2]
theorem versionS_same {x y : Version} (h : x.Same y) : versionS x = versionS y := by
  unfold versionS versionB
  rw [h.1, h.2.1, h.2.2.1, h.2.2.2, stTxt_same h]
theorem stTxt_size {x : Version} (h : versionB x = true) : ∀ k, k ≤ x.state.length → (stTxt x k).size ≤ 43 + 33 * k
  | 0, _ => by
    have hb := versionB_bd h
    have := decS_size x.number (by omega) (by omega)
    have := decS_size x.parent (by omega) (by omega)
    have : (⟨#[60]⟩ : ByteArray).size = 1 := rfl
    simp only [stTxt, ByteArray.size_append]; omega
  | k + 1, hk => by
    have hb := versionB_bd h
    have hs := settingB_bd (hb.2.2.2.2 k (by omega))
    have := stTxt_size h k (by omega)
    have := decS_size (nth x.state k).value (by omega) (by omega)
    have : (⟨#[32]⟩ : ByteArray).size = 1 := rfl
    have : (⟨#[61]⟩ : ByteArray).size = 1 := rfl
    simp only [stTxt, ByteArray.size_append]; omega
set_option maxRecDepth 100000 in
set_option maxHeartbeats 4000000 in
theorem implVersionText (x : Version) (w : World) (ht : Tab w) (hsz : x.Small) (hin : x.In w) :
    Gives Tryd.prog 19 #[.agg #[.int .i64 x.number, .int .i64 x.parent, .string x.memo, .slice x.addr x.state.length x.cap]] w (.string (versionS x)) := by
  unfold Gives
  have HT := Lib.hid ht
  clear ht
  obtain ⟨number, parent, memo, addr, cap, state⟩ := x
  have HS : Hid (SettingAt w addr state) := hin
  have HZ : Hid (∀ k, k < state.length → (nth state k).Small) := hsz.2.1
  obtain ⟨hm, -, hn, -⟩ := hsz
  dsimp only at hm hn
  clear hin
  have H : Hid (versionB ⟨number, parent, memo, addr, cap, state⟩ = (inB number 1 32 && inB parent 0 (number - 1) && memoB memo && settingList state)) := rfl
  rcases and5 (inB number 1 32) (inB parent 0 (number - 1)) (memoB memo) (settingList state) with h0 | ⟨h0, h1⟩ | ⟨h0, h1, h2⟩ | ⟨h0, h1, h2, h3⟩ | ⟨h0, h1, h2, h3⟩
  rotate_left 4
  · have hB : versionB ⟨number, parent, memo, addr, cap, state⟩ = true := by rw [H.out, h0, h1, h2, h3]; rfl
    have hb := versionB_bd hB
    dsimp only at hb
    obtain ⟨n1, n2, n3, n4, n5⟩ := hb
    have N5 : Hid (∀ k, k < state.length → settingB (nth state k) = true) := n5
    clear n5
    have HZT : Hid (∀ k, k ≤ state.length → (stTxt ⟨number, parent, memo, addr, cap, state⟩ k).size ≤ 43 + 33 * k) := stTxt_size hB
    have d1 := decS_size number (by omega) (by omega)
    have d2 := decS_size parent (by omega) (by omega)
    have e60 : (⟨#[60]⟩ : ByteArray).size = 1 := rfl
    have e61 : (⟨#[61]⟩ : ByteArray).size = 1 := rfl
    have e32 : (⟨#[32]⟩ : ByteArray).size = 1 := rfl
    have e35 : (⟨#[32, 35, 32]⟩ : ByteArray).size = 3 := rfl
    have d3 : (decS number ++ ⟨#[60]⟩).size ≤ 22 := by rw [ByteArray.size_append]; omega
    have d4 : (⟨#[32, 35, 32]⟩ ++ memo : ByteArray).size ≤ 23 := by rw [ByteArray.size_append]; omega
    have HV : Hid ((if sEq memo ⟨#[]⟩ = true then stTxt ⟨number, parent, memo, addr, cap, state⟩ state.length else stTxt ⟨number, parent, memo, addr, cap, state⟩ state.length ++ (⟨#[32, 35, 32]⟩ ++ memo)) = versionS ⟨number, parent, memo, addr, cap, state⟩) := by show _ = _; unfold versionS; rw [if_pos hB]
    have HT0 : Hid (decS number ++ ⟨#[60]⟩ ++ decS parent = stTxt ⟨number, parent, memo, addr, cap, state⟩ 0) := rfl
    have hb2 : Hid ((w.alloc (.cells #[.int .i64 number, .int .i64 parent, .string memo, .slice addr state.length cap] 48)).cell? ⟨w.heap.size, 2, none⟩ = some (.string memo)) := by show _ = _; rw [cell_new]; rfl
    clear hB
    go_enter Tryd.func19, Tryd.ntmps19
    go_wp2_with (first | (go_at_call 37; refine (within_any _ _ _ _).mono ?_; rintro e w' ⟨rfl, rfl⟩) | (go_at_call 36; refine (memoValid_any _ _ (by omega)).mono ?_; rintro e w' ⟨rfl, rfl⟩) | (go_at_call 24; refine (ValidSettings_any _ _ state _ (HS.out.ext (by repeat (first | exact Ext.refl _ | refine Ext.lift ?_ _ | refine Ext.alloc ?_ _))) HZ.out hn).mono ?_; rintro e w' ⟨rfl, yv, rfl⟩))
    refine region_quiet (by kernel_rfl) (by kernel_rfl) ?_
    repeat (any_goals (first | go_big_quiet_step ((exact Gives.quiet (Decimal_any _ _ (by omega) (by omega) (HT.out.ext (by repeat (first | exact Ext.refl _ | refine Ext.lift ?_ _ | refine Ext.alloc ?_ _)))))) | quiet_step ((exact Gives.quiet (Decimal_any _ _ (by omega) (by omega) (HT.out.ext (by repeat (first | exact Ext.refl _ | refine Ext.lift ?_ _ | refine Ext.alloc ?_ _))))))))
    refine wpQuiet_nil ?_
    intro _ hw'
    obtain ⟨y, hw''⟩ := hw'
    subst hw''
    go_wp2_with fail
    have hE := Lib.hid (show Ext (w.alloc (.cells #[.int .i64 number, .int .i64 parent, .string memo, .slice addr state.length cap] 48)) (lift (lift (w.alloc (.cells #[.int .i64 number, .int .i64 parent, .string memo, .slice addr state.length cap] 48)) yv) y) from (by repeat (first | exact Ext.refl _ | refine Ext.lift ?_ _ | refine Ext.alloc ?_ _)))
    have hE0 := Lib.hid (show Ext w (w.alloc (.cells #[.int .i64 number, .int .i64 parent, .string memo, .slice addr state.length cap] 48)) from (by repeat (first | exact Ext.refl _ | refine Ext.lift ?_ _ | refine Ext.alloc ?_ _)))
    rw [HT0.out]
    generalize lift (lift (w.alloc (.cells #[.int .i64 number, .int .i64 parent, .string memo, .slice addr state.length cap] 48)) yv) y = W at *
    go_loopw [3, 42] (fun o i wr => ∃ k : Nat, k ≤ state.length ∧ i = .int .i64 k ∧ o = .string (stTxt ⟨number, parent, memo, addr, cap, state⟩ k) ∧ Ext (w.alloc (.cells #[.int .i64 number, .int .i64 parent, .string memo, .slice addr state.length cap] 48)) wr) (fun _ i _ => state.length - (intOf i).toNat)
    case atStart => exact ⟨0, Nat.zero_le _, rfl, rfl, hE.out⟩
    case round =>
      obtain ⟨k, hk, rfl, rfl, he⟩ := hrel
      have hs := HZT.out k hk
      by_cases hlt : k < state.length
      · obtain ⟨b, off, rfl⟩ := HS.out.base hlt
        obtain ⟨hb, c0, c1⟩ := Setting.at (HS.out.ext (hE0.out.trans he)) k hlt
        obtain ⟨q0, q1⟩ := settingB_bd (N5.out k hlt)
        have d5 := decS_size (nth state k).value (by omega) (by omega)
        have d6 : ((⟨#[32]⟩ : ByteArray) ++ (nth state k).name).size ≤ 11 := by rw [ByteArray.size_append]; omega
        have d7 : ((⟨#[32]⟩ : ByteArray) ++ (nth state k).name ++ ⟨#[61]⟩).size ≤ 12 := by rw [ByteArray.size_append]; omega
        have d8 : ((⟨#[32]⟩ : ByteArray) ++ (nth state k).name ++ ⟨#[61]⟩ ++ decS (nth state k).value).size ≤ 33 := by rw [ByteArray.size_append]; omega
        have hst : Hid (stTxt ⟨number, parent, memo, some ⟨b, off, none⟩, cap, state⟩ (k + 1) = stTxt ⟨number, parent, memo, some ⟨b, off, none⟩, cap, state⟩ k ++ (⟨#[32]⟩ ++ (nth state k).name ++ ⟨#[61]⟩ ++ decS (nth state k).value)) := rfl
        go_wp2_with fail
        refine region_quiet (by kernel_rfl) (by kernel_rfl) ?_
        repeat (any_goals (first | go_big_quiet_step ((exact Gives.quiet (Decimal_any _ _ (by omega) (by omega) (HT.out.ext (Ext.trans hE0.out (by repeat (first | exact he | refine Ext.lift ?_ _ | refine Ext.alloc ?_ _))))))) | quiet_step ((exact Gives.quiet (Decimal_any _ _ (by omega) (by omega) (HT.out.ext (Ext.trans hE0.out (by repeat (first | exact he | refine Ext.lift ?_ _ | refine Ext.alloc ?_ _)))))))))
        refine wpQuiet_nil ?_
        intro _ hw'
        obtain ⟨y, hw''⟩ := hw'
        subst hw''
        go_wp2_with fail
        go_roundw
        case rel => exact ⟨k + 1, by omega, by go_num, by rw [hst.out], (by repeat (first | exact he | refine Ext.lift ?_ _ | refine Ext.alloc ?_ _))⟩
        case measure => simp [intOf]; omega
      · obtain rfl : k = state.length := by omega
        have hm2 := (he.cell hb2.out)
        cases hme : sEq memo ⟨#[]⟩
        all_goals
          rw [hme] at HV
          go_wp2_with fail
          go_ret
          exact ⟨by rw [← HV.out]; rfl, hE0.out.trans he⟩
  all_goals
    try (have b0 := inB_iff.1 h0)
    have hv : Hid ((⟨#[]⟩ : ByteArray) = versionS ⟨number, parent, memo, addr, cap, state⟩) := by show _ = _; unfold versionS; rw [H.out]; simp [*]
    go_enter Tryd.func19, Tryd.ntmps19
    go_wp2_with (first | (go_at_call 37; refine (within_any _ _ _ _).mono ?_; rintro e w' ⟨rfl, rfl⟩) | (go_at_call 36; refine (memoValid_any _ _ (by omega)).mono ?_; rintro e w' ⟨rfl, rfl⟩) | (go_at_call 24; refine (ValidSettings_any _ _ state _ (HS.out.ext (by repeat (first | exact Ext.refl _ | refine Ext.lift ?_ _ | refine Ext.alloc ?_ _))) HZ.out hn).mono ?_; rintro e w' ⟨rfl, yv, rfl⟩))
    go_ret
    exact ⟨by rw [← hv.out]; rfl, (by repeat (first | exact Ext.refl _ | refine Ext.lift ?_ _ | refine Ext.alloc ?_ _))⟩
end Go.Proofs.YtbcpgdidajapoaaDoor
