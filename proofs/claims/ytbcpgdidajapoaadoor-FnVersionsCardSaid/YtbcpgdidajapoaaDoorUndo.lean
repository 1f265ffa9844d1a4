/- UndoVersion: what the program and the reference hand back. -/
import Derived.Test.YtbcpgdidajapoaaDoorCommitS
import Derived.Test.YtbcpgdidajapoaaDoorStateOf
import Derived.Test.YtbcpgdidajapoaaDoorDec
import Derived.Lib.ItoaLen
namespace Go.Proofs.YtbcpgdidajapoaaDoor
open Go.RowKit
theorem decS_sizeU (n : Int) (h0 : -9223372036854775808 ≤ n) (h1 : n ≤ 9223372036854775807) : (decS n).size ≤ 21 := by
  have := Lib.itoa_length_le n h0 h1
  show (Lib.itoa n).toArray.size ≤ 21
  simpa using this
theorem wrap_lenU {n : Nat} (h : n ≤ 32) : IntKind.i64.wrap (n : Int) = n := by rw [IntKind.wrap_i64]; omega
def undoM (n : Int) : ByteArray := ⟨#[117, 110, 100, 111, 32]⟩ ++ decS n
def parP (P : List VerP) (n : Int) : Int := (nth P (n.toNat - 1)).parent
def undoC (P : List VerP) (n : Int) : Int := if vcodeP P [n] = 0 then addCode P else vcodeP P [n]
def undoV (P : List VerP) (n : Int) : List VerP := if vcodeP P [n] = 0 then addVers P n (undoM n) (stateP P (parP P n)) else []
theorem vcode_one0 {P : List VerP} {n : Int} (h : vcodeP P [n] = 0) : histP P = true ∧ 1 ≤ n ∧ n ≤ P.length := by
  obtain ⟨h1, h2⟩ := vcodeP_zero h
  have : inB n 1 P.length = true := by unfold allIn at h2; simpa using h2
  exact ⟨h1, inB_iff.1 this⟩
theorem undoV_good (P : List VerP) (n : Int) : GoodP (undoV P n) := by
  unfold undoV; split
  · rename_i h
    obtain ⟨h1, h2, h3⟩ := vcode_one0 h
    have := par_bd h1 (show 0 < n by omega) h3
    exact addVers_good h1 (stateP_len h1 this.1 (by unfold parP; omega))
  · exact good_nil
set_option maxRecDepth 100000 in
set_option maxHeartbeats 4000000 in
theorem implUndoVersion_any (w : World) (ht : Tab w) (a : Option Addr) (cap : Nat) (l : List Version) (H : VersAt w a l) (hsz : ∀ k, k < l.length → (nth l k).Small) (hn : l.length ≤ 1048576) (x : Int) :
    Calls Tryd.prog 13 #[.slice a l.length cap, .int .i64 x] w (OutVS w (undoV (strips l) x) [.int .i64 (undoC (strips l) x)]) := by
  have HT := Lib.hid ht
  have HA := Lib.hid H
  have HV : Hid (Gives Tryd.prog 39 #[.slice a l.length cap, .slice (some ⟨w.heap.size, 0, none⟩) 1 1] (w.alloc (.cells #[.int .i64 x] 2)) (.int .i64 (vcodeP (strips l) [x]))) :=
    versionsCode_any _ a cap l (some ⟨w.heap.size, 0, none⟩) 1 [x] (H.ext ((Ext.refl _).alloc _)) hsz hn (rows_int w x rfl) (by simp)
  clear ht hsz
  by_cases h0 : vcodeP (strips l) [x] = 0
  · obtain ⟨hh, hx0, hx1⟩ := vcode_one0 h0
    rw [strips_len] at hx1
    have hv : Hid (undoC (strips l) x = addCode (strips l) ∧ undoV (strips l) x = addVers (strips l) x (undoM x) (stateP (strips l) (parP (strips l) x))) := ⟨if_pos h0, if_pos h0⟩
    obtain ⟨hl32, hb8⟩ := hist_bd hh
    have hin := Lib.hid fun k (hk : k < l.length) => (show (nth l k).state.length ≤ 1000 from by have := vAll_len_le (hb8 k hk).2.2.2; omega)
    have hpb := par_bd hh (show 0 < x by omega) (by rw [strips_len]; exact hx1)
    obtain ⟨k, hk⟩ : ∃ k : Nat, x = (k : Int) + 1 := ⟨x.toNat - 1, by omega⟩
    subst hk
    have hkl : k < l.length := by omega
    have hpp : parP (strips l) ((k : Int) + 1) = (nth l k).parent := by unfold parP; rw [show ((k : Int) + 1).toNat - 1 = k by omega, nth_strips hkl]; rfl
    rw [show ((k : Int) + 1).toNat - 1 = k by omega, nth_strips hkl] at hpb
    have hp0 : 0 ≤ (nth l k).parent := hpb.1
    have hp1 : (nth l k).parent ≤ k := by have : (nth l k).parent ≤ (k : Int) + 1 - 1 := hpb.2; omega
    rw [hpp] at hv
    have hs24 := stateP_len hh hp0 (by rw [strips_len]; omega)
    have HST := Lib.hid fun (W : World) (he : Ext w W) => versionState_any W a cap l (nth l k).parent (H.ext he) hp0 (by omega) hl32
    obtain ⟨s, hs⟩ : ∃ s, s = stateP (strips l) (nth l k).parent := ⟨_, rfl⟩
    obtain ⟨c, hc⟩ : ∃ c, c = addCode (strips l) := ⟨_, rfl⟩
    rw [← hs] at HST hs24 hv
    rw [← hc] at hv
    have HWV := Lib.hid fun (W : World) (he : Ext w W) (sa : Option Addr) (sc : Nat) (HS : SettingAt W sa s) (hsc : s.length ≤ sc) => withVersion_any W a cap l (H.ext he) hl32 hin.out ((k : Int) + 1) (undoM ((k : Int) + 1)) sa sc s HS (by omega) hsc
    rw [← hc] at HWV
    have HD := Lib.hid fun (W : World) (he : Ext w W) => Decimal_any ((k : Int) + 1) W (by omega) (by omega) (HT.out.ext he)
    have hds := decS_sizeU ((k : Int) + 1) (by omega) (by omega)
    have hds0 : (⟨#[117, 110, 100, 111, 32]⟩ : ByteArray).size = 5 := rfl
    have hds2 : ((⟨#[117, 110, 100, 111, 32]⟩ : ByteArray) ++ decS ((k : Int) + 1)).size ≤ 26 := by rw [ByteArray.size_append]; omega
    have hM : Hid ((⟨#[117, 110, 100, 111, 32]⟩ : ByteArray) ++ decS ((k : Int) + 1) = undoM ((k : Int) + 1)) := rfl
    rw [h0] at HV
    clear h0 hh hb8 hpb hpp H hs hc hx0 hx1
    go_enter Tryd.func13, Tryd.ntmps13
    go_wp2_with fail
    refine HV.out.mono ?_
    rintro e w' ⟨rfl, z, rfl⟩
    clear HV
    have E0 := Lib.hid (show Ext w (lift (w.alloc (.cells #[.int .i64 ((k : Int) + 1)] 2)) z) from (by repeat (first | exact Ext.refl _ | refine Ext.lift ?_ _ | refine Ext.alloc ?_ _)))
    go_wp2_with fail
    obtain ⟨b, off, rfl⟩ := HA.out.row.base hkl
    obtain ⟨hb, -, c1, -, -⟩ := Version.at (HA.out.row.ext E0.out) k hkl
    generalize lift (w.alloc (.cells #[.int .i64 ((k : Int) + 1)] 2)) z = w0 at *
    refine Grow.region [0, 1, 2, 3, 4, 5, 6, 7, 8, 9, 10, 11] [(false, 12), (false, 13), (true, 14), (true, 15), (true, 16), (true, 17)] (by kernel_rfl) (by kernel_rfl) ?_
    simp only [Grow.pick, Grow.pickB, List.getElem?_cons_succ, List.getElem?_cons_zero]
    repeat
      refine Grow.heads_step (fun K' hK => ⟨rfl, ?_⟩)
      apply Exists.intro
      apply And.intro
      · intro w' hw'
        obtain ⟨x', rfl⟩ := hw'
        go_simp
        first | done | rfl | (rw [if_neg (by omega)]; done) | (rw [if_neg (by omega)]; rfl) | (rw [if_pos (by omega)]; done) | (rw [if_pos (by omega)]; rfl)
      go_simp
      refine hK _ ?_
      clear hK K'
    refine Grow.heads_call _ _ _ (fun K' hK => ⟨rfl, ?_, (fun w' h' => HD.out w' (E0.out.trans h')), ?_⟩)
    · intro w' hw'
      obtain ⟨x', rfl⟩ := hw'
      go_simp
      first | done | rfl
    go_simp
    refine hK _ ?_
    clear hK K'
    repeat
      refine Grow.heads_step (fun K' hK => ⟨rfl, ?_⟩)
      apply Exists.intro
      apply And.intro
      · intro w' hw'
        obtain ⟨x', rfl⟩ := hw'
        go_simp
        first | done | rfl | (rw [if_neg (by omega)]; done) | (rw [if_neg (by omega)]; rfl) | (rw [if_pos (by omega)]; done) | (rw [if_pos (by omega)]; rfl)
      go_simp
      refine hK _ ?_
      clear hK K'
    rw [hM.out, wrap_lenU (show k ≤ 32 by omega)]
    repeat
      refine Grow.heads_step (fun K' hK => ⟨rfl, ?_⟩)
      apply Exists.intro
      apply And.intro
      · intro w' hw'
        obtain ⟨x', rfl⟩ := hw'
        go_simp
        first | done | rfl | (rw [if_neg (by omega)]; done) | (rw [if_neg (by omega)]; rfl) | (rw [if_pos (by omega)]; done) | (rw [if_pos (by omega)]; rfl)
      go_simp
      refine hK _ ?_
      clear hK K'
    refine Grow.heads_nil ?_
    intro w1 e1
    have F1 := Lib.hid (E0.out.trans e1)
    clear e1 c1 hb E0
    refine Grow.seq_step (fun K' hK => ⟨rfl, ?_⟩)
    go_simp
    simp only [Grow.upon]
    refine (HST.out _ F1.out).mono ?_
    rintro e w2 ⟨sa, sc, rfl, HS2, hsc2, E2⟩
    refine ⟨_, rfl, E2, fun w3 e7 => hK _ _ ?_⟩
    clear hK K'
    have HW2 := Lib.hid (HWV.out w3 ((F1.out.trans E2).trans e7) sa sc (RowsAt.ext HS2 e7) hsc2)
    have F2 := Lib.hid ((F1.out.trans E2).trans e7)
    have hz2 := F2.out.size
    clear HS2 hsc2 E2 e7 F1
    refine Grow.seq_step (fun K' hK => ⟨rfl, ?_⟩)
    go_simp
    simp only [Grow.upon]
    refine HW2.out.mono ?_
    rintro e w4 ⟨a', cap', l', rfl, h5, h6, h7, h8⟩
    refine ⟨_, rfl, h8, fun w5 e8 => hK _ _ ?_⟩
    clear hK K'
    have R7 := Lib.hid ((h7.low hz2).ext e8)
    have F3 := Lib.hid ((F2.out.trans h8).trans e8)
    have R5 := Lib.hid h5
    clear h7 h8 h5 hz2 e8 HW2
    refine Grow.seq_pure (fun K' hK => ⟨rfl, ?_⟩)
    apply Exists.intro
    apply And.intro
    · intro w' hw'
      obtain ⟨x', rfl⟩ := hw'
      go_simp
      first | done | rfl | (rw [if_neg (by omega)]; done) | (rw [if_neg (by omega)]; rfl)
    intro w6 e9
    go_simp
    refine hK _ _ ?_
    clear hK K'
    refine Grow.seq_pure (fun K' hK => ⟨rfl, ?_⟩)
    apply Exists.intro
    apply And.intro
    · intro w' hw'
      obtain ⟨x', rfl⟩ := hw'
      go_simp
      first | done | rfl | (rw [if_neg (by omega)]; done) | (rw [if_neg (by omega)]; rfl)
    intro w7 e10
    go_simp
    refine hK _ _ ?_
    clear hK K'
    refine Grow.seq_pure (fun K' hK => ⟨rfl, ?_⟩)
    apply Exists.intro
    apply And.intro
    · intro w' hw'
      obtain ⟨x', rfl⟩ := hw'
      go_simp
      first | done | rfl | (rw [if_neg (by omega)]; done) | (rw [if_neg (by omega)]; rfl)
    intro w8 e11
    go_simp
    refine hK _ _ ?_
    clear hK K'
    refine Grow.seq_pure (fun K' hK => ⟨rfl, ?_⟩)
    apply Exists.intro
    apply And.intro
    · intro w' hw'
      obtain ⟨x', rfl⟩ := hw'
      go_simp
      first | done | rfl | (rw [if_neg (by omega)]; done) | (rw [if_neg (by omega)]; rfl)
    intro w9 e12
    go_simp
    refine hK _ _ ?_
    clear hK K'
    have R8 := Lib.hid (((e9.trans e10).trans e11).trans e12)
    clear e9 e10 e11 e12
    refine Grow.seq_nil ?_
    go_wp2_with fail
    go_ret2
    rw [hv.out.1, hv.out.2]
    exact ⟨a', cap', l', rfl, R5.out, h6, R7.out.ext R8.out, F3.out.trans R8.out⟩
  · have hv : Hid (undoC (strips l) x = vcodeP (strips l) [x] ∧ undoV (strips l) x = []) := ⟨if_neg h0, if_neg h0⟩
    obtain ⟨c, hc⟩ : ∃ c, c = vcodeP (strips l) [x] := ⟨_, rfl⟩
    rw [← hc] at HV h0 hv
    have hd : (c == 0) = false := beq_eq_false_iff_ne.2 h0
    clear h0 H hc
    go_enter Tryd.func13, Tryd.ntmps13
    go_wp2_with fail
    refine HV.out.mono ?_
    rintro e w' ⟨rfl, z, rfl⟩
    go_wp2_with fail
    go_ret2
    rw [hv.out.1, hv.out.2]
    exact OutVS.nil none 0 rfl (by repeat (first | exact Ext.refl _ | refine Ext.lift ?_ _ | refine Ext.alloc ?_ _))
end Go.Proofs.YtbcpgdidajapoaaDoor
