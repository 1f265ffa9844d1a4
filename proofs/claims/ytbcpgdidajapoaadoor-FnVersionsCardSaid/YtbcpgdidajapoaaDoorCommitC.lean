/- CommitState: what the program and the reference hand back. -/
import Derived.Test.YtbcpgdidajapoaaDoorCommitS
namespace Go.Proofs.YtbcpgdidajapoaaDoor
open Go.RowKit
section
variable {P : List VerP} {p : Int} {m : ByteArray} {s : List Setting}
theorem commit_1 (h : (histP P && memoB m && settingList s) = false) : commitC P p m s = 1 ∧ commitV P p m s = [] := by
  unfold commitC commitV; rw [h]; exact ⟨rfl, rfl⟩
theorem commit_3 (h : (histP P && memoB m && settingList s) = true) (h4 : inB p 0 P.length = false) : commitC P p m s = 3 ∧ commitV P p m s = [] := by
  unfold commitC commitV; rw [h, h4]; exact ⟨rfl, rfl⟩
theorem commit_0 (h : (histP P && memoB m && settingList s) = true) (h4 : inB p 0 P.length = true) : commitC P p m s = addCode P ∧ commitV P p m s = addVers P p m s := by
  unfold commitC commitV; rw [h, h4]; exact ⟨rfl, rfl⟩
end
set_option maxRecDepth 100000 in
set_option maxHeartbeats 4000000 in
theorem implCommitState_any (w : World) (a : Option Addr) (cap : Nat) (l : List Version) (H : VersAt w a l) (hsz : ∀ k, k < l.length → (nth l k).Small) (hn : l.length ≤ 1048576) (p : Int) (m : ByteArray) (hm : m.size ≤ 1048576) (sa : Option Addr) (sc : Nat) (s : List Setting) (HS : SettingAt w sa s) (hss : ∀ k, k < s.length → (nth s k).Small) (hsn : s.length ≤ 1048576) (hsc : s.length ≤ sc) :
    Calls Tryd.prog 12 #[.slice a l.length cap, .int .i64 p, .string m, .slice sa s.length sc] w (OutVS w (commitV (strips l) p m s) [.int .i64 (commitC (strips l) p m s)]) := by
  have HA := Lib.hid H
  have HSh := Lib.hid HS
  have HV := Lib.hid fun (w' : World) (he : Ext w w') => ValidHistory_any a cap l w' (H.ext he) hsz hn
  have HM := Lib.hid fun (w' : World) => memoValid_any m w' (by omega)
  have HX := Lib.hid fun (w' : World) (he : Ext w w') => ValidSettings_any sa sc s w' (RowsAt.ext HS he) hss hsn
  have _ := hsc
  clear H HS hsz hss
  rcases and4 (histP (strips l)) (memoB m) (settingList s) with h1 | ⟨h1, h2⟩ | ⟨h1, h2, h3⟩ | ⟨h1, h2, h3⟩
  iterate 3
    · have hv := Lib.hid (commit_1 (P := strips l) (p := p) (m := m) (s := s) (by first | (rw [h1, h2, h3]; rfl) | (rw [h1, h2]; rfl) | (rw [h1]; rfl)))
      first | rw [h3] at HX | skip
      first | rw [h2] at HM | skip
      rw [h1] at HV
      go_enter Tryd.func12, Tryd.ntmps12
      go_wp2_with (first | (go_at_call 35; refine (HV.out _ (by repeat (first | exact Ext.refl _ | refine Ext.lift ?_ _ | refine Ext.alloc ?_ _))).mono ?_; rintro e w' ⟨rfl, y, rfl⟩) | (go_at_call 36; refine (HM.out _).mono ?_; rintro e w' ⟨rfl, rfl⟩) | (go_at_call 24; refine (HX.out _ (by repeat (first | exact Ext.refl _ | refine Ext.lift ?_ _ | refine Ext.alloc ?_ _))).mono ?_; rintro e w' ⟨rfl, y, rfl⟩))
      go_ret2
      rw [hv.out.1, hv.out.2]
      first | exact OutVS.nil none 0 rfl (by repeat (first | exact Ext.refl _ | refine Ext.lift ?_ _ | refine Ext.alloc ?_ _)) | exact (OutVS.nil none 0 rfl (by repeat (first | exact Ext.refl _ | refine Ext.lift ?_ _ | refine Ext.alloc ?_ _))).read
  have h3h := Lib.hid h3
  obtain ⟨hl32, hb⟩ := hist_bd h1
  have hin := Lib.hid fun k (hk : k < l.length) => (show (nth l k).state.length ≤ 1000 from by have := vAll_len_le (hb k hk).2.2.2; omega)
  have hs24 : s.length ≤ 1000 := by have := vAll_len_le h3; omega
  have hall : Hid ((histP (strips l) && memoB m && settingList s) = true) := by show _ = _; rw [h1, h2, h3]; rfl
  rw [h3] at HX
  rw [h2] at HM
  rw [h1] at HV
  clear h1 h2 h3 hb
  cases h4 : inB p 0 l.length
  · have hv := Lib.hid (commit_3 (p := p) hall.out (by rw [strips_len]; exact h4))
    have HW : Hid (∀ w' : World, Calls Tryd.prog 37 #[.int .i64 p, .int .i64 0, .int .i64 (l.length : Nat)] w' fun e w'' => e = .returned (.bool false) ∧ w'' = w') := fun w' => by have := within_any p 0 (l.length : Nat) w'; rw [h4] at this; exact this
    clear h4
    go_enter Tryd.func12, Tryd.ntmps12
    go_wp2_with (first | (go_at_call 35; refine (HV.out _ (by repeat (first | exact Ext.refl _ | refine Ext.lift ?_ _ | refine Ext.alloc ?_ _))).mono ?_; rintro e w' ⟨rfl, y, rfl⟩) | (go_at_call 36; refine (HM.out _).mono ?_; rintro e w' ⟨rfl, rfl⟩) | (go_at_call 24; refine (HX.out _ (by repeat (first | exact Ext.refl _ | refine Ext.lift ?_ _ | refine Ext.alloc ?_ _))).mono ?_; rintro e w' ⟨rfl, y, rfl⟩) | (go_at_call 37; refine (HW.out _).mono ?_; rintro e w' ⟨rfl, rfl⟩))
    go_ret2
    rw [hv.out.1, hv.out.2]
    exact OutVS.nil none 0 rfl (by repeat (first | exact Ext.refl _ | refine Ext.lift ?_ _ | refine Ext.alloc ?_ _))
  · have hv := Lib.hid (commit_0 (p := p) hall.out (by rw [strips_len]; exact h4))
    have HW : Hid (∀ w' : World, Calls Tryd.prog 37 #[.int .i64 p, .int .i64 0, .int .i64 (l.length : Nat)] w' fun e w'' => e = .returned (.bool true) ∧ w'' = w') := fun w' => by have := within_any p 0 (l.length : Nat) w'; rw [h4] at this; exact this
    have HWV := Lib.hid fun (w' : World) (he : Ext w w') => withVersion_any w' a cap l (HA.out.ext he) hl32 hin.out p m sa sc s (RowsAt.ext HSh.out he) hs24 hsc
    obtain ⟨c, hc⟩ : ∃ c, c = addCode (strips l) := ⟨_, rfl⟩
    rw [← hc] at HWV hv
    clear h4 hc
    go_enter Tryd.func12, Tryd.ntmps12
    go_wp2_with (first | (go_at_call 35; refine (HV.out _ (by repeat (first | exact Ext.refl _ | refine Ext.lift ?_ _ | refine Ext.alloc ?_ _))).mono ?_; rintro e w' ⟨rfl, y, rfl⟩) | (go_at_call 36; refine (HM.out _).mono ?_; rintro e w' ⟨rfl, rfl⟩) | (go_at_call 24; refine (HX.out _ (by repeat (first | exact Ext.refl _ | refine Ext.lift ?_ _ | refine Ext.alloc ?_ _))).mono ?_; rintro e w' ⟨rfl, z, rfl⟩) | (go_at_call 37; refine (HW.out _).mono ?_; rintro e w' ⟨rfl, rfl⟩))
    have E0 : Ext w (lift (lift w y) z) := (by repeat (first | exact Ext.refl _ | refine Ext.lift ?_ _ | refine Ext.alloc ?_ _))
    refine (HWV.out _ E0).mono ?_
    rintro e w' ⟨a', cap', l', rfl, h5, h6, h7, h8⟩
    have R7 := Lib.hid (h7.low E0.size)
    have R8 := Lib.hid (E0.trans h8)
    have R5 := Lib.hid h5
    clear h7 h8 h5 E0
    go_wp2_with fail
    go_ret2
    rw [hv.out.1, hv.out.2]
    exact ⟨a', cap', l', rfl, R5.out, h6, R7.out, R8.out⟩
end Go.Proofs.YtbcpgdidajapoaaDoor
