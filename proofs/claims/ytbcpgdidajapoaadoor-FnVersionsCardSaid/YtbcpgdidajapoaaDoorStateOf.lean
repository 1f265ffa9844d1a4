/- The state of a version, or none for 0: the program's versionState and the reference's l27StateOf. -/
import Derived.Test.YtbcpgdidajapoaaDoorCommitP
namespace Go.Proofs.YtbcpgdidajapoaaDoor
open Go.RowKit
/-- The state of a version, or none. -/
def StateOut (w : World) (s : List Setting) (e : Ending) (w' : World) : Prop := ∃ sa sc, e = .returned (.slice sa s.length sc) ∧ SettingAt w' sa s ∧ s.length ≤ sc ∧ Ext w w'
set_option maxHeartbeats 1000000 in
theorem versionState_any (w : World) (a : Option Addr) (cap : Nat) (l : List Version) (n : Int) (H : VersAt w a l) (h0 : 0 ≤ n) (h1 : n ≤ l.length) (hl : l.length ≤ 32) :
    Calls Tryd.prog 41 #[.slice a l.length cap, .int .i64 n] w (StateOut w (stateP (strips l) n)) := by
  by_cases hn : n = 0
  · subst hn
    clear H
    go_enter Tryd.func41, Tryd.ntmps41
    go_wp2_with fail
    go_ret
    exact ⟨_, 0, rfl, RowsAt.nil, Nat.le_refl _, (by repeat (first | exact Ext.refl _ | refine Ext.lift ?_ _ | refine Ext.alloc ?_ _))⟩
  · obtain ⟨k, hk⟩ : ∃ k : Nat, n = (k : Int) + 1 := ⟨n.toNat - 1, by omega⟩
    subst hk
    have hkl : k < l.length := by omega
    have hnd : (((k : Int) + 1) == 0) = false := beq_eq_false_iff_ne.2 hn
    have hst : Hid (stateP (strips l) ((k : Int) + 1) = (nth l k).state) := by
      show _ = _; unfold stateP; rw [if_neg hn, show ((k : Int) + 1).toNat - 1 = k by omega, nth_strips hkl]; rfl
    obtain ⟨b, off, rfl⟩ := H.row.base hkl
    obtain ⟨hb, c0, c1, c2, c3⟩ := Version.at H.row k hkl
    have hI : Hid (SettingAt w (nth l k).addr (nth l k).state) := H.inn k hkl
    have hC : Hid ((nth l k).state.length ≤ (nth l k).cap) := H.cap k hkl
    clear H hn c0 c1 c2
    go_enter Tryd.func41, Tryd.ntmps41
    go_wp2_with fail
    go_ret
    rw [hst.out]
    exact ⟨_, _, rfl, hI.out, hC.out, Ext.refl _⟩
end Go.Proofs.YtbcpgdidajapoaaDoor
