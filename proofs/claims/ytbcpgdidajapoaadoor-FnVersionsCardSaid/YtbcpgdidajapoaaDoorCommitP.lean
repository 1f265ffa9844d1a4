/- A history with a further version: what CommitState, UndoVersion and MergeVersions hand back. -/
import Derived.Test.YtbcpgdidajapoaaDoorVrsV
import Derived.Test.YtbcpgdidajapoaaDoorVrsH
namespace Go.Proofs.YtbcpgdidajapoaaDoor
open Go.RowKit
def addCode (P : List VerP) : Int := if P.length = 32 then 5 else 0
def addVers (P : List VerP) (p : Int) (m : ByteArray) (s : List Setting) : List VerP := if P.length = 32 then [] else P ++ [⟨(P.length : Int) + 1, p, m, s⟩]
theorem addVers_good {P : List VerP} (h : histP P = true) {p : Int} {m : ByteArray} {s : List Setting} (hs : s.length ≤ 24) : GoodP (addVers P p m s) := by
  unfold addVers
  split
  · exact ⟨by simp, fun k hk => absurd hk (Nat.not_lt_zero _)⟩
  · obtain ⟨h1, h2⟩ := histP_bd h
    refine ⟨by rw [List.length_append]; simp; omega, fun k hk => ?_⟩
    rw [List.length_append] at hk
    simp only [List.length_cons, List.length_nil] at hk
    rcases (show k < P.length ∨ k = P.length by omega) with h3 | rfl
    · rw [nth_pre h3]; have := vAll_len_le (h2 k h3).2.2.2; omega
    · rw [nth_last]; show s.length ≤ 1000; omega
theorem good_nil : GoodP [] := ⟨by simp, fun k hk => absurd hk (Nat.not_lt_zero _)⟩
/-- The state before a version, none for 0. -/
def stateP (P : List VerP) (n : Int) : List Setting := if n = 0 then [] else (nth P (n.toNat - 1)).state
theorem stateP_len {P : List VerP} (h : histP P = true) {n : Int} (h0 : 0 ≤ n) (h1 : n ≤ P.length) : (stateP P n).length ≤ 24 := by
  unfold stateP; split
  · simp
  · exact vAll_len_le ((histP_bd h).2 _ (by omega)).2.2.2
/-- CommitState. -/
def commitC (P : List VerP) (p : Int) (m : ByteArray) (s : List Setting) : Int :=
  if (histP P && memoB m && settingList s) = true then (if inB p 0 P.length = true then addCode P else 3) else 1
def commitV (P : List VerP) (p : Int) (m : ByteArray) (s : List Setting) : List VerP :=
  if (histP P && memoB m && settingList s && inB p 0 P.length) = true then addVers P p m s else []
theorem commitV_good (P : List VerP) (p : Int) (m : ByteArray) (s : List Setting) : GoodP (commitV P p m s) := by
  unfold commitV; split
  · rename_i h
    simp only [Bool.and_eq_true] at h
    exact addVers_good h.1.1.1 (vAll_len_le h.1.2)
  · exact good_nil
end Go.Proofs.YtbcpgdidajapoaaDoor
