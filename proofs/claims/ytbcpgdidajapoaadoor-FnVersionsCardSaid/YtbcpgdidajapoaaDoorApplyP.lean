/- Changes of a state, made one after the other: what comes of them. Plain Lean. -/
import Derived.Test.YtbcpgdidajapoaaDoorChange
namespace Go.Proofs.YtbcpgdidajapoaaDoor
open Go.RowKit
theorem slo_sLt : SLO sLt := ⟨fun _ _ h => sLt_asymm h, fun _ _ _ h k => sLt_trans h k, fun _ _ h k => sLt_total h k⟩
abbrev IncS (l : List Setting) : Prop := IncK Setting.name sLt l
theorem incS_of {l : List Setting} (h : settingList l = true) : IncS l := by
  unfold IncS IncK Inc
  rw [List.pairwise_map, List.pairwise_iff_getElem]
  have key : ∀ j i, i < j → j < l.length → sLt (nth l i).name (nth l j).name = true := fun j => by
    induction j with
    | zero => intro i h; omega
    | succ j ih =>
      intro i hi hj
      have h1 : sLt (nth l j).name (nth l (j + 1)).name = true := vAll_ord h j hj
      rcases Nat.lt_or_ge i j with h2 | h2
      · exact sLt_trans (ih i h2 (by omega)) h1
      · obtain rfl : i = j := by omega
        exact h1
  intro i j hi hj hij
  have := key j i hij hj
  rwa [nth_eq l i hi, nth_eq l j hj] at this
theorem inc_lt {l : List Setting} (h : IncS l) {i j : Nat} (hij : i < j) (hj : j < l.length) : sLt (nth l i).name (nth l j).name = true := by
  unfold IncS IncK Inc at h
  rw [List.pairwise_map, List.pairwise_iff_getElem] at h
  rw [nth_eq l i (by omega), nth_eq l j hj]
  exact h i j (by omega) hj hij
theorem idxK_name {α κ : Type} [Inhabited α] [DecidableEq κ] {nm : α → κ} {n : κ} : ∀ {l : List α}, 0 ≤ idxK nm n l → nm (nth l (idxK nm n l).toNat) = n
  | [], h => by simp [idxK] at h
  | y :: l, h => by
    unfold idxK at h ⊢
    by_cases h1 : nm y = n
    · rw [if_pos h1]; exact h1
    · rw [if_neg h1] at h ⊢
      by_cases h2 : idxK nm n l < 0
      · rw [if_pos h2] at h; omega
      · rw [if_neg h2]
        have := idxK_name (nm := nm) (n := n) (l := l) (by omega)
        rw [show (idxK nm n l + 1).toNat = (idxK nm n l).toNat + 1 by omega]
        exact this
/-- The code of one change, and the state behind it. -/
def chE (l : List Setting) (c : Change) : Int :=
  if c.kind = 1 then (if 24 < (setS c.set l).length then 5 else 0) else if idxS c.name l < 0 then 3 else if (nth l (idxS c.name l).toNat).value = c.value then 0 else 6
def chN (l : List Setting) (c : Change) : List Setting := if c.kind = 1 then setS c.set l else l.take (idxS c.name l).toNat ++ l.drop ((idxS c.name l).toNat + 1)
def runC (l : List Setting) (cs : List Change) : Nat → Int × List Setting
  | 0 => (0, l)
  | k + 1 => if (runC l cs k).1 = 0 then (chE (runC l cs k).2 (nth cs k), chN (runC l cs k).2 (nth cs k)) else runC l cs k
theorem runC_stop {l : List Setting} {cs : List Change} {k : Nat} (h : (runC l cs k).1 ≠ 0) : ∀ m, k ≤ m → runC l cs m = runC l cs k
  | 0, hm => by obtain rfl : k = 0 := by omega
                rfl
  | m + 1, hm => by
    rcases Nat.lt_or_ge k (m + 1) with h1 | h1
    · have e := runC_stop h m (by omega)
      show (if (runC l cs m).1 = 0 then _ else runC l cs m) = _
      rw [e, if_neg h]
    · obtain rfl : k = m + 1 := by omega
      rfl
theorem runC_succ {l : List Setting} {cs : List Change} {k : Nat} (h : (runC l cs k).1 = 0) : runC l cs (k + 1) = (chE (runC l cs k).2 (nth cs k), chN (runC l cs k).2 (nth cs k)) := if_pos h
theorem runC_end {l : List Setting} {cs : List Change} {k : Nat} (h : (runC l cs k).1 = 0) (hk : k < cs.length) (he : chE (runC l cs k).2 (nth cs k) ≠ 0) : (runC l cs cs.length).1 = chE (runC l cs k).2 (nth cs k) := by
  have e := runC_succ h
  have := runC_stop (l := l) (cs := cs) (k := k + 1) (by rw [e]; exact he) cs.length hk
  rw [this, e]
structure GoodS (l : List Setting) : Prop where
  inc : IncS l
  len : l.length ≤ 24
theorem goodS_of {l : List Setting} (h : settingList l = true) : GoodS l := ⟨incS_of h, vAll_len_le h⟩
theorem chN_good {l : List Setting} {c : Change} (h : GoodS l) (h0 : chE l c = 0) : GoodS (chN l c) := by
  unfold chE at h0
  unfold chN
  split
  · rename_i h1
    rw [if_pos h1] at h0
    refine ⟨setK_inc slo_sLt h.inc, ?_⟩
    split at h0
    · omega
    · omega
  · rename_i h1
    rw [if_neg h1] at h0
    split at h0
    · omega
    · rename_i h2
      have hb : idxS c.name l < l.length := (idxK_bd (nm := Setting.name) c.name l).2
      have := len_del l (idxS c.name l).toNat (by omega)
      exact ⟨incK_del h.inc _, by have := h.len; omega⟩
theorem runC_good {l : List Setting} {cs : List Change} (h : GoodS l) : ∀ {k : Nat}, (runC l cs k).1 = 0 → GoodS (runC l cs k).2
  | 0, _ => h
  | k + 1, h0 => by
    by_cases h1 : (runC l cs k).1 = 0
    · rw [runC_succ h1] at h0 ⊢
      exact chN_good (runC_good h h1) h0
    · rw [runC_stop h1 (k + 1) (Nat.le_succ k)] at h0
      exact absurd h0 h1
/-- In terms of the search. -/
theorem lowB_S {l : List Setting} (n : ByteArray) : lowB (fun y => cmpS y.name n) l = posOf (fun y => sLt y.name n) l := by
  unfold lowB
  congr 1
  funext y
  rw [Bool.eq_iff_iff, decide_eq_true_eq, cmpS_lt]
theorem hitB_S {l : List Setting} (n : ByteArray) : hitB (fun y => cmpS y.name n) l = hitK Setting.name sLt n l := by
  unfold hitB hitK
  rw [lowB_S]
  congr 1
  rw [Bool.eq_iff_iff, beq_iff_eq, decide_eq_true_eq, cmpS_eq]
theorem ch_set {l : List Setting} (h : GoodS l) {c : Change} (hk : c.kind = 1) (hh : hitB (fun y => cmpS y.name c.name) l = true) :
    chE l c = 0 ∧ chN l c = l.set (lowB (fun y => cmpS y.name c.name) l) c.set := by
  rw [hitB_S] at hh
  have hl := setK_len slo_sLt (e := c.set) h.inc
  rw [show (c.set).name = c.name from rfl, hh, if_pos rfl] at hl
  have hv := setK_at slo_sLt (e := c.set) h.inc
  rw [show (c.set).name = c.name from rfl, hh, if_pos rfl] at hv
  have := h.len
  unfold chE chN
  rw [if_pos hk, if_pos hk, lowB_S]
  exact ⟨if_neg (by show ¬ 24 < (setK Setting.name sLt c.set l).length; omega), hv⟩
theorem ch_full {l : List Setting} (h : GoodS l) {c : Change} (hk : c.kind = 1) (hh : hitB (fun y => cmpS y.name c.name) l = false) (hl : l.length = 24) : chE l c = 5 := by
  rw [hitB_S] at hh
  have hl2 := setK_len slo_sLt (e := c.set) h.inc
  rw [show (c.set).name = c.name from rfl, hh, if_neg (by decide)] at hl2
  unfold chE
  rw [if_pos hk]
  exact if_pos (by show 24 < (setK Setting.name sLt c.set l).length; omega)
theorem ch_ins {l : List Setting} (h : GoodS l) {c : Change} (hk : c.kind = 1) (hh : hitB (fun y => cmpS y.name c.name) l = false) (hl : l.length ≠ 24) :
    chE l c = 0 ∧ chN l c = l.take (lowB (fun y => cmpS y.name c.name) l) ++ c.set :: l.drop (lowB (fun y => cmpS y.name c.name) l) := by
  rw [hitB_S] at hh
  have hl2 := setK_len slo_sLt (e := c.set) h.inc
  rw [show (c.set).name = c.name from rfl, hh, if_neg (by decide)] at hl2
  have hv := setK_at slo_sLt (e := c.set) h.inc
  rw [show (c.set).name = c.name from rfl, hh, if_neg (by decide)] at hv
  have := h.len
  unfold chE chN
  rw [if_pos hk, if_pos hk, lowB_S]
  exact ⟨if_neg (by show ¬ 24 < (setK Setting.name sLt c.set l).length; omega), hv⟩
theorem ch_none {l : List Setting} (h : GoodS l) {c : Change} (hk : c.kind ≠ 1) (hh : hitB (fun y => cmpS y.name c.name) l = false) : chE l c = 3 := by
  rw [hitB_S] at hh
  have hi := idxK_hit slo_sLt (n := c.name) h.inc
  rw [hh, if_neg (by decide)] at hi
  unfold chE
  rw [if_neg hk]
  exact if_pos (by show idxK Setting.name c.name l < 0; omega)
theorem ch_has {l : List Setting} (h : GoodS l) {c : Change} (hk : c.kind ≠ 1) (hh : hitB (fun y => cmpS y.name c.name) l = true) :
    lowB (fun y => cmpS y.name c.name) l < l.length ∧ (nth l (lowB (fun y => cmpS y.name c.name) l)).name = c.name ∧
    chE l c = (if (nth l (lowB (fun y => cmpS y.name c.name) l)).value = c.value then 0 else 6) ∧
    chN l c = l.take (lowB (fun y => cmpS y.name c.name) l) ++ l.drop (lowB (fun y => cmpS y.name c.name) l + 1) := by
  rw [hitB_S] at hh
  have hi := idxK_hit slo_sLt (n := c.name) h.inc
  have hb := idxK_bd (nm := Setting.name) c.name l
  rw [hh, if_pos rfl] at hi
  have hn := idxK_name (nm := Setting.name) (n := c.name) (l := l) (by omega)
  rw [hi, Int.toNat_natCast] at hn
  rw [hi] at hb
  unfold chE chN idxS
  rw [if_neg hk, if_neg hk, lowB_S, hi, Int.toNat_natCast, if_neg (by omega)]
  exact ⟨by omega, hn, rfl, rfl⟩
/-- All of it, behind the checks. -/
def allCh (cs : List Change) : Bool := allB cs.length fun k => changeB (nth cs k)
def applyC (l : List Setting) (cs : List Change) : Int := if settingList l = true then (if allCh cs = true then (runC l cs cs.length).1 else 1) else 1
def applyV (l : List Setting) (cs : List Change) : List Setting := if applyC l cs = 0 then (runC l cs cs.length).2 else []
theorem apply_1 {l : List Setting} {cs : List Change} (h : settingList l = false) : applyC l cs = 1 ∧ applyV l cs = [] := by
  have e : applyC l cs = 1 := by unfold applyC; rw [h]; rfl
  exact ⟨e, by unfold applyV; rw [if_neg (by omega)]⟩
theorem apply_2 {l : List Setting} {cs : List Change} (h : allCh cs = false) : applyC l cs = 1 ∧ applyV l cs = [] := by
  have e : applyC l cs = 1 := by unfold applyC; rw [h]; split <;> rfl
  exact ⟨e, by unfold applyV; rw [if_neg (by omega)]⟩
theorem apply_bad {l : List Setting} {cs : List Change} (h : settingList l = true) (h2 : allCh cs = true) {k : Nat} (h0 : (runC l cs k).1 = 0) (hk : k < cs.length) {x : Int} (he : chE (runC l cs k).2 (nth cs k) = x) (hx : x ≠ 0) : applyC l cs = x ∧ applyV l cs = [] := by
  have e : applyC l cs = x := by unfold applyC; rw [if_pos h, if_pos h2, runC_end h0 hk (by omega), he]
  exact ⟨e, by unfold applyV; rw [if_neg (by omega)]⟩
theorem apply_ok {l : List Setting} {cs : List Change} (h : settingList l = true) (h2 : allCh cs = true) (h0 : (runC l cs cs.length).1 = 0) : applyC l cs = 0 ∧ applyV l cs = (runC l cs cs.length).2 := by
  have e : applyC l cs = 0 := by unfold applyC; rw [if_pos h, if_pos h2, h0]
  exact ⟨e, by unfold applyV; rw [if_pos e]⟩
theorem applyV_len (l : List Setting) (cs : List Change) : (applyV l cs).length ≤ 24 := by
  unfold applyV
  split
  · rename_i h
    unfold applyC at h
    split at h
    · rename_i h1
      split at h
      · exact (runC_good (goodS_of h1) h).len
      · omega
    · omega
  · simp
end Go.Proofs.YtbcpgdidajapoaaDoor
