/- A gate read back: what the program's and the reference's functions hand back. -/
import Derived.Test.YtfiiaegfikocoaaDoorRThree
import Derived.Test.YtfiiaegfikocoaaDoorGateText
namespace Go.Proofs.YtfiiaegfikocoaaDoor
open Go.RowKit
def opnB (K : ByteArray) : Bool := sEq K ⟨#[111, 112, 101, 110]⟩
def shtB (K : ByteArray) : Bool := sEq K ⟨#[115, 104, 117, 116]⟩
def gateOf (p : ByteArray) (L : List Int) (b : Bool) (c : Int) : Gate := ⟨p, nth L 0, nth L 1, nth L 2, b, c⟩
def gate3 (s : ByteArray) : Gate := gateOf (nth (cutsB 32 s) 0) (listV (nth (cutsB 32 s) 1)) false 0
def gate4 (s : ByteArray) : Gate := gateOf (nth (cutsB 32 s) 0) (listV (nth (cutsB 32 s) 1)) true (numV (nth (cutsB 32 s) 3))
def readGate (s : ByteArray) : Option Gate :=
  if (cutsB 32 s).length = 3 ∧ numsOk (nth (cutsB 32 s) 1) 3 = true ∧ opnB (nth (cutsB 32 s) 2) = true ∧ gateB (gate3 s) = true then some (gate3 s)
  else if (cutsB 32 s).length = 4 ∧ numsOk (nth (cutsB 32 s) 1) 3 = true ∧ numB (nth (cutsB 32 s) 3) = true ∧ shtB (nth (cutsB 32 s) 2) = true ∧ gateB (gate4 s) = true then some (gate4 s)
  else none
def resGate (s : ByteArray) : Gate := (readGate s).getD ⟨⟨#[]⟩, 0, 0, 0, false, 0⟩
def okGate (s : ByteArray) : Bool := (readGate s).isSome
theorem readGate_some {s : ByteArray} {x : Gate} (h : readGate s = some x) : resGate s = x ∧ okGate s = true := by unfold resGate okGate; rw [h]; exact ⟨rfl, rfl⟩
theorem readGate_none {s : ByteArray} (h : readGate s = none) : resGate s = ⟨⟨#[]⟩, 0, 0, 0, false, 0⟩ ∧ okGate s = false := by unfold resGate okGate; rw [h]; exact ⟨rfl, rfl⟩
theorem readGate_no {s : ByteArray} (h : ((cutsB 32 s).length ≠ 3 ∧ (cutsB 32 s).length ≠ 4) ∨ numsOk (nth (cutsB 32 s) 1) 3 = false) : readGate s = none := by
  unfold readGate
  rw [if_neg, if_neg]
  · rintro ⟨h1, h2, -⟩
    rcases h with h | h
    · exact h.2 h1
    · rw [h2] at h; cases h
  · rintro ⟨h1, h2, -⟩
    rcases h with h | h
    · exact h.1 h1
    · rw [h2] at h; cases h
theorem readGate_no3 {s : ByteArray} (h3 : (cutsB 32 s).length = 3) (h : opnB (nth (cutsB 32 s) 2) = false ∨ gateB (gate3 s) = false) : readGate s = none := by
  unfold readGate
  rw [if_neg, if_neg]
  · rintro ⟨h1, -⟩; omega
  · rintro ⟨-, -, h1, h2⟩
    rcases h with h | h
    · rw [h1] at h; cases h
    · rw [h2] at h; cases h
theorem readGate_yes3 {s : ByteArray} (h3 : (cutsB 32 s).length = 3) (hn : numsOk (nth (cutsB 32 s) 1) 3 = true) (h1 : opnB (nth (cutsB 32 s) 2) = true) (h2 : gateB (gate3 s) = true) : readGate s = some (gate3 s) := if_pos ⟨h3, hn, h1, h2⟩
theorem readGate_no4 {s : ByteArray} (h3 : (cutsB 32 s).length = 4) (h : numB (nth (cutsB 32 s) 3) = false ∨ shtB (nth (cutsB 32 s) 2) = false ∨ gateB (gate4 s) = false) : readGate s = none := by
  unfold readGate
  rw [if_neg, if_neg]
  · rintro ⟨-, -, h0, h1, h2⟩
    rcases h with h | h | h
    · rw [h0] at h; cases h
    · rw [h1] at h; cases h
    · rw [h2] at h; cases h
  · rintro ⟨h1, -⟩; omega
theorem readGate_yes4 {s : ByteArray} (h3 : (cutsB 32 s).length = 4) (hn : numsOk (nth (cutsB 32 s) 1) 3 = true) (h0 : numB (nth (cutsB 32 s) 3) = true) (h1 : shtB (nth (cutsB 32 s) 2) = true) (h2 : gateB (gate4 s) = true) : readGate s = some (gate4 s) := by
  unfold readGate
  rw [if_neg (by rintro ⟨h, -⟩; omega), if_pos ⟨h3, hn, h0, h1, h2⟩]
theorem gate_nums (p : ByteArray) {L : List Int} (hl : L.length = 3) (b : Bool) (c : Int) : withS (gateOf p L b c).id [(gateOf p L b c).shut, (gateOf p L b c).opn, (gateOf p L b c).hold] = withS p L := by
  show withS p [nth L 0, nth L 1, nth L 2] = _
  rw [← list3 hl]
theorem gate_empty {s : ByteArray} (h : 3 ≤ (cutsB 32 s).length) : (⟨#[]⟩ : ByteArray) ≠ s := by
  rintro rfl
  exact absurd h (by decide)
/-- What the program does at three pieces, or at more than four. -/
theorem readGate_p3 {s : ByteArray} (h : 3 ≤ (cutsB 32 s).length) (h4 : (cutsB 32 s).length ≠ 4) (hn : numsOk (nth (cutsB 32 s) 1) 3 = true) : readGate s = if gateS (gate3 s) = s then some (gate3 s) else none := by
  obtain ⟨hp, hl⟩ := numsOk_iff.1 hn
  have hT := (listP_iff.1 hp).1
  cases hv : gateB (gate3 s)
  · have e : gateS (gate3 s) = ⟨#[]⟩ := by unfold gateS; rw [if_neg (by rw [hv]; decide)]
    rw [e, if_neg (gate_empty h)]
    unfold readGate
    rw [if_neg, if_neg]
    · rintro ⟨h1, -⟩; exact h4 h1
    · rintro ⟨-, -, -, h1⟩; rw [hv] at h1; cases h1
  · have e : gateS (gate3 s) = withS (nth (cutsB 32 s) 0) (listV (nth (cutsB 32 s) 1)) ++ openS := by
      unfold gateS
      rw [if_pos hv]
      show (if false = true then _ else _) = _
      rw [if_neg (by decide)]
      unfold gate3
      rw [gate_nums _ hl]
    rw [e]
    by_cases h3 : (cutsB 32 s).length = 3
    · have hs := three_toList h3
      rw [← hT] at hs
      have key : withS (nth (cutsB 32 s) 0) (listV (nth (cutsB 32 s) 1)) ++ openS = s ↔ opnB (nth (cutsB 32 s) 2) = true := by
        rw [with_rest hs]
        unfold opnB
        rw [sEq_iff]
        constructor
        · intro e2
          have e3 : openS.data.toList = 32 :: [111, 112, 101, 110] := rfl
          rw [e3] at e2
          rw [← mk_toList (nth (cutsB 32 s) 2), ← (List.cons.inj e2).2]
        · intro e2; rw [e2]; rfl
      by_cases ho : opnB (nth (cutsB 32 s) 2) = true
      · rw [if_pos (key.2 ho)]; exact readGate_yes3 h3 hn ho hv
      · rw [if_neg (fun e2 => ho (key.1 e2))]
        exact readGate_no3 h3 (.inl (by simpa using ho))
    · have hne : ¬ withS (nth (cutsB 32 s) 0) (listV (nth (cutsB 32 s) 1)) ++ openS = s := by
        intro e2
        have hid : (32 : UInt8) ∉ (nth (cutsB 32 s) 0).data.toList := name_no32 (by
          have h9 := hv
          unfold gateB at h9
          simp only [Bool.and_eq_true] at h9
          simp only [and_assoc] at h9
          exact h9.1)
        have e3 := congrArg (fun x : ByteArray => cuts 32 x.data.toList) e2
        simp only [ByteArray.data_append, Array.toList_append] at e3
        rw [withS_toList] at e3
        have e4 : openS.data.toList = 32 :: [111, 112, 101, 110] := rfl
        rw [e4, List.append_assoc, List.cons_append, cuts_hit _ hid, cuts_hit _ (listT_no32 _), cuts_none (by decide)] at e3
        have := congrArg List.length e3
        rw [← cutsB_map, List.length_map] at this
        exact h3 this.symm
      rw [if_neg hne]
      exact readGate_no (.inl ⟨h3, h4⟩)
theorem readGate_p4 {s : ByteArray} (h : (cutsB 32 s).length = 4) (hn : numsOk (nth (cutsB 32 s) 1) 3 = true) (hb : numB (nth (cutsB 32 s) 3) = true) : readGate s = if gateS (gate4 s) = s then some (gate4 s) else none := by
  obtain ⟨hp, hl⟩ := numsOk_iff.1 hn
  have hT := (listP_iff.1 hp).1
  cases hv : gateB (gate4 s)
  · have e : gateS (gate4 s) = ⟨#[]⟩ := by unfold gateS; rw [if_neg (by rw [hv]; decide)]
    rw [e, if_neg (gate_empty (by omega))]
    exact readGate_no4 h (.inr (.inr hv))
  · have e : gateS (gate4 s) = withS (nth (cutsB 32 s) 0) (listV (nth (cutsB 32 s) 1)) ++ (shutS ++ decS (numV (nth (cutsB 32 s) 3))) := by
      unfold gateS
      rw [if_pos hv]
      show (if true = true then _ else _) = _
      rw [if_pos rfl]
      unfold gate4
      rw [gate_nums _ hl, ByteArray.append_assoc]; rfl
    rw [e]
    have hd : Lib.itoa (numV (nth (cutsB 32 s) 3)) = (nth (cutsB 32 s) 3).data.toList := by
      unfold numB at hb
      cases hq : numP (nth (cutsB 32 s) 3).data.toList with
      | none => rw [hq] at hb; cases hb
      | some n => rw [(num_some hq).1]; exact (numP_iff.1 hq).1
    have hs := four_toList h
    rw [← hT] at hs
    have key : withS (nth (cutsB 32 s) 0) (listV (nth (cutsB 32 s) 1)) ++ (shutS ++ decS (numV (nth (cutsB 32 s) 3))) = s ↔ shtB (nth (cutsB 32 s) 2) = true := by
      rw [with_rest hs]
      unfold shtB
      rw [sEq_iff]
      have e3 : (shutS ++ decS (numV (nth (cutsB 32 s) 3))).data.toList = 32 :: ([115, 104, 117, 116] ++ 32 :: (nth (cutsB 32 s) 3).data.toList) := by
        rw [ByteArray.data_append, Array.toList_append]
        have : (decS (numV (nth (cutsB 32 s) 3))).data.toList = (nth (cutsB 32 s) 3).data.toList := by
          show (Lib.itoa _).toArray.toList = _
          rw [hd]
        rw [this]; rfl
      rw [e3]
      constructor
      · intro e2
        have := List.append_cancel_right (List.cons.inj e2).2
        rw [← mk_toList (nth (cutsB 32 s) 2), ← this]
      · intro e2; rw [e2]
    by_cases ho : shtB (nth (cutsB 32 s) 2) = true
    · rw [if_pos (key.2 ho)]; exact readGate_yes4 h hn hb ho hv
    · rw [if_neg (fun e2 => ho (key.1 e2))]
      exact readGate_no4 h (.inr (.inl (by simpa using ho)))
end Go.Proofs.YtfiiaegfikocoaaDoor
