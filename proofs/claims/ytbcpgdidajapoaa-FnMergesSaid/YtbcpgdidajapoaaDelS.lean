/- Go's slices.IndexFunc and slices.DeleteFunc at a list of strings that is the call's own, the predicate a function that only lays new blocks. -/
import Derived.Test.YtbcpgdidajapoaaSortS
import Derived.Test.YtbcpgdidajapoaaLstP
namespace Go.Proofs.Ytbcpgdidajapoaa
open Go.RowKit
/-- The first place at which p holds, or -1. -/
def idxP {α : Type} (p : α → Bool) : List α → Int
  | [] => -1
  | y :: l => if p y = true then 0 else if idxP p l < 0 then -1 else idxP p l + 1
theorem idxP_cons {α : Type} (p : α → Bool) (y : α) (l : List α) : idxP p (y :: l) = if p y = true then 0 else if idxP p l < 0 then -1 else idxP p l + 1 := rfl
theorem idxP_at {α : Type} [Inhabited α] {p : α → Bool} : ∀ {l : List α} {k : Nat}, (∀ j, j < k → p (nth l j) = false) → k < l.length → p (nth l k) = true → idxP p l = (k : Int)
  | [], _, _, h, _ => absurd h (Nat.not_lt_zero _)
  | y :: l, 0, _, _, h => by unfold idxP; exact if_pos h
  | y :: l, k + 1, h0, h1, h2 => by
    have h3 : p y = false := h0 0 (Nat.succ_pos _)
    have := idxP_at (p := p) (l := l) (k := k) (fun j hj => h0 (j + 1) (by omega)) (by simpa using h1) h2
    unfold idxP
    rw [if_neg (by rw [h3]; decide), this, if_neg (by omega)]; push_cast; rfl
theorem idxP_none {α : Type} [Inhabited α] {p : α → Bool} : ∀ {l : List α}, (∀ j, j < l.length → p (nth l j) = false) → idxP p l = -1
  | [], _ => rfl
  | y :: l, h => by
    have h3 : p y = false := h 0 (by simp)
    have := idxP_none (p := p) (l := l) (fun j hj => h (j + 1) (by simpa using hj))
    unfold idxP
    rw [if_neg (by rw [h3]; decide), this]; rfl
theorem idxP_cases {α : Type} [Inhabited α] (p : α → Bool) : ∀ l : List α, (idxP p l = -1 ∧ l.filter (fun x => !p x) = l) ∨ ∃ k, idxP p l = ((k : Nat) : Int) ∧ k < l.length ∧ p (nth l k) = true ∧ (l.take k).filter (fun x => !p x) = l.take k
  | [] => .inl ⟨rfl, rfl⟩
  | y :: l => by
    cases h : p y
    · have e : idxP p (y :: l) = if idxP p l < 0 then -1 else idxP p l + 1 := by rw [idxP_cons, if_neg (by rw [h]; decide)]
      rcases idxP_cases p l with ⟨h1, h2⟩ | ⟨k, h1, h2, h3, h4⟩
      · exact .inl ⟨by rw [e, h1]; rfl, by rw [List.filter_cons, if_pos (by rw [h]; rfl), h2]⟩
      · exact .inr ⟨k + 1, by rw [e, h1, if_neg (by omega)]; push_cast; rfl, by simpa using h2, by rw [nth_cons_succ]; exact h3, by rw [List.take_succ_cons, List.filter_cons, if_pos (by rw [h]; rfl), h4]⟩
    · exact .inr ⟨0, by unfold idxP; rw [if_pos h]; rfl, by simp, by rw [nth_cons_zero]; exact h, rfl⟩
set_option maxRecDepth 100000 in
set_option maxHeartbeats 4000000 in
theorem IndexS_any (a : Option Addr) (cap : Nat) (l : List ByteArray) (F : FuncId) (vs : Array Value) (p : ByteArray → Bool) (w : World) (eg : Enters Try.prog F) (H : StrAt w a l) (hlen : l.length ≤ 1048576)
    (hf : ∀ x w', Ext w w' → Gives Try.prog F (#[.string x] ++ vs) w' (.bool (p x))) :
    Gives Try.prog 89 #[.slice a l.length cap, .func (.func F) #[] vs] w (.int .i64 (idxP p l)) := by
  unfold Gives
  have HA := Lib.hid H
  have HF := Lib.hid hf
  clear H hf
  unfold Enters at eg
  go_enter Try.func89, Try.ntmps89
  go_wp2_with fail
  go_loopw [8] (fun i wr => ∃ k : Nat, k ≤ l.length ∧ i = .int .i64 k ∧ Hid (∀ j, j < k → p (nth l j) = false) ∧ Ext w wr) (fun i _ => l.length - (intOf i).toNat)
  case atStart => exact ⟨0, Nat.zero_le _, rfl, upto_zero, Ext.refl _⟩
  case round =>
    obtain ⟨k, hk, rfl, hall, he⟩ := hrel
    by_cases hlt : k < l.length
    · obtain ⟨b, off, rfl⟩ := HA.out.base hlt
      obtain ⟨hb, c0⟩ := StrAt.at (HA.out.ext he) k hlt
      have hcall := Lib.hid (HF.out (nth l k) wr he)
      cases h2 : p (nth l k)
      · rw [h2] at hcall
        have hn := Lib.hid (upto_succ hall.out h2)
        go_wp2_with fail
        refine hcall.out.mono ?_
        rintro e w' ⟨rfl, y, rfl⟩
        go_wp2_with fail
        go_roundw
        case rel => exact ⟨k + 1, by omega, by go_num, hn.out, he.lift y⟩
        case measure => simp [intOf]; omega
      · rw [h2] at hcall
        have hv : Hid (idxP p l = (k : Int)) := idxP_at hall.out hlt h2
        go_wp2_with fail
        refine hcall.out.mono ?_
        rintro e w' ⟨rfl, y, rfl⟩
        go_wp2_with fail
        go_ret
        exact ⟨ret_int hv.out.symm, he.lift y⟩
    · obtain rfl : k = l.length := by omega
      have hv : Hid (idxP p l = -1) := idxP_none hall.out
      go_wp2_with fail
      go_ret
      exact ⟨ret_int hv.out.symm, he⟩
/-- What lies in the list when the first j have been looked at. -/
def keptS (p : ByteArray → Bool) (l : List ByteArray) (j : Nat) : List ByteArray := (l.take j).filter fun x => !p x
theorem keptS_len (p : ByteArray → Bool) (l : List ByteArray) (j : Nat) : (keptS p l j).length ≤ j := by
  unfold keptS
  exact Nat.le_trans (List.length_filter_le _ _) (by rw [List.length_take]; omega)
theorem keptS_yes {p : ByteArray → Bool} {l : List ByteArray} {j : Nat} (hj : j < l.length) (h : p (nth l j) = false) : keptS p l (j + 1) = keptS p l j ++ [nth l j] := by
  unfold keptS
  rw [List.take_succ_eq_append_getElem hj, List.filter_append, ← nth_eq l j hj]
  simp [h]
theorem keptS_no {p : ByteArray → Bool} {l : List ByteArray} {j : Nat} (hj : j < l.length) (h : p (nth l j) = true) : keptS p l (j + 1) = keptS p l j := by
  unfold keptS
  rw [List.take_succ_eq_append_getElem hj, List.filter_append, ← nth_eq l j hj]
  simp [h]
/-- The cells then. -/
def heldS (p : ByteArray → Bool) (l : List ByteArray) (j : Nat) : List ByteArray := keptS p l j ++ l.drop (keptS p l j).length
theorem heldS_len {p : ByteArray → Bool} {l : List ByteArray} {j : Nat} (hj : j ≤ l.length) : (heldS p l j).length = l.length := by
  unfold heldS
  have := keptS_len p l j
  rw [List.length_append, List.length_drop]; omega
theorem heldS_at {p : ByteArray → Bool} {l : List ByteArray} {j : Nat} : nth (heldS p l j) j = nth l j := by
  unfold heldS
  have := keptS_len p l j
  simp only [nth, List.getD_eq_getElem?_getD]
  rw [List.getElem?_append_right this, List.getElem?_drop]
  congr 2; omega
theorem heldS_no {p : ByteArray → Bool} {l : List ByteArray} {j : Nat} (hj : j < l.length) (h : p (nth l j) = true) : heldS p l (j + 1) = heldS p l j := by
  unfold heldS; rw [keptS_no hj h]
theorem heldS_yes {p : ByteArray → Bool} {l : List ByteArray} {j : Nat} (hj : j < l.length) (h : p (nth l j) = false) : heldS p l (j + 1) = (heldS p l j).set (keptS p l j).length (nth l j) := by
  have hk := keptS_len p l j
  unfold heldS
  rw [keptS_yes hj h, List.length_append, List.length_cons, List.length_nil]
  have : l.drop (keptS p l j).length = nth l (keptS p l j).length :: l.drop ((keptS p l j).length + 1) := by rw [List.drop_eq_getElem_cons (show (keptS p l j).length < l.length by omega), nth_eq l _ (by omega)]
  rw [this]
  simp
set_option maxRecDepth 100000 in
set_option maxHeartbeats 8000000 in
theorem DeleteS_any (w0 w : World) (base : Nat) (a : Option Addr) (cap : Nat) (l : List ByteArray) (F : FuncId) (vs : Array Value) (p : ByteArray → Bool) (eg : Enters Try.prog F) (h : Lst 9 1 cellS w base (.slice a l.length cap) l) (hlen : l.length ≤ 1000000)
    (h0 : Ext w0 w) (hb0 : w0.heap.size ≤ base) (hf : ∀ x w', Ext w0 w' → Gives Try.prog F (#[.string x] ++ vs) w' (.bool (p x))) :
    Calls Try.prog 73 #[.slice a l.length cap, .func (.func F) #[] vs] w fun e w' => e = .returned (.slice a (l.filter fun x => !p x).length cap) ∧ Lst 9 1 cellS w' base (.slice a (l.filter fun x => !p x).length cap) (l.filter fun x => !p x) ∧ Ext w0 w' := by
  obtain ⟨a', cap', e9, hcp, -, hR, -⟩ := h.shape
  simp only [Value.slice.injEq, true_and] at e9
  obtain ⟨rfl, rfl⟩ := e9
  have HI := Lib.hid (IndexS_any a cap l F vs p w eg hR (by omega) (fun x w' he => hf x w' (h0.trans he)))
  rcases idxP_cases p l with ⟨hi, hfl⟩ | ⟨k, hi, hk, hpk, hft⟩
  · rw [hi] at HI
    have hfh := Lib.hid hfl
    have hh := Lib.hid h
    have h0h := Lib.hid h0
    clear hf h h0 hR hi hfl
    go_enter Try.func73, Try.ntmps73
    go_wp2_with fail
    refine HI.out.mono ?_
    rintro e w' ⟨rfl, y, rfl⟩
    go_wp2_with fail
    go_ret
    rw [hfh.out]
    exact ⟨rfl, hh.out.ext ((Ext.refl _).lift y), h0h.out.lift y⟩
  · rw [hi] at HI
    obtain ⟨g, cap2, e9, hg, hB, hR2, hc, hm⟩ := h.parts (by omega)
    simp only [Value.slice.injEq, true_and] at e9
    obtain ⟨rfl, rfl⟩ := e9
    rw [Nat.mul_one] at hB
    have hBh := Lib.hid hB
    have hRh := Lib.hid hR2
    have h0h := Lib.hid h0
    have HF := Lib.hid hf
    have hk1 : Hid (keptS p l (k + 1) = l.take k) := by
      show _ = _; rw [keptS_no hk hpk]; exact hft
    have hkl : Hid ((keptS p l (k + 1)).length = k) := by show _ = _; rw [hk1.out, List.length_take]; omega
    have hh1 : Hid (heldS p l (k + 1) = l) := by
      show _ = _
      unfold heldS; rw [hk1.out, List.length_take, Nat.min_eq_left (by omega), List.take_append_drop]
    have hcm : cap ≤ 9223372036854775807 := by unfold maxLen at hm; omega
    have hkm : ((k : Int) == -1) = false := by rw [beq_eq_false_iff_ne]; omega
    have hmh := Lib.hid hm
    unfold Enters at eg
    clear h h0 hf hB hR hR2 hi hft hm
    go_enter Try.func73, Try.ntmps73
    go_wp2_with fail
    refine HI.out.mono ?_
    rintro e w' ⟨rfl, y, rfl⟩
    have hB1 := Lib.hid (hBh.out.ext ((Ext.refl _).lift y))
    have hR1 := Lib.hid (hRh.out.ext ((Ext.refl _).lift y))
    have hE1 := Lib.hid (h0h.out.lift y)
    clear HI hBh hRh
    generalize lift w y = W1 at *
    go_wp2_with fail
    go_loopw [5, 6] (fun qi qj wr => ∃ j : Nat, k + 1 ≤ j ∧ j ≤ l.length ∧ qj = .int .i64 j ∧ qi = .int .i64 (keptS p l j).length ∧ (keptS p l j).length < j ∧ Hid (Blk wr g 9 cap) ∧ Hid (StrAt wr (some ⟨g, 0, none⟩) (heldS p l j)) ∧ Hid (Ext w0 wr)) (fun _ qj _ => l.length - (intOf qj).toNat)
    case atStart => exact ⟨k + 1, Nat.le_refl _, by omega, by go_num, by rw [hkl.out], by rw [hkl.out]; omega, hB1.out, by rw [hh1.out]; exact hR1.out, hE1.out⟩
    case round =>
      clear hB1 hR1 hE1
      obtain ⟨j, hkj, hj, rfl, rfl, hkjl, hB, hR, hE⟩ := hrel
      obtain ⟨K, hK⟩ : ∃ K, K = (keptS p l j).length := ⟨_, rfl⟩
      rw [← hK] at hkjl ⊢
      by_cases hlt : j < l.length
      · obtain ⟨hb, c0⟩ := StrAt.at hR.out j (by rw [heldS_len (by omega)]; exact hlt)
        rw [Nat.zero_add, heldS_at] at c0
        have hcall := Lib.hid (HF.out (nth l j) wr hE.out)
        cases h2 : p (nth l j)
        · rw [h2] at hcall
          have hky : Hid ((keptS p l (j + 1)).length = K + 1) := by show _ = _; rw [keptS_yes hlt h2, List.length_append, ← hK]; rfl
          have hhy : Hid (heldS p l (j + 1) = (heldS p l j).set K (nth l j)) := by show _ = _; rw [heldS_yes hlt h2, ← hK]
          have hhl := Lib.hid (heldS_len (p := p) (l := l) (j := j) (by omega))
          have hKh := Lib.hid hK
          clear hK
          go_wp2_with fail
          refine hcall.out.mono ?_
          rintro e w' ⟨rfl, y2, rfl⟩
          have hB2 := hB.out.ext ((Ext.refl _).lift y2)
          have hf0 := hB2.frozen K
          obtain ⟨v0, o0⟩ := hB2.cell (o := K) (by omega)
          have hl0 := hB2.lt
          have hR3 := RowsAt.set (y := nth l j) (hR.out.ext ((Ext.refl _).lift y2)) hB2 (by rw [hhl.out]; omega) (k := K) (by rw [hhl.out]; omega) [.string (nth l j)] rfl (fun q hq => by have h9 : q < 1 := hq; obtain rfl : q = 0 := (by omega); rfl)
          rw [Nat.mul_one] at hR3
          have hR4 := Lib.hid hR3
          have hB3 := Lib.hid (hB2.set g K (.string (nth l j)))
          have hE3 := Lib.hid ((hE.out.lift y2).setCell (p := ⟨g, K, none⟩) (Nat.le_trans hb0 hg) (.string (nth l j)))
          clear hB2 hR3 hR hB hE hcall c0
          go_wp2_with fail
          go_roundw
          case rel => exact ⟨j + 1, by omega, by omega, by go_num, by rw [hky.out]; go_num, by rw [hky.out]; omega, hB3.out, by rw [hhy.out]; exact hR4.out, hE3.out⟩
          case measure => simp [intOf]; omega
        · rw [h2] at hcall
          have hky : Hid ((keptS p l (j + 1)).length = K) := by show _ = _; rw [keptS_no hlt h2, ← hK]
          have hhy : Hid (heldS p l (j + 1) = heldS p l j) := heldS_no hlt h2
          have hKh := Lib.hid hK
          clear hK
          go_wp2_with fail
          refine hcall.out.mono ?_
          rintro e w' ⟨rfl, y2, rfl⟩
          clear hcall c0
          go_wp2_with fail
          go_roundw
          case rel => exact ⟨j + 1, by omega, by omega, by go_num, by rw [hky.out], by rw [hky.out]; omega, hB.out.ext ((Ext.refl _).lift y2), by rw [hhy.out]; exact hR.out.ext ((Ext.refl _).lift y2), hE.out.lift y2⟩
          case measure => simp [intOf]; omega
      · obtain rfl : j = l.length := by omega
        have hfl : Hid (keptS p l l.length = l.filter fun x => !p x) := by show _ = _; unfold keptS; rw [List.take_length]
        have hcl := Lib.hid fun (o n c : Nat) (ty : TypeId) (ho : o = K) (hn : n = l.length - K) => Lib.run_clear_slice (P := Try.prog) wr 39 9 ty (.string ⟨#[]⟩) Try.underlying39 Try.zeroValue9 rfl rfl g o n c (by omega) (fun i hi => by obtain ⟨u, hu⟩ := hB.out.cell (o := o + i) (by omega); rw [hu]; rfl) (fun i hi => hB.out.frozen _)
        have hkf : Hid (K = (l.filter fun x => !p x).length) := by show _ = _; rw [hK, hfl.out]
        have hfin : Hid (Lst 9 1 cellS (wr.setCells g K (List.replicate (l.length - K) (.string ⟨#[]⟩))) base (.slice (some ⟨g, 0, none⟩) K cap) (l.filter fun x => !p x) ∧ Ext w0 (wr.setCells g K (List.replicate (l.length - K) (.string ⟨#[]⟩)))) := by
          refine ⟨?_, ext_setCells (Nat.le_trans hb0 hg) _ _ _ hE.out⟩
          have hRR : StrAt (wr.setCells g K (List.replicate (l.length - K) (.string ⟨#[]⟩))) (some ⟨g, 0, none⟩) (l.filter fun x => !p x) := fun i hi => by
            rw [← hkf.out] at hi
            have hcell := (StrAt.at hR.out i (by rw [heldS_len (Nat.le_refl _)]; omega)).2
            have hn : nth (heldS p l l.length) i = nth (l.filter fun x => !p x) i := by
              unfold heldS
              rw [hfl.out]
              simp [nth, List.getElem?_append_left (show i < (l.filter fun x => !p x).length by rw [← hkf.out]; exact hi)]
            rw [hn] at hcell
            refine ⟨g, 0, rfl, (hB.out.setCells g _ K wr).lt, fun q hq => ?_⟩
            have h9 : q < 1 := hq
            obtain rfl : q = 0 := by omega
            rw [World.cell?_setCells_out g _ _ wr ⟨g, 0 + i * 1 + 0, none⟩ (fun _ _ => .inl (by show 0 + i * 1 + 0 < K; omega)), Nat.mul_one, Nat.add_zero]
            exact hcell
          have := Lst.of_rows (T := 9) (base := base) (cap := cap) (by rw [Nat.mul_one]; exact hB.out.setCells g (List.replicate (l.length - K) (.string ⟨#[]⟩)) K wr) hg hRR (by rw [← hkf.out]; omega) hmh.out
          rw [← hkf.out] at this
          exact this
        clear hB hR hE hK
        go_wp2_with fail
        rw [hcl.out _ _ _ _ rfl (by omega)]
        go_wp2_with fail
        go_ret
        rw [← hkf.out]
        exact ⟨rfl, hfin.out.1, hfin.out.2⟩
end Go.Proofs.Ytbcpgdidajapoaa
