/- Chapter 21: all gates an hour later. What the program's and the reference's functions hand back. -/
import Derived.Test.YtahfjoadpipghaaGates
import Derived.Test.YtahfjoadpipghaaLst
namespace Go.Proofs.Ytahfjoadpipghaa
open Go.RowKit
theorem elGate : El Try.prog 60 54 6 56 := El.mk' Try.underlying60 (by kernel_rfl) (by decide)
theorem oneGate : ∀ (x : Gate) (j : Nat), j < 6 → (Gate.cell x j).oneCell' = true := fun x j hj => by rcases (show j = 0 ∨ j = 1 ∨ j = 2 ∨ j = 3 ∨ j = 4 ∨ j = 5 by omega) with rfl | rfl | rfl | rfl | rfl | rfl <;> rfl
set_option maxRecDepth 100000 in
set_option maxHeartbeats 1000000 in
theorem CloneGate_any (a : Option Addr) (cap : Nat) (l : List Gate) (w : World) (H : GateAt w a l) (hlen : l.length ≤ 1048576) :
    Calls Try.prog 77 #[.slice a l.length cap] w (OutL 54 6 Gate.cell w l) := by
  cases a with
  | none =>
    have h0 : l.length = 0 := by
      rcases Nat.eq_zero_or_pos l.length with h | h
      · exact h
      · obtain ⟨b, off, h, _⟩ := H 0 h; cases h
    obtain rfl : l = [] := List.length_eq_zero_iff.1 h0
    have q0 : ∀ W, (binOp .eql 60 (.slice none 0 cap) (.slice none 0 0)).run Try.prog W = .ok (.bool true) W := fun W => Lib.run_eql_slice_nil W _ _ none 0 cap 0 0 Try.underlying60
    go_enter Try.func77, Try.ntmps77
    go_wp2_with fail
    go_ret
    exact ⟨none, 0, rfl, Nat.le_refl _, .inl rfl, RowsAt.nil, Ext.refl _⟩
  | some ad =>
    have HL : Hid (Lst 54 6 Gate.cell (w.alloc (.cells #[] 54)) w.heap.size (.slice (some ⟨w.heap.size, 0, none⟩) 0 0) ([] : List Gate)) := Lst.new w _ (Nat.le_refl _)
    have hE := Lib.hid ((Ext.refl w).alloc (.cells #[] 54))
    have HR := Lib.hid (H.ext hE.out)
    have hb : Hid (w.heap.size ≤ (w.alloc (.cells #[] 54)).heap.size) := by show _ ≤ _; rw [size_new]; omega
    have C1 : Hid (([] : List Gate).length + l.length ≤ 9223372036854775807) := by show _ ≤ _; simp; omega
    have C2 : Hid ((([] : List Gate).length + l.length) * 56 ≤ 140737488355328) := by show _ ≤ _; simp; omega
    clear H
    have q0 : ∀ W, (binOp .eql 60 (.slice (some ad) l.length cap) (.slice none 0 0)).run Try.prog W = .ok (.bool false) W := fun W => Lib.run_eql_slice_nil W _ _ (some ad) l.length cap 0 0 Try.underlying60
    go_enter Try.func77, Try.ntmps77
    go_wp2_with (at_builtin; refine wpList_pushL elGate oneGate rfl _ _ rfl w.heap.size _ [] rfl HL.out ad l.length cap l rfl rfl HR.out C1.out C2.out hb.out ?_; intro v' w1 HL1 hs1 _)
    rw [List.nil_append] at HL1
    obtain ⟨a', cap', rfl, hc', hm', R1, O1⟩ := HL1.shape
    have hX : Hid (Ext w w1) := hs1.ext hE.out (Nat.le_refl _)
    have R2 := Lib.hid R1
    have O2 := Lib.hid O1
    clear HL1 hs1 R1 O1
    go_wp2_with fail
    go_ret
    exact ⟨a', cap', rfl, hc', O2.out, R2.out, hX.out⟩
/-- The list when the first k gates have been stepped. -/
def stepTo (l : List Gate) (hz : List Int) (k : Nat) : List Gate := (List.range l.length).map fun i => if i < k then stepG (nth l i) (nth hz i) else nth l i
theorem stepTo_length (l : List Gate) (hz : List Int) (k : Nat) : (stepTo l hz k).length = l.length := by simp [stepTo]
theorem nth_stepTo {l : List Gate} {hz : List Int} {k i : Nat} (h : i < l.length) : nth (stepTo l hz k) i = if i < k then stepG (nth l i) (nth hz i) else nth l i := by
  rw [nth_eq _ _ (by rw [stepTo_length]; exact h)]; simp [stepTo]
theorem list_ext_nth {α : Type} [Inhabited α] {l m : List α} (h : l.length = m.length) (hn : ∀ i, i < l.length → nth l i = nth m i) : l = m := by
  apply List.ext_getElem h
  intro i h1 h2
  have := hn i h1
  rwa [nth_eq _ _ h1, nth_eq _ _ h2] at this
theorem stepTo_zero (l : List Gate) (hz : List Int) : stepTo l hz 0 = l := by
  apply list_ext_nth (stepTo_length _ _ _)
  intro i hi
  rw [stepTo_length] at hi
  rw [nth_stepTo hi, if_neg (by omega)]
theorem stepTo_succ {l : List Gate} {hz : List Int} {k : Nat} (h : k < l.length) : stepTo l hz (k + 1) = (stepTo l hz k).set k (stepG (nth l k) (nth hz k)) := by
  apply list_ext_nth (by rw [List.length_set, stepTo_length, stepTo_length])
  intro i hi
  rw [stepTo_length] at hi
  by_cases hik : i = k
  · subst hik
    rw [nth_stepTo hi, if_pos (by omega), nth_set_same _ _ _ (by rw [stepTo_length]; exact hi)]
  · rw [nth_stepTo hi, nth_set_other _ _ _ _ (Ne.symm hik), nth_stepTo hi]
    by_cases h1 : i < k
    · rw [if_pos (by omega), if_pos h1]
    · rw [if_neg (by omega), if_neg h1]
/-- The gates that have been stepped, alone. -/
def stepUp (l : List Gate) (hz : List Int) (k : Nat) : List Gate := (List.range k).map fun i => stepG (nth l i) (nth hz i)
theorem stepUp_succ (l : List Gate) (hz : List Int) (k : Nat) : stepUp l hz (k + 1) = stepUp l hz k ++ [stepG (nth l k) (nth hz k)] := by simp [stepUp, List.range_succ]
theorem stepUp_length (l : List Gate) (hz : List Int) (k : Nat) : (stepUp l hz k).length = k := by simp [stepUp]
theorem stepUp_all (l : List Gate) (hz : List Int) : stepUp l hz l.length = stepTo l hz l.length := by
  unfold stepUp stepTo
  apply List.map_congr_left
  intro i hi
  rw [if_pos (by simpa using hi)]
def stepsC (l : List Gate) (hz : List Int) : Int := if gateList l = true then (if allIn hz 0 1000 = true then (if hz.length = l.length then 0 else 7) else 2) else 1
def stepsV (l : List Gate) (hz : List Int) : List Gate := if stepsC l hz = 0 then stepTo l hz l.length else []
theorem stepsC_1 {l : List Gate} {hz : List Int} (h : gateList l = false) : stepsC l hz = 1 := by unfold stepsC; rw [h]; rfl
theorem stepsC_2 {l : List Gate} {hz : List Int} (h : gateList l = true) (h2 : allIn hz 0 1000 = false) : stepsC l hz = 2 := by unfold stepsC; rw [h, h2]; rfl
theorem stepsC_7 {l : List Gate} {hz : List Int} (h : gateList l = true) (h2 : allIn hz 0 1000 = true) (h3 : hz.length ≠ l.length) : stepsC l hz = 7 := by unfold stepsC; rw [if_pos h, if_pos h2, if_neg h3]
theorem stepsC_0 {l : List Gate} {hz : List Int} (h : gateList l = true) (h2 : allIn hz 0 1000 = true) (h3 : hz.length = l.length) : stepsC l hz = 0 := by unfold stepsC; rw [if_pos h, if_pos h2, if_pos h3]
theorem stepsV_no {l : List Gate} {hz : List Int} (h : stepsC l hz ≠ 0) : stepsV l hz = [] := if_neg h
theorem stepsV_yes {l : List Gate} {hz : List Int} (h : stepsC l hz = 0) : stepsV l hz = stepTo l hz l.length := if_pos h
theorem stepsV_len (l : List Gate) (hz : List Int) : (stepsV l hz).length ≤ l.length := by
  unfold stepsV; split
  · rw [stepTo_length]; omega
  · simp
set_option maxRecDepth 100000 in
set_option maxHeartbeats 4000000 in
theorem implStepGates_any (w : World) (a : Option Addr) (cap : Nat) (l : List Gate) (H : GateAt w a l) (hsz : ∀ k, k < l.length → (nth l k).Small) (hn : l.length ≤ 1048576) (_ : l.length ≤ cap)
    (a2 : Option Addr) (cap2 : Nat) (hz : List Int) (H2 : IntAt w a2 hz) (_ : ∀ k, k < hz.length → -9223372036854775808 ≤ nth hz k ∧ nth hz k ≤ 9223372036854775807) (hn2 : hz.length ≤ 1048576) (_ : hz.length ≤ cap2) :
    Calls Try.prog 39 #[.slice a l.length cap, .slice a2 hz.length cap2] w (OutS 54 6 Gate.cell w (stepsV l hz) [.int .i64 (stepsC l hz)]) := by
  have HA := Lib.hid H
  have HI := Lib.hid H2
  have HZ := Lib.hid hsz
  clear H H2 hsz
  cases h1 : gateList l
  · have hv : Hid (stepsC l hz = 1 ∧ stepsV l hz = []) := ⟨stepsC_1 h1, stepsV_no (by rw [stepsC_1 h1]; decide)⟩
    rw [hv.out.1, hv.out.2]
    go_enter Try.func39, Try.ntmps39
    go_wp2_with fail
    refine (ValidGates_any a cap l _ HA.out HZ.out hn).mono ?_
    rintro e w' ⟨rfl, y, rfl⟩
    rw [h1]
    go_wp2_with fail
    go_ret2
    exact OutS.nil none 0 rfl (by repeat (first | exact Ext.refl _ | refine Ext.lift ?_ _ | refine Ext.alloc ?_ _))
  cases h2 : allIn hz 0 1000
  · have hv : Hid (stepsC l hz = 2 ∧ stepsV l hz = []) := ⟨stepsC_2 h1 h2, stepsV_no (by rw [stepsC_2 h1 h2]; decide)⟩
    rw [hv.out.1, hv.out.2]
    go_enter Try.func39, Try.ntmps39
    go_wp2_with fail
    refine (ValidGates_any a cap l _ HA.out HZ.out hn).mono ?_
    rintro e w' ⟨rfl, y, rfl⟩
    rw [h1]
    go_wp2_with fail
    refine (allWithin_any a2 cap2 hz _ _ _ (HI.out.ext (by repeat (first | exact Ext.refl _ | refine Ext.lift ?_ _ | refine Ext.alloc ?_ _))) (by omega)).mono ?_
    rintro e w' ⟨rfl, z, rfl⟩
    rw [h2]
    go_wp2_with fail
    go_ret2
    exact OutS.nil none 0 rfl (by repeat (first | exact Ext.refl _ | refine Ext.lift ?_ _ | refine Ext.alloc ?_ _))
  by_cases h3 : hz.length = l.length
  · have hc0 := stepsC_0 h1 h2 h3
    have hv : Hid (stepsC l hz = 0 ∧ stepsV l hz = stepTo l hz l.length) := ⟨hc0, stepsV_yes hc0⟩
    rw [hv.out.1, hv.out.2]
    have h3' : ((hz.length : Int) != (l.length : Int)) = false := by rw [h3]; simp
    have HG : Hid (∀ k, k < l.length → gateB (nth l k) = true) := vAll_one h1
    have HX : Hid (hz.length = l.length) := h3
    clear h3 hc0
    go_enter Try.func39, Try.ntmps39
    go_wp2_with fail
    refine (ValidGates_any a cap l _ HA.out HZ.out hn).mono ?_
    rintro e w' ⟨rfl, y, rfl⟩
    rw [h1]
    go_wp2_with fail
    refine (allWithin_any a2 cap2 hz _ _ _ (HI.out.ext (by repeat (first | exact Ext.refl _ | refine Ext.lift ?_ _ | refine Ext.alloc ?_ _))) (by omega)).mono ?_
    rintro e w' ⟨rfl, z, rfl⟩
    rw [h2]
    go_wp2_with fail
    refine (CloneGate_any a cap l _ (HA.out.ext (by repeat (first | exact Ext.refl _ | refine Ext.lift ?_ _ | refine Ext.alloc ?_ _))) hn).mono ?_
    rintro e W ⟨a', cap', rfl, hc', O', R', E'⟩
    have hO : Own W w.heap.size 54 6 a' l.length := O'.mono (by simp only [lift_size]; omega)
    have hE : Ext w W := Ext.trans (by repeat (first | exact Ext.refl _ | refine Ext.lift ?_ _ | refine Ext.alloc ?_ _)) E'
    have hO' := Lib.hid hO
    have hR' : Hid (GateAt W a' (stepTo l hz 0)) := by show RowsAt _ _ _ _ _; rw [stepTo_zero]; exact R'
    have hE' := Lib.hid hE
    clear O' R' E' hO hE
    go_wp2_with fail
    go_loopw [27] (fun i wr => ∃ k : Nat, k ≤ l.length ∧ i = .int .i64 k ∧ Hid (Own wr w.heap.size 54 6 a' l.length) ∧ Hid (GateAt wr a' (stepTo l hz k)) ∧ Ext w wr) (fun i _ => l.length - (intOf i).toNat)
    case atStart => exact ⟨0, Nat.zero_le _, rfl, hO'.out, hR'.out, hE'.out⟩
    case round =>
      obtain ⟨k, hk, rfl, HO, HR, he⟩ := hrel
      clear hO' hR' hE'
      by_cases hlt : k < l.length
      · obtain ⟨b, off, rfl⟩ := HA.out.base hlt
        obtain ⟨hb, c0, c1, c2, c3, c4, c5⟩ := Gate.at (HA.out.ext he) k hlt
        obtain ⟨b2, off2, rfl⟩ := HI.out.base (k := k) (by rw [HX.out]; exact hlt)
        obtain ⟨hb2, d0⟩ := IntAt.at (HI.out.ext he) k (by rw [HX.out]; exact hlt)
        have hlt2 : k < hz.length := by rw [HX.out]; exact hlt
        have hgk := HG.out k hlt
        rcases HO.out with h0 | ⟨g, N, rfl, hg, HB, hN⟩
        · exact absurd h0 (by omega)
        have hgl := HB.lt
        have HB' := Lib.hid HB
        have hst : Hid (stepTo l hz (k + 1) = (stepTo l hz k).set k (stepG (nth l k) (nth hz k))) := stepTo_succ hlt
        have hsl := stepTo_length l hz k
        have hsl' := Lib.hid hsl
        clear HB HO hsl
        go_wp2_with fail
        refine Grow.region_tail 9 [0, 1, 2, 3, 4, 5, 6, 7, 8] [] (by kernel_rfl) (by kernel_rfl) ?_
        simp only [Grow.pick, Grow.pickB, List.getElem?_cons_succ, List.getElem?_cons_zero, List.drop_succ_cons, List.drop_zero]
        repeat
          refine Grow.heads_step (fun K' hK => ⟨rfl, ?_⟩)
          apply Exists.intro
          apply And.intro
          · intro w' hw'
            obtain ⟨x', rfl⟩ := hw'
            go_simp
            first | done | rfl | (rw [if_neg (by omega)]; done) | (rw [if_neg (by omega)]; rfl) | (rw [if_pos (by omega)]; done) | (rw [if_pos (by omega)]; rfl)
          go_simp
          refine hK _ ?_
          clear hK K'
        refine Grow.heads_call _ _ _ (fun K' hK => ⟨rfl, ?_, (fun w' h' => Gate_step (nth l k) (nth hz k) _ hgk), ?_⟩)
        · intro w' hw'
          obtain ⟨x', rfl⟩ := hw'
          go_simp
          first | done | rfl
        go_simp
        refine hK _ ?_
        clear hK K'
        repeat
          refine Grow.heads_step (fun K' hK => ⟨rfl, ?_⟩)
          apply Exists.intro
          apply And.intro
          · intro w' hw'
            obtain ⟨x', rfl⟩ := hw'
            go_simp
            first | done | rfl | (rw [if_neg (by omega)]; done) | (rw [if_neg (by omega)]; rfl) | (rw [if_pos (by omega)]; done) | (rw [if_pos (by omega)]; rfl)
          go_simp
          refine hK _ ?_
          clear hK K'
        refine Grow.heads_nil ?_
        intro w1 e1
        refine Grow.seq_nil ?_
        have T1 : Ext wr w1 := ((Ext.refl wr).alloc _).trans e1
        have B1 := HB'.out.ext T1
        have hgl1 := B1.lt
        have f0 := B1.frozen (k * 6)
        obtain ⟨v0, o0⟩ := B1.cell (o := k * 6) (by omega)
        have f1 := B1.frozen (k * 6 + 1)
        obtain ⟨v1, o1⟩ := B1.cell (o := k * 6 + 1) (by omega)
        have f2 := B1.frozen (k * 6 + 2)
        obtain ⟨v2, o2⟩ := B1.cell (o := k * 6 + 2) (by omega)
        have f3 := B1.frozen (k * 6 + 3)
        obtain ⟨v3, o3⟩ := B1.cell (o := k * 6 + 3) (by omega)
        have f4 := B1.frozen (k * 6 + 4)
        obtain ⟨v4, o4⟩ := B1.cell (o := k * 6 + 4) (by omega)
        have f5 := B1.frozen (k * 6 + 5)
        obtain ⟨v5, o5⟩ := B1.cell (o := k * 6 + 5) (by omega)
        have hF : Hid (GateAt (w1.setCells g (k * 6) [.string (stepG (nth l k) (nth hz k)).id, .int .i64 (stepG (nth l k) (nth hz k)).shut, .int .i64 (stepG (nth l k) (nth hz k)).opn, .int .i64 (stepG (nth l k) (nth hz k)).hold, .bool (stepG (nth l k) (nth hz k)).shuts, .int .i64 (stepG (nth l k) (nth hz k)).calm]) (some ⟨g, 0, none⟩) (stepTo l hz (k + 1))) := by
          show RowsAt _ _ _ _ _
          rw [hst.out]
          exact RowsAt.set (HR.out.ext T1) B1 (by rw [hsl'.out]; exact hN) (by rw [hsl'.out]; exact hlt) _ rfl (fun j hj => by rcases (show j = 0 ∨ j = 1 ∨ j = 2 ∨ j = 3 ∨ j = 4 ∨ j = 5 by omega) with rfl | rfl | rfl | rfl | rfl | rfl <;> rfl)
        have hB2 := Lib.hid (B1.setCells g [.string (stepG (nth l k) (nth hz k)).id, .int .i64 (stepG (nth l k) (nth hz k)).shut, .int .i64 (stepG (nth l k) (nth hz k)).opn, .int .i64 (stepG (nth l k) (nth hz k)).hold, .bool (stepG (nth l k) (nth hz k)).shuts, .int .i64 (stepG (nth l k) (nth hz k)).calm] (k * 6))
        have hE2 := Lib.hid (ext_setCells (g := g) hg [.string (stepG (nth l k) (nth hz k)).id, .int .i64 (stepG (nth l k) (nth hz k)).shut, .int .i64 (stepG (nth l k) (nth hz k)).opn, .int .i64 (stepG (nth l k) (nth hz k)).hold, .bool (stepG (nth l k) (nth hz k)).shuts, .int .i64 (stepG (nth l k) (nth hz k)).calm] (k * 6) _ (he.trans T1))
        clear B1 HB' HR e1 T1
        go_wp2_with fail
        go_roundw
        case rel => exact ⟨k + 1, by omega, by go_num, .inr ⟨g, N, rfl, hg, hB2.out, hN⟩, hF.out, hE2.out⟩
        case measure => simp [intOf]; omega
      · obtain rfl : k = l.length := by omega
        go_wp2_with fail
        go_ret2
        refine OutS.mk (l := stepTo l hz l.length) (a := a') (cap := cap') ?_ ?_ ?_ ?_ ?_
        · rw [stepTo_length]; rfl
        · rw [stepTo_length]; exact hc'
        · rw [stepTo_length]; exact HO.out
        · exact HR.out
        · exact he
  · have hv : Hid (stepsC l hz = 7 ∧ stepsV l hz = []) := ⟨stepsC_7 h1 h2 h3, stepsV_no (by rw [stepsC_7 h1 h2 h3]; decide)⟩
    rw [hv.out.1, hv.out.2]
    have h3' : ((hz.length : Int) != (l.length : Int)) = true := by rw [bne_iff_ne]; omega
    clear h3
    go_enter Try.func39, Try.ntmps39
    go_wp2_with fail
    refine (ValidGates_any a cap l _ HA.out HZ.out hn).mono ?_
    rintro e w' ⟨rfl, y, rfl⟩
    rw [h1]
    go_wp2_with fail
    refine (allWithin_any a2 cap2 hz _ _ _ (HI.out.ext (by repeat (first | exact Ext.refl _ | refine Ext.lift ?_ _ | refine Ext.alloc ?_ _))) (by omega)).mono ?_
    rintro e w' ⟨rfl, z, rfl⟩
    rw [h2]
    go_wp2_with fail
    go_ret2
    exact OutS.nil none 0 rfl (by repeat (first | exact Ext.refl _ | refine Ext.lift ?_ _ | refine Ext.alloc ?_ _))
end Go.Proofs.Ytahfjoadpipghaa
