/- Lists of gates that the reference draws; open gates; a gate an hour later. -/
import Derived.Test.YtahfjoadpipghaaHoldE
import Derived.Test.YtahfjoadpipghaaStepGates
namespace Go.Proofs.Ytahfjoadpipghaa
open Go.RowKit
def nmG (i : Nat) : ByteArray := match i with
  | 0 => ⟨#[103, 97]⟩
  | 1 => ⟨#[103, 98]⟩
  | 2 => ⟨#[103, 99]⟩
  | _ => ⟨#[103, 100]⟩
theorem nat4 {k : Nat} (h : k < 4) : k = 0 ∨ k = 1 ∨ k = 2 ∨ k = 3 := by omega
theorem nmG_lt {i k : Nat} (h : i < k) (hk : k < 4) : sLt (nmG i) (nmG k) = true := by
  rcases nat4 hk with rfl | rfl | rfl | rfl <;> rcases nat4 (Nat.lt_trans h hk) with rfl | rfl | rfl | rfl <;> first | omega | kernel_rfl
theorem nmG_name {k : Nat} (hk : k < 4) : nameB (nmG k) = true := by
  rcases nat4 hk with rfl | rfl | rfl | rfl <;> kernel_rfl
structure GatesDrawn (l : List Gate) (k : Nat) : Prop where
  len : l.length ≤ k
  each : ∀ j, j < l.length → ∃ i, i < k ∧ i < 4 ∧ GateDrawn (nth l j) (nmG i)
  up : ∀ j, 0 < j → j < l.length → sLt (nth l (j - 1)).id (nth l j).id = true
theorem GatesDrawn.nil : GatesDrawn [] 0 := ⟨Nat.le_refl _, fun _ h => absurd h (Nat.not_lt_zero _), fun _ _ h => absurd h (Nat.not_lt_zero _)⟩
theorem GatesDrawn.more {l : List Gate} {k : Nat} (h : GatesDrawn l k) : GatesDrawn l (k + 1) :=
  ⟨Nat.le_succ_of_le h.len, fun j hj => by obtain ⟨i, hi, h4, e⟩ := h.each j hj; exact ⟨i, by omega, h4, e⟩, h.up⟩
theorem GatesDrawn.push {l : List Gate} {k : Nat} (h : GatesDrawn l k) (hk : k < 4) {x : Gate} (hx : GateDrawn x (nmG k)) : GatesDrawn (l ++ [x]) (k + 1) := by
  refine ⟨by rw [List.length_append]; simp only [List.length_cons, List.length_nil]; have := h.len; omega, fun j hj => ?_, fun j h0 hj => ?_⟩
  · rw [List.length_append] at hj; simp only [List.length_cons, List.length_nil] at hj
    rcases Nat.lt_or_ge j l.length with h1 | h1
    · rw [nth_pre h1]
      obtain ⟨i, hi, h4, e⟩ := h.each j h1
      exact ⟨i, by omega, h4, e⟩
    · obtain rfl : j = l.length := by omega
      rw [nth_last]
      exact ⟨k, Nat.lt_succ_self k, hk, hx⟩
  · rw [List.length_append] at hj; simp only [List.length_cons, List.length_nil] at hj
    rcases Nat.lt_or_ge j l.length with h1 | h1
    · rw [nth_pre h1, nth_pre (by omega)]; exact h.up j h0 h1
    · obtain rfl : j = l.length := by omega
      rw [nth_last, nth_pre (by omega)]
      obtain ⟨i, hi, h4, e⟩ := h.each (l.length - 1) (by omega)
      rw [e.id, hx.id]; exact nmG_lt hi hk
theorem GatesDrawn.ok {l : List Gate} (h : GatesDrawn l 4) : gateList l = true := by
  have h4 := h.len
  unfold gateList
  rw [vAll_end (fun j hj => ?_)]
  · exact decide_eq_true (by omega)
  · obtain ⟨i, hi, h4, e⟩ := h.each j hj
    rcases Nat.eq_zero_or_pos j with h0 | h0
    · exact vOk_true0 (e.ok (nmG_name h4)) h0
    · exact vOk_true1 (e.ok (nmG_name h4)) (h.up j h0 hj)
theorem GatesDrawn.small {l : List Gate} {k : Nat} (h : GatesDrawn l k) : ∀ j, j < l.length → (nth l j).Small := fun j hj => by
  obtain ⟨i, -, -, e⟩ := h.each j hj
  unfold Gate.Small
  rw [e.id]
  have : (nmG i).size = 2 := by unfold nmG; split <;> rfl
  omega
set_option maxRecDepth 100000 in
set_option maxHeartbeats 8000000 in
theorem l21Draw_any (w : World) (sb : Nat) (a : Option Addr) (cap : Nat) (code : List Int) (n : Nat) (H : Src w sb a cap code n) (hn : n ≤ 700000000) :
    Calls Try.prog 74 #[.pointer (some ⟨sb, 0, none⟩)] w fun e w' => ∃ (o : Option Addr) (oc : Nat) (l : List Gate), e = .returned (.slice o l.length oc) ∧ l.length ≤ oc ∧ GatesDrawn l 4 ∧ GateAt w' o l ∧ Moved sb w w' := by
  have hlt0 := H.lt
  have HBY := Lib.hid H.bytes
  have hO := Lst.new (T := 54) (n := 6) (cell := Gate.cell) (α := Gate) (w.alloc (.cells #[.string (nmG 0), .string (nmG 1), .string (nmG 2), .string (nmG 3)] 9)) (w.heap.size + 1) (by rw [size_new]; exact Nat.le_refl _)
  rw [size_new] at hO
  have hE : Ext w ((w.alloc (.cells #[.string (nmG 0), .string (nmG 1), .string (nmG 2), .string (nmG 3)] 9)).alloc (.cells #[] 54)) := ((Ext.refl w).alloc _).alloc _
  have hN : Hid (∀ j, j < 4 → ((w.alloc (.cells #[.string (nmG 0), .string (nmG 1), .string (nmG 2), .string (nmG 3)] 9)).alloc (.cells #[] 54)).cell? ⟨w.heap.size, j, none⟩ = some (.string (nmG j))) := fun j hj => by
    refine ((Ext.refl _).alloc _).cell ?_
    rw [cell_new]
    rcases nat4 hj with rfl | rfl | rfl | rfl <;> rfl
  replace hO := Lib.hid hO
  replace hE := Lib.hid hE
  have HS := Lib.hid H
  clear H
  go_enter Try.func74, Try.ntmps74
  go_wp2_with fail
  go_loopw [4, 5] (fun o i wr => ∃ (k q : Nat) (L : List Gate), k ≤ 4 ∧ i = .int .i64 k ∧ q ≤ 20 * k ∧ Hid (GatesDrawn L k) ∧ Hid (Lst 54 6 Gate.cell wr (w.heap.size + 1) o L) ∧ Hid (Src wr sb a cap code (n + q)) ∧ Hid (Moved sb w wr) ∧ Hid (∀ j, j < 4 → wr.cell? ⟨w.heap.size, j, none⟩ = some (.string (nmG j)))) (fun _ i _ => 4 - (intOf i).toNat)
  case atStart => exact ⟨0, 0, [], by omega, rfl, by omega, GatesDrawn.nil, hO.out, HS.out.ext hE.out, Moved.grow hE.out, hN.out⟩
  case round =>
    clear hO hE HS hN
    obtain ⟨k, q, L, hk, rfl, hq, HD, HO, HS, HM, HN⟩ := hrel
    obtain ⟨ad, oc, rfl, hoc, hom, hR, -⟩ := HO.out.shape
    replace hR := Lib.hid hR
    have hLl := HD.out.len
    have hsz := HM.out.size
    have hsl := HS.out.lt
    by_cases hlt : k < 4
    · have d0 := HN.out k hlt
      have hb0 := block_lt d0
      have HD1 := Lib.hid HD.out.more
      go_wp2_with fail
      refine (one_any wr sb a cap code (n + q) HS.out (by omega) 2 (by omega)).mono ?_
      rintro e W1 ⟨bb, k1, rfl, hk1, S1, M1⟩
      replace S1 := Lib.hid S1
      have d1 := M1.cell (p := ⟨w.heap.size, k, none⟩) (by show w.heap.size ≠ sb; omega) d0
      have HN1 : Hid (∀ j, j < 4 → W1.cell? ⟨w.heap.size, j, none⟩ = some (.string (nmG j))) := fun j hj => M1.cell (by show w.heap.size ≠ sb; omega) (HN.out j hj)
      have HO1 := Lib.hid (HO.out.moved M1 (by omega))
      have HM1 := Lib.hid (HM.out.trans M1)
      have hb1 := block_lt d1
      clear d0 hb0 HS HO HM HN hR M1
      cases bb
      · go_wp2_with fail
        go_roundw
        case rel => exact ⟨k + 1, q + k1, L, by omega, by go_num, by omega, HD1.out, HO1.out, by rw [← Nat.add_assoc]; exact S1.out, HM1.out, HN1.out⟩
        case measure => simp [intOf]; omega
      · go_wp2_with fail
        refine (l21DrawOne_any W1 sb a cap code (n + q + k1) S1.out (by omega) (nmG k)).mono ?_
        rintro e W2 ⟨x, k2, rfl, hx, hk2, S2, M2⟩
        have HD2 := Lib.hid (HD.out.push hlt hx)
        have hxx := Lib.hid ((Ext.refl W2).alloc (.cells #[.string x.id, .int .i64 x.shut, .int .i64 x.opn, .int .i64 x.hold, .bool x.shuts, .int .i64 x.calm] 54))
        have HO2 := Lib.hid ((HO1.out.moved M2 (by omega)).ext hxx.out)
        have HR2 : Hid (GateAt (W2.alloc (.cells #[.string x.id, .int .i64 x.shut, .int .i64 x.opn, .int .i64 x.hold, .bool x.shuts, .int .i64 x.calm] 54)) (some ⟨W2.heap.size, 0, none⟩) [x]) :=
          rows_new (n := 6) (cell := Gate.cell) (T := 54) W2 #[.string x.id, .int .i64 x.shut, .int .i64 x.opn, .int .i64 x.hold, .bool x.shuts, .int .i64 x.calm] x (fun j hj => by rcases six hj with rfl | rfl | rfl | rfl | rfl | rfl <;> rfl)
        have S3 := Lib.hid (S2.ext hxx.out)
        have HM2 := Lib.hid ((HM1.out.trans M2).more hxx.out)
        have HN2 : Hid (∀ j, j < 4 → (W2.alloc (.cells #[.string x.id, .int .i64 x.shut, .int .i64 x.opn, .int .i64 x.hold, .bool x.shuts, .int .i64 x.calm] 54)).cell? ⟨w.heap.size, j, none⟩ = some (.string (nmG j))) := fun j hj => hxx.out.cell (M2.cell (by show w.heap.size ≠ sb; omega) (HN1.out j hj))
        have hz2 : w.heap.size + 1 ≤ W2.heap.size := by have := M2.size; omega
        clear d1 hb1 HO1 HM1 HN1 S1 S2 M2 HD HD1 hxx hx
        try dsimp only
        repeat (first | (at_builtin; refine Hid.out ?_) | go_values | go_skip | go_guarded | go_step | go_upon | go_back)
        refine Lib.hid ?_
        refine wpList_pushL elGate oneGate rfl _ _ rfl (w.heap.size + 1) _ L (by rfl) HO2.out _ 1 1 [x] rfl (by rfl) HR2.out (by omega) (by omega) (by rw [size_new]; omega) ?_
        intro v' w3 HL hs3 hg3
        have HL3 := Lib.hid HL
        have hrow : ∀ g, (Value.slice ad L.length oc).ownBlock = some g → w.heap.size + 1 ≤ g := fun g e => ownBlock_le HO2.out g e
        have S4 := Lib.hid (show Src w3 sb a cap code (n + q + k1 + k2) from S3.out.grown hg3 hrow (by omega) HBY.out (Nat.le_succ _))
        have HM3 := Lib.hid (HM2.out.grown hg3 (fun g e => by have := hrow g e; omega))
        have HN3 : Hid (∀ j, j < 4 → w3.cell? ⟨w.heap.size, j, none⟩ = some (.string (nmG j))) := fun j hj => cell_grown (HN2.out j hj) hg3 (fun e => by have := hrow _ e; omega)
        clear HL hs3 hg3 hrow HO2 HR2 S3 HM2 HN2
        go_wp2_with fail
        go_roundw
        case rel => exact ⟨k + 1, q + k1 + k2, L ++ [x], by omega, by go_num, by omega, HD2.out, HL3.out, by rw [← Nat.add_assoc, ← Nat.add_assoc]; exact S4.out, HM3.out, HN3.out⟩
        case measure => simp [intOf]; omega
    · obtain rfl : k = 4 := by omega
      clear HO HS HN
      go_wp2_with fail
      go_ret
      exact ⟨ad, oc, L, rfl, hoc, HD.out, hR.out, HM.out⟩
set_option maxRecDepth 100000 in
set_option maxHeartbeats 2000000 in
theorem R8Gates_any (w : World) (a : Option Addr) (cap : Nat) (code : List Int) (H : ByteAt w a code) (hr : ∀ k, k < code.length → 0 ≤ nth code k ∧ nth code k ≤ 255) (hf : code.length ≤ 1048576) :
    Calls Try.prog 37 #[.slice a code.length cap] w fun e w' => ∃ (o : Option Addr) (oc : Nat) (l : List Gate), e = .returned (.slice o l.length oc) ∧ l.length ≤ oc ∧ GatesDrawn l 4 ∧ GateAt w' o l ∧ Ext w w' := by
  have HF := Lib.hid (l00From_any w a cap code H hr hf)
  clear H hr
  go_enter Try.func37, Try.ntmps37
  go_wp2_with fail
  refine HF.out.mono ?_
  rintro e w1 ⟨sb, rfl, hsb, S1, E1⟩
  replace S1 := Lib.hid S1
  replace E1 := Lib.hid E1
  go_wp2_with fail
  refine (l21Draw_any w1 sb a cap code 0 S1.out (by omega)).mono ?_
  rintro e w2 ⟨o, oc, l, rfl, hoc, HD, HA, HM⟩
  replace HD := Lib.hid HD
  replace HA := Lib.hid HA
  have E2 := Lib.hid (HM.ext w hsb E1.out)
  clear HM
  go_wp2_with fail
  go_ret
  exact ⟨o, oc, l, rfl, hoc, HD.out, HA.out, E2.out⟩
/-- The gates that are open. -/
def opens (l : List Gate) : Nat → List Int
  | 0 => []
  | k + 1 => if (nth l k).shuts = false then opens l k ++ [(k : Int)] else opens l k
theorem opens_len (l : List Gate) : ∀ k, (opens l k).length ≤ k
  | 0 => Nat.le_refl _
  | k + 1 => by
    have := opens_len l k
    simp only [opens]
    split
    · rw [List.length_append]; simp only [List.length_cons, List.length_nil]; omega
    · omega
theorem opens_has (l : List Gate) : ∀ (n k : Nat), hasB (opens l n) (k : Int) = (decide (k < n) && !(nth l k).shuts)
  | 0, k => by simp [opens, hasB]
  | n + 1, k => by
    simp only [opens]
    by_cases hs : (nth l n).shuts = false
    · rw [if_pos hs, Bool.eq_iff_iff, hasB_iff, List.mem_append, ← hasB_iff, opens_has l n k]
      by_cases hk : k = n
      · subst hk; simp [hs]
      · have : decide (k < n + 1) = decide (k < n) := by rw [decide_eq_decide]; omega
        rw [this]
        simp; omega
    · rw [if_neg hs, opens_has l n k]
      by_cases hk : k = n
      · subst hk; simp at hs; simp [hs]
      · have : decide (k < n + 1) = decide (k < n) := by rw [decide_eq_decide]; omega
        rw [this]
set_option maxRecDepth 100000 in
set_option maxHeartbeats 4000000 in
theorem implOpenGates_any (w : World) (a : Option Addr) (cap : Nat) (l : List Gate) (H : GateAt w a l) (hsz : ∀ k, k < l.length → (nth l k).Small) (hv : gateList l = true) (hn : l.length ≤ 8) :
    Calls Try.prog 38 #[.slice a l.length cap] w fun e w' => ∃ (o : Option Addr) (oc : Nat), e = .returned (.tuple #[.slice o (opens l l.length).length oc, .int .i64 0]) ∧ IntAt w' o (opens l l.length) ∧ Ext w w' := by
  have HA := Lib.hid H
  have HV := Lib.hid (ValidGates_any a cap l w H hsz (by omega))
  rw [hv] at HV
  clear H hsz hv
  have hL0 := Lib.hid (Lst.nil (T := 2) (n := 1) (cell := cellI) w w.heap.size)
  go_enter Try.func38, Try.ntmps38
  go_wp2_with (go_at_call 75; refine HV.out.mono ?_; rintro e w' ⟨rfl, y, rfl⟩)
  clear HV
  go_loopw [4, 12] (fun o i wr => ∃ k : Nat, k ≤ l.length ∧ i = .int .i64 k ∧ Hid (Lst 2 1 cellI wr w.heap.size o (opens l k)) ∧ Hid (Ext w wr)) (fun _ i _ => l.length - (intOf i).toNat)
  case atStart => exact ⟨0, Nat.zero_le _, rfl, hL0.out.ext (by repeat (first | exact Ext.refl _ | refine Ext.lift ?_ _ | refine Ext.alloc ?_ _)), (by show Ext _ _; exact (by repeat (first | exact Ext.refl _ | refine Ext.lift ?_ _ | refine Ext.alloc ?_ _)))⟩
  case round =>
    clear hL0
    obtain ⟨k, hk, rfl, HO, HE⟩ := hrel
    have hol := opens_len l k
    obtain ⟨ad, oc, rfl, hoc, hom, hR, -⟩ := HO.out.shape
    replace hR := Lib.hid hR
    have hszr := HE.out.size
    by_cases hlt : k < l.length
    · obtain ⟨b, off, rfl⟩ := HA.out.base hlt
      obtain ⟨hb, c0, c1, c2, c3, c4, c5⟩ := Gate.at (HA.out.ext HE.out) k hlt
      have hnx : Hid (opens l (k + 1) = if (nth l k).shuts = false then opens l k ++ [(k : Int)] else opens l k) := rfl
      have hxx := Lib.hid ((Ext.refl wr).alloc (.cells #[.string (nth l k).id, .int .i64 (nth l k).shut, .int .i64 (nth l k).opn, .int .i64 (nth l k).hold, .bool (nth l k).shuts, .int .i64 (nth l k).calm] 54))
      cases hs : (nth l k).shuts
      · rw [hs] at c4 hnx hxx
        obtain ⟨W, hW⟩ : ∃ W, W = wr.alloc (.cells #[.string (nth l k).id, .int .i64 (nth l k).shut, .int .i64 (nth l k).opn, .int .i64 (nth l k).hold, .bool false, .int .i64 (nth l k).calm] 54) := ⟨_, rfl⟩
        have hws : W.heap.size = wr.heap.size + 1 := by rw [hW, size_new]
        rw [← hW] at hxx
        have hyy := Lib.hid (hxx.out.alloc (.cells #[.int .i64 (k : Int)] 2))
        have HLA := Lib.hid (HO.out.ext hyy.out)
        have HRA : Hid (IntAt (W.alloc (.cells #[.int .i64 (k : Int)] 2)) (some ⟨wr.heap.size + 1, 0, none⟩) [(k : Int)]) := rows_int W (k : Int) hws.symm
        have HEA := Lib.hid (HE.out.trans hyy.out)
        have hnx2 : Hid (opens l (k + 1) = opens l k ++ [(k : Int)]) := hnx.out.trans (if_pos rfl)
        rw [hW] at HLA HRA HEA
        have hbs : Hid (w.heap.size ≤ (W.alloc (.cells #[.int .i64 (k : Int)] 2)).heap.size) := by show _ ≤ _; rw [size_new]; omega
        rw [hW] at hbs
        clear hW hws hxx hyy HO HE hR hnx hs
        try dsimp only
        repeat (first | (at_builtin; refine Hid.out ?_) | go_values | go_skip | go_guarded | go_step | go_upon | go_back)
        refine Lib.hid ?_
        refine wpList_pushL elInt oneInt rfl _ _ rfl w.heap.size _ (opens l k) rfl HLA.out _ 1 1 [(k : Int)] rfl rfl HRA.out (by omega) (by omega) hbs.out ?_
        intro v' w3 HL hs3 hg3
        have HL3 := Lib.hid HL
        have HE3 := Lib.hid (hs3 w HEA.out (Nat.le_refl _))
        clear HL hs3 hg3 HLA HRA HEA
        go_wp2_with fail
        go_roundw
        case rel => exact ⟨k + 1, by omega, by go_num, by rw [hnx2.out]; exact HL3.out, HE3.out⟩
        case measure => simp [intOf]; omega
      · rw [hs] at c4 hnx
        have hnx2 : Hid (opens l (k + 1) = opens l k) := hnx.out.trans (if_neg (by decide))
        clear hs hR hxx
        go_wp2_with fail
        go_roundw
        case rel => exact ⟨k + 1, by omega, by go_num, by rw [hnx2.out]; exact HO.out.ext (by repeat (first | exact Ext.refl _ | refine Ext.lift ?_ _ | refine Ext.alloc ?_ _)), HE.out.alloc _⟩
        case measure => simp [intOf]; omega
    · obtain rfl : k = l.length := by omega
      clear HO
      go_wp2_with fail
      go_ret2
      exact ⟨ad, oc, rfl, hR.out, HE.out⟩
end Go.Proofs.Ytahfjoadpipghaa
