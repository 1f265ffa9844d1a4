/- The line of a version: itself and all from which it comes. What the program's and the reference's functions hand back. -/
import Derived.Test.YtbcpgdidajapoaaDoorVrsV
import Derived.Test.YtbcpgdidajapoaaDoorElI
import Derived.Test.YtbcpgdidajapoaaDoorLists
namespace Go.Proofs.YtbcpgdidajapoaaDoor
open Go.RowKit
def lineF (P : List VerP) : Nat → Int → List Int
  | 0, _ => []
  | f + 1, n => if 0 < n then n :: lineF P f (nth P (n.toNat - 1)).parent else []
def lineP (P : List VerP) (n : Int) : List Int := lineF P n.toNat n
/-- The parent of a version that is there comes before it. -/
theorem par_bd {P : List VerP} (h : histP P = true) {n : Int} (h0 : 0 < n) (h1 : n ≤ P.length) : 0 ≤ (nth P (n.toNat - 1)).parent ∧ (nth P (n.toNat - 1)).parent ≤ n - 1 := by
  have := (histP_bd h).2 (n.toNat - 1) (by omega)
  omega
theorem lineF_eq {P : List VerP} (h : histP P = true) : ∀ (f f2 : Nat) (n : Int), n.toNat ≤ f → n.toNat ≤ f2 → n ≤ P.length → lineF P f n = lineF P f2 n
  | 0, 0, _, _, _, _ => rfl
  | 0, f2 + 1, n, h1, _, _ => by show [] = if _ then _ else _; rw [if_neg (by omega)]
  | f + 1, 0, n, _, h2, _ => by show (if _ then _ else _) = []; rw [if_neg (by omega)]
  | f + 1, f2 + 1, n, h1, h2, h3 => by
    show (if _ then _ else _) = (if _ then _ else _)
    by_cases h0 : 0 < n
    · have := par_bd h h0 h3
      rw [if_pos h0, if_pos h0, lineF_eq h f f2 _ (by omega) (by omega) (by omega)]
    · rw [if_neg h0, if_neg h0]
theorem lineP_pos {P : List VerP} (h : histP P = true) {n : Int} (h0 : 0 < n) (h1 : n ≤ P.length) : lineP P n = n :: lineP P (nth P (n.toNat - 1)).parent := by
  have := par_bd h h0 h1
  unfold lineP
  obtain ⟨f, hf⟩ : ∃ f, n.toNat = f + 1 := ⟨n.toNat - 1, by omega⟩
  rw [hf]
  show (if 0 < n then n :: lineF P f _ else []) = _
  rw [if_pos h0, lineF_eq h f _ _ (by omega) (Nat.le_refl _) (by omega), show f + 1 - 1 = n.toNat - 1 by omega]
theorem lineP_zero (P : List VerP) {n : Int} (h : n ≤ 0) : lineP P n = [] := by
  unfold lineP; rw [show n.toNat = 0 by omega]; rfl
theorem lineF_len (P : List VerP) : ∀ (f : Nat) (n : Int), (lineF P f n).length ≤ f
  | 0, _ => Nat.le_refl _
  | f + 1, n => by
    show (if _ then _ else _ : List Int).length ≤ _
    split
    · have := lineF_len P f (nth P (n.toNat - 1)).parent; simp; omega
    · simp
theorem lineP_len (P : List VerP) (n : Int) : (lineP P n).length ≤ n.toNat := lineF_len P _ _
set_option maxRecDepth 100000 in
set_option maxHeartbeats 4000000 in
theorem lineOf_any (w : World) (a : Option Addr) (cap : Nat) (l : List Version) (n : Int) (H : VersAt w a l) (hh : histP (strips l) = true) (h0 : 0 ≤ n) (h1 : n ≤ l.length) :
    Calls Tryd.prog 42 #[.slice a l.length cap, .int .i64 n] w (OutL 2 1 celI w (lineP (strips l) n)) := by
  have HA := Lib.hid H
  have hv := Lib.hid hh
  have hl32 := (hist_bd hh).1
  clear H hh
  go_enter Tryd.func42, Tryd.ntmps42
  go_wp2_with fail
  go_loopw [5, 1] (fun o i wr => ∃ (m : Int) (acc : List Int), 0 ≤ m ∧ m ≤ l.length ∧ i = .int .i64 m ∧ acc.length + m.toNat ≤ 32 ∧ Hid (acc ++ lineP (strips l) m = lineP (strips l) n) ∧ Hid (Lst 2 1 celI wr w.heap.size o acc) ∧ Ext w wr) (fun _ i _ => (intOf i).toNat)
  case atStart => exact ⟨n, [], h0, h1, rfl, by simp; omega, rfl, Lst.nil _ _, Ext.refl _⟩
  case round =>
    obtain ⟨m, acc, m0, m1, rfl, hal, hacc, HL, he⟩ := hrel
    have hEh := Lib.hid he
    clear he
    by_cases hlt : 0 < m
    · have hpb := par_bd hv.out hlt (by rw [strips_len]; exact m1)
      obtain ⟨k, hk⟩ : ∃ k : Nat, m = (k : Int) + 1 := ⟨m.toNat - 1, by omega⟩
      subst hk
      have hkl : k < l.length := by omega
      rw [show ((k : Int) + 1).toNat - 1 = k by omega, nth_strips hkl] at hpb
      have hpb1 : 0 ≤ (nth l k).parent := hpb.1
      have hpb2 : (nth l k).parent ≤ k := by have : (nth l k).parent ≤ (k : Int) + 1 - 1 := hpb.2; omega
      have hnx : Hid ((acc ++ [(k : Int) + 1]) ++ lineP (strips l) (nth l k).parent = lineP (strips l) n) := by
        show _ = _
        rw [← hacc.out, lineP_pos hv.out hlt (by rw [strips_len]; exact m1), show ((k : Int) + 1).toNat - 1 = k by omega, nth_strips hkl, List.append_assoc]; rfl
      obtain ⟨b, off, rfl⟩ := HA.out.row.base hkl
      have L3 := Lib.hid (HL.out.ext ((Ext.refl wr).alloc (.cells #[.int .i64 ((k : Int) + 1)] 2)))
      have HR := Lib.hid (rows_int (T := 2) wr ((k : Int) + 1) rfl)
      have hz4 : w.heap.size ≤ (wr.alloc (.cells #[.int .i64 ((k : Int) + 1)] 2)).heap.size := by rw [size_new]; have := hEh.out.size; omega
      have E4 := Lib.hid (hEh.out.alloc (.cells #[.int .i64 ((k : Int) + 1)] 2))
      clear hpb HL hacc hEh
      go_wp2_with (at_builtin; refine wpList_pushL elI oneI rfl _ _ rfl w.heap.size _ _ (by rfl) L3.out _ 1 1 [(k : Int) + 1] rfl (by rfl) HR.out (by omega) (by omega) hz4 ?_; intro v' w3 HL3 hs3 _; have L5 := Lib.hid HL3; have E5 := Lib.hid (hs3.ext E4.out (Nat.le_refl _)); clear HL3 hs3 L3 HR E4; obtain ⟨hb, c0, c1, -, -⟩ := Version.at (HA.out.row.ext E5.out) k hkl)
      go_roundw
      case rel => exact ⟨(nth l k).parent, acc ++ [(k : Int) + 1], hpb1, by omega, rfl, by rw [List.length_append]; simp; omega, hnx.out, L5.out, E5.out⟩
      case measure => simp [intOf]; omega
    · obtain rfl : m = 0 := by omega
      have hac : Hid (acc = lineP (strips l) n) := by show _ = _; rw [← hacc.out, lineP_zero _ (Int.le_refl _), List.append_nil]
      obtain ⟨a', cap', rfl, hc', -, hR, hO⟩ := HL.out.shape
      have HR := Lib.hid hR
      have HO := Lib.hid hO
      clear hR hO HL hacc
      go_wp2_with fail
      go_ret
      rw [← hac.out]
      exact ⟨a', cap', rfl, hc', HO.out, HR.out, hEh.out⟩
/-- The code of a history and of numbers of versions. -/
def vcodeP (P : List VerP) (ns : List Int) : Int := if histP P = true then (if allIn ns 1 P.length = true then 0 else 3) else 1
theorem vcodeP_zero {P : List VerP} {ns : List Int} (h : vcodeP P ns = 0) : histP P = true ∧ allIn ns 1 P.length = true := by
  unfold vcodeP at h
  split at h
  · rename_i h1
    split at h
    · rename_i h2; exact ⟨h1, h2⟩
    · omega
  · omega
set_option maxRecDepth 100000 in
set_option maxHeartbeats 4000000 in
theorem versionsCode_any (w : World) (a : Option Addr) (cap : Nat) (l : List Version) (b : Option Addr) (cap2 : Nat) (ns : List Int) (H : VersAt w a l) (hsz : ∀ k, k < l.length → (nth l k).Small) (hn : l.length ≤ 1048576) (HN : IntAt w b ns) (hlen : ns.length ≤ 1000000000000) :
    Gives Tryd.prog 39 #[.slice a l.length cap, .slice b ns.length cap2] w (.int .i64 (vcodeP (strips l) ns)) := by
  unfold Gives
  have HV := Lib.hid fun (w' : World) (he : Ext w w') => ValidHistory_any a cap l w' (H.ext he) hsz hn
  have HW := Lib.hid fun (w' : World) (he : Ext w w') => allWithin_any b cap2 ns 1 (l.length : Nat) w' (HN.ext he) hlen
  have hcv : Hid (vcodeP (strips l) ns = if histP (strips l) = true then (if allIn ns 1 l.length = true then 0 else 3) else 1) := by show _ = _; unfold vcodeP; rw [strips_len]
  clear H hsz HN
  cases h1 : histP (strips l)
  · have hv : Hid (1 = vcodeP (strips l) ns) := by show _ = _; rw [hcv.out, h1]; rfl
    rw [h1] at HV
    clear h1 hcv HW
    go_enter Tryd.func39, Tryd.ntmps39
    go_wp2_with (go_at_call 35; refine (HV.out _ (by repeat (first | exact Ext.refl _ | refine Ext.lift ?_ _ | refine Ext.alloc ?_ _))).mono ?_; rintro e w' ⟨rfl, y, rfl⟩)
    go_ret
    exact ⟨ret_int hv.out, (by repeat (first | exact Ext.refl _ | refine Ext.lift ?_ _ | refine Ext.alloc ?_ _))⟩
  cases h2 : allIn ns 1 l.length
  all_goals
    have hv : Hid (vcodeP (strips l) ns = if allIn ns 1 l.length = true then 0 else 3) := by show _ = _; rw [hcv.out, if_pos h1]
    rw [h2] at hv HW
    rw [h1] at HV
    clear h1 h2 hcv
    go_enter Tryd.func39, Tryd.ntmps39
    go_wp2_with (first | (go_at_call 35; refine (HV.out _ (by repeat (first | exact Ext.refl _ | refine Ext.lift ?_ _ | refine Ext.alloc ?_ _))).mono ?_; rintro e w' ⟨rfl, y, rfl⟩) | (go_at_call 59; refine (HW.out _ (by repeat (first | exact Ext.refl _ | refine Ext.lift ?_ _ | refine Ext.alloc ?_ _))).mono ?_; rintro e w' ⟨rfl, z, rfl⟩))
    go_ret
    exact ⟨ret_int (by rw [hv.out]; rfl), (by repeat (first | exact Ext.refl _ | refine Ext.lift ?_ _ | refine Ext.alloc ?_ _))⟩
/-- The first of L that M holds too. -/
def comL : List Int → List Int → Int
  | [], _ => 0
  | x :: L, M => if hasB M x = true then x else comL L M
def comP (P : List VerP) (a b : Int) : Int := comL (lineP P a) (lineP P b)
theorem drop_nth {α : Type} [Inhabited α] {L : List α} {k : Nat} (h : k < L.length) : L.drop k = nth L k :: L.drop (k + 1) := by
  rw [List.drop_eq_getElem_cons h, nth_eq L k h]
theorem comL_yes {L M : List Int} {k : Nat} (h : k < L.length) (hm : hasB M (nth L k) = true) : comL (L.drop k) M = nth L k := by
  rw [drop_nth h]; exact if_pos hm
theorem comL_no {L M : List Int} {k : Nat} (h : k < L.length) (hm : hasB M (nth L k) = false) : comL (L.drop k) M = comL (L.drop (k + 1)) M := by
  rw [drop_nth h]; exact if_neg (by rw [hm]; decide)
theorem comL_end {L M : List Int} {k : Nat} (h : L.length ≤ k) : comL (L.drop k) M = 0 := by
  rw [List.drop_of_length_le h]; rfl
set_option maxRecDepth 100000 in
set_option maxHeartbeats 4000000 in
theorem commonAncestor_any (w : World) (a : Option Addr) (cap : Nat) (l : List Version) (x y : Int) (H : VersAt w a l) (hh : histP (strips l) = true) (hx0 : 0 ≤ x) (hx1 : x ≤ l.length) (hy0 : 0 ≤ y) (hy1 : y ≤ l.length) :
    Gives Tryd.prog 45 #[.slice a l.length cap, .int .i64 x, .int .i64 y] w (.int .i64 (comP (strips l) x y)) := by
  unfold Gives
  have HL := Lib.hid fun (w' : World) (he : Ext w w') (n : Int) => lineOf_any w' a cap l n (H.ext he) hh
  have hl32 := (hist_bd hh).1
  have hc : Hid (comP (strips l) x y = comL (lineP (strips l) x) (lineP (strips l) y)) := rfl
  have hlx := lineP_len (strips l) x
  have hly := lineP_len (strips l) y
  clear H hh
  obtain ⟨L, hL⟩ : ∃ L, L = lineP (strips l) x := ⟨_, rfl⟩
  obtain ⟨M, hM⟩ : ∃ M, M = lineP (strips l) y := ⟨_, rfl⟩
  rw [← hL, ← hM] at hc
  rw [← hL] at hlx
  rw [← hM] at hly
  have HX := Lib.hid fun (w' : World) (he : Ext w w') => HL.out w' he x hx0 hx1
  have HY := Lib.hid fun (w' : World) (he : Ext w w') => HL.out w' he y hy0 hy1
  rw [← hL] at HX
  rw [← hM] at HY
  clear HL hL hM
  go_enter Tryd.func45, Tryd.ntmps45
  go_wp2_with fail
  refine (HY.out _ (by repeat (first | exact Ext.refl _ | refine Ext.lift ?_ _ | refine Ext.alloc ?_ _))).mono ?_
  rintro e w1 ⟨ma, mc, rfl, hmc, -, HM, E1⟩
  have HMh := Lib.hid HM
  clear HM HY
  go_wp2_with fail
  refine (HX.out _ E1).mono ?_
  rintro e w2 ⟨la, lc, rfl, hlc, -, HLr, E2⟩
  have HLh := Lib.hid HLr
  replace HMh := Lib.hid (HMh.out.ext E2)
  replace E2 := E1.trans E2
  clear HLr HX E1
  go_wp2_with fail
  go_loopw [17] (fun i wr => ∃ k : Nat, k ≤ L.length ∧ i = .int .i64 k ∧ Hid (comL (L.drop k) M = comP (strips l) x y) ∧ Ext w2 wr) (fun i _ => L.length - (intOf i).toNat)
  case atStart => exact ⟨0, Nat.zero_le _, rfl, by show _ = _; rw [hc.out]; rfl, Ext.refl _⟩
  case round =>
    obtain ⟨k, hk, rfl, hco, he⟩ := hrel
    by_cases hlt : k < L.length
    · obtain ⟨b, off, rfl⟩ := HLh.out.base hlt
      obtain ⟨hb, c0⟩ := IntAt.at (HLh.out.ext he) k hlt
      have HC : Hid (Calls Tryd.prog 62 #[.slice ma M.length mc, .int .i64 (nth L k)] wr fun e w' => e = .returned (.bool (hasB M (nth L k))) ∧ w' = wr) := Contains_any ma mc M (nth L k) wr (HMh.out.ext he) (by omega)
      cases hm : hasB M (nth L k)
      all_goals
        rw [hm] at HC
      · have hn2 : Hid (comL (L.drop (k + 1)) M = comP (strips l) x y) := by show _ = _; rw [← hco.out, comL_no hlt hm]
        clear hco hm
        go_wp2_with (go_at_call 62; refine HC.out.mono ?_; rintro e w' ⟨rfl, hw⟩; subst hw)
        go_roundw
        case rel => exact ⟨k + 1, by omega, by go_num, hn2.out, he⟩
        case measure => simp [intOf]; omega
      · have hn2 : Hid (nth L k = comP (strips l) x y) := by show _ = _; rw [← hco.out, comL_yes hlt hm]
        have hE := Lib.hid (E2.trans he)
        clear hco hm he
        go_wp2_with (go_at_call 62; refine HC.out.mono ?_; rintro e w' ⟨rfl, hw⟩; subst hw)
        go_ret
        exact ⟨ret_int hn2.out, hE.out⟩
    · have hn2 : Hid (0 = comP (strips l) x y) := by show _ = _; rw [← hco.out, comL_end (by omega)]
      have hE := Lib.hid (E2.trans he)
      clear hco he
      go_wp2_with fail
      go_ret
      exact ⟨ret_int hn2.out, hE.out⟩
end Go.Proofs.YtbcpgdidajapoaaDoor
