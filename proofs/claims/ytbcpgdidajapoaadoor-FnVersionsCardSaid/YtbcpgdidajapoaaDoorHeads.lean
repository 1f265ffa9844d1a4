/- HeadsOf: what the program and the reference hand back. -/
import Derived.Test.YtbcpgdidajapoaaDoorVrsV
namespace Go.Proofs.YtbcpgdidajapoaaDoor
open Go.RowKit
theorem elInt : El Tryd.prog 39 2 1 8 := El.mk' Tryd.underlying39 (by kernel_rfl) (by decide)
theorem oneInt : ∀ (x : Int) (j : Nat), j < 1 → ((fun (x : Int) (_ : Nat) => Value.int .i64 x) x j).oneCell' = true := fun _ _ _ => rfl
theorem intAt_blk (w : World) (cs : Array Value) (T : TypeId) (l : List Int) (h : ∀ k, k < l.length → cs[k]? = some (.int .i64 (nth l k))) : IntAt (w.alloc (.cells cs T)) (some ⟨w.heap.size, 0, none⟩) l :=
  IntAt.of (by rw [size_new]; omega) fun k hk => by rw [cell_new, Nat.zero_add]; exact h k hk
/-- p holds somewhere below. -/
def anyTo (p : Nat → Bool) : Nat → Bool
  | 0 => false
  | k + 1 => anyTo p k || p k
theorem anyTo_no {p : Nat → Bool} : ∀ {n : Nat}, (∀ j, j < n → p j = false) → anyTo p n = false
  | 0, _ => rfl
  | n + 1, h => by show (anyTo p n || p n) = false; rw [anyTo_no (fun j hj => h j (by omega)), h n (by omega)]; rfl
theorem anyTo_yes {p : Nat → Bool} {k : Nat} (hp : p k = true) : ∀ {n : Nat}, k < n → anyTo p n = true
  | 0, h => absurd h (Nat.not_lt_zero _)
  | n + 1, h => by
    show (anyTo p n || p n) = true
    rcases Nat.lt_or_ge k n with h1 | h1
    · rw [anyTo_yes hp h1]; rfl
    · obtain rfl : k = n := by omega
      rw [hp]; simp
/-- Version k is the parent of none of the first ones. -/
def headAt (P : List VerP) (k : Nat) : Nat → Bool
  | 0 => true
  | j + 1 => headAt P k j && !((nth P j).parent == (nth P k).number)
theorem headAt_any (P : List VerP) (k : Nat) : ∀ n, headAt P k n = !anyTo (fun j => (nth P j).parent == (nth P k).number) n
  | 0 => rfl
  | n + 1 => by show (headAt P k n && _) = !(anyTo _ n || _); rw [headAt_any P k n, Bool.not_or]
def headsTo (P : List VerP) : Nat → List Int
  | 0 => []
  | k + 1 => if headAt P k P.length = true then headsTo P k ++ [(nth P k).number] else headsTo P k
theorem headsTo_y {P : List VerP} {k : Nat} (h : headAt P k P.length = true) : headsTo P (k + 1) = headsTo P k ++ [(nth P k).number] := if_pos h
theorem headsTo_n {P : List VerP} {k : Nat} (h : headAt P k P.length = false) : headsTo P (k + 1) = headsTo P k := if_neg (by rw [h]; decide)
theorem headsTo_len (P : List VerP) : ∀ k, (headsTo P k).length ≤ k
  | 0 => Nat.le_refl _
  | k + 1 => by
    have := headsTo_len P k
    cases h : headAt P k P.length
    · rw [headsTo_n h]; omega
    · rw [headsTo_y h, List.length_append]; simp; omega
def headsC (P : List VerP) : Int := if histP P = true then 0 else 1
def headsV (P : List VerP) : List Int := if histP P = true then headsTo P P.length else []
theorem headsV_len (P : List VerP) : (headsV P).length ≤ 32 := by
  unfold headsV; split
  · rename_i h; exact Nat.le_trans (headsTo_len P _) (histP_bd h).1
  · simp
set_option maxRecDepth 100000 in
set_option maxHeartbeats 2000000 in
theorem IndexFuncV_any (a : Option Addr) (cap : Nat) (l : List Version) (F : FuncId) (vs : Array Value) (p : Nat → Bool) (w : World) (eg : Enters Tryd.prog F) (H : VersAt w a l) (hlen : l.length ≤ 1000000000000)
    (hf : ∀ k w', k < l.length → Ext w w' → Gives Tryd.prog F (#[.agg #[.int .i64 (nth l k).number, .int .i64 (nth l k).parent, .string (nth l k).memo, .slice (nth l k).addr (nth l k).state.length (nth l k).cap]] ++ vs) w' (.bool (p k))) :
    Calls Tryd.prog 61 #[.slice a l.length cap, .func (.func F) #[] vs] w fun e w' => ∃ r : Int, e = .returned (.int .i64 r) ∧ decide (0 ≤ r) = anyTo p l.length ∧ Ext w w' := by
  have HF := Lib.hid hf
  have HA := Lib.hid H
  clear hf H
  unfold Enters at eg
  go_enter Tryd.func61, Tryd.ntmps61
  go_wp2_with fail
  go_loopw [8] (fun i wr => ∃ k : Nat, k ≤ l.length ∧ i = .int .i64 k ∧ Hid (∀ j, j < k → p j = false) ∧ Ext w wr) (fun i _ => l.length - (intOf i).toNat)
  case atStart => exact ⟨0, Nat.zero_le _, rfl, upto_zero, Ext.refl w⟩
  case round =>
    obtain ⟨k, hk, rfl, hall, he⟩ := hrel
    by_cases hlt : k < l.length
    · obtain ⟨b, off, rfl⟩ := HA.out.row.base hlt
      obtain ⟨hb, c0, c1, c2, c3⟩ := Version.at (HA.out.row.ext he) k hlt
      cases h1 : p k
      · have hne : Hid (p k = false) := h1
        go_wp2_with fail
        refine (HF.out k _ hlt he).mono ?_
        rintro e w' ⟨rfl, y, rfl⟩
        rw [h1]
        go_wp2_with fail
        go_roundw
        case rel => exact ⟨k + 1, by omega, by go_num, upto_succ hall.out hne.out, he.lift y⟩
        case measure => simp [intOf]; omega
      · have hv : Hid (decide (0 ≤ (k : Int)) = anyTo p l.length) := by show _ = _; rw [anyTo_yes h1 hlt]; exact decide_eq_true (by omega)
        go_wp2_with fail
        refine (HF.out k _ hlt he).mono ?_
        rintro e w' ⟨rfl, y, rfl⟩
        rw [h1]
        go_wp2_with fail
        go_ret
        exact ⟨_, rfl, hv.out, he.lift y⟩
    · have hv : Hid (decide (0 ≤ (-1 : Int)) = anyTo p l.length) := by show _ = _; rw [anyTo_no fun j hj => hall.out j (by omega)]; rfl
      go_wp2_with fail
      go_ret
      exact ⟨_, rfl, hv.out, he⟩
theorem ContainsFuncV_any (a : Option Addr) (cap : Nat) (l : List Version) (F : FuncId) (vs : Array Value) (p : Nat → Bool) (w : World) (eg : Enters Tryd.prog F) (H : VersAt w a l) (hlen : l.length ≤ 1000000000000)
    (hf : ∀ k w', k < l.length → Ext w w' → Gives Tryd.prog F (#[.agg #[.int .i64 (nth l k).number, .int .i64 (nth l k).parent, .string (nth l k).memo, .slice (nth l k).addr (nth l k).state.length (nth l k).cap]] ++ vs) w' (.bool (p k))) :
    Gives Tryd.prog 43 #[.slice a l.length cap, .func (.func F) #[] vs] w (.bool (anyTo p l.length)) := by
  unfold Gives
  have HC := Lib.hid (IndexFuncV_any a cap l F vs p w eg H hlen hf)
  clear H hf eg
  go_enter Tryd.func43, Tryd.ntmps43
  go_wp2_with (go_at_call 61; refine HC.out.mono ?_; rintro e w' ⟨r, rfl, hr, y, rfl⟩)
  go_ret
  exact ⟨by first | exact ret_bool hr | rfl, (Ext.refl _).lift y⟩
set_option maxHeartbeats 400000 in
theorem HeadsOf_1 (x : Version) (n : Int) (b : Nat) (w : World) (c : w.cell? ⟨b, 0, none⟩ = some (.int .i64 n)) :
    Gives Tryd.prog 44 #[.agg #[.int .i64 x.number, .int .i64 x.parent, .string x.memo, .slice x.addr x.state.length x.cap], .pointer (some ⟨b, 0, none⟩)] w (.bool (x.parent == n)) := by
  unfold Gives
  have hb := block_lt c
  go_enter Tryd.func44, Tryd.ntmps44
  go_wp2_with fail
  go_ret
  exact ⟨rfl, (by repeat (first | exact Ext.refl _ | refine Ext.lift ?_ _ | refine Ext.alloc ?_ _))⟩
set_option maxRecDepth 100000 in
set_option maxHeartbeats 4000000 in
theorem implHeadsOf_any (w : World) (a : Option Addr) (cap : Nat) (l : List Version) (H : VersAt w a l) (hsz : ∀ k, k < l.length → (nth l k).Small) (hn : l.length ≤ 1048576) :
    Calls Tryd.prog 15 #[.slice a l.length cap] w (OutS 2 1 (fun (x : Int) (_ : Nat) => Value.int .i64 x) w (headsV (strips l)) [.int .i64 (headsC (strips l))]) := by
  have HA := Lib.hid H
  have HV := Lib.hid fun (w' : World) (he : Ext w w') => ValidHistory_any a cap l w' (H.ext he) hsz hn
  clear H hsz
  cases h1 : histP (strips l)
  · have hv : Hid (headsC (strips l) = 1 ∧ headsV (strips l) = []) := ⟨if_neg (by rw [h1]; decide), if_neg (by rw [h1]; decide)⟩
    rw [h1] at HV
    clear h1
    go_enter Tryd.func15, Tryd.ntmps15
    go_wp2_with (go_at_call 35; refine (HV.out _ (by repeat (first | exact Ext.refl _ | refine Ext.lift ?_ _ | refine Ext.alloc ?_ _))).mono ?_; rintro e w' ⟨rfl, y, rfl⟩)
    go_ret2
    rw [hv.out.1, hv.out.2]
    exact OutS.nil none 0 rfl (by repeat (first | exact Ext.refl _ | refine Ext.lift ?_ _ | refine Ext.alloc ?_ _))
  rw [h1] at HV
  have hv : Hid (headsC (strips l) = 0 ∧ headsV (strips l) = headsTo (strips l) l.length) := ⟨if_pos h1, by rw [← strips_len l]; exact if_pos h1⟩
  have hl32 := (hist_bd h1).1
  have eg : Enters Tryd.prog 44 := enters_of Tryd.func44 (by kernel_rfl) rfl
  clear h1
  go_enter Tryd.func15, Tryd.ntmps15
  go_wp2_with (go_at_call 35; refine (HV.out _ (by repeat (first | exact Ext.refl _ | refine Ext.lift ?_ _ | refine Ext.alloc ?_ _))).mono ?_; rintro e w' ⟨rfl, y, rfl⟩)
  clear HV
  go_loopw [4, 12] (fun o i wr => ∃ j : Nat, j ≤ l.length ∧ i = .int .i64 j ∧ Hid (Lst 2 1 (fun (x : Int) (_ : Nat) => Value.int .i64 x) wr w.heap.size o (headsTo (strips l) j)) ∧ Ext w wr) (fun _ i _ => l.length - (intOf i).toNat)
  case atStart => exact ⟨0, Nat.zero_le _, rfl, Lst.nil _ _, (by repeat (first | exact Ext.refl _ | refine Ext.lift ?_ _ | refine Ext.alloc ?_ _))⟩
  case round =>
    obtain ⟨j, hj, rfl, HL, he⟩ := hrel
    have hEh := Lib.hid he
    clear he
    by_cases hlt : j < l.length
    · have hd0 : decide ((j : Int) < (l.length : Int)) = true := decide_eq_true (by omega)
      obtain ⟨b, off, rfl⟩ := HA.out.row.base hlt
      obtain ⟨hb, c0, c1, c2, c3⟩ := Version.at (HA.out.row.ext hEh.out) j hlt
      obtain ⟨W, hW⟩ : ∃ W, W = wr.alloc (.cells #[.int .i64 (nth l j).number, .int .i64 (nth l j).parent, .string (nth l j).memo, .slice (nth l j).addr (nth l j).state.length (nth l j).cap] 48) := ⟨_, rfl⟩
      have hWE : Ext wr W := by rw [hW]; exact (Ext.refl wr).alloc _
      have x0 : W.cell? ⟨wr.heap.size, 0, none⟩ = some (.int .i64 (nth l j).number) := by rw [hW, cell_new]; rfl
      have hxl : wr.heap.size < W.heap.size := by rw [hW, size_new]; omega
      have HC := Lib.hid (ContainsFuncV_any (some ⟨b, off, none⟩) cap l 44 #[.pointer (some ⟨wr.heap.size, 0, none⟩)] (fun m => (nth l m).parent == (nth l j).number) W eg (HA.out.ext (hEh.out.trans hWE)) (by omega)
        (fun k w' _ he => HeadsOf_1 (nth l k) (nth l j).number wr.heap.size w' (he.cell x0)))
      have hhd : Hid (headAt (strips l) j l.length = !anyTo (fun m => (nth l m).parent == (nth l j).number) l.length) := by
        show _ = _
        rw [headAt_any]
        have : ∀ n, n ≤ l.length → anyTo (fun m => (nth (strips l) m).parent == (nth (strips l) j).number) n = anyTo (fun m => (nth l m).parent == (nth l j).number) n := by
          intro n hn
          induction n with
          | zero => rfl
          | succ n ih => show (anyTo _ n || ((nth (strips l) n).parent == (nth (strips l) j).number)) = (anyTo _ n || ((nth l n).parent == (nth l j).number)); rw [ih (by omega), nth_strips hlt, nth_strips (show n < l.length by omega)]; rfl
        rw [this _ (Nat.le_refl _)]
      have hll := headsTo_len (strips l) j
      have hE2 := Lib.hid (hEh.out.trans hWE)
      have L2 := Lib.hid (HL.out.ext hWE)
      have hW' := Lib.hid hW
      go_wp2_with fail
      rw [← hW]
      clear hW hWE HL hEh c0 c1 c2 c3 hb
      refine HC.out.mono ?_
      rintro e w' ⟨rfl, y2, rfl⟩
      clear HC
      cases hh : anyTo (fun m => (nth l m).parent == (nth l j).number) l.length
      · have hn2 : Hid (headsTo (strips l) (j + 1) = headsTo (strips l) j ++ [(nth l j).number]) := by
          show _ = _; rw [headsTo_y (by rw [strips_len, hhd.out, hh]; rfl), nth_strips hlt]; rfl
        clear hh hhd
        have x0' := ((Ext.refl W).lift y2).cell x0
        have hxl' := Nat.lt_of_lt_of_le hxl ((Ext.refl W).lift y2).size
        replace L2 := Lib.hid (L2.out.ext ((Ext.refl W).lift y2))
        replace hE2 := Lib.hid (hE2.out.lift y2)
        clear x0 hxl hW'
        generalize lift W y2 = W3 at *
        have L3 := Lib.hid (L2.out.ext (((Ext.refl W3)).alloc (.cells #[.int .i64 (nth l j).number] 2)))
        have HR := Lib.hid (rows_int (T := 2) W3 (nth l j).number rfl)
        have hz4 : w.heap.size ≤ (W3.alloc (.cells #[.int .i64 (nth l j).number] 2)).heap.size := by rw [size_new]; have := hE2.out.size; omega
        have E4 := Lib.hid (hE2.out.alloc (.cells #[.int .i64 (nth l j).number] 2))
        clear L2
        go_wp2_with (at_builtin; refine wpList_pushL elInt oneInt rfl _ _ rfl w.heap.size _ _ (by rfl) L3.out _ 1 1 [(nth l j).number] rfl (by rfl) HR.out (by omega) (by omega) hz4 ?_; intro v' w3 HL3 hs3 _)
        have L5 := Lib.hid HL3
        have E5 := Lib.hid (hs3.ext E4.out (Nat.le_refl _))
        clear HL3 hs3 L3 HR E4
        go_wp2_with fail
        go_roundw
        case rel => exact ⟨j + 1, by omega, by go_num, by rw [hn2.out]; exact L5.out, E5.out⟩
        case measure => simp [intOf]; omega
      · have hn2 : Hid (headsTo (strips l) (j + 1) = headsTo (strips l) j) := headsTo_n (by rw [strips_len, hhd.out, hh]; rfl)
        clear hh hhd
        go_wp2_with fail
        go_roundw
        case rel => exact ⟨j + 1, by omega, by go_num, by rw [hn2.out]; exact L2.out.ext ((Ext.refl _).lift _), hE2.out.lift _⟩
        case measure => simp [intOf]; omega
    · obtain rfl : j = l.length := by omega
      obtain ⟨a', cap', rfl, hc', -, hR, hO⟩ := HL.out.shape
      have HR := Lib.hid hR
      have HO := Lib.hid hO
      clear hR hO HL
      go_wp2_with fail
      go_ret2
      rw [hv.out.1, hv.out.2]
      exact ⟨a', cap', rfl, hc', HO.out, HR.out, hEh.out⟩
end Go.Proofs.YtbcpgdidajapoaaDoor
