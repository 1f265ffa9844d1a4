/- Chapter 22: FewestCrews of the program and of the reference. -/
import Derived.Test.YtpmbaemfpkcjnaaBestAll
namespace Go.Proofs.Ytpmbaemfpkcjnaa
open Go.RowKit
def fewFrom (l : List Shot) (b : Int) : Nat → Nat → Int × Int
  | 0, _ => (0, 3)
  | m + 1, k => if allC l k b = 0 then ((k : Int), 0) else if allC l k b = 5 then (0, 5) else fewFrom l b m (k + 1)
theorem fewFrom_0 {l : List Shot} {b : Int} {m k : Nat} (h : (allC l k b == 0) = true) : fewFrom l b (m + 1) k = ((k : Int), 0) := if_pos (beq_iff_eq.1 h)
theorem fewFrom_5 {l : List Shot} {b : Int} {m k : Nat} (h : (allC l k b == 0) = false) (h5 : (allC l k b == 5) = true) : fewFrom l b (m + 1) k = (0, 5) := by
  show (if _ then _ else _) = _; rw [if_neg (beq_eq_false_iff_ne.1 h), if_pos (beq_iff_eq.1 h5)]
theorem fewFrom_n {l : List Shot} {b : Int} {m k : Nat} (h : (allC l k b == 0) = false) (h5 : (allC l k b == 5) = false) : fewFrom l b (m + 1) k = fewFrom l b m (k + 1) := by
  show (if _ then _ else _) = _; rw [if_neg (beq_eq_false_iff_ne.1 h), if_neg (beq_eq_false_iff_ne.1 h5)]
def few (l : List Shot) (b : Int) : Int × Int := if shotList l = true then (if inB b 1 20000 = true then fewFrom l b 3 1 else (0, 2)) else (0, 1)
theorem few_1 {l : List Shot} {b : Int} (h : shotList l = false) : few l b = (0, 1) := by unfold few; rw [h]; rfl
theorem few_2 {l : List Shot} {b : Int} (h : shotList l = true) (h2 : inB b 1 20000 = false) : few l b = (0, 2) := by unfold few; rw [h, h2]; rfl
theorem few_0 {l : List Shot} {b : Int} (h : shotList l = true) (h2 : inB b 1 20000 = true) : few l b = fewFrom l b 3 1 := by unfold few; rw [h, h2]; rfl
theorem ret_pair {p : Int × Int} {a b : Int} (h : p = (a, b)) : Ending.returned (.tuple #[.int .i64 a, .int .i64 b]) = .returned (.tuple #[.int .i64 p.1, .int .i64 p.2]) := by subst h; rfl
set_option maxRecDepth 100000 in
set_option maxHeartbeats 4000000 in
theorem implFewestCrews_any (w : World) (a : Option Addr) (cap : Nat) (l : List Shot) (H : ShotAt w a l) (hsz : ∀ k, k < l.length → (nth l k).Small) (hn : l.length ≤ 1048576) (hcap : l.length ≤ cap) (b : Int) :
    Gives Try.prog 14 #[.slice a l.length cap, .int .i64 b] w (.tuple #[.int .i64 (few l b).1, .int .i64 (few l b).2]) := by
  unfold Gives
  have HA := Lib.hid H
  have HV := Lib.hid (ValidShots_any a cap l w H hsz hn)
  clear H hsz
  cases h1 : shotList l
  · have hv := Lib.hid (few_1 (b := b) h1)
    rw [h1] at HV
    clear h1
    go_enter Try.func14, Try.ntmps14
    go_wp2_with fail
    refine HV.out.mono ?_
    rintro e w' ⟨rfl, y, rfl⟩
    go_wp2_with fail
    go_ret2
    exact ⟨ret_pair hv.out, (by repeat (first | exact Ext.refl _ | refine Ext.lift ?_ _ | refine Ext.alloc ?_ _))⟩
  · rw [h1] at HV
    cases h3 : inB b 1 20000
    · have hv := Lib.hid (few_2 h1 h3)
      have HB : Hid (∀ w', Calls Try.prog 27 #[.int .i64 b] w' fun e w'' => e = .returned (.bool false) ∧ w'' = w') := fun w' => by have := budgetValid_any b w'; rw [h3] at this; exact this
      clear h1 h3
      go_enter Try.func14, Try.ntmps14
      go_wp2_with fail
      refine HV.out.mono ?_
      rintro e w' ⟨rfl, y, rfl⟩
      go_wp2_with (go_at_call 27; refine (HB.out _).mono ?_; rintro e w' ⟨rfl, rfl⟩)
      go_ret2
      exact ⟨ret_pair hv.out, (by repeat (first | exact Ext.refl _ | refine Ext.lift ?_ _ | refine Ext.alloc ?_ _))⟩
    · have hv := Lib.hid (few_0 h1 h3)
      have HB : Hid (∀ w', Calls Try.prog 27 #[.int .i64 b] w' fun e w'' => e = .returned (.bool true) ∧ w'' = w') := fun w' => by have := budgetValid_any b w'; rw [h3] at this; exact this
      have hS := vAll_one h1
      have hl8 : l.length ≤ 8 := vAll_len_le h1
      have hb := inB_iff.1 h3
      have HW := Lib.hid fun (w' : World) (he : Ext w w') (k : Nat) (h0 : 0 < k) (h3 : k ≤ 3) => allShots_any a cap l k b w' (HA.out.ext he) hS hl8 hcap h0 h3 (by omega) (by omega)
      clear h1 h3 hS hb
      go_enter Try.func14, Try.ntmps14
      go_wp2_with fail
      refine HV.out.mono ?_
      rintro e w' ⟨rfl, y, rfl⟩
      go_wp2_with (go_at_call 27; refine (HB.out _).mono ?_; rintro e w' ⟨rfl, rfl⟩)
      go_loopw [6] (fun i wr => ∃ k m : Nat, k + m = 4 ∧ 1 ≤ k ∧ i = .int .i64 k ∧ Hid (few l b = fewFrom l b m k) ∧ Ext w wr) (fun i _ => 4 - (intOf i).toNat)
      case atStart => exact ⟨1, 3, rfl, by omega, rfl, hv.out, (by repeat (first | exact Ext.refl _ | refine Ext.lift ?_ _ | refine Ext.alloc ?_ _))⟩
      case round =>
        obtain ⟨k, m, hkm, hk1, rfl, hF, he⟩ := hrel
        rcases m with _ | m
        · have hk4 : 3 < k := by omega
          clear hkm
          go_wp2_with fail
          go_ret2
          exact ⟨ret_pair hF.out, he⟩
        · have hk3 : k ≤ 3 := by omega
          have HC := Lib.hid (HW.out _ he k hk1 hk3)
          have hkm' := Lib.hid hkm
          clear hkm
          cases h0 : (allC l k b == 0)
          · cases h5 : (allC l k b == 5)
            · have hF2 : Hid (few l b = fewFrom l b m (k + 1)) := hF.out.trans (fewFrom_n h0 h5)
              go_wp2_with fail
              refine HC.out.mono ?_
              rintro e w' ⟨a', cap', rfl, -, -, -, E⟩
              have T := Lib.hid (he.trans E)
              clear E HC
              go_wp2_with fail
              go_roundw
              case rel => exact ⟨k + 1, m, by have := hkm'.out; omega, by omega, by go_num, hF2.out, T.out⟩
              case measure => simp [intOf]; omega
            · have hF2 : Hid (few l b = (0, 5)) := hF.out.trans (fewFrom_5 h0 h5)
              go_wp2_with fail
              refine HC.out.mono ?_
              rintro e w' ⟨a', cap', rfl, -, -, -, E⟩
              have T := Lib.hid (he.trans E)
              clear E HC
              go_wp2_with fail
              go_ret2
              exact ⟨ret_pair hF2.out, T.out⟩
          · have hF2 : Hid (few l b = ((k : Int), 0)) := hF.out.trans (fewFrom_0 h0)
            go_wp2_with fail
            refine HC.out.mono ?_
            rintro e w' ⟨a', cap', rfl, -, -, -, E⟩
            have T := Lib.hid (he.trans E)
            clear E HC
            go_wp2_with fail
            go_ret2
            exact ⟨ret_pair hF2.out, T.out⟩
end Go.Proofs.Ytpmbaemfpkcjnaa
