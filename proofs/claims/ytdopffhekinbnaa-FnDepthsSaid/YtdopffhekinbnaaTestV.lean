/- Lists of tests: when they are valid. -/
import Derived.Test.YtdopffhekinbnaaTest
import Derived.Test.YtdopffhekinbnaaValid
namespace Go.Proofs.Ytdopffhekinbnaa
open Go.RowKit
def testOrd (x y : Test) : Bool := decide (x.hour ≤ y.hour)
/-- The list is valid. -/
def testList (l : List Test) : Bool := vAll testB testOrd 16 l
set_option maxRecDepth 100000 in
set_option maxHeartbeats 2000000 in
theorem ValidTests_any (a : Option Addr) (cap : Nat) (l : List Test) (w : World) (H : TestAt w a l) (hsz : ∀ k, k < l.length → (nth l k).Small) (hlen : l.length ≤ 1048576) :
    Gives Try.prog 27 #[.slice a l.length cap] w (.bool (testList l)) := by
  unfold Gives
  by_cases hl8 : 16 < l.length
  · have hv : Hid (false = testList l) := vAll_len hl8
    go_enter Try.func27, Try.ntmps27
    go_wp2
    go_ret
    exact ⟨ret_bool hv.out, Ext.refl _⟩
  go_enter Try.func27, Try.ntmps27
  go_wp2_with fail
  go_loopw [10] (fun i wr => ∃ k : Nat, k ≤ l.length ∧ i = .int .i64 k ∧ Hid (∀ j, j < k → vOk testB testOrd l j = true) ∧ Ext w wr) (fun i _ => l.length - (intOf i).toNat)
  case atStart => exact ⟨0, Nat.zero_le _, rfl, upto_zero, Ext.refl w⟩
  case round =>
    obtain ⟨k, hk, rfl, hall, he⟩ := hrel
    by_cases hlt : k < l.length
    · obtain ⟨b, off, rfl⟩ := H.base hlt
      obtain ⟨hb, c0, c1, c2, c3, c4⟩ := Test.at (H.ext he) k hlt
      have hz := (hsz k hlt)
      cases h1 : testB (nth l k)
      · have hv : Hid (false = testList l) := vAll_bad hlt (vOk_false1 h1)
        clear hsz H
        go_wp2_with fail
        refine region_quiet (by kernel_rfl) (by kernel_rfl) ?_
        repeat (any_goals (first | go_big_quiet_step ((exact Gives.quiet (Test_valid (nth l k) _))) | quiet_step ((exact Gives.quiet (Test_valid (nth l k) _)))))
        refine wpQuiet_nil ?_
        intro _ hw'
        obtain ⟨y, hw''⟩ := hw'
        subst hw''
        go_wp2
        go_ret
        exact ⟨ret_bool hv.out, (he.alloc _).lift y⟩
      · rcases Nat.eq_zero_or_pos k with hk0 | hk0
        · have hv : Hid (vOk testB testOrd l k = true) := vOk_true0 h1 hk0
          have hd : decide (0 < k) = false := decide_eq_false (by omega)
          clear hsz H hk0
          go_wp2_with fail
          refine region_quiet (by kernel_rfl) (by kernel_rfl) ?_
          repeat (any_goals (first | go_big_quiet_step ((exact Gives.quiet (Test_valid (nth l k) _))) | quiet_step ((exact Gives.quiet (Test_valid (nth l k) _)))))
          refine wpQuiet_nil ?_
          intro _ hw'
          obtain ⟨y, hw''⟩ := hw'
          subst hw''
          go_wp2
          go_roundw
          case rel => exact ⟨k + 1, by omega, by go_num, upto_succ hall.out hv.out, (he.alloc _).lift y⟩
          case measure => simp [intOf]; omega
        · obtain ⟨-, -, -, -, -, p0⟩ := Test.at (H.ext he) (k - 1) (by omega)
          have hd : decide (0 < k) = true := decide_eq_true hk0
          cases h2 : decide ((nth l (k - 1)).hour ≤ (nth l k).hour)
          all_goals
            first
              | have hv : Hid (vOk testB testOrd l k = true) := vOk_true1 h1 h2
              | have hv : Hid (false = testList l) := vAll_bad hlt (vOk_false2 hk0 h2)
            have h3 : decide ((nth l k).hour < (nth l (k - 1)).hour) = !decide ((nth l (k - 1)).hour ≤ (nth l k).hour) := by rw [Bool.eq_iff_iff]; simp
            rw [h2] at h3
            clear hsz H
            go_wp2_with fail
            refine region_quiet (by kernel_rfl) (by kernel_rfl) ?_
            repeat (any_goals (first | go_big_quiet_step ((exact Gives.quiet (Test_valid (nth l k) _))) | quiet_step ((exact Gives.quiet (Test_valid (nth l k) _)))))
            refine wpQuiet_nil ?_
            intro _ hw'
            obtain ⟨y, hw''⟩ := hw'
            subst hw''
            go_wp2
            first
              | (go_ret; exact ⟨ret_bool hv.out, (he.alloc _).lift y⟩)
              | (go_roundw
                 case rel => exact ⟨k + 1, by omega, by go_num, upto_succ hall.out hv.out, (he.alloc _).lift y⟩
                 case measure => simp [intOf]; omega)
    · have hv : Hid (testList l = decide (l.length ≤ 16)) := vAll_end fun j hj => hall.out j (by omega)
      have hl8' : decide (l.length ≤ 16) = true := decide_eq_true (by omega)
      clear hsz H
      go_wp2
      go_ret
      exact ⟨ret_bool (by rw [hv.out, hl8']), he⟩
set_option maxRecDepth 100000 in
set_option maxHeartbeats 2000000 in
theorem l08Ok_any (a : Option Addr) (cap : Nat) (l : List Test) (w : World) (H : TestAt w a l) (hsz : ∀ k, k < l.length → (nth l k).Small) (hlen : l.length ≤ 1048576) :
    Gives Try.prog 22 #[.slice a l.length cap] w (.bool (testList l)) := by
  unfold Gives
  go_enter Try.func22, Try.ntmps22
  go_wp2_with fail
  go_loopw [3] (fun i wr => ∃ k : Nat, k ≤ l.length ∧ i = .int .i64 k ∧ Hid (∀ j, j < k → vOk testB testOrd l j = true) ∧ Ext w wr) (fun i _ => l.length - (intOf i).toNat)
  case atStart => exact ⟨0, Nat.zero_le _, rfl, upto_zero, Ext.refl w⟩
  case round =>
    obtain ⟨k, hk, rfl, hall, he⟩ := hrel
    by_cases hlt : k < l.length
    · obtain ⟨b, off, rfl⟩ := H.base hlt
      obtain ⟨hb, c0, c1, c2, c3, c4⟩ := Test.at (H.ext he) k hlt
      have hz := (hsz k hlt)
      cases h1 : testB (nth l k)
      · have hv : Hid (false = testList l) := vAll_bad hlt (vOk_false1 h1)
        clear hsz H
        go_wp2_with fail
        refine region_quiet (by kernel_rfl) (by kernel_rfl) ?_
        repeat (any_goals (first | go_big_quiet_step ((first | exact Gives.quiet (l08One_any _ _ (nth l k) _ (by simp only [lift_cell _ _ _ _ hb, c0]) (by simp only [lift_cell _ _ _ _ hb, c1]) (by simp only [lift_cell _ _ _ _ hb, c2]) (by simp only [lift_cell _ _ _ _ hb, c3]) (by simp only [lift_cell _ _ _ _ hb, c4])) | exact Gives.quiet (Gives.same (l08One_any _ _ (nth l k) _ (by simp only [lift_cell _ _ _ _ hb, c0]) (by simp only [lift_cell _ _ _ _ hb, c1]) (by simp only [lift_cell _ _ _ _ hb, c2]) (by simp only [lift_cell _ _ _ _ hb, c3]) (by simp only [lift_cell _ _ _ _ hb, c4]))))) | quiet_step ((first | exact Gives.quiet (l08One_any _ _ (nth l k) _ (by simp only [lift_cell _ _ _ _ hb, c0]) (by simp only [lift_cell _ _ _ _ hb, c1]) (by simp only [lift_cell _ _ _ _ hb, c2]) (by simp only [lift_cell _ _ _ _ hb, c3]) (by simp only [lift_cell _ _ _ _ hb, c4])) | exact Gives.quiet (Gives.same (l08One_any _ _ (nth l k) _ (by simp only [lift_cell _ _ _ _ hb, c0]) (by simp only [lift_cell _ _ _ _ hb, c1]) (by simp only [lift_cell _ _ _ _ hb, c2]) (by simp only [lift_cell _ _ _ _ hb, c3]) (by simp only [lift_cell _ _ _ _ hb, c4])))))))
        refine wpQuiet_nil ?_
        intro _ hw'
        obtain ⟨y, hw''⟩ := hw'
        subst hw''
        go_wp2
        go_ret
        exact ⟨ret_bool hv.out, he.lift y⟩
      · rcases Nat.eq_zero_or_pos k with hk0 | hk0
        · have hv : Hid (vOk testB testOrd l k = true) := vOk_true0 h1 hk0
          have hd : decide (0 < k) = false := decide_eq_false (by omega)
          clear hsz H hk0
          go_wp2_with fail
          refine region_quiet (by kernel_rfl) (by kernel_rfl) ?_
          repeat (any_goals (first | go_big_quiet_step ((first | exact Gives.quiet (l08One_any _ _ (nth l k) _ (by simp only [lift_cell _ _ _ _ hb, c0]) (by simp only [lift_cell _ _ _ _ hb, c1]) (by simp only [lift_cell _ _ _ _ hb, c2]) (by simp only [lift_cell _ _ _ _ hb, c3]) (by simp only [lift_cell _ _ _ _ hb, c4])) | exact Gives.quiet (Gives.same (l08One_any _ _ (nth l k) _ (by simp only [lift_cell _ _ _ _ hb, c0]) (by simp only [lift_cell _ _ _ _ hb, c1]) (by simp only [lift_cell _ _ _ _ hb, c2]) (by simp only [lift_cell _ _ _ _ hb, c3]) (by simp only [lift_cell _ _ _ _ hb, c4]))))) | quiet_step ((first | exact Gives.quiet (l08One_any _ _ (nth l k) _ (by simp only [lift_cell _ _ _ _ hb, c0]) (by simp only [lift_cell _ _ _ _ hb, c1]) (by simp only [lift_cell _ _ _ _ hb, c2]) (by simp only [lift_cell _ _ _ _ hb, c3]) (by simp only [lift_cell _ _ _ _ hb, c4])) | exact Gives.quiet (Gives.same (l08One_any _ _ (nth l k) _ (by simp only [lift_cell _ _ _ _ hb, c0]) (by simp only [lift_cell _ _ _ _ hb, c1]) (by simp only [lift_cell _ _ _ _ hb, c2]) (by simp only [lift_cell _ _ _ _ hb, c3]) (by simp only [lift_cell _ _ _ _ hb, c4])))))))
          refine wpQuiet_nil ?_
          intro _ hw'
          obtain ⟨y, hw''⟩ := hw'
          subst hw''
          go_wp2
          go_roundw
          case rel => exact ⟨k + 1, by omega, by go_num, upto_succ hall.out hv.out, he.lift y⟩
          case measure => simp [intOf]; omega
        · obtain ⟨-, -, -, -, -, p0⟩ := Test.at (H.ext he) (k - 1) (by omega)
          have hd : decide (0 < k) = true := decide_eq_true hk0
          cases h2 : decide ((nth l (k - 1)).hour ≤ (nth l k).hour)
          all_goals
            first
              | have hv : Hid (vOk testB testOrd l k = true) := vOk_true1 h1 h2
              | have hv : Hid (false = testList l) := vAll_bad hlt (vOk_false2 hk0 h2)
            have h3 : decide ((nth l k).hour < (nth l (k - 1)).hour) = !decide ((nth l (k - 1)).hour ≤ (nth l k).hour) := by rw [Bool.eq_iff_iff]; simp
            rw [h2] at h3
            clear hsz H
            go_wp2_with fail
            refine region_quiet (by kernel_rfl) (by kernel_rfl) ?_
            repeat (any_goals (first | go_big_quiet_step ((first | exact Gives.quiet (l08One_any _ _ (nth l k) _ (by simp only [lift_cell _ _ _ _ hb, c0]) (by simp only [lift_cell _ _ _ _ hb, c1]) (by simp only [lift_cell _ _ _ _ hb, c2]) (by simp only [lift_cell _ _ _ _ hb, c3]) (by simp only [lift_cell _ _ _ _ hb, c4])) | exact Gives.quiet (Gives.same (l08One_any _ _ (nth l k) _ (by simp only [lift_cell _ _ _ _ hb, c0]) (by simp only [lift_cell _ _ _ _ hb, c1]) (by simp only [lift_cell _ _ _ _ hb, c2]) (by simp only [lift_cell _ _ _ _ hb, c3]) (by simp only [lift_cell _ _ _ _ hb, c4]))))) | quiet_step ((first | exact Gives.quiet (l08One_any _ _ (nth l k) _ (by simp only [lift_cell _ _ _ _ hb, c0]) (by simp only [lift_cell _ _ _ _ hb, c1]) (by simp only [lift_cell _ _ _ _ hb, c2]) (by simp only [lift_cell _ _ _ _ hb, c3]) (by simp only [lift_cell _ _ _ _ hb, c4])) | exact Gives.quiet (Gives.same (l08One_any _ _ (nth l k) _ (by simp only [lift_cell _ _ _ _ hb, c0]) (by simp only [lift_cell _ _ _ _ hb, c1]) (by simp only [lift_cell _ _ _ _ hb, c2]) (by simp only [lift_cell _ _ _ _ hb, c3]) (by simp only [lift_cell _ _ _ _ hb, c4])))))))
            refine wpQuiet_nil ?_
            intro _ hw'
            obtain ⟨y, hw''⟩ := hw'
            subst hw''
            go_wp2
            first
              | (go_ret; exact ⟨ret_bool hv.out, he.lift y⟩)
              | (go_roundw
                 case rel => exact ⟨k + 1, by omega, by go_num, upto_succ hall.out hv.out, he.lift y⟩
                 case measure => simp [intOf]; omega)
    · have hv : Hid (testList l = decide (l.length ≤ 16)) := vAll_end fun j hj => hall.out j (by omega)
      clear hsz H
      go_wp2
      go_ret
      exact ⟨ret_bool (by rw [hv.out, Bool.eq_iff_iff, decide_eq_true_eq, decide_eq_true_eq]; omega), he⟩
theorem testList_len {l : List Test} (h : testList l = true) : l.length ≤ 16 := vAll_len_le h
end Go.Proofs.Ytdopffhekinbnaa
