/- Chapter 25: the table of survival, in the program and in the reference. Each hands back 'surv', for minutes that are not negative and not too large. -/
import Derived.Test.YtccbcjopmkmipaaDoorBasics
namespace Go.Proofs.YtccbcjopmkmipaaDoor
open Go.RowKit

/-! ### Survival -/
def tm : Nat → Int | 0 => 0 | 1 => 10 | 2 => 15 | 3 => 35 | 4 => 60 | 5 => 90 | 6 => 130 | _ => 180
def ch : Nat → Int | 0 => 1000 | 1 => 930 | 2 => 900 | 3 => 320 | 4 => 280 | 5 => 240 | 6 => 100 | _ => 30
def surv (m : Int) : Int := if 180 ≤ m then 30 else
  let k := if m < 10 then 0 else if m < 15 then 1 else if m < 35 then 2 else if m < 60 then 3 else if m < 90 then 4 else if m < 130 then 5 else 6
  ch k + rdiv ((ch (k + 1) - ch k) * (m - tm k)) (tm (k + 1) - tm k)
theorem nat7 {k : Nat} (h : k < 7) : k = 0 ∨ k = 1 ∨ k = 2 ∨ k = 3 ∨ k = 4 ∨ k = 5 ∨ k = 6 := by omega
theorem tm_bd (k : Nat) : 0 ≤ tm k ∧ tm k ≤ 180 := by unfold tm; split <;> omega
theorem ch_bd (k : Nat) : 30 ≤ ch k ∧ ch k ≤ 1000 := by unfold ch; split <;> omega
theorem tm_lt {k : Nat} (h : k < 7) : tm k < tm (k + 1) := by rcases nat7 h with rfl | rfl | rfl | rfl | rfl | rfl | rfl <;> decide
theorem surv_at {m : Int} {k : Nat} (hk : k < 7) (h0 : tm k ≤ m) (h1 : m < tm (k + 1)) : surv m = ch k + rdiv ((ch (k + 1) - ch k) * (m - tm k)) (tm (k + 1) - tm k) := by
  unfold surv
  rcases nat7 hk with rfl | rfl | rfl | rfl | rfl | rfl | rfl
  all_goals
    simp only [tm] at h0 h1
    rw [if_neg (by omega)]
    first
      | rw [if_pos (by omega)]
      | rw [if_neg (by omega), if_pos (by omega)]
      | rw [if_neg (by omega), if_neg (by omega), if_pos (by omega)]
      | rw [if_neg (by omega), if_neg (by omega), if_neg (by omega), if_pos (by omega)]
      | rw [if_neg (by omega), if_neg (by omega), if_neg (by omega), if_neg (by omega), if_pos (by omega)]
      | rw [if_neg (by omega), if_neg (by omega), if_neg (by omega), if_neg (by omega), if_neg (by omega), if_pos (by omega)]
      | rw [if_neg (by omega), if_neg (by omega), if_neg (by omega), if_neg (by omega), if_neg (by omega), if_neg (by omega)]
theorem surv_late {m : Int} (h : 180 ≤ m) : surv m = 30 := if_pos h
/-- How the program reckons it. -/
theorem surv_line {m : Int} {k : Nat} (hk : k < 7) (h0 : tm k ≤ m) (h1 : m < tm (k + 1) ∨ k = 6) : lineI (tm k) (ch k) (tm (k + 1)) (ch (k + 1)) m = surv m := by
  have hlt := tm_lt hk
  unfold lineI
  by_cases h2 : m < tm (k + 1)
  · rw [surv_at hk h0 h2]
    by_cases h3 : m ≤ tm k
    · rw [if_pos (.inl h3), show m - tm k = 0 by omega, Int.mul_zero, rdiv_down (by omega) (by omega) (by simp; omega)]; simp
    · rw [if_neg (by omega), if_neg (by omega)]
  · obtain rfl : k = 6 := by rcases h1 with h1 | h1; exact absurd h1 h2; exact h1
    simp only [tm] at h0 h2 ⊢
    rw [if_neg (by omega), if_pos (by omega), surv_late (by omega)]; rfl
theorem surv_bd0 {k : Nat} {m : Int} (hk : k < 7) (h0 : tm k ≤ m) (h1 : m < tm (k + 1)) : -970000 ≤ (ch (k + 1) - ch k) * (m - tm k) ∧ (ch (k + 1) - ch k) * (m - tm k) ≤ 0 := by
  rcases nat7 hk with rfl | rfl | rfl | rfl | rfl | rfl | rfl <;> simp only [tm, ch] at * <;> omega
set_option maxHeartbeats 1000000 in
theorem survivalAt_any (m : Int) (w : World) (h0 : 0 ≤ m) (h1 : m ≤ 1000000000) :
    Gives Tryd.prog 27 #[.int .i64 m] w (.int .i64 (surv m)) := by
  unfold Gives
  go_enter Tryd.func27, Tryd.ntmps27
  go_wp2_with fail
  obtain ⟨W, hW⟩ : ∃ W, W = w.alloc (.cells #[.int .i64 0, .int .i64 1000, .int .i64 10, .int .i64 930, .int .i64 15, .int .i64 900, .int .i64 35, .int .i64 320, .int .i64 60, .int .i64 280, .int .i64 90, .int .i64 240, .int .i64 130, .int .i64 100, .int .i64 180, .int .i64 30] 71) := ⟨_, rfl⟩
  have c0 : ∀ j, j < 8 → W.cell? ⟨w.heap.size, j * 2, none⟩ = some (.int .i64 (tm j)) := by
    intro j hj
    rw [hW, cell_new]
    rcases (show j = 0 ∨ j = 1 ∨ j = 2 ∨ j = 3 ∨ j = 4 ∨ j = 5 ∨ j = 6 ∨ j = 7 by omega) with rfl | rfl | rfl | rfl | rfl | rfl | rfl | rfl <;> rfl
  have c1 : ∀ j, j < 8 → W.cell? ⟨w.heap.size, j * 2 + 1, none⟩ = some (.int .i64 (ch j)) := by
    intro j hj
    rw [hW, cell_new]
    rcases (show j = 0 ∨ j = 1 ∨ j = 2 ∨ j = 3 ∨ j = 4 ∨ j = 5 ∨ j = 6 ∨ j = 7 by omega) with rfl | rfl | rfl | rfl | rfl | rfl | rfl | rfl <;> rfl
  have hB : w.heap.size < W.heap.size := by rw [hW, size_new]; omega
  have hE : Ext w W := by rw [hW]; exact (Ext.refl w).alloc _
  rw [← hW]
  clear hW
  generalize w.heap.size = B at *
  have C0 := Lib.hid c0
  have C1 := Lib.hid c1
  clear c0 c1
  go_loop [4] (fun i => ∃ k : Nat, k ≤ 6 ∧ i = .int .i64 k ∧ tm k ≤ m) (fun i => 6 - (intOf i).toNat)
  case atStart => exact ⟨0, by omega, rfl, h0⟩
  case round =>
    obtain ⟨k, hk, rfl, hr⟩ := hrel
    have d0 := C0.out k (by omega)
    have d1 := C1.out k (by omega)
    have e0 := C0.out (k + 1) (by omega)
    have e1 := C1.out (k + 1) (by omega)
    by_cases hlt : k < 6
    · by_cases h2 : tm (k + 1) ≤ m
      · go_wp2
        go_round
        case rel => exact ⟨k + 1, by omega, by go_num, h2⟩
        case measure => simp [intOf]; omega
      · have hs : Hid (lineI (tm k) (ch k) (tm (k + 1)) (ch (k + 1)) m = surv m) := surv_line (by omega) hr (by omega)
        have b1 := tm_bd k
        have b2 := tm_bd (k + 1)
        have b3 := ch_bd k
        have b4 := ch_bd (k + 1)
        go_wp2_with fail
        refine region_quiet (by kernel_rfl) (by kernel_rfl) ?_
        repeat (any_goals (first | go_big_quiet_step ((exact Gives.quiet (blend_any _ _ _ _ _ _ (by omega) (by omega) (by omega) (by omega) (by omega) (by omega) (by omega) (by omega) (by omega) (by omega)))) | quiet_step ((exact Gives.quiet (blend_any _ _ _ _ _ _ (by omega) (by omega) (by omega) (by omega) (by omega) (by omega) (by omega) (by omega) (by omega) (by omega))))))
        refine wpQuiet_nil ?_
        intro _ hw'
        obtain ⟨y, hw''⟩ := hw'
        subst hw''
        go_wp2
        go_ret
        exact ⟨ret_int hs.out, hE.lift y⟩
    · have hs : Hid (lineI (tm k) (ch k) (tm (k + 1)) (ch (k + 1)) m = surv m) := surv_line (by omega) hr (by omega)
      have b1 := tm_bd k
      have b2 := tm_bd (k + 1)
      have b3 := ch_bd k
      have b4 := ch_bd (k + 1)
      go_wp2_with fail
      refine region_quiet (by kernel_rfl) (by kernel_rfl) ?_
      repeat (any_goals (first | go_big_quiet_step ((exact Gives.quiet (blend_any _ _ _ _ _ _ (by omega) (by omega) (by omega) (by omega) (by omega) (by omega) (by omega) (by omega) (by omega) (by omega)))) | quiet_step ((exact Gives.quiet (blend_any _ _ _ _ _ _ (by omega) (by omega) (by omega) (by omega) (by omega) (by omega) (by omega) (by omega) (by omega) (by omega))))))
      refine wpQuiet_nil ?_
      intro _ hw'
      obtain ⟨y, hw''⟩ := hw'
      subst hw''
      go_wp2
      go_ret
      exact ⟨ret_int hs.out, hE.lift y⟩
def timesObj : Array Value := #[.int .i64 0, .int .i64 10, .int .i64 15, .int .i64 35, .int .i64 60, .int .i64 90, .int .i64 130, .int .i64 180]
def chancesObj : Array Value := #[.int .i64 1000, .int .i64 930, .int .i64 900, .int .i64 320, .int .i64 280, .int .i64 240, .int .i64 100, .int .i64 30]
theorem l25Times_any (w : World) :
    Calls Tryd.prog 54 #[] w fun e w' => e = .returned (.slice (some ⟨w.heap.size, 0, none⟩) 8 8) ∧ w' = w.alloc (.cells timesObj 2) := by
  have H : Hid (timesObj = #[.int .i64 0, .int .i64 10, .int .i64 15, .int .i64 35, .int .i64 60, .int .i64 90, .int .i64 130, .int .i64 180]) := rfl
  go_enter Tryd.func54, Tryd.ntmps54
  go_wp2
  go_ret
  exact ⟨rfl, by rw [H.out]⟩
theorem l25Chances_any (w : World) :
    Calls Tryd.prog 55 #[] w fun e w' => e = .returned (.slice (some ⟨w.heap.size, 0, none⟩) 8 8) ∧ w' = w.alloc (.cells chancesObj 2) := by
  have H : Hid (chancesObj = #[.int .i64 1000, .int .i64 930, .int .i64 900, .int .i64 320, .int .i64 280, .int .i64 240, .int .i64 100, .int .i64 30]) := rfl
  go_enter Tryd.func55, Tryd.ntmps55
  go_wp2
  go_ret
  exact ⟨rfl, by rw [H.out]⟩
set_option maxHeartbeats 1000000 in
theorem l25Survival_any (m : Int) (w : World) (h0 : 0 ≤ m) (h1 : m ≤ 1000000000) :
    Gives Tryd.prog 40 #[.int .i64 m] w (.int .i64 (surv m)) := by
  unfold Gives
  obtain ⟨W, hW⟩ : ∃ W, W = (w.alloc (.cells timesObj 2)).alloc (.cells chancesObj 2) := ⟨_, rfl⟩
  have c0 : ∀ j, j < 8 → W.cell? ⟨w.heap.size, j, none⟩ = some (.int .i64 (tm j)) := by
    intro j hj
    rw [hW]
    refine ((Ext.refl _).alloc _).cell ?_
    rw [cell_new]
    rcases (show j = 0 ∨ j = 1 ∨ j = 2 ∨ j = 3 ∨ j = 4 ∨ j = 5 ∨ j = 6 ∨ j = 7 by omega) with rfl | rfl | rfl | rfl | rfl | rfl | rfl | rfl <;> rfl
  have c1 : ∀ j, j < 8 → W.cell? ⟨w.heap.size + 1, j, none⟩ = some (.int .i64 (ch j)) := by
    intro j hj
    rw [hW, ← size_new w (.cells timesObj 2), cell_new]
    rcases (show j = 0 ∨ j = 1 ∨ j = 2 ∨ j = 3 ∨ j = 4 ∨ j = 5 ∨ j = 6 ∨ j = 7 by omega) with rfl | rfl | rfl | rfl | rfl | rfl | rfl | rfl <;> rfl
  have hB : w.heap.size < W.heap.size := by rw [hW, size_new, size_new]; omega
  have hB' : w.heap.size + 1 < W.heap.size := by rw [hW, size_new, size_new]; omega
  have hE : Ext w W := by rw [hW]; exact ((Ext.refl w).alloc _).alloc _
  have t7 := c0 7 (by omega)
  have t7' := c1 7 (by omega)
  have C0 := Lib.hid c0
  have C1 := Lib.hid c1
  clear c0 c1
  have HW := Lib.hid hW
  clear hW
  by_cases hl : 180 ≤ m
  · have hs : Hid (30 = surv m) := (surv_late hl).symm
    simp only [tm, ch] at t7 t7'
    go_enter Tryd.func40, Tryd.ntmps40
    go_wp2_with (first | (go_at_call 54; refine (l25Times_any _).mono ?_; rintro e w' ⟨rfl, rfl⟩) | (go_at_call 55; refine (l25Chances_any _).mono ?_; rintro e w' ⟨rfl, rfl⟩; rw [← HW.out]))
    go_ret
    exact ⟨ret_int hs.out, hE⟩
  · simp only [tm, ch] at t7 t7'
    go_enter Tryd.func40, Tryd.ntmps40
    go_wp2_with (first | (go_at_call 54; refine (l25Times_any _).mono ?_; rintro e w' ⟨rfl, rfl⟩) | (go_at_call 55; refine (l25Chances_any _).mono ?_; rintro e w' ⟨rfl, rfl⟩; rw [← HW.out]))
    go_loop [6] (fun i => ∃ k : Nat, k ≤ 6 ∧ i = .int .i64 k ∧ tm k ≤ m) (fun i => 6 - (intOf i).toNat)
    case atStart => exact ⟨0, by omega, rfl, h0⟩
    case round =>
      obtain ⟨k, hk, rfl, hr⟩ := hrel
      have d0 := C0.out k (by omega)
      have d1 := C1.out k (by omega)
      have e0 := C0.out (k + 1) (by omega)
      have e1 := C1.out (k + 1) (by omega)
      by_cases h2 : tm (k + 1) ≤ m
      · have hk6 : k < 6 := by
          rcases Nat.lt_or_ge k 6 with h | h
          · exact h
          · obtain rfl : k = 6 := by omega
            simp only [tm] at h2; omega
        go_wp2
        go_round
        case rel => exact ⟨k + 1, by omega, by go_num, h2⟩
        case measure => simp [intOf]; omega
      · have hs : Hid (surv m = ch k + rdiv ((ch (k + 1) - ch k) * (m - tm k)) (tm (k + 1) - tm k)) := surv_at (by omega) hr (by omega)
        have hd := surv_bd0 (k := k) (by omega) hr (by omega)
        have b1 := tm_bd k
        have b2 := tm_bd (k + 1)
        have b3 := ch_bd k
        have b4 := ch_bd (k + 1)
        have b5 := tm_lt (k := k) (by omega)
        have hb := rdiv_bd (a := (ch (k + 1) - ch k) * (m - tm k)) (b := tm (k + 1) - tm k) (by omega)
        have hab : absI ((ch (k + 1) - ch k) * (m - tm k)) ≤ 970000 := by unfold absI; split <;> omega
        have k1 : -970000 ≤ rdiv ((ch (k + 1) - ch k) * (m - tm k)) (tm (k + 1) - tm k) := by omega
        have k2 : rdiv ((ch (k + 1) - ch k) * (m - tm k)) (tm (k + 1) - tm k) ≤ 970000 := by omega
        clear hb hab
        go_wp2_with fail
        refine region_quiet (by kernel_rfl) (by kernel_rfl) ?_
        repeat (any_goals (first | go_big_quiet_step ((exact Gives.quiet (Gives.same (l01Div_any _ _ _ (by omega) (by omega) (by omega) (by omega))))) | quiet_step ((exact Gives.quiet (Gives.same (l01Div_any _ _ _ (by omega) (by omega) (by omega) (by omega)))))))
        refine wpQuiet_nil ?_
        intro _ hw'
        obtain ⟨y, hw''⟩ := hw'
        subst hw''
        go_wp2
        go_ret
        exact ⟨ret_int hs.out.symm, hE.lift y⟩
end Go.Proofs.YtccbcjopmkmipaaDoor
