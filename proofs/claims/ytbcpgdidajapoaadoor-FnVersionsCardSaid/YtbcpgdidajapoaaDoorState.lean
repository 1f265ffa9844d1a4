/- States, memos: when they are valid. What the program's and the reference's functions say. -/
import Derived.Test.YtbcpgdidajapoaaDoorSetting
import Derived.Test.YtbcpgdidajapoaaDoorValid
namespace Go.Proofs.YtbcpgdidajapoaaDoor
open Go.RowKit
theorem Setting.Small.sz {x : Setting} (h : x.Small) : x.name.size ≤ 2000000 := by unfold Setting.Small at h; omega
def settingOrd (x y : Setting) : Bool := sLt x.name y.name
/-- The list is valid. -/
def settingList (l : List Setting) : Bool := vAll settingB settingOrd 24 l
set_option maxRecDepth 100000 in
set_option maxHeartbeats 2000000 in
theorem ValidSettings_any (a : Option Addr) (cap : Nat) (l : List Setting) (w : World) (H : SettingAt w a l) (hsz : ∀ k, k < l.length → (nth l k).Small) (hlen : l.length ≤ 1048576) :
    Gives Tryd.prog 24 #[.slice a l.length cap] w (.bool (settingList l)) := by
  unfold Gives
  by_cases hl8 : 24 < l.length
  · have hv : Hid (false = settingList l) := vAll_len hl8
    go_enter Tryd.func24, Tryd.ntmps24
    go_wp2
    go_ret
    exact ⟨ret_bool hv.out, Ext.refl _⟩
  go_enter Tryd.func24, Tryd.ntmps24
  go_wp2_with fail
  go_loopw [10] (fun i wr => ∃ k : Nat, k ≤ l.length ∧ i = .int .i64 k ∧ Hid (∀ j, j < k → vOk settingB settingOrd l j = true) ∧ Ext w wr) (fun i _ => l.length - (intOf i).toNat)
  case atStart => exact ⟨0, Nat.zero_le _, rfl, upto_zero, Ext.refl w⟩
  case round =>
    obtain ⟨k, hk, rfl, hall, he⟩ := hrel
    by_cases hlt : k < l.length
    · obtain ⟨b, off, rfl⟩ := H.base hlt
      obtain ⟨hb, c0, c1⟩ := Setting.at (H.ext he) k hlt
      have hz := (hsz k hlt).sz
      cases h1 : settingB (nth l k)
      · have hv : Hid (false = settingList l) := vAll_bad hlt (vOk_false1 h1)
        clear hsz H
        go_wp2_with fail
        refine region_quiet (by kernel_rfl) (by kernel_rfl) ?_
        repeat (any_goals (first | go_big_quiet_step ((exact Gives.quiet (Setting_valid (nth l k) _ hz))) | quiet_step ((exact Gives.quiet (Setting_valid (nth l k) _ hz)))))
        refine wpQuiet_nil ?_
        intro _ hw'
        obtain ⟨y, hw''⟩ := hw'
        subst hw''
        go_wp2
        go_ret
        exact ⟨ret_bool hv.out, (he.alloc _).lift y⟩
      · rcases Nat.eq_zero_or_pos k with hk0 | hk0
        · have hv : Hid (vOk settingB settingOrd l k = true) := vOk_true0 h1 hk0
          have hd : decide (0 < k) = false := decide_eq_false (by omega)
          clear hsz H hk0
          go_wp2_with fail
          refine region_quiet (by kernel_rfl) (by kernel_rfl) ?_
          repeat (any_goals (first | go_big_quiet_step ((exact Gives.quiet (Setting_valid (nth l k) _ hz))) | quiet_step ((exact Gives.quiet (Setting_valid (nth l k) _ hz)))))
          refine wpQuiet_nil ?_
          intro _ hw'
          obtain ⟨y, hw''⟩ := hw'
          subst hw''
          go_wp2
          go_roundw
          case rel => exact ⟨k + 1, by omega, by go_num, upto_succ hall.out hv.out, (he.alloc _).lift y⟩
          case measure => simp [intOf]; omega
        · obtain ⟨-, p0, -⟩ := Setting.at (H.ext he) (k - 1) (by omega)
          have hd : decide (0 < k) = true := decide_eq_true hk0
          cases h2 : sLt (nth l (k - 1)).name (nth l k).name
          all_goals
            first
              | have hv : Hid (vOk settingB settingOrd l k = true) := vOk_true1 h1 h2
              | have hv : Hid (false = settingList l) := vAll_bad hlt (vOk_false2 hk0 h2)
            clear hsz H
            go_wp2_with fail
            refine region_quiet (by kernel_rfl) (by kernel_rfl) ?_
            repeat (any_goals (first | go_big_quiet_step ((exact Gives.quiet (Setting_valid (nth l k) _ hz))) | quiet_step ((exact Gives.quiet (Setting_valid (nth l k) _ hz)))))
            refine wpQuiet_nil ?_
            intro _ hw'
            obtain ⟨y, hw''⟩ := hw'
            subst hw''
            go_wp2
            first
              | (go_ret; exact ⟨ret_bool hv.out, (he.alloc _).lift y⟩)
              | (go_roundw
                 case rel => exact ⟨k + 1, by omega, by go_num, upto_succ hall.out hv.out, (he.alloc _).lift y⟩
                 case measure => simp [intOf]; omega)
    · have hv : Hid (settingList l = decide (l.length ≤ 24)) := vAll_end fun j hj => hall.out j (by omega)
      have hl8' : decide (l.length ≤ 24) = true := decide_eq_true (by omega)
      clear hsz H
      go_wp2
      go_ret
      exact ⟨ret_bool (by rw [hv.out, hl8']), he⟩
set_option maxRecDepth 100000 in
set_option maxHeartbeats 2000000 in
theorem l27State_any (a : Option Addr) (cap : Nat) (l : List Setting) (w : World) (H : SettingAt w a l) (hsz : ∀ k, k < l.length → (nth l k).Small) (hlen : l.length ≤ 1048576) :
    Gives Tryd.prog 65 #[.slice a l.length cap] w (.bool (settingList l)) := by
  unfold Gives
  go_enter Tryd.func65, Tryd.ntmps65
  go_wp2_with fail
  go_loopw [3] (fun i wr => ∃ k : Nat, k ≤ l.length ∧ i = .int .i64 k ∧ Hid (∀ j, j < k → vOk settingB settingOrd l j = true) ∧ Ext w wr) (fun i _ => l.length - (intOf i).toNat)
  case atStart => exact ⟨0, Nat.zero_le _, rfl, upto_zero, Ext.refl w⟩
  case round =>
    obtain ⟨k, hk, rfl, hall, he⟩ := hrel
    by_cases hlt : k < l.length
    · obtain ⟨b, off, rfl⟩ := H.base hlt
      obtain ⟨hb, c0, c1⟩ := Setting.at (H.ext he) k hlt
      have hz := (hsz k hlt).sz
      cases h1 : settingB (nth l k)
      · have hv : Hid (false = settingList l) := vAll_bad hlt (vOk_false1 h1)
        clear hsz H
        go_wp2_with fail
        refine region_quiet (by kernel_rfl) (by kernel_rfl) ?_
        repeat (any_goals (first | go_big_quiet_step ((first | exact Gives.quiet (l27Setting_any _ _ (nth l k) _ hz (by simp only [lift_cell _ _ _ _ hb, c0]) (by simp only [lift_cell _ _ _ _ hb, c1])) | exact Gives.quiet (Gives.same (l27Setting_any _ _ (nth l k) _ hz (by simp only [lift_cell _ _ _ _ hb, c0]) (by simp only [lift_cell _ _ _ _ hb, c1]))))) | quiet_step ((first | exact Gives.quiet (l27Setting_any _ _ (nth l k) _ hz (by simp only [lift_cell _ _ _ _ hb, c0]) (by simp only [lift_cell _ _ _ _ hb, c1])) | exact Gives.quiet (Gives.same (l27Setting_any _ _ (nth l k) _ hz (by simp only [lift_cell _ _ _ _ hb, c0]) (by simp only [lift_cell _ _ _ _ hb, c1])))))))
        refine wpQuiet_nil ?_
        intro _ hw'
        obtain ⟨y, hw''⟩ := hw'
        subst hw''
        go_wp2
        go_ret
        exact ⟨ret_bool hv.out, he.lift y⟩
      · rcases Nat.eq_zero_or_pos k with hk0 | hk0
        · have hv : Hid (vOk settingB settingOrd l k = true) := vOk_true0 h1 hk0
          have hd : decide (0 < k) = false := decide_eq_false (by omega)
          clear hsz H hk0
          go_wp2_with fail
          refine region_quiet (by kernel_rfl) (by kernel_rfl) ?_
          repeat (any_goals (first | go_big_quiet_step ((first | exact Gives.quiet (l27Setting_any _ _ (nth l k) _ hz (by simp only [lift_cell _ _ _ _ hb, c0]) (by simp only [lift_cell _ _ _ _ hb, c1])) | exact Gives.quiet (Gives.same (l27Setting_any _ _ (nth l k) _ hz (by simp only [lift_cell _ _ _ _ hb, c0]) (by simp only [lift_cell _ _ _ _ hb, c1]))))) | quiet_step ((first | exact Gives.quiet (l27Setting_any _ _ (nth l k) _ hz (by simp only [lift_cell _ _ _ _ hb, c0]) (by simp only [lift_cell _ _ _ _ hb, c1])) | exact Gives.quiet (Gives.same (l27Setting_any _ _ (nth l k) _ hz (by simp only [lift_cell _ _ _ _ hb, c0]) (by simp only [lift_cell _ _ _ _ hb, c1])))))))
          refine wpQuiet_nil ?_
          intro _ hw'
          obtain ⟨y, hw''⟩ := hw'
          subst hw''
          go_wp2
          go_roundw
          case rel => exact ⟨k + 1, by omega, by go_num, upto_succ hall.out hv.out, he.lift y⟩
          case measure => simp [intOf]; omega
        · obtain ⟨-, p0, -⟩ := Setting.at (H.ext he) (k - 1) (by omega)
          have hd : decide (0 < k) = true := decide_eq_true hk0
          cases h2 : sLt (nth l (k - 1)).name (nth l k).name
          all_goals
            first
              | have hv : Hid (vOk settingB settingOrd l k = true) := vOk_true1 h1 h2
              | have hv : Hid (false = settingList l) := vAll_bad hlt (vOk_false2 hk0 h2)
            clear hsz H
            go_wp2_with fail
            refine region_quiet (by kernel_rfl) (by kernel_rfl) ?_
            repeat (any_goals (first | go_big_quiet_step ((first | exact Gives.quiet (l27Setting_any _ _ (nth l k) _ hz (by simp only [lift_cell _ _ _ _ hb, c0]) (by simp only [lift_cell _ _ _ _ hb, c1])) | exact Gives.quiet (Gives.same (l27Setting_any _ _ (nth l k) _ hz (by simp only [lift_cell _ _ _ _ hb, c0]) (by simp only [lift_cell _ _ _ _ hb, c1]))))) | quiet_step ((first | exact Gives.quiet (l27Setting_any _ _ (nth l k) _ hz (by simp only [lift_cell _ _ _ _ hb, c0]) (by simp only [lift_cell _ _ _ _ hb, c1])) | exact Gives.quiet (Gives.same (l27Setting_any _ _ (nth l k) _ hz (by simp only [lift_cell _ _ _ _ hb, c0]) (by simp only [lift_cell _ _ _ _ hb, c1])))))))
            refine wpQuiet_nil ?_
            intro _ hw'
            obtain ⟨y, hw''⟩ := hw'
            subst hw''
            go_wp2
            first
              | (go_ret; exact ⟨ret_bool hv.out, he.lift y⟩)
              | (go_roundw
                 case rel => exact ⟨k + 1, by omega, by go_num, upto_succ hall.out hv.out, he.lift y⟩
                 case measure => simp [intOf]; omega)
    · have hv : Hid (settingList l = decide (l.length ≤ 24)) := vAll_end fun j hj => hall.out j (by omega)
      clear hsz H
      go_wp2
      go_ret
      exact ⟨ret_bool (by rw [hv.out, Bool.eq_iff_iff, decide_eq_true_eq, decide_eq_true_eq]; omega), he⟩
def okIn (lo hi : Int) (c : UInt8) : Bool := decide (lo ≤ (c.toNat : Int)) && decide ((c.toNat : Int) ≤ hi)
def bytesIn (lo hi : Int) (s : ByteArray) : Bool := s.data.toList.all (okIn lo hi)
theorem bytesIn_iff {lo hi : Int} {s : ByteArray} : bytesIn lo hi s = true ↔ ∀ k, (h : k < s.size) → okIn lo hi s[k] = true := by
  unfold bytesIn
  rw [List.all_eq_true]
  constructor
  · intro h k hk; exact h _ (by rw [show s[k] = s.data.toList[k] from rfl]; exact List.getElem_mem _)
  · intro h x hx
    obtain ⟨k, hk, rfl⟩ := List.getElem_of_mem hx
    exact h k (by simpa using hk)
theorem bytesIn_true {lo hi : Int} {s : ByteArray} (h : ∀ k, (h : k < s.size) → okIn lo hi s[k] = true) : true = bytesIn lo hi s := (bytesIn_iff.2 h).symm
theorem bytesIn_false {lo hi : Int} {s : ByteArray} (k : Nat) (hk : k < s.size) (h : okIn lo hi s[k] = false) : false = bytesIn lo hi s := by
  symm; rw [← Bool.not_eq_true]; intro hb; have := bytesIn_iff.1 hb k hk; rw [h] at this; cases this
theorem okIn_true {lo hi : Int} {c : UInt8} (h : lo ≤ (c.toNat : Int) ∧ (c.toNat : Int) ≤ hi) : okIn lo hi c = true := by unfold okIn; simpa using h
theorem okIn_false {lo hi : Int} {c : UInt8} (h : ¬ (lo ≤ (c.toNat : Int) ∧ (c.toNat : Int) ≤ hi)) : okIn lo hi c = false := by
  rw [← Bool.not_eq_true]; unfold okIn; simpa using h
def memoB (s : ByteArray) : Bool := decide (s.size ≤ 20) && bytesIn 32 126 s
theorem memoB_size {s : ByteArray} (h : memoB s = true) : s.size ≤ 20 := by unfold memoB at h; simp only [Bool.and_eq_true, decide_eq_true_eq] at h; exact h.1
set_option maxHeartbeats 1000000 in
theorem bytesWithin_any (s : ByteArray) (lo hi : Int) (w : World) (hs : s.size ≤ 1000000000000) :
    Calls Tryd.prog 57 #[.string s, .int .u8 lo, .int .u8 hi] w fun e w' => e = .returned (.bool (bytesIn lo hi s)) ∧ w' = w := by
  go_enter Tryd.func57, Tryd.ntmps57
  go_wp2
  go_loop [10] (fun i => ∃ k : Nat, k ≤ s.size ∧ i = .int .i64 k ∧ Hid (∀ j, (h : j < s.size) → j < k → okIn lo hi s[j] = true)) (fun i => s.size - (intOf i).toNat)
  case atStart => exact ⟨0, Nat.zero_le _, rfl, fun j _ h => absurd h (Nat.not_lt_zero _)⟩
  case round =>
    obtain ⟨k, hk, rfl, hall⟩ := hrel
    by_cases hlt : k < s.size
    · have hnext : Hid (okIn lo hi s[k] = true → ∀ j, (h : j < s.size) → j < k + 1 → okIn lo hi s[j] = true) := fun h0 j hj h => by
        rcases Nat.lt_or_ge j k with h1 | h1
        · exact hall.out j hj h1
        · obtain rfl : j = k := by omega
          exact h0
      go_wp2
      all_goals first
        | (go_ret; exact ⟨ret_bool (bytesIn_false k hlt (okIn_false (by omega))), rfl⟩)
        | (go_round
           case rel => exact ⟨k + 1, by omega, by go_num, hnext.out (okIn_true (by omega))⟩
           case measure => simp [intOf]; omega)
    · go_wp2
      go_ret
      exact ⟨ret_bool (bytesIn_true fun j hj => hall.out j hj (by omega)), rfl⟩
set_option maxHeartbeats 1000000 in
theorem memoValid_any (s : ByteArray) (w : World) (hs : s.size ≤ 1000000000000) :
    Calls Tryd.prog 36 #[.string s] w fun e w' => e = .returned (.bool (memoB s)) ∧ w' = w := by
  have H : Hid (memoB s = (decide (s.size ≤ 20) && bytesIn 32 126 s)) := rfl
  by_cases h1 : s.size ≤ 20
  all_goals
    go_enter Tryd.func36, Tryd.ntmps36
    go_wp2_with (go_at_call 57; refine (bytesWithin_any _ _ _ _ hs).mono ?_; rintro e w' ⟨rfl, rfl⟩)
    go_ret
    exact ⟨ret_bool (by rw [H.out]; simp [h1]), rfl⟩
set_option maxHeartbeats 1000000 in
theorem l27Memo_any (s : ByteArray) (w : World) (hs : s.size ≤ 1000000000000) :
    Calls Tryd.prog 64 #[.string s] w fun e w' => e = .returned (.bool (memoB s)) ∧ w' = w := by
  have H : Hid (memoB s = (decide (s.size ≤ 20) && bytesIn 32 126 s)) := rfl
  go_enter Tryd.func64, Tryd.ntmps64
  go_wp2
  go_loop [3] (fun i => ∃ k : Nat, k ≤ s.size ∧ i = .int .i64 k ∧ Hid (∀ j, (h : j < s.size) → j < k → okIn 32 126 s[j] = true)) (fun i => s.size - (intOf i).toNat)
  case atStart => exact ⟨0, Nat.zero_le _, rfl, fun j _ h => absurd h (Nat.not_lt_zero _)⟩
  case round =>
    obtain ⟨k, hk, rfl, hall⟩ := hrel
    by_cases hlt : k < s.size
    · have hnext : Hid (okIn 32 126 s[k] = true → ∀ j, (h : j < s.size) → j < k + 1 → okIn 32 126 s[j] = true) := fun h0 j hj h => by
        rcases Nat.lt_or_ge j k with h1 | h1
        · exact hall.out j hj h1
        · obtain rfl : j = k := by omega
          exact h0
      have hbad : Hid (okIn 32 126 s[k] = false → false = memoB s) := fun h => by rw [H.out, ← bytesIn_false k hlt h]; simp
      go_wp2
      all_goals first
        | (go_ret; exact ⟨ret_bool (hbad.out (okIn_false (by omega))), rfl⟩)
        | (go_round
           case rel => exact ⟨k + 1, by omega, by go_num, hnext.out (okIn_true (by omega))⟩
           case measure => simp [intOf]; omega)
    · have hv : Hid (memoB s = decide (s.size ≤ 20)) := by show _ = _; rw [H.out, ← bytesIn_true fun j hj => hall.out j hj (by omega)]; simp
      go_wp2
      go_ret
      exact ⟨ret_bool (by rw [hv.out, Bool.eq_iff_iff, decide_eq_true_eq, decide_eq_true_eq]; omega), rfl⟩
end Go.Proofs.YtbcpgdidajapoaaDoor
