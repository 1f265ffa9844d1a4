/- Stands: when a list of them is valid; what a stand protects. -/
import Derived.Test.YtmkmmenkjbmppaaStand
import Derived.Test.YtmkmmenkjbmppaaValid
import Derived.Test.YtmkmmenkjbmppaaLst
import Derived.Laws.OwnMore
namespace Go.Proofs.Ytmkmmenkjbmppaa
open Go.RowKit
theorem Stand.Small.sz {x : Stand} (h : x.Small) : x.id.size ≤ 2000000 := by unfold Stand.Small at h; omega
def standOrd (x y : Stand) : Bool := sLt x.id y.id
/-- The list is valid. -/
def standList (l : List Stand) : Bool := vAll standB standOrd 16 l
set_option maxRecDepth 100000 in
set_option maxHeartbeats 2000000 in
theorem ValidStands_any (a : Option Addr) (cap : Nat) (l : List Stand) (w : World) (H : StandAt w a l) (hsz : ∀ k, k < l.length → (nth l k).Small) (hlen : l.length ≤ 1048576) :
    Gives Try.prog 21 #[.slice a l.length cap] w (.bool (standList l)) := by
  unfold Gives
  by_cases hl8 : 16 < l.length
  · have hv : Hid (false = standList l) := vAll_len hl8
    go_enter Try.func21, Try.ntmps21
    go_wp2
    go_ret
    exact ⟨ret_bool hv.out, Ext.refl _⟩
  go_enter Try.func21, Try.ntmps21
  go_wp2_with fail
  go_loopw [10] (fun i wr => ∃ k : Nat, k ≤ l.length ∧ i = .int .i64 k ∧ Hid (∀ j, j < k → vOk standB standOrd l j = true) ∧ Ext w wr) (fun i _ => l.length - (intOf i).toNat)
  case atStart => exact ⟨0, Nat.zero_le _, rfl, upto_zero, Ext.refl w⟩
  case round =>
    obtain ⟨k, hk, rfl, hall, he⟩ := hrel
    by_cases hlt : k < l.length
    · obtain ⟨b, off, rfl⟩ := H.base hlt
      obtain ⟨hb, c0, c1, c2, c3, c4⟩ := Stand.at (H.ext he) k hlt
      have hz := (hsz k hlt).sz
      cases h1 : standB (nth l k)
      · have hv : Hid (false = standList l) := vAll_bad hlt (vOk_false1 h1)
        clear hsz H
        go_wp2_with fail
        refine region_quiet (by kernel_rfl) (by kernel_rfl) ?_
        repeat (any_goals (first | go_big_quiet_step ((exact Gives.quiet (Stand_valid (nth l k) _ hz))) | quiet_step ((exact Gives.quiet (Stand_valid (nth l k) _ hz)))))
        refine wpQuiet_nil ?_
        intro _ hw'
        obtain ⟨y, hw''⟩ := hw'
        subst hw''
        go_wp2
        go_ret
        exact ⟨ret_bool hv.out, (he.alloc _).lift y⟩
      · rcases Nat.eq_zero_or_pos k with hk0 | hk0
        · have hv : Hid (vOk standB standOrd l k = true) := vOk_true0 h1 hk0
          have hd : decide (0 < k) = false := decide_eq_false (by omega)
          clear hsz H hk0
          go_wp2_with fail
          refine region_quiet (by kernel_rfl) (by kernel_rfl) ?_
          repeat (any_goals (first | go_big_quiet_step ((exact Gives.quiet (Stand_valid (nth l k) _ hz))) | quiet_step ((exact Gives.quiet (Stand_valid (nth l k) _ hz)))))
          refine wpQuiet_nil ?_
          intro _ hw'
          obtain ⟨y, hw''⟩ := hw'
          subst hw''
          go_wp2
          go_roundw
          case rel => exact ⟨k + 1, by omega, by go_num, upto_succ hall.out hv.out, (he.alloc _).lift y⟩
          case measure => simp [intOf]; omega
        · obtain ⟨-, p0, -, -, -, -⟩ := Stand.at (H.ext he) (k - 1) (by omega)
          have hd : decide (0 < k) = true := decide_eq_true hk0
          cases h2 : sLt (nth l (k - 1)).id (nth l k).id
          all_goals
            first
              | have hv : Hid (vOk standB standOrd l k = true) := vOk_true1 h1 h2
              | have hv : Hid (false = standList l) := vAll_bad hlt (vOk_false2 hk0 h2)
            clear hsz H
            go_wp2_with fail
            refine region_quiet (by kernel_rfl) (by kernel_rfl) ?_
            repeat (any_goals (first | go_big_quiet_step ((exact Gives.quiet (Stand_valid (nth l k) _ hz))) | quiet_step ((exact Gives.quiet (Stand_valid (nth l k) _ hz)))))
            refine wpQuiet_nil ?_
            intro _ hw'
            obtain ⟨y, hw''⟩ := hw'
            subst hw''
            go_wp2
            first
              | (go_ret; exact ⟨ret_bool hv.out, (he.alloc _).lift y⟩)
              | (go_roundw
                 case rel => exact ⟨k + 1, by omega, by go_num, upto_succ hall.out hv.out, (he.alloc _).lift y⟩
                 case measure => simp [intOf]; omega)
    · have hv : Hid (standList l = decide (l.length ≤ 16)) := vAll_end fun j hj => hall.out j (by omega)
      have hl8' : decide (l.length ≤ 16) = true := decide_eq_true (by omega)
      clear hsz H
      go_wp2
      go_ret
      exact ⟨ret_bool (by rw [hv.out, hl8']), he⟩
set_option maxRecDepth 100000 in
set_option maxHeartbeats 2000000 in
theorem l10Ok_any (a : Option Addr) (cap : Nat) (l : List Stand) (w : World) (H : StandAt w a l) (hsz : ∀ k, k < l.length → (nth l k).Small) (hlen : l.length ≤ 1048576) :
    Gives Try.prog 15 #[.slice a l.length cap] w (.bool (standList l)) := by
  unfold Gives
  go_enter Try.func15, Try.ntmps15
  go_wp2_with fail
  go_loopw [3] (fun i wr => ∃ k : Nat, k ≤ l.length ∧ i = .int .i64 k ∧ Hid (∀ j, j < k → vOk standB standOrd l j = true) ∧ Ext w wr) (fun i _ => l.length - (intOf i).toNat)
  case atStart => exact ⟨0, Nat.zero_le _, rfl, upto_zero, Ext.refl w⟩
  case round =>
    obtain ⟨k, hk, rfl, hall, he⟩ := hrel
    by_cases hlt : k < l.length
    · obtain ⟨b, off, rfl⟩ := H.base hlt
      obtain ⟨hb, c0, c1, c2, c3, c4⟩ := Stand.at (H.ext he) k hlt
      have hz := (hsz k hlt).sz
      cases h1 : standB (nth l k)
      · have hv : Hid (false = standList l) := vAll_bad hlt (vOk_false1 h1)
        clear hsz H
        go_wp2_with fail
        refine region_quiet (by kernel_rfl) (by kernel_rfl) ?_
        repeat (any_goals (first | go_big_quiet_step ((first | exact Gives.quiet (l10One_any _ _ (nth l k) _ hz (by simp only [lift_cell _ _ _ _ hb, c0]) (by simp only [lift_cell _ _ _ _ hb, c1]) (by simp only [lift_cell _ _ _ _ hb, c2]) (by simp only [lift_cell _ _ _ _ hb, c3]) (by simp only [lift_cell _ _ _ _ hb, c4])) | exact Gives.quiet (Gives.same (l10One_any _ _ (nth l k) _ hz (by simp only [lift_cell _ _ _ _ hb, c0]) (by simp only [lift_cell _ _ _ _ hb, c1]) (by simp only [lift_cell _ _ _ _ hb, c2]) (by simp only [lift_cell _ _ _ _ hb, c3]) (by simp only [lift_cell _ _ _ _ hb, c4]))))) | quiet_step ((first | exact Gives.quiet (l10One_any _ _ (nth l k) _ hz (by simp only [lift_cell _ _ _ _ hb, c0]) (by simp only [lift_cell _ _ _ _ hb, c1]) (by simp only [lift_cell _ _ _ _ hb, c2]) (by simp only [lift_cell _ _ _ _ hb, c3]) (by simp only [lift_cell _ _ _ _ hb, c4])) | exact Gives.quiet (Gives.same (l10One_any _ _ (nth l k) _ hz (by simp only [lift_cell _ _ _ _ hb, c0]) (by simp only [lift_cell _ _ _ _ hb, c1]) (by simp only [lift_cell _ _ _ _ hb, c2]) (by simp only [lift_cell _ _ _ _ hb, c3]) (by simp only [lift_cell _ _ _ _ hb, c4])))))))
        refine wpQuiet_nil ?_
        intro _ hw'
        obtain ⟨y, hw''⟩ := hw'
        subst hw''
        go_wp2
        go_ret
        exact ⟨ret_bool hv.out, he.lift y⟩
      · rcases Nat.eq_zero_or_pos k with hk0 | hk0
        · have hv : Hid (vOk standB standOrd l k = true) := vOk_true0 h1 hk0
          have hd : decide (0 < k) = false := decide_eq_false (by omega)
          clear hsz H hk0
          go_wp2_with fail
          refine region_quiet (by kernel_rfl) (by kernel_rfl) ?_
          repeat (any_goals (first | go_big_quiet_step ((first | exact Gives.quiet (l10One_any _ _ (nth l k) _ hz (by simp only [lift_cell _ _ _ _ hb, c0]) (by simp only [lift_cell _ _ _ _ hb, c1]) (by simp only [lift_cell _ _ _ _ hb, c2]) (by simp only [lift_cell _ _ _ _ hb, c3]) (by simp only [lift_cell _ _ _ _ hb, c4])) | exact Gives.quiet (Gives.same (l10One_any _ _ (nth l k) _ hz (by simp only [lift_cell _ _ _ _ hb, c0]) (by simp only [lift_cell _ _ _ _ hb, c1]) (by simp only [lift_cell _ _ _ _ hb, c2]) (by simp only [lift_cell _ _ _ _ hb, c3]) (by simp only [lift_cell _ _ _ _ hb, c4]))))) | quiet_step ((first | exact Gives.quiet (l10One_any _ _ (nth l k) _ hz (by simp only [lift_cell _ _ _ _ hb, c0]) (by simp only [lift_cell _ _ _ _ hb, c1]) (by simp only [lift_cell _ _ _ _ hb, c2]) (by simp only [lift_cell _ _ _ _ hb, c3]) (by simp only [lift_cell _ _ _ _ hb, c4])) | exact Gives.quiet (Gives.same (l10One_any _ _ (nth l k) _ hz (by simp only [lift_cell _ _ _ _ hb, c0]) (by simp only [lift_cell _ _ _ _ hb, c1]) (by simp only [lift_cell _ _ _ _ hb, c2]) (by simp only [lift_cell _ _ _ _ hb, c3]) (by simp only [lift_cell _ _ _ _ hb, c4])))))))
          refine wpQuiet_nil ?_
          intro _ hw'
          obtain ⟨y, hw''⟩ := hw'
          subst hw''
          go_wp2
          go_roundw
          case rel => exact ⟨k + 1, by omega, by go_num, upto_succ hall.out hv.out, he.lift y⟩
          case measure => simp [intOf]; omega
        · obtain ⟨-, p0, -, -, -, -⟩ := Stand.at (H.ext he) (k - 1) (by omega)
          have hd : decide (0 < k) = true := decide_eq_true hk0
          cases h2 : sLt (nth l (k - 1)).id (nth l k).id
          all_goals
            first
              | have hv : Hid (vOk standB standOrd l k = true) := vOk_true1 h1 h2
              | have hv : Hid (false = standList l) := vAll_bad hlt (vOk_false2 hk0 h2)
            clear hsz H
            go_wp2_with fail
            refine region_quiet (by kernel_rfl) (by kernel_rfl) ?_
            repeat (any_goals (first | go_big_quiet_step ((first | exact Gives.quiet (l10One_any _ _ (nth l k) _ hz (by simp only [lift_cell _ _ _ _ hb, c0]) (by simp only [lift_cell _ _ _ _ hb, c1]) (by simp only [lift_cell _ _ _ _ hb, c2]) (by simp only [lift_cell _ _ _ _ hb, c3]) (by simp only [lift_cell _ _ _ _ hb, c4])) | exact Gives.quiet (Gives.same (l10One_any _ _ (nth l k) _ hz (by simp only [lift_cell _ _ _ _ hb, c0]) (by simp only [lift_cell _ _ _ _ hb, c1]) (by simp only [lift_cell _ _ _ _ hb, c2]) (by simp only [lift_cell _ _ _ _ hb, c3]) (by simp only [lift_cell _ _ _ _ hb, c4]))))) | quiet_step ((first | exact Gives.quiet (l10One_any _ _ (nth l k) _ hz (by simp only [lift_cell _ _ _ _ hb, c0]) (by simp only [lift_cell _ _ _ _ hb, c1]) (by simp only [lift_cell _ _ _ _ hb, c2]) (by simp only [lift_cell _ _ _ _ hb, c3]) (by simp only [lift_cell _ _ _ _ hb, c4])) | exact Gives.quiet (Gives.same (l10One_any _ _ (nth l k) _ hz (by simp only [lift_cell _ _ _ _ hb, c0]) (by simp only [lift_cell _ _ _ _ hb, c1]) (by simp only [lift_cell _ _ _ _ hb, c2]) (by simp only [lift_cell _ _ _ _ hb, c3]) (by simp only [lift_cell _ _ _ _ hb, c4])))))))
            refine wpQuiet_nil ?_
            intro _ hw'
            obtain ⟨y, hw''⟩ := hw'
            subst hw''
            go_wp2
            first
              | (go_ret; exact ⟨ret_bool hv.out, he.lift y⟩)
              | (go_roundw
                 case rel => exact ⟨k + 1, by omega, by go_num, upto_succ hall.out hv.out, he.lift y⟩
                 case measure => simp [intOf]; omega)
    · have hv : Hid (standList l = decide (l.length ≤ 16)) := vAll_end fun j hj => hall.out j (by omega)
      clear hsz H
      go_wp2
      go_ret
      exact ⟨ret_bool (by rw [hv.out, Bool.eq_iff_iff, decide_eq_true_eq, decide_eq_true_eq]; omega), he⟩
def plantedS (x : Stand) : Stand := ⟨x.id, 2000, x.height, 1000, 0⟩
/-- What a stand protects under some snow. -/
def protS (x : Stand) (snow : Int) : Int := if x.height < 2 * snow then 0 else max (min 1000 (min (rdiv (x.trees * 1000) 500) x.cover) - 10 * max (x.gap - 20) 0) 0
/-- The numbers of a stand are small. -/
def fewS (x : Stand) : Prop := (0 ≤ x.trees ∧ x.trees ≤ 2000) ∧ (0 ≤ x.height ∧ x.height ≤ 5000) ∧ (0 ≤ x.cover ∧ x.cover ≤ 1000) ∧ (0 ≤ x.gap ∧ x.gap ≤ 100)
theorem fewS_of {x : Stand} (h : standB x = true) : fewS x := (standB_bd h).2
theorem fewS_planted {x : Stand} (h : fewS x) : fewS (plantedS x) := by
  obtain ⟨_, h1, _, _⟩ := h
  exact ⟨by show 0 ≤ (2000 : Int) ∧ (2000 : Int) ≤ 2000; decide, h1, by show 0 ≤ (1000 : Int) ∧ (1000 : Int) ≤ 1000; decide, by show 0 ≤ (0 : Int) ∧ (0 : Int) ≤ 100; decide⟩
theorem rdiv_500 (a : Int) (h : 0 ≤ a) : rdiv (a * 1000) 500 = 2 * a := by
  unfold rdiv; rw [if_neg (by omega)]; omega
set_option maxRecDepth 100000 in
set_option maxHeartbeats 2000000 in
theorem Stand_protection (x : Stand) (snow : Int) (w : World) (hx : fewS x) (h0 : 0 ≤ snow) (h1 : snow ≤ 2000) :
    Gives Try.prog 47 #[.agg #[.string x.id, .int .i64 x.trees, .int .i64 x.height, .int .i64 x.cover, .int .i64 x.gap], .int .i64 snow] w (.int .i64 (protS x snow)) := by
  unfold Gives
  obtain ⟨⟨t0, t1⟩, ⟨e0, e1⟩, ⟨c0, c1⟩, g0, g1⟩ := hx
  by_cases hh : x.height < 2 * snow
  · have hv : Hid (protS x snow = 0) := if_pos hh
    go_enter Try.func47, Try.ntmps47
    go_wp2_with fail
    go_ret
    exact ⟨ret_int hv.out.symm, (by repeat (first | exact Ext.refl _ | refine Ext.lift ?_ _ | refine Ext.alloc ?_ _))⟩
  · have hv : Hid (protS x snow = max (min 1000 (min (2 * x.trees) x.cover) - 10 * max (x.gap - 20) 0) 0) := by
      show _ = _
      unfold protS; rw [if_neg hh, rdiv_500 _ t0]
    have hr := Lib.hid (rdiv_500 x.trees t0)
    have hD : Hid (∀ w' : World, Gives Try.prog 55 #[.int .i64 (x.trees * 1000), .int .i64 500] w' (.int .i64 (2 * x.trees))) := fun w' => by
      have := divRound_any (x.trees * 1000) 500 w' (by omega) (by omega) (by omega) (by omega)
      rw [hr.out] at this; exact this
    rcases Int.lt_or_le 1000 (2 * x.trees) with m1 | m1 <;> rcases Int.lt_or_le (2 * x.trees) x.cover with m2 | m2 <;> rcases Int.lt_or_le 1000 x.cover with m3 | m3 <;> rcases Int.lt_or_le (x.gap - 20) 0 with m4 | m4
    all_goals
      first | omega | skip
      all_goals
        go_enter Try.func47, Try.ntmps47
        go_wp2_with fail
        refine region_quiet (by kernel_rfl) (by kernel_rfl) ?_
        repeat (any_goals (first | go_big_quiet_step ((exact Gives.quiet (hD.out _))) | quiet_step ((exact Gives.quiet (hD.out _)))))
        refine wpQuiet_nil ?_
        intro _ hw'
        obtain ⟨y, hw''⟩ := hw'
        subst hw''
        go_wp2_with fail
        all_goals
          go_ret
          exact ⟨ret_int (by rw [hv.out]; omega), (by repeat (first | exact Ext.refl _ | refine Ext.lift ?_ _ | refine Ext.alloc ?_ _))⟩
end Go.Proofs.Ytmkmmenkjbmppaa
