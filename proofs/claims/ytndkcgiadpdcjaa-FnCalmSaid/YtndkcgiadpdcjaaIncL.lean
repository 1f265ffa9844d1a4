/- Lists of incidents: when one is valid; where one has its place; a copy. -/
import Derived.Test.YtndkcgiadpdcjaaIncC
import Derived.Test.YtndkcgiadpdcjaaInsInc
namespace Go.Proofs.Ytndkcgiadpdcjaa
open Go.RowKit
theorem Incident_validS (x : Incident) (w : World) (hz : x.Small) : Gives Try.prog 58 #[.agg #[.int .i64 x.day, .string x.place, .string x.cause, .int .i64 x.level, .int .i64 x.caught, .int .i64 x.buried]] w (.bool (incidentB x)) := by
  unfold Incident.Small at hz
  exact Incident_valid x w (by omega) (by omega)
theorem l28One_anyS (b o : Nat) (x : Incident) (w : World) (hz : x.Small) (c0 : w.cell? ⟨b, o, none⟩ = some (.int .i64 x.day)) (c1 : w.cell? ⟨b, o + 1, none⟩ = some (.string x.place)) (c2 : w.cell? ⟨b, o + 2, none⟩ = some (.string x.cause)) (c3 : w.cell? ⟨b, o + 3, none⟩ = some (.int .i64 x.level)) (c4 : w.cell? ⟨b, o + 4, none⟩ = some (.int .i64 x.caught)) (c5 : w.cell? ⟨b, o + 5, none⟩ = some (.int .i64 x.buried)) :
    Gives Try.prog 48 #[.pointer (some ⟨b, o, none⟩)] w (.bool (incidentB x)) := by
  unfold Incident.Small at hz
  exact l28One_any b o x w (by omega) (by omega) c0 c1 c2 c3 c4 c5
theorem inc_sorted {l : List Incident} (h : vAll incidentB incB 48 l = true) : ∀ i j, i < j → j < l.length → incB (nth l i) (nth l j) = true :=
  sorted_rel (r := incB) (l := l) (fun _ _ _ => incB_trans) (fun k hk => vAll_ord h k hk)
/-- The list is valid. -/
def incidentList (l : List Incident) : Bool := vAll incidentB incB 48 l
set_option maxRecDepth 100000 in
set_option maxHeartbeats 2000000 in
theorem ValidIncidents_any (a : Option Addr) (cap : Nat) (l : List Incident) (w : World) (H : IncidentAt w a l) (hsz : ∀ k, k < l.length → (nth l k).Small) (hlen : l.length ≤ 1048576) :
    Gives Try.prog 41 #[.slice a l.length cap] w (.bool (incidentList l)) := by
  unfold Gives
  by_cases hl8 : 48 < l.length
  · have hv : Hid (false = incidentList l) := vAll_len hl8
    go_enter Try.func41, Try.ntmps41
    go_wp2
    go_ret
    exact ⟨ret_bool hv.out, Ext.refl _⟩
  go_enter Try.func41, Try.ntmps41
  go_wp2_with fail
  go_loopw [10] (fun i wr => ∃ k : Nat, k ≤ l.length ∧ i = .int .i64 k ∧ Hid (∀ j, j < k → vOk incidentB incB l j = true) ∧ Ext w wr) (fun i _ => l.length - (intOf i).toNat)
  case atStart => exact ⟨0, Nat.zero_le _, rfl, upto_zero, Ext.refl w⟩
  case round =>
    obtain ⟨k, hk, rfl, hall, he⟩ := hrel
    by_cases hlt : k < l.length
    · obtain ⟨b, off, rfl⟩ := H.base hlt
      obtain ⟨hb, c0, c1, c2, c3, c4, c5⟩ := Incident.at (H.ext he) k hlt
      have hz := (hsz k hlt)
      cases h1 : incidentB (nth l k)
      · have hv : Hid (false = incidentList l) := vAll_bad hlt (vOk_false1 h1)
        clear hsz H
        go_wp2_with fail
        refine region_quiet (by kernel_rfl) (by kernel_rfl) ?_
        repeat (any_goals (first | go_big_quiet_step ((first | (exact Gives.quiet (Incident_validS (nth l k) _ hz)) | (exact Gives.quiet (compareIncidents_any (nth l (k - 1)) (nth l k) _)))) | quiet_step ((first | (exact Gives.quiet (Incident_validS (nth l k) _ hz)) | (exact Gives.quiet (compareIncidents_any (nth l (k - 1)) (nth l k) _))))))
        refine wpQuiet_nil ?_
        intro _ hw'
        obtain ⟨y, hw''⟩ := hw'
        subst hw''
        go_wp2
        go_ret
        exact ⟨ret_bool hv.out, (he.alloc _).lift y⟩
      · rcases Nat.eq_zero_or_pos k with hk0 | hk0
        · have hv : Hid (vOk incidentB incB l k = true) := vOk_true0 h1 hk0
          have hd : decide (0 < k) = false := decide_eq_false (by omega)
          clear hsz H hk0
          go_wp2_with fail
          refine region_quiet (by kernel_rfl) (by kernel_rfl) ?_
          repeat (any_goals (first | go_big_quiet_step ((first | (exact Gives.quiet (Incident_validS (nth l k) _ hz)) | (exact Gives.quiet (compareIncidents_any (nth l (k - 1)) (nth l k) _)))) | quiet_step ((first | (exact Gives.quiet (Incident_validS (nth l k) _ hz)) | (exact Gives.quiet (compareIncidents_any (nth l (k - 1)) (nth l k) _))))))
          refine wpQuiet_nil ?_
          intro _ hw'
          obtain ⟨y, hw''⟩ := hw'
          subst hw''
          go_wp2
          go_roundw
          case rel => exact ⟨k + 1, by omega, by go_num, upto_succ hall.out hv.out, (he.alloc _).lift y⟩
          case measure => simp [intOf]; omega
        · obtain ⟨-, p0, p1, p2, p3, p4, p5⟩ := Incident.at (H.ext he) (k - 1) (by omega)
          have hd : decide (0 < k) = true := decide_eq_true hk0
          cases h2 : incB (nth l (k - 1)) (nth l k)
          all_goals
            first
              | have hv : Hid (vOk incidentB incB l k = true) := vOk_true1 h1 h2
              | have hv : Hid (false = incidentList l) := vAll_bad hlt (vOk_false2 hk0 h2)
            have h3 : decide (0 ≤ incK (nth l (k - 1)) (nth l k)) = !incB (nth l (k - 1)) (nth l k) := incK_ge _ _
            rw [h2] at h3
            clear hsz H
            go_wp2_with fail
            refine region_quiet (by kernel_rfl) (by kernel_rfl) ?_
            repeat (any_goals (first | go_big_quiet_step ((first | (exact Gives.quiet (Incident_validS (nth l k) _ hz)) | (exact Gives.quiet (compareIncidents_any (nth l (k - 1)) (nth l k) _)))) | quiet_step ((first | (exact Gives.quiet (Incident_validS (nth l k) _ hz)) | (exact Gives.quiet (compareIncidents_any (nth l (k - 1)) (nth l k) _))))))
            refine wpQuiet_nil ?_
            intro _ hw'
            obtain ⟨y, hw''⟩ := hw'
            subst hw''
            go_wp2
            first
              | (go_ret; exact ⟨ret_bool hv.out, (he.alloc _).lift y⟩)
              | (go_roundw
                 case rel => exact ⟨k + 1, by omega, by go_num, upto_succ hall.out hv.out, (he.alloc _).lift y⟩
                 case measure => simp [intOf]; omega)
    · have hv : Hid (incidentList l = decide (l.length ≤ 48)) := vAll_end fun j hj => hall.out j (by omega)
      have hl8' : decide (l.length ≤ 48) = true := decide_eq_true (by omega)
      clear hsz H
      go_wp2
      go_ret
      exact ⟨ret_bool (by rw [hv.out, hl8']), he⟩
set_option maxRecDepth 100000 in
set_option maxHeartbeats 2000000 in
theorem l28Ok_any (a : Option Addr) (cap : Nat) (l : List Incident) (w : World) (H : IncidentAt w a l) (hsz : ∀ k, k < l.length → (nth l k).Small) (hlen : l.length ≤ 1048576) :
    Gives Try.prog 29 #[.slice a l.length cap] w (.bool (incidentList l)) := by
  unfold Gives
  go_enter Try.func29, Try.ntmps29
  go_wp2_with fail
  go_loopw [3] (fun i wr => ∃ k : Nat, k ≤ l.length ∧ i = .int .i64 k ∧ Hid (∀ j, j < k → vOk incidentB incB l j = true) ∧ Ext w wr) (fun i _ => l.length - (intOf i).toNat)
  case atStart => exact ⟨0, Nat.zero_le _, rfl, upto_zero, Ext.refl w⟩
  case round =>
    obtain ⟨k, hk, rfl, hall, he⟩ := hrel
    by_cases hlt : k < l.length
    · obtain ⟨b, off, rfl⟩ := H.base hlt
      obtain ⟨hb, c0, c1, c2, c3, c4, c5⟩ := Incident.at (H.ext he) k hlt
      have hz := (hsz k hlt)
      cases h1 : incidentB (nth l k)
      · have hv : Hid (false = incidentList l) := vAll_bad hlt (vOk_false1 h1)
        clear hsz H
        go_wp2_with fail
        refine region_quiet (by kernel_rfl) (by kernel_rfl) ?_
        repeat (any_goals (first | go_big_quiet_step ((first | exact Gives.quiet (l28One_anyS _ _ (nth l k) _ hz (by simp only [lift_cell _ _ _ _ hb, c0]) (by simp only [lift_cell _ _ _ _ hb, c1]) (by simp only [lift_cell _ _ _ _ hb, c2]) (by simp only [lift_cell _ _ _ _ hb, c3]) (by simp only [lift_cell _ _ _ _ hb, c4]) (by simp only [lift_cell _ _ _ _ hb, c5])) | exact Gives.quiet (Gives.same (l28One_anyS _ _ (nth l k) _ hz (by simp only [lift_cell _ _ _ _ hb, c0]) (by simp only [lift_cell _ _ _ _ hb, c1]) (by simp only [lift_cell _ _ _ _ hb, c2]) (by simp only [lift_cell _ _ _ _ hb, c3]) (by simp only [lift_cell _ _ _ _ hb, c4]) (by simp only [lift_cell _ _ _ _ hb, c5]))) | exact Gives.quiet (l28Before_any _ _ _ _ (nth l (k - 1)) (nth l k) _ (by simp only [lift_cell _ _ _ _ hb, p0]) (by simp only [lift_cell _ _ _ _ hb, p1]) (by simp only [lift_cell _ _ _ _ hb, p2]) (by simp only [lift_cell _ _ _ _ hb, c0]) (by simp only [lift_cell _ _ _ _ hb, c1]) (by simp only [lift_cell _ _ _ _ hb, c2])))) | quiet_step ((first | exact Gives.quiet (l28One_anyS _ _ (nth l k) _ hz (by simp only [lift_cell _ _ _ _ hb, c0]) (by simp only [lift_cell _ _ _ _ hb, c1]) (by simp only [lift_cell _ _ _ _ hb, c2]) (by simp only [lift_cell _ _ _ _ hb, c3]) (by simp only [lift_cell _ _ _ _ hb, c4]) (by simp only [lift_cell _ _ _ _ hb, c5])) | exact Gives.quiet (Gives.same (l28One_anyS _ _ (nth l k) _ hz (by simp only [lift_cell _ _ _ _ hb, c0]) (by simp only [lift_cell _ _ _ _ hb, c1]) (by simp only [lift_cell _ _ _ _ hb, c2]) (by simp only [lift_cell _ _ _ _ hb, c3]) (by simp only [lift_cell _ _ _ _ hb, c4]) (by simp only [lift_cell _ _ _ _ hb, c5]))) | exact Gives.quiet (l28Before_any _ _ _ _ (nth l (k - 1)) (nth l k) _ (by simp only [lift_cell _ _ _ _ hb, p0]) (by simp only [lift_cell _ _ _ _ hb, p1]) (by simp only [lift_cell _ _ _ _ hb, p2]) (by simp only [lift_cell _ _ _ _ hb, c0]) (by simp only [lift_cell _ _ _ _ hb, c1]) (by simp only [lift_cell _ _ _ _ hb, c2]))))))
        refine wpQuiet_nil ?_
        intro _ hw'
        obtain ⟨y, hw''⟩ := hw'
        subst hw''
        go_wp2
        go_ret
        exact ⟨ret_bool hv.out, he.lift y⟩
      · rcases Nat.eq_zero_or_pos k with hk0 | hk0
        · have hv : Hid (vOk incidentB incB l k = true) := vOk_true0 h1 hk0
          have hd : decide (0 < k) = false := decide_eq_false (by omega)
          clear hsz H hk0
          go_wp2_with fail
          refine region_quiet (by kernel_rfl) (by kernel_rfl) ?_
          repeat (any_goals (first | go_big_quiet_step ((first | exact Gives.quiet (l28One_anyS _ _ (nth l k) _ hz (by simp only [lift_cell _ _ _ _ hb, c0]) (by simp only [lift_cell _ _ _ _ hb, c1]) (by simp only [lift_cell _ _ _ _ hb, c2]) (by simp only [lift_cell _ _ _ _ hb, c3]) (by simp only [lift_cell _ _ _ _ hb, c4]) (by simp only [lift_cell _ _ _ _ hb, c5])) | exact Gives.quiet (Gives.same (l28One_anyS _ _ (nth l k) _ hz (by simp only [lift_cell _ _ _ _ hb, c0]) (by simp only [lift_cell _ _ _ _ hb, c1]) (by simp only [lift_cell _ _ _ _ hb, c2]) (by simp only [lift_cell _ _ _ _ hb, c3]) (by simp only [lift_cell _ _ _ _ hb, c4]) (by simp only [lift_cell _ _ _ _ hb, c5]))) | exact Gives.quiet (l28Before_any _ _ _ _ (nth l (k - 1)) (nth l k) _ (by simp only [lift_cell _ _ _ _ hb, p0]) (by simp only [lift_cell _ _ _ _ hb, p1]) (by simp only [lift_cell _ _ _ _ hb, p2]) (by simp only [lift_cell _ _ _ _ hb, c0]) (by simp only [lift_cell _ _ _ _ hb, c1]) (by simp only [lift_cell _ _ _ _ hb, c2])))) | quiet_step ((first | exact Gives.quiet (l28One_anyS _ _ (nth l k) _ hz (by simp only [lift_cell _ _ _ _ hb, c0]) (by simp only [lift_cell _ _ _ _ hb, c1]) (by simp only [lift_cell _ _ _ _ hb, c2]) (by simp only [lift_cell _ _ _ _ hb, c3]) (by simp only [lift_cell _ _ _ _ hb, c4]) (by simp only [lift_cell _ _ _ _ hb, c5])) | exact Gives.quiet (Gives.same (l28One_anyS _ _ (nth l k) _ hz (by simp only [lift_cell _ _ _ _ hb, c0]) (by simp only [lift_cell _ _ _ _ hb, c1]) (by simp only [lift_cell _ _ _ _ hb, c2]) (by simp only [lift_cell _ _ _ _ hb, c3]) (by simp only [lift_cell _ _ _ _ hb, c4]) (by simp only [lift_cell _ _ _ _ hb, c5]))) | exact Gives.quiet (l28Before_any _ _ _ _ (nth l (k - 1)) (nth l k) _ (by simp only [lift_cell _ _ _ _ hb, p0]) (by simp only [lift_cell _ _ _ _ hb, p1]) (by simp only [lift_cell _ _ _ _ hb, p2]) (by simp only [lift_cell _ _ _ _ hb, c0]) (by simp only [lift_cell _ _ _ _ hb, c1]) (by simp only [lift_cell _ _ _ _ hb, c2]))))))
          refine wpQuiet_nil ?_
          intro _ hw'
          obtain ⟨y, hw''⟩ := hw'
          subst hw''
          go_wp2
          go_roundw
          case rel => exact ⟨k + 1, by omega, by go_num, upto_succ hall.out hv.out, he.lift y⟩
          case measure => simp [intOf]; omega
        · obtain ⟨-, p0, p1, p2, p3, p4, p5⟩ := Incident.at (H.ext he) (k - 1) (by omega)
          have hd : decide (0 < k) = true := decide_eq_true hk0
          cases h2 : incB (nth l (k - 1)) (nth l k)
          all_goals
            first
              | have hv : Hid (vOk incidentB incB l k = true) := vOk_true1 h1 h2
              | have hv : Hid (false = incidentList l) := vAll_bad hlt (vOk_false2 hk0 h2)
            have h3 : decide (0 ≤ incK (nth l (k - 1)) (nth l k)) = !incB (nth l (k - 1)) (nth l k) := incK_ge _ _
            rw [h2] at h3
            clear hsz H
            go_wp2_with fail
            refine region_quiet (by kernel_rfl) (by kernel_rfl) ?_
            repeat (any_goals (first | go_big_quiet_step ((first | exact Gives.quiet (l28One_anyS _ _ (nth l k) _ hz (by simp only [lift_cell _ _ _ _ hb, c0]) (by simp only [lift_cell _ _ _ _ hb, c1]) (by simp only [lift_cell _ _ _ _ hb, c2]) (by simp only [lift_cell _ _ _ _ hb, c3]) (by simp only [lift_cell _ _ _ _ hb, c4]) (by simp only [lift_cell _ _ _ _ hb, c5])) | exact Gives.quiet (Gives.same (l28One_anyS _ _ (nth l k) _ hz (by simp only [lift_cell _ _ _ _ hb, c0]) (by simp only [lift_cell _ _ _ _ hb, c1]) (by simp only [lift_cell _ _ _ _ hb, c2]) (by simp only [lift_cell _ _ _ _ hb, c3]) (by simp only [lift_cell _ _ _ _ hb, c4]) (by simp only [lift_cell _ _ _ _ hb, c5]))) | exact Gives.quiet (l28Before_any _ _ _ _ (nth l (k - 1)) (nth l k) _ (by simp only [lift_cell _ _ _ _ hb, p0]) (by simp only [lift_cell _ _ _ _ hb, p1]) (by simp only [lift_cell _ _ _ _ hb, p2]) (by simp only [lift_cell _ _ _ _ hb, c0]) (by simp only [lift_cell _ _ _ _ hb, c1]) (by simp only [lift_cell _ _ _ _ hb, c2])))) | quiet_step ((first | exact Gives.quiet (l28One_anyS _ _ (nth l k) _ hz (by simp only [lift_cell _ _ _ _ hb, c0]) (by simp only [lift_cell _ _ _ _ hb, c1]) (by simp only [lift_cell _ _ _ _ hb, c2]) (by simp only [lift_cell _ _ _ _ hb, c3]) (by simp only [lift_cell _ _ _ _ hb, c4]) (by simp only [lift_cell _ _ _ _ hb, c5])) | exact Gives.quiet (Gives.same (l28One_anyS _ _ (nth l k) _ hz (by simp only [lift_cell _ _ _ _ hb, c0]) (by simp only [lift_cell _ _ _ _ hb, c1]) (by simp only [lift_cell _ _ _ _ hb, c2]) (by simp only [lift_cell _ _ _ _ hb, c3]) (by simp only [lift_cell _ _ _ _ hb, c4]) (by simp only [lift_cell _ _ _ _ hb, c5]))) | exact Gives.quiet (l28Before_any _ _ _ _ (nth l (k - 1)) (nth l k) _ (by simp only [lift_cell _ _ _ _ hb, p0]) (by simp only [lift_cell _ _ _ _ hb, p1]) (by simp only [lift_cell _ _ _ _ hb, p2]) (by simp only [lift_cell _ _ _ _ hb, c0]) (by simp only [lift_cell _ _ _ _ hb, c1]) (by simp only [lift_cell _ _ _ _ hb, c2]))))))
            refine wpQuiet_nil ?_
            intro _ hw'
            obtain ⟨y, hw''⟩ := hw'
            subst hw''
            go_wp2
            first
              | (go_ret; exact ⟨ret_bool hv.out, he.lift y⟩)
              | (go_roundw
                 case rel => exact ⟨k + 1, by omega, by go_num, upto_succ hall.out hv.out, he.lift y⟩
                 case measure => simp [intOf]; omega)
    · have hv : Hid (incidentList l = decide (l.length ≤ 48)) := vAll_end fun j hj => hall.out j (by omega)
      clear hsz H
      go_wp2
      go_ret
      exact ⟨ret_bool (by rw [hv.out, Bool.eq_iff_iff, decide_eq_true_eq, decide_eq_true_eq]; omega), he⟩
end Go.Proofs.Ytndkcgiadpdcjaa
