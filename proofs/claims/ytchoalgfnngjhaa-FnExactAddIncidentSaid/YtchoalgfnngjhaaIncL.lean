/- Lists of incidents: when one is valid; where one has its place; a copy. -/
import Derived.Test.YtchoalgfnngjhaaIncC
import Derived.Test.YtchoalgfnngjhaaInsInc
namespace Go.Proofs.Ytchoalgfnngjhaa
open Go.RowKit
theorem Incident_validS (x : Incident) (w : World) (hz : x.Small) : Gives Try.prog 102 #[.agg #[.int .i64 x.day, .string x.place, .string x.cause, .int .i64 x.level, .int .i64 x.caught, .int .i64 x.buried]] w (.bool (incidentB x)) := by
  unfold Incident.Small at hz
  exact Incident_valid x w (by omega) (by omega)
theorem l28One_anyS (b o : Nat) (x : Incident) (w : World) (hz : x.Small) (c0 : w.cell? ⟨b, o, none⟩ = some (.int .i64 x.day)) (c1 : w.cell? ⟨b, o + 1, none⟩ = some (.string x.place)) (c2 : w.cell? ⟨b, o + 2, none⟩ = some (.string x.cause)) (c3 : w.cell? ⟨b, o + 3, none⟩ = some (.int .i64 x.level)) (c4 : w.cell? ⟨b, o + 4, none⟩ = some (.int .i64 x.caught)) (c5 : w.cell? ⟨b, o + 5, none⟩ = some (.int .i64 x.buried)) :
    Gives Try.prog 97 #[.pointer (some ⟨b, o, none⟩)] w (.bool (incidentB x)) := by
  unfold Incident.Small at hz
  exact l28One_any b o x w (by omega) (by omega) c0 c1 c2 c3 c4 c5
theorem inc_sorted {l : List Incident} (h : vAll incidentB incB 48 l = true) : ∀ i j, i < j → j < l.length → incB (nth l i) (nth l j) = true :=
  sorted_rel (r := incB) (l := l) (fun _ _ _ => incB_trans) (fun k hk => vAll_ord h k hk)
/-- The list is valid. -/
def incidentList (l : List Incident) : Bool := vAll incidentB incB 48 l
set_option maxRecDepth 100000 in
set_option maxHeartbeats 2000000 in
theorem ValidIncidents_any (a : Option Addr) (cap : Nat) (l : List Incident) (w : World) (H : IncidentAt w a l) (hsz : ∀ k, k < l.length → (nth l k).Small) (hlen : l.length ≤ 1048576) :
    Gives Try.prog 99 #[.slice a l.length cap] w (.bool (incidentList l)) := by
  unfold Gives
  by_cases hl8 : 48 < l.length
  · have hv : Hid (false = incidentList l) := vAll_len hl8
    go_enter Try.func99, Try.ntmps99
    go_wp2
    go_ret
    exact ⟨ret_bool hv.out, Ext.refl _⟩
  go_enter Try.func99, Try.ntmps99
  go_wp2_with fail
  go_loopw [10] (fun i wr => ∃ k : Nat, k ≤ l.length ∧ i = .int .i64 k ∧ Hid (∀ j, j < k → vOk incidentB incB l j = true) ∧ Ext w wr) (fun i _ => l.length - (intOf i).toNat)
  case atStart => exact ⟨0, Nat.zero_le _, rfl, upto_zero, Ext.refl w⟩
  case round =>
    obtain ⟨k, hk, rfl, hall, he⟩ := hrel
    by_cases hlt : k < l.length
    · obtain ⟨b, off, rfl⟩ := H.base hlt
      obtain ⟨hb, c0, c1, c2, c3, c4, c5⟩ := Incident.at (H.ext he) k hlt
      have hz := (hsz k hlt)
      cases h1 : incidentB (nth l k)
      · have hv : Hid (false = incidentList l) := vAll_bad hlt (vOk_false1 h1)
        clear hsz H
        go_wp2_with fail
        refine region_quiet (by kernel_rfl) (by kernel_rfl) ?_
        repeat (any_goals (first | go_big_quiet_step ((first | (exact Gives.quiet (Incident_validS (nth l k) _ hz)) | (exact Gives.quiet (compareIncidents_any (nth l (k - 1)) (nth l k) _)))) | quiet_step ((first | (exact Gives.quiet (Incident_validS (nth l k) _ hz)) | (exact Gives.quiet (compareIncidents_any (nth l (k - 1)) (nth l k) _))))))
        refine wpQuiet_nil ?_
        intro _ hw'
        obtain ⟨y, hw''⟩ := hw'
        subst hw''
        go_wp2
        go_ret
        exact ⟨ret_bool hv.out, (he.alloc _).lift y⟩
      · rcases Nat.eq_zero_or_pos k with hk0 | hk0
        · have hv : Hid (vOk incidentB incB l k = true) := vOk_true0 h1 hk0
          have hd : decide (0 < k) = false := decide_eq_false (by omega)
          clear hsz H hk0
          go_wp2_with fail
          refine region_quiet (by kernel_rfl) (by kernel_rfl) ?_
          repeat (any_goals (first | go_big_quiet_step ((first | (exact Gives.quiet (Incident_validS (nth l k) _ hz)) | (exact Gives.quiet (compareIncidents_any (nth l (k - 1)) (nth l k) _)))) | quiet_step ((first | (exact Gives.quiet (Incident_validS (nth l k) _ hz)) | (exact Gives.quiet (compareIncidents_any (nth l (k - 1)) (nth l k) _))))))
          refine wpQuiet_nil ?_
          intro _ hw'
          obtain ⟨y, hw''⟩ := hw'
          subst hw''
          go_wp2
          go_roundw
          case rel => exact ⟨k + 1, by omega, by go_num, upto_succ hall.out hv.out, (he.alloc _).lift y⟩
          case measure => simp [intOf]; omega
        · obtain ⟨-, p0, p1, p2, p3, p4, p5⟩ := Incident.at (H.ext he) (k - 1) (by omega)
          have hd : decide (0 < k) = true := decide_eq_true hk0
          cases h2 : incB (nth l (k - 1)) (nth l k)
          all_goals
            first
              | have hv : Hid (vOk incidentB incB l k = true) := vOk_true1 h1 h2
              | have hv : Hid (false = incidentList l) := vAll_bad hlt (vOk_false2 hk0 h2)
            have h3 : decide (0 ≤ incK (nth l (k - 1)) (nth l k)) = !incB (nth l (k - 1)) (nth l k) := incK_ge _ _
            rw [h2] at h3
            clear hsz H
            go_wp2_with fail
            refine region_quiet (by kernel_rfl) (by kernel_rfl) ?_
            repeat (any_goals (first | go_big_quiet_step ((first | (exact Gives.quiet (Incident_validS (nth l k) _ hz)) | (exact Gives.quiet (compareIncidents_any (nth l (k - 1)) (nth l k) _)))) | quiet_step ((first | (exact Gives.quiet (Incident_validS (nth l k) _ hz)) | (exact Gives.quiet (compareIncidents_any (nth l (k - 1)) (nth l k) _))))))
            refine wpQuiet_nil ?_
            intro _ hw'
            obtain ⟨y, hw''⟩ := hw'
            subst hw''
            go_wp2
            first
              | (go_ret; exact ⟨ret_bool hv.out, (he.alloc _).lift y⟩)
              | (go_roundw
                 case rel => exact ⟨k + 1, by omega, by go_num, upto_succ hall.out hv.out, (he.alloc _).lift y⟩
                 case measure => simp [intOf]; omega)
    · have hv : Hid (incidentList l = decide (l.length ≤ 48)) := vAll_end fun j hj => hall.out j (by omega)
      have hl8' : decide (l.length ≤ 48) = true := decide_eq_true (by omega)
      clear hsz H
      go_wp2
      go_ret
      exact ⟨ret_bool (by rw [hv.out, hl8']), he⟩
set_option maxRecDepth 100000 in
set_option maxHeartbeats 2000000 in
theorem l28Ok_any (a : Option Addr) (cap : Nat) (l : List Incident) (w : World) (H : IncidentAt w a l) (hsz : ∀ k, k < l.length → (nth l k).Small) (hlen : l.length ≤ 1048576) :
    Gives Try.prog 96 #[.slice a l.length cap] w (.bool (incidentList l)) := by
  unfold Gives
  go_enter Try.func96, Try.ntmps96
  go_wp2_with fail
  go_loopw [3] (fun i wr => ∃ k : Nat, k ≤ l.length ∧ i = .int .i64 k ∧ Hid (∀ j, j < k → vOk incidentB incB l j = true) ∧ Ext w wr) (fun i _ => l.length - (intOf i).toNat)
  case atStart => exact ⟨0, Nat.zero_le _, rfl, upto_zero, Ext.refl w⟩
  case round =>
    obtain ⟨k, hk, rfl, hall, he⟩ := hrel
    by_cases hlt : k < l.length
    · obtain ⟨b, off, rfl⟩ := H.base hlt
      obtain ⟨hb, c0, c1, c2, c3, c4, c5⟩ := Incident.at (H.ext he) k hlt
      have hz := (hsz k hlt)
      cases h1 : incidentB (nth l k)
      · have hv : Hid (false = incidentList l) := vAll_bad hlt (vOk_false1 h1)
        clear hsz H
        go_wp2_with fail
        refine region_quiet (by kernel_rfl) (by kernel_rfl) ?_
        repeat (any_goals (first | go_big_quiet_step ((first | exact Gives.quiet (l28One_anyS _ _ (nth l k) _ hz (by simp only [lift_cell _ _ _ _ hb, c0]) (by simp only [lift_cell _ _ _ _ hb, c1]) (by simp only [lift_cell _ _ _ _ hb, c2]) (by simp only [lift_cell _ _ _ _ hb, c3]) (by simp only [lift_cell _ _ _ _ hb, c4]) (by simp only [lift_cell _ _ _ _ hb, c5])) | exact Gives.quiet (Gives.same (l28One_anyS _ _ (nth l k) _ hz (by simp only [lift_cell _ _ _ _ hb, c0]) (by simp only [lift_cell _ _ _ _ hb, c1]) (by simp only [lift_cell _ _ _ _ hb, c2]) (by simp only [lift_cell _ _ _ _ hb, c3]) (by simp only [lift_cell _ _ _ _ hb, c4]) (by simp only [lift_cell _ _ _ _ hb, c5]))) | exact Gives.quiet (l28Before_any _ _ _ _ (nth l (k - 1)) (nth l k) _ (by simp only [lift_cell _ _ _ _ hb, p0]) (by simp only [lift_cell _ _ _ _ hb, p1]) (by simp only [lift_cell _ _ _ _ hb, p2]) (by simp only [lift_cell _ _ _ _ hb, c0]) (by simp only [lift_cell _ _ _ _ hb, c1]) (by simp only [lift_cell _ _ _ _ hb, c2])))) | quiet_step ((first | exact Gives.quiet (l28One_anyS _ _ (nth l k) _ hz (by simp only [lift_cell _ _ _ _ hb, c0]) (by simp only [lift_cell _ _ _ _ hb, c1]) (by simp only [lift_cell _ _ _ _ hb, c2]) (by simp only [lift_cell _ _ _ _ hb, c3]) (by simp only [lift_cell _ _ _ _ hb, c4]) (by simp only [lift_cell _ _ _ _ hb, c5])) | exact Gives.quiet (Gives.same (l28One_anyS _ _ (nth l k) _ hz (by simp only [lift_cell _ _ _ _ hb, c0]) (by simp only [lift_cell _ _ _ _ hb, c1]) (by simp only [lift_cell _ _ _ _ hb, c2]) (by simp only [lift_cell _ _ _ _ hb, c3]) (by simp only [lift_cell _ _ _ _ hb, c4]) (by simp only [lift_cell _ _ _ _ hb, c5]))) | exact Gives.quiet (l28Before_any _ _ _ _ (nth l (k - 1)) (nth l k) _ (by simp only [lift_cell _ _ _ _ hb, p0]) (by simp only [lift_cell _ _ _ _ hb, p1]) (by simp only [lift_cell _ _ _ _ hb, p2]) (by simp only [lift_cell _ _ _ _ hb, c0]) (by simp only [lift_cell _ _ _ _ hb, c1]) (by simp only [lift_cell _ _ _ _ hb, c2]))))))
        refine wpQuiet_nil ?_
        intro _ hw'
        obtain ⟨y, hw''⟩ := hw'
        subst hw''
        go_wp2
        go_ret
        exact ⟨ret_bool hv.out, he.lift y⟩
      · rcases Nat.eq_zero_or_pos k with hk0 | hk0
        · have hv : Hid (vOk incidentB incB l k = true) := vOk_true0 h1 hk0
          have hd : decide (0 < k) = false := decide_eq_false (by omega)
          clear hsz H hk0
          go_wp2_with fail
          refine region_quiet (by kernel_rfl) (by kernel_rfl) ?_
          repeat (any_goals (first | go_big_quiet_step ((first | exact Gives.quiet (l28One_anyS _ _ (nth l k) _ hz (by simp only [lift_cell _ _ _ _ hb, c0]) (by simp only [lift_cell _ _ _ _ hb, c1]) (by simp only [lift_cell _ _ _ _ hb, c2]) (by simp only [lift_cell _ _ _ _ hb, c3]) (by simp only [lift_cell _ _ _ _ hb, c4]) (by simp only [lift_cell _ _ _ _ hb, c5])) | exact Gives.quiet (Gives.same (l28One_anyS _ _ (nth l k) _ hz (by simp only [lift_cell _ _ _ _ hb, c0]) (by simp only [lift_cell _ _ _ _ hb, c1]) (by simp only [lift_cell _ _ _ _ hb, c2]) (by simp only [lift_cell _ _ _ _ hb, c3]) (by simp only [lift_cell _ _ _ _ hb, c4]) (by simp only [lift_cell _ _ _ _ hb, c5]))) | exact Gives.quiet (l28Before_any _ _ _ _ (nth l (k - 1)) (nth l k) _ (by simp only [lift_cell _ _ _ _ hb, p0]) (by simp only [lift_cell _ _ _ _ hb, p1]) (by simp only [lift_cell _ _ _ _ hb, p2]) (by simp only [lift_cell _ _ _ _ hb, c0]) (by simp only [lift_cell _ _ _ _ hb, c1]) (by simp only [lift_cell _ _ _ _ hb, c2])))) | quiet_step ((first | exact Gives.quiet (l28One_anyS _ _ (nth l k) _ hz (by simp only [lift_cell _ _ _ _ hb, c0]) (by simp only [lift_cell _ _ _ _ hb, c1]) (by simp only [lift_cell _ _ _ _ hb, c2]) (by simp only [lift_cell _ _ _ _ hb, c3]) (by simp only [lift_cell _ _ _ _ hb, c4]) (by simp only [lift_cell _ _ _ _ hb, c5])) | exact Gives.quiet (Gives.same (l28One_anyS _ _ (nth l k) _ hz (by simp only [lift_cell _ _ _ _ hb, c0]) (by simp only [lift_cell _ _ _ _ hb, c1]) (by simp only [lift_cell _ _ _ _ hb, c2]) (by simp only [lift_cell _ _ _ _ hb, c3]) (by simp only [lift_cell _ _ _ _ hb, c4]) (by simp only [lift_cell _ _ _ _ hb, c5]))) | exact Gives.quiet (l28Before_any _ _ _ _ (nth l (k - 1)) (nth l k) _ (by simp only [lift_cell _ _ _ _ hb, p0]) (by simp only [lift_cell _ _ _ _ hb, p1]) (by simp only [lift_cell _ _ _ _ hb, p2]) (by simp only [lift_cell _ _ _ _ hb, c0]) (by simp only [lift_cell _ _ _ _ hb, c1]) (by simp only [lift_cell _ _ _ _ hb, c2]))))))
          refine wpQuiet_nil ?_
          intro _ hw'
          obtain ⟨y, hw''⟩ := hw'
          subst hw''
          go_wp2
          go_roundw
          case rel => exact ⟨k + 1, by omega, by go_num, upto_succ hall.out hv.out, he.lift y⟩
          case measure => simp [intOf]; omega
        · obtain ⟨-, p0, p1, p2, p3, p4, p5⟩ := Incident.at (H.ext he) (k - 1) (by omega)
          have hd : decide (0 < k) = true := decide_eq_true hk0
          cases h2 : incB (nth l (k - 1)) (nth l k)
          all_goals
            first
              | have hv : Hid (vOk incidentB incB l k = true) := vOk_true1 h1 h2
              | have hv : Hid (false = incidentList l) := vAll_bad hlt (vOk_false2 hk0 h2)
            have h3 : decide (0 ≤ incK (nth l (k - 1)) (nth l k)) = !incB (nth l (k - 1)) (nth l k) := incK_ge _ _
            rw [h2] at h3
            clear hsz H
            go_wp2_with fail
            refine region_quiet (by kernel_rfl) (by kernel_rfl) ?_
            repeat (any_goals (first | go_big_quiet_step ((first | exact Gives.quiet (l28One_anyS _ _ (nth l k) _ hz (by simp only [lift_cell _ _ _ _ hb, c0]) (by simp only [lift_cell _ _ _ _ hb, c1]) (by simp only [lift_cell _ _ _ _ hb, c2]) (by simp only [lift_cell _ _ _ _ hb, c3]) (by simp only [lift_cell _ _ _ _ hb, c4]) (by simp only [lift_cell _ _ _ _ hb, c5])) | exact Gives.quiet (Gives.same (l28One_anyS _ _ (nth l k) _ hz (by simp only [lift_cell _ _ _ _ hb, c0]) (by simp only [lift_cell _ _ _ _ hb, c1]) (by simp only [lift_cell _ _ _ _ hb, c2]) (by simp only [lift_cell _ _ _ _ hb, c3]) (by simp only [lift_cell _ _ _ _ hb, c4]) (by simp only [lift_cell _ _ _ _ hb, c5]))) | exact Gives.quiet (l28Before_any _ _ _ _ (nth l (k - 1)) (nth l k) _ (by simp only [lift_cell _ _ _ _ hb, p0]) (by simp only [lift_cell _ _ _ _ hb, p1]) (by simp only [lift_cell _ _ _ _ hb, p2]) (by simp only [lift_cell _ _ _ _ hb, c0]) (by simp only [lift_cell _ _ _ _ hb, c1]) (by simp only [lift_cell _ _ _ _ hb, c2])))) | quiet_step ((first | exact Gives.quiet (l28One_anyS _ _ (nth l k) _ hz (by simp only [lift_cell _ _ _ _ hb, c0]) (by simp only [lift_cell _ _ _ _ hb, c1]) (by simp only [lift_cell _ _ _ _ hb, c2]) (by simp only [lift_cell _ _ _ _ hb, c3]) (by simp only [lift_cell _ _ _ _ hb, c4]) (by simp only [lift_cell _ _ _ _ hb, c5])) | exact Gives.quiet (Gives.same (l28One_anyS _ _ (nth l k) _ hz (by simp only [lift_cell _ _ _ _ hb, c0]) (by simp only [lift_cell _ _ _ _ hb, c1]) (by simp only [lift_cell _ _ _ _ hb, c2]) (by simp only [lift_cell _ _ _ _ hb, c3]) (by simp only [lift_cell _ _ _ _ hb, c4]) (by simp only [lift_cell _ _ _ _ hb, c5]))) | exact Gives.quiet (l28Before_any _ _ _ _ (nth l (k - 1)) (nth l k) _ (by simp only [lift_cell _ _ _ _ hb, p0]) (by simp only [lift_cell _ _ _ _ hb, p1]) (by simp only [lift_cell _ _ _ _ hb, p2]) (by simp only [lift_cell _ _ _ _ hb, c0]) (by simp only [lift_cell _ _ _ _ hb, c1]) (by simp only [lift_cell _ _ _ _ hb, c2]))))))
            refine wpQuiet_nil ?_
            intro _ hw'
            obtain ⟨y, hw''⟩ := hw'
            subst hw''
            go_wp2
            first
              | (go_ret; exact ⟨ret_bool hv.out, he.lift y⟩)
              | (go_roundw
                 case rel => exact ⟨k + 1, by omega, by go_num, upto_succ hall.out hv.out, he.lift y⟩
                 case measure => simp [intOf]; omega)
    · have hv : Hid (incidentList l = decide (l.length ≤ 48)) := vAll_end fun j hj => hall.out j (by omega)
      clear hsz H
      go_wp2
      go_ret
      exact ⟨ret_bool (by rw [hv.out, Bool.eq_iff_iff, decide_eq_true_eq, decide_eq_true_eq]; omega), he⟩
set_option maxRecDepth 100000 in
set_option maxHeartbeats 4000000 in
theorem BSIncident_any (a : Option Addr) (cap : Nat) (l : List Incident) (F : FuncId) (y : Incident) (c : Incident → Int) (w : World) (eg : Enters Try.prog F) (H : IncidentAt w a l) (hlen : l.length ≤ 1048576)
    (hf : ∀ k w', k < l.length → Ext w w' → Gives Try.prog F #[.agg #[.int .i64 (nth l k).day, .string (nth l k).place, .string (nth l k).cause, .int .i64 (nth l k).level, .int .i64 (nth l k).caught, .int .i64 (nth l k).buried], .agg #[.int .i64 y.day, .string y.place, .string y.cause, .int .i64 y.level, .int .i64 y.caught, .int .i64 y.buried]] w' (.int .i64 (c (nth l k))))
    (hm : ∀ i j, i ≤ j → j < l.length → c (nth l j) < 0 → c (nth l i) < 0) :
    Gives Try.prog 100 #[.slice a l.length cap, .agg #[.int .i64 y.day, .string y.place, .string y.cause, .int .i64 y.level, .int .i64 y.caught, .int .i64 y.buried], .func (.func F) #[] #[]] w (.tuple #[.int .i64 (lowB c l : Nat), .bool (hitB c l)]) := by
  unfold Gives
  have HF := Lib.hid hf
  have HM := Lib.hid hm
  clear hf hm
  unfold Enters at eg
  obtain ⟨w1, hw1⟩ : ∃ w1, w1 = w.alloc (.cells #[.int .i64 y.day, .string y.place, .string y.cause, .int .i64 y.level, .int .i64 y.caught, .int .i64 y.buried] 71) := ⟨_, rfl⟩
  have E0 : Ext w w1 := by rw [hw1]; exact (Ext.refl w).alloc _
  have xl : w.heap.size < w1.heap.size := by rw [hw1, size_new]; omega
  have xv0 : Hid (w1.cell? ⟨w.heap.size, 0, none⟩ = some (.int .i64 y.day)) := by show _ = _; rw [hw1, cell_new]; rfl
  have xv1 : Hid (w1.cell? ⟨w.heap.size, 1, none⟩ = some (.string y.place)) := by show _ = _; rw [hw1, cell_new]; rfl
  have xv2 : Hid (w1.cell? ⟨w.heap.size, 2, none⟩ = some (.string y.cause)) := by show _ = _; rw [hw1, cell_new]; rfl
  have xv3 : Hid (w1.cell? ⟨w.heap.size, 3, none⟩ = some (.int .i64 y.level)) := by show _ = _; rw [hw1, cell_new]; rfl
  have xv4 : Hid (w1.cell? ⟨w.heap.size, 4, none⟩ = some (.int .i64 y.caught)) := by show _ = _; rw [hw1, cell_new]; rfl
  have xv5 : Hid (w1.cell? ⟨w.heap.size, 5, none⟩ = some (.int .i64 y.buried)) := by show _ = _; rw [hw1, cell_new]; rfl
  go_enter Try.func100, Try.ntmps100
  go_wp2_with fail
  rw [← hw1]
  clear hw1
  go_loopg [9, 10] l.length (fun g s9 s10 wr => ∃ lo hi : Nat, s9 = .int .i64 lo ∧ s10 = .int .i64 hi ∧ lo ≤ hi ∧ hi ≤ l.length ∧ hi - lo ≤ g ∧ Hid (∀ t, t < lo → c (nth l t) < 0) ∧ Hid (∀ t, hi ≤ t → t < l.length → 0 ≤ c (nth l t)) ∧ Ext w1 wr)
  case atStart => exact ⟨0, l.length, rfl, rfl, Nat.zero_le _, Nat.le_refl _, by omega, fun t ht => absurd ht (Nat.not_lt_zero _), fun t h1 h2 => by omega, Ext.refl w1⟩
  case round =>
    obtain ⟨lo, hi, rfl, rfl, hlh, hin, hg, hL, hH, he⟩ := hrel
    have xb := Nat.lt_of_lt_of_le xl he.size
    have xd0 := he.cell xv0.out
    have xd1 := he.cell xv1.out
    have xd2 := he.cell xv2.out
    have xd3 := he.cell xv3.out
    have xd4 := he.cell xv4.out
    have xd5 := he.cell xv5.out
    have heh := Lib.hid he
    by_cases hlt : lo < hi
    · obtain ⟨m, hmid⟩ : ∃ m, m = (lo + hi) / 2 := ⟨_, rfl⟩
      have hml : m < l.length := by omega
      obtain ⟨b, off, rfl⟩ := H.base hml
      obtain ⟨hb, c0, c1, c2, c3, c4, c5⟩ := Incident.at (H.ext (E0.trans he)) m hml
      have hmi : ((lo : Int) + (hi : Int)) / 2 = (m : Int) := by omega
      have hmn : (lo + hi) / 2 = m := by omega
      have hlm : lo ≤ m ∧ m < hi := by omega
      clear H hmid he
      by_cases hyx : c (nth l m) < 0
      · have hd : decide (c (nth l m) < 0) = true := decide_eq_true hyx
        go_wp2_with (simp only [hmi, hmn])
        refine region_quiet (by kernel_rfl) (by kernel_rfl) ?_
        repeat (any_goals (first | go_big_quiet_step ((exact Gives.quiet (HF.out m _ hml ((E0.trans heh.out).lift _)))) | quiet_step ((exact Gives.quiet (HF.out m _ hml ((E0.trans heh.out).lift _))))))
        refine wpQuiet_nil ?_
        intro _ hw'
        obtain ⟨y, hw''⟩ := hw'
        subst hw''
        go_wp2_with fail
        go_roundg (hi - (m + 1))
        case measure => omega
        case rel =>
          have hL2 : Hid (∀ t, t < m + 1 → c (nth l t) < 0) := fun t ht => HM.out t m (by omega) hml hyx
          exact ⟨m + 1, hi, by go_num, rfl, by omega, hin, Nat.le_refl _, hL2, hH, heh.out.lift _⟩
      · have hd : decide (c (nth l m) < 0) = false := decide_eq_false hyx
        go_wp2_with (simp only [hmi, hmn])
        refine region_quiet (by kernel_rfl) (by kernel_rfl) ?_
        repeat (any_goals (first | go_big_quiet_step ((exact Gives.quiet (HF.out m _ hml ((E0.trans heh.out).lift _)))) | quiet_step ((exact Gives.quiet (HF.out m _ hml ((E0.trans heh.out).lift _))))))
        refine wpQuiet_nil ?_
        intro _ hw'
        obtain ⟨y, hw''⟩ := hw'
        subst hw''
        go_wp2_with fail
        go_roundg (m - lo)
        case measure => omega
        case rel =>
          have hH2 : Hid (∀ t, m ≤ t → t < l.length → 0 ≤ c (nth l t)) := fun t ht htn => Int.not_lt.1 fun h => by have := HM.out m t ht htn h; omega
          exact ⟨lo, m, rfl, rfl, by omega, by omega, Nat.le_refl _, hL, hH2, heh.out.lift _⟩
    · obtain rfl : hi = lo := by omega
      have hk := lowB_eq hin hL.out hH.out
      by_cases hn : hi < l.length
      · obtain ⟨b, off, rfl⟩ := H.base hn
        obtain ⟨hb, c0, c1, c2, c3, c4, c5⟩ := Incident.at (H.ext (E0.trans he)) hi hn
        cases hz : (c (nth l hi) == 0)
        all_goals
          have hv := Lib.hid (hitB_at hk hn hz)
          have hk' := Lib.hid hk
          clear H hk he
          go_wp2_with fail
          refine region_quiet (by kernel_rfl) (by kernel_rfl) ?_
          repeat (any_goals (first | go_big_quiet_step ((exact Gives.quiet (HF.out hi _ hn ((E0.trans heh.out).lift _)))) | quiet_step ((exact Gives.quiet (HF.out hi _ hn ((E0.trans heh.out).lift _))))))
          refine wpQuiet_nil ?_
          intro _ hw'
          obtain ⟨y, hw''⟩ := hw'
          subst hw''
          go_wp2_with fail
          go_ret2
          exact ⟨ret_ib hk'.out hv.out, (E0.trans heh.out).lift _⟩
      · have hv := Lib.hid (hitB_end hk hn)
        have hk' := Lib.hid hk
        clear H hk he
        go_wp2_with fail
        refine region_quiet (by kernel_rfl) (by kernel_rfl) ?_
        repeat (any_goals (first | go_big_quiet_step ((fail)) | quiet_step ((fail))))
        refine wpQuiet_nil ?_
        intro _ hw'
        obtain ⟨y, hw''⟩ := hw'
        subst hw''
        go_wp2_with fail
        go_ret2
        exact ⟨ret_ib hk'.out hv.out, (E0.trans heh.out).lift _⟩
set_option maxRecDepth 100000 in
set_option maxHeartbeats 4000000 in
theorem CloneIncident_any (a : Option Addr) (cap : Nat) (l : List Incident) (w : World) (H : IncidentAt w a l) (hlen : l.length ≤ 1048576) :
    Calls Try.prog 104 #[.slice a l.length cap] w fun e w' => ∃ v, e = .returned v ∧ Lst 71 6 Incident.cell w' w.heap.size v l ∧ Ext w w' := by
  cases a with
  | none =>
    have h0 : l = [] := by
      cases l with
      | nil => rfl
      | cons x r => obtain ⟨b, off, h⟩ := H.base (show 0 < (x :: r).length by simp); cases h
    subst h0
    clear H
    have hq := Lib.hid (fun (w : World) => run_eql_slice_nil (P := Try.prog) w 67 71 none 0 cap Try.underlying67)
    go_enter Try.func104, Try.ntmps104
    go_wp2_with (simp only [hq.out])
    go_ret
    exact ⟨_, rfl, Lst.nil _ _, Ext.refl _⟩
  | some ad =>
    have HO := Lib.hid (Lst.new (T := 71) (n := 6) (cell := Incident.cell) w w.heap.size (Nat.le_refl _))
    have HR := Lib.hid (RowsAt.ext H ((Ext.refl w).alloc (.cells #[] 71)))
    clear H
    obtain ⟨ab, ao, asp⟩ := ad
    have hq := Lib.hid (fun (w : World) => run_eql_slice_nil (P := Try.prog) w 67 71 (some ⟨ab, ao, asp⟩) l.length cap Try.underlying67)
    have C1 : Hid (([] : List Incident).length + l.length ≤ 9223372036854775807) := by show _ ≤ _; rw [List.length_nil]; omega
    have C2 : Hid ((([] : List Incident).length + l.length) * 64 ≤ 140737488355328) := by show _ ≤ _; rw [List.length_nil]; omega
    have hb : Hid (w.heap.size ≤ (w.alloc (.cells #[] 71)).heap.size) := by show _ ≤ _; rw [size_new]; omega
    go_enter Try.func104, Try.ntmps104
    go_wp2_with (first | (at_builtin; refine wpList_pushL elIncident oneIncident rfl _ _ rfl w.heap.size _ [] rfl HO.out ⟨ab, ao, asp⟩ l.length cap l rfl rfl HR.out C1.out C2.out hb.out ?_; intro v' w1 HL1 hs1 _) | (simp only [hq.out]))
    have HL2 := Lib.hid HL1
    have hs2 := Lib.hid hs1
    clear HL1 hs1
    go_wp2_with fail
    go_ret
    exact ⟨v', rfl, HL2.out, hs2.out.ext ((Ext.refl w).alloc _) (Nat.le_refl _)⟩
end Go.Proofs.Ytchoalgfnngjhaa
