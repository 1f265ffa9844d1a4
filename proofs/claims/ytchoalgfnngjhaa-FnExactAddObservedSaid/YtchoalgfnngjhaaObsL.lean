/- Lists of observations: when one is valid; where an hour has its place; a copy. -/
import Derived.Test.YtchoalgfnngjhaaObsV
import Derived.Test.YtchoalgfnngjhaaAdd
import Derived.Test.YtchoalgfnngjhaaInsObs
namespace Go.Proofs.Ytchoalgfnngjhaa
open Go.RowKit
def obsOrd (x y : Observed) : Bool := decide (x.hour < y.hour)
/-- The list is valid. -/
def obsList (l : List Observed) : Bool := vAll obsB obsOrd 48 l
set_option maxRecDepth 100000 in
set_option maxHeartbeats 2000000 in
theorem ValidObserveds_any (a : Option Addr) (cap : Nat) (l : List Observed) (w : World) (H : ObservedAt w a l) (hsz : ∀ k, k < l.length → (nth l k).Small) (hlen : l.length ≤ 1048576) :
    Gives Try.prog 79 #[.slice a l.length cap] w (.bool (obsList l)) := by
  unfold Gives
  by_cases hl8 : 48 < l.length
  · have hv : Hid (false = obsList l) := vAll_len hl8
    go_enter Try.func79, Try.ntmps79
    go_wp2
    go_ret
    exact ⟨ret_bool hv.out, Ext.refl _⟩
  go_enter Try.func79, Try.ntmps79
  go_wp2_with fail
  go_loopw [10] (fun i wr => ∃ k : Nat, k ≤ l.length ∧ i = .int .i64 k ∧ Hid (∀ j, j < k → vOk obsB obsOrd l j = true) ∧ Ext w wr) (fun i _ => l.length - (intOf i).toNat)
  case atStart => exact ⟨0, Nat.zero_le _, rfl, upto_zero, Ext.refl w⟩
  case round =>
    obtain ⟨k, hk, rfl, hall, he⟩ := hrel
    by_cases hlt : k < l.length
    · obtain ⟨b, off, rfl⟩ := H.base hlt
      obtain ⟨hb, c0, c1, c2, c3⟩ := Observed.at (H.ext he) k hlt
      have hz := (hsz k hlt)
      cases h1 : obsB (nth l k)
      · have hv : Hid (false = obsList l) := vAll_bad hlt (vOk_false1 h1)
        clear hsz H
        go_wp2_with fail
        refine region_quiet (by kernel_rfl) (by kernel_rfl) ?_
        repeat (any_goals (first | go_big_quiet_step ((exact Gives.quiet (Observed_valid (nth l k) _))) | quiet_step ((exact Gives.quiet (Observed_valid (nth l k) _)))))
        refine wpQuiet_nil ?_
        intro _ hw'
        obtain ⟨y, hw''⟩ := hw'
        subst hw''
        go_wp2
        go_ret
        exact ⟨ret_bool hv.out, (he.alloc _).lift y⟩
      · rcases Nat.eq_zero_or_pos k with hk0 | hk0
        · have hv : Hid (vOk obsB obsOrd l k = true) := vOk_true0 h1 hk0
          have hd : decide (0 < k) = false := decide_eq_false (by omega)
          clear hsz H hk0
          go_wp2_with fail
          refine region_quiet (by kernel_rfl) (by kernel_rfl) ?_
          repeat (any_goals (first | go_big_quiet_step ((exact Gives.quiet (Observed_valid (nth l k) _))) | quiet_step ((exact Gives.quiet (Observed_valid (nth l k) _)))))
          refine wpQuiet_nil ?_
          intro _ hw'
          obtain ⟨y, hw''⟩ := hw'
          subst hw''
          go_wp2
          go_roundw
          case rel => exact ⟨k + 1, by omega, by go_num, upto_succ hall.out hv.out, (he.alloc _).lift y⟩
          case measure => simp [intOf]; omega
        · obtain ⟨-, p0, -, -, -⟩ := Observed.at (H.ext he) (k - 1) (by omega)
          have hd : decide (0 < k) = true := decide_eq_true hk0
          cases h2 : decide ((nth l (k - 1)).hour < (nth l k).hour)
          all_goals
            first
              | have hv : Hid (vOk obsB obsOrd l k = true) := vOk_true1 h1 h2
              | have hv : Hid (false = obsList l) := vAll_bad hlt (vOk_false2 hk0 h2)
            have h3 : decide ((nth l k).hour ≤ (nth l (k - 1)).hour) = !decide ((nth l (k - 1)).hour < (nth l k).hour) := by rw [Bool.eq_iff_iff]; simp
            rw [h2] at h3
            clear hsz H
            go_wp2_with fail
            refine region_quiet (by kernel_rfl) (by kernel_rfl) ?_
            repeat (any_goals (first | go_big_quiet_step ((exact Gives.quiet (Observed_valid (nth l k) _))) | quiet_step ((exact Gives.quiet (Observed_valid (nth l k) _)))))
            refine wpQuiet_nil ?_
            intro _ hw'
            obtain ⟨y, hw''⟩ := hw'
            subst hw''
            go_wp2
            first
              | (go_ret; exact ⟨ret_bool hv.out, (he.alloc _).lift y⟩)
              | (go_roundw
                 case rel => exact ⟨k + 1, by omega, by go_num, upto_succ hall.out hv.out, (he.alloc _).lift y⟩
                 case measure => simp [intOf]; omega)
    · have hv : Hid (obsList l = decide (l.length ≤ 48)) := vAll_end fun j hj => hall.out j (by omega)
      have hl8' : decide (l.length ≤ 48) = true := decide_eq_true (by omega)
      clear hsz H
      go_wp2
      go_ret
      exact ⟨ret_bool (by rw [hv.out, hl8']), he⟩
set_option maxRecDepth 100000 in
set_option maxHeartbeats 2000000 in
theorem l04Ok_any (a : Option Addr) (cap : Nat) (l : List Observed) (w : World) (H : ObservedAt w a l) (hsz : ∀ k, k < l.length → (nth l k).Small) (hlen : l.length ≤ 1048576) :
    Gives Try.prog 77 #[.slice a l.length cap] w (.bool (obsList l)) := by
  unfold Gives
  go_enter Try.func77, Try.ntmps77
  go_wp2_with fail
  go_loopw [3] (fun i wr => ∃ k : Nat, k ≤ l.length ∧ i = .int .i64 k ∧ Hid (∀ j, j < k → vOk obsB obsOrd l j = true) ∧ Ext w wr) (fun i _ => l.length - (intOf i).toNat)
  case atStart => exact ⟨0, Nat.zero_le _, rfl, upto_zero, Ext.refl w⟩
  case round =>
    obtain ⟨k, hk, rfl, hall, he⟩ := hrel
    by_cases hlt : k < l.length
    · obtain ⟨b, off, rfl⟩ := H.base hlt
      obtain ⟨hb, c0, c1, c2, c3⟩ := Observed.at (H.ext he) k hlt
      have hz := (hsz k hlt)
      cases h1 : obsB (nth l k)
      · have hv : Hid (false = obsList l) := vAll_bad hlt (vOk_false1 h1)
        clear hsz H
        go_wp2_with fail
        refine region_quiet (by kernel_rfl) (by kernel_rfl) ?_
        repeat (any_goals (first | go_big_quiet_step ((first | exact Gives.quiet (l04One_any _ _ (nth l k) _ (by simp only [lift_cell _ _ _ _ hb, c0]) (by simp only [lift_cell _ _ _ _ hb, c1]) (by simp only [lift_cell _ _ _ _ hb, c2]) (by simp only [lift_cell _ _ _ _ hb, c3])) | exact Gives.quiet (Gives.same (l04One_any _ _ (nth l k) _ (by simp only [lift_cell _ _ _ _ hb, c0]) (by simp only [lift_cell _ _ _ _ hb, c1]) (by simp only [lift_cell _ _ _ _ hb, c2]) (by simp only [lift_cell _ _ _ _ hb, c3]))))) | quiet_step ((first | exact Gives.quiet (l04One_any _ _ (nth l k) _ (by simp only [lift_cell _ _ _ _ hb, c0]) (by simp only [lift_cell _ _ _ _ hb, c1]) (by simp only [lift_cell _ _ _ _ hb, c2]) (by simp only [lift_cell _ _ _ _ hb, c3])) | exact Gives.quiet (Gives.same (l04One_any _ _ (nth l k) _ (by simp only [lift_cell _ _ _ _ hb, c0]) (by simp only [lift_cell _ _ _ _ hb, c1]) (by simp only [lift_cell _ _ _ _ hb, c2]) (by simp only [lift_cell _ _ _ _ hb, c3])))))))
        refine wpQuiet_nil ?_
        intro _ hw'
        obtain ⟨y, hw''⟩ := hw'
        subst hw''
        go_wp2
        go_ret
        exact ⟨ret_bool hv.out, he.lift y⟩
      · rcases Nat.eq_zero_or_pos k with hk0 | hk0
        · have hv : Hid (vOk obsB obsOrd l k = true) := vOk_true0 h1 hk0
          have hd : decide (0 < k) = false := decide_eq_false (by omega)
          clear hsz H hk0
          go_wp2_with fail
          refine region_quiet (by kernel_rfl) (by kernel_rfl) ?_
          repeat (any_goals (first | go_big_quiet_step ((first | exact Gives.quiet (l04One_any _ _ (nth l k) _ (by simp only [lift_cell _ _ _ _ hb, c0]) (by simp only [lift_cell _ _ _ _ hb, c1]) (by simp only [lift_cell _ _ _ _ hb, c2]) (by simp only [lift_cell _ _ _ _ hb, c3])) | exact Gives.quiet (Gives.same (l04One_any _ _ (nth l k) _ (by simp only [lift_cell _ _ _ _ hb, c0]) (by simp only [lift_cell _ _ _ _ hb, c1]) (by simp only [lift_cell _ _ _ _ hb, c2]) (by simp only [lift_cell _ _ _ _ hb, c3]))))) | quiet_step ((first | exact Gives.quiet (l04One_any _ _ (nth l k) _ (by simp only [lift_cell _ _ _ _ hb, c0]) (by simp only [lift_cell _ _ _ _ hb, c1]) (by simp only [lift_cell _ _ _ _ hb, c2]) (by simp only [lift_cell _ _ _ _ hb, c3])) | exact Gives.quiet (Gives.same (l04One_any _ _ (nth l k) _ (by simp only [lift_cell _ _ _ _ hb, c0]) (by simp only [lift_cell _ _ _ _ hb, c1]) (by simp only [lift_cell _ _ _ _ hb, c2]) (by simp only [lift_cell _ _ _ _ hb, c3])))))))
          refine wpQuiet_nil ?_
          intro _ hw'
          obtain ⟨y, hw''⟩ := hw'
          subst hw''
          go_wp2
          go_roundw
          case rel => exact ⟨k + 1, by omega, by go_num, upto_succ hall.out hv.out, he.lift y⟩
          case measure => simp [intOf]; omega
        · obtain ⟨-, p0, -, -, -⟩ := Observed.at (H.ext he) (k - 1) (by omega)
          have hd : decide (0 < k) = true := decide_eq_true hk0
          cases h2 : decide ((nth l (k - 1)).hour < (nth l k).hour)
          all_goals
            first
              | have hv : Hid (vOk obsB obsOrd l k = true) := vOk_true1 h1 h2
              | have hv : Hid (false = obsList l) := vAll_bad hlt (vOk_false2 hk0 h2)
            have h3 : decide ((nth l k).hour ≤ (nth l (k - 1)).hour) = !decide ((nth l (k - 1)).hour < (nth l k).hour) := by rw [Bool.eq_iff_iff]; simp
            rw [h2] at h3
            clear hsz H
            go_wp2_with fail
            refine region_quiet (by kernel_rfl) (by kernel_rfl) ?_
            repeat (any_goals (first | go_big_quiet_step ((first | exact Gives.quiet (l04One_any _ _ (nth l k) _ (by simp only [lift_cell _ _ _ _ hb, c0]) (by simp only [lift_cell _ _ _ _ hb, c1]) (by simp only [lift_cell _ _ _ _ hb, c2]) (by simp only [lift_cell _ _ _ _ hb, c3])) | exact Gives.quiet (Gives.same (l04One_any _ _ (nth l k) _ (by simp only [lift_cell _ _ _ _ hb, c0]) (by simp only [lift_cell _ _ _ _ hb, c1]) (by simp only [lift_cell _ _ _ _ hb, c2]) (by simp only [lift_cell _ _ _ _ hb, c3]))))) | quiet_step ((first | exact Gives.quiet (l04One_any _ _ (nth l k) _ (by simp only [lift_cell _ _ _ _ hb, c0]) (by simp only [lift_cell _ _ _ _ hb, c1]) (by simp only [lift_cell _ _ _ _ hb, c2]) (by simp only [lift_cell _ _ _ _ hb, c3])) | exact Gives.quiet (Gives.same (l04One_any _ _ (nth l k) _ (by simp only [lift_cell _ _ _ _ hb, c0]) (by simp only [lift_cell _ _ _ _ hb, c1]) (by simp only [lift_cell _ _ _ _ hb, c2]) (by simp only [lift_cell _ _ _ _ hb, c3])))))))
            refine wpQuiet_nil ?_
            intro _ hw'
            obtain ⟨y, hw''⟩ := hw'
            subst hw''
            go_wp2
            first
              | (go_ret; exact ⟨ret_bool hv.out, he.lift y⟩)
              | (go_roundw
                 case rel => exact ⟨k + 1, by omega, by go_num, upto_succ hall.out hv.out, he.lift y⟩
                 case measure => simp [intOf]; omega)
    · have hv : Hid (obsList l = decide (l.length ≤ 48)) := vAll_end fun j hj => hall.out j (by omega)
      clear hsz H
      go_wp2
      go_ret
      exact ⟨ret_bool (by rw [hv.out, Bool.eq_iff_iff, decide_eq_true_eq, decide_eq_true_eq]; omega), he⟩
set_option maxRecDepth 100000 in
set_option maxHeartbeats 4000000 in
theorem BSObserved_any (a : Option Addr) (cap : Nat) (l : List Observed) (F : FuncId) (vs : Array Value) (tv : Value) (c : Observed → Int) (w : World) (eg : Enters Try.prog F) (H : ObservedAt w a l) (hlen : l.length ≤ 1048576)
    (hf : ∀ k w', k < l.length → Ext w w' → Gives Try.prog F (#[Observed.val (nth l k), tv] ++ vs) w' (.int .i64 (c (nth l k))))
    (hm : ∀ i j, i ≤ j → j < l.length → c (nth l j) < 0 → c (nth l i) < 0) :
    Gives Try.prog 80 #[.slice a l.length cap, tv, .func (.func F) #[] vs] w (.tuple #[.int .i64 (lowB c l : Nat), .bool (hitB c l)]) := by
  unfold Gives
  have HF := Lib.hid hf
  have HM := Lib.hid hm
  clear hf hm
  unfold Enters at eg
  go_enter Try.func80, Try.ntmps80
  go_wp2_with fail
  go_loopg [9, 10] l.length (fun g s9 s10 wr => ∃ lo hi : Nat, s9 = .int .i64 lo ∧ s10 = .int .i64 hi ∧ lo ≤ hi ∧ hi ≤ l.length ∧ hi - lo ≤ g ∧ Hid (∀ t, t < lo → c (nth l t) < 0) ∧ Hid (∀ t, hi ≤ t → t < l.length → 0 ≤ c (nth l t)) ∧ Ext w wr)
  case atStart => exact ⟨0, l.length, rfl, rfl, Nat.zero_le _, Nat.le_refl _, by omega, fun t ht => absurd ht (Nat.not_lt_zero _), fun t h1 h2 => by omega, Ext.refl w⟩
  case round =>
    obtain ⟨lo, hi, rfl, rfl, hlh, hin, hg, hL, hH, he⟩ := hrel
    by_cases hlt : lo < hi
    · obtain ⟨m, hmid⟩ : ∃ m, m = (lo + hi) / 2 := ⟨_, rfl⟩
      have hml : m < l.length := by omega
      obtain ⟨b, off, rfl⟩ := H.base hml
      obtain ⟨hb, c0, c1, c2, c3⟩ := Observed.at (H.ext he) m hml
      have hmi : ((lo : Int) + (hi : Int)) / 2 = (m : Int) := by omega
      have hmn : (lo + hi) / 2 = m := by omega
      have hlm : lo ≤ m ∧ m < hi := by omega
      clear H hmid
      by_cases hyx : c (nth l m) < 0
      · go_wp2_with (simp only [hmi, hmn])
        refine (HF.out m _ hml he).mono ?_
        rintro e w' ⟨rfl, y, rfl⟩
        go_wp2_with fail
        go_roundg (hi - (m + 1))
        case measure => omega
        case rel =>
          have hL2 : Hid (∀ t, t < m + 1 → c (nth l t) < 0) := fun t ht => HM.out t m (by omega) hml hyx
          exact ⟨m + 1, hi, by go_num, rfl, by omega, hin, Nat.le_refl _, hL2, hH, he.lift y⟩
      · go_wp2_with (simp only [hmi, hmn])
        refine (HF.out m _ hml he).mono ?_
        rintro e w' ⟨rfl, y, rfl⟩
        go_wp2_with fail
        go_roundg (m - lo)
        case measure => omega
        case rel =>
          have hH2 : Hid (∀ t, m ≤ t → t < l.length → 0 ≤ c (nth l t)) := fun t ht htn => Int.not_lt.1 fun h => by have := HM.out m t ht htn h; omega
          exact ⟨lo, m, rfl, rfl, by omega, by omega, Nat.le_refl _, hL, hH2, he.lift y⟩
    · obtain rfl : hi = lo := by omega
      have hk := lowB_eq hin hL.out hH.out
      by_cases hn : hi < l.length
      · obtain ⟨b, off, rfl⟩ := H.base hn
        obtain ⟨hb, c0, c1, c2, c3⟩ := Observed.at (H.ext he) hi hn
        cases hz : (c (nth l hi) == 0)
        all_goals
          have hv := Lib.hid (hitB_at hk hn hz)
          have hk' := Lib.hid hk
          clear H hk
          go_wp2_with fail
          refine (HF.out hi _ hn he).mono ?_
          rintro e w' ⟨rfl, y, rfl⟩
          go_wp2_with fail
          go_ret2
          exact ⟨ret_ib hk'.out hv.out, he.lift y⟩
      · have hv := Lib.hid (hitB_end hk hn)
        have hk' := Lib.hid hk
        clear H hk
        go_wp2_with fail
        go_ret2
        exact ⟨ret_ib hk'.out hv.out, he⟩
set_option maxRecDepth 100000 in
set_option maxHeartbeats 4000000 in
theorem CloneObserved_any (a : Option Addr) (cap : Nat) (l : List Observed) (w : World) (H : ObservedAt w a l) (hlen : l.length ≤ 1048576) :
    Calls Try.prog 84 #[.slice a l.length cap] w fun e w' => ∃ v, e = .returned v ∧ Lst 43 4 Observed.cell w' w.heap.size v l ∧ Ext w w' := by
  cases a with
  | none =>
    have h0 : l = [] := by
      cases l with
      | nil => rfl
      | cons x r => obtain ⟨b, off, h⟩ := H.base (show 0 < (x :: r).length by simp); cases h
    subst h0
    clear H
    have hq := Lib.hid (fun (w : World) => run_eql_slice_nil (P := Try.prog) w 39 43 none 0 cap Try.underlying39)
    go_enter Try.func84, Try.ntmps84
    go_wp2_with (simp only [hq.out])
    go_ret
    exact ⟨_, rfl, Lst.nil _ _, Ext.refl _⟩
  | some ad =>
    have HO := Lib.hid (Lst.new (T := 43) (n := 4) (cell := Observed.cell) w w.heap.size (Nat.le_refl _))
    have HR := Lib.hid (RowsAt.ext H ((Ext.refl w).alloc (.cells #[] 43)))
    clear H
    obtain ⟨ab, ao, asp⟩ := ad
    have hq := Lib.hid (fun (w : World) => run_eql_slice_nil (P := Try.prog) w 39 43 (some ⟨ab, ao, asp⟩) l.length cap Try.underlying39)
    have C1 : Hid (([] : List Observed).length + l.length ≤ 9223372036854775807) := by show _ ≤ _; rw [List.length_nil]; omega
    have C2 : Hid ((([] : List Observed).length + l.length) * 32 ≤ 140737488355328) := by show _ ≤ _; rw [List.length_nil]; omega
    have hb : Hid (w.heap.size ≤ (w.alloc (.cells #[] 43)).heap.size) := by show _ ≤ _; rw [size_new]; omega
    go_enter Try.func84, Try.ntmps84
    go_wp2_with (first | (at_builtin; refine wpList_pushL elObserved oneObserved rfl _ _ rfl w.heap.size _ [] rfl HO.out ⟨ab, ao, asp⟩ l.length cap l rfl rfl HR.out C1.out C2.out hb.out ?_; intro v' w1 HL1 hs1 _) | (simp only [hq.out]))
    have HL2 := Lib.hid HL1
    have hs2 := Lib.hid hs1
    clear HL1 hs1
    go_wp2_with fail
    go_ret
    exact ⟨v', rfl, HL2.out, hs2.out.ext ((Ext.refl w).alloc _) (Nat.le_refl _)⟩
end Go.Proofs.Ytchoalgfnngjhaa
