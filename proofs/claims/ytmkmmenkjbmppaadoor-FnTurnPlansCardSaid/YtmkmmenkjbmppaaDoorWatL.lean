/- Lists of watches: when one is valid; where one has its place; a copy. -/
import Derived.Test.YtmkmmenkjbmppaaDoorWatC
namespace Go.Proofs.YtmkmmenkjbmppaaDoor
open Go.RowKit
theorem wat_cases (p c : Watch) (hp : 1 ≤ p.hours) :
    (watOrd p c = true ∧ decide (0 ≤ watK p c) = false ∧ sEq p.person c.person = false ∧ sLt p.person c.person = true ∧ sLt c.person p.person = false) ∨
    (watOrd p c = true ∧ decide (0 ≤ watK p c) = false ∧ sEq p.person c.person = true ∧ sLt p.person c.person = false ∧ sLt c.person p.person = false ∧ decide (c.start < p.start + p.hours) = false) ∨
    (watOrd p c = false ∧ decide (0 ≤ watK p c) = false ∧ sEq p.person c.person = true ∧ sLt p.person c.person = false ∧ sLt c.person p.person = false ∧ decide (c.start < p.start + p.hours) = true) ∨
    (watOrd p c = false ∧ decide (0 ≤ watK p c) = true ∧ sEq p.person c.person = true ∧ sLt p.person c.person = false ∧ sLt c.person p.person = false ∧ decide (c.start < p.start + p.hours) = true) ∨
    (watOrd p c = false ∧ decide (0 ≤ watK p c) = true ∧ sEq p.person c.person = false ∧ sLt p.person c.person = false ∧ sLt c.person p.person = true) := by
  rw [watK_ge]
  by_cases h : p.person = c.person
  · have e1 : sEq p.person c.person = true := sEq_iff.2 h
    have e2 : sLt p.person c.person = false := by rw [h]; exact sLt_irrefl _
    have e3 : sLt c.person p.person = false := by rw [h]; exact sLt_irrefl _
    have o : watOrd p c = decide (p.start + p.hours ≤ c.start) := by unfold watOrd; rw [if_pos h]
    have b : watB p c = decide (p.start < c.start) := by unfold watB; rw [if_pos h]
    rw [o, b, e1, e2, e3]
    rcases Int.lt_or_le c.start (p.start + p.hours) with h1 | h1
    · rcases Int.lt_or_le p.start c.start with h2 | h2
      · refine .inr (.inr (.inl ⟨decide_eq_false (by omega), by rw [decide_eq_true h2]; rfl, rfl, rfl, rfl, decide_eq_true h1⟩))
      · refine .inr (.inr (.inr (.inl ⟨decide_eq_false (by omega), by rw [decide_eq_false (by omega)]; rfl, rfl, rfl, rfl, decide_eq_true h1⟩)))
    · refine .inr (.inl ⟨decide_eq_true h1, by rw [decide_eq_true (show p.start < c.start by omega)]; rfl, rfl, rfl, rfl, decide_eq_false (by omega)⟩)
  · have e1 : sEq p.person c.person = false := sEq_not.2 h
    have o : watOrd p c = sLt p.person c.person := by unfold watOrd; rw [if_neg h]
    have b : watB p c = sLt p.person c.person := by unfold watB; rw [if_neg h]
    rw [o, b, e1]
    cases h2 : sLt p.person c.person
    · have h3 : sLt c.person p.person = true := by
        cases h4 : sLt c.person p.person
        · exact absurd (sLt_total h2 h4) h
        · rfl
      exact .inr (.inr (.inr (.inr ⟨rfl, rfl, rfl, rfl, h3⟩)))
    · exact .inl ⟨rfl, rfl, rfl, rfl, sLt_asymm h2⟩
set_option maxRecDepth 100000 in
set_option maxHeartbeats 8000000 in
theorem ValidWatches_any (a : Option Addr) (cap : Nat) (l : List Watch) (w : World) (H : WatchAt w a l) (hsz : ∀ k, k < l.length → (nth l k).Small) (hlen : l.length ≤ 1048576) :
    Gives Tryd.prog 28 #[.slice a l.length cap] w (.bool (watList l)) := by
  unfold Gives
  by_cases hl8 : 32 < l.length
  · have hv : Hid (false = watList l) := vAll_len hl8
    go_enter Tryd.func28, Tryd.ntmps28
    go_wp2
    go_ret
    exact ⟨ret_bool hv.out, Ext.refl _⟩
  go_enter Tryd.func28, Tryd.ntmps28
  go_wp2_with fail
  go_loopw [10] (fun i wr => ∃ k : Nat, k ≤ l.length ∧ i = .int .i64 k ∧ Hid (∀ j, j < k → vOk watchB watOrd l j = true) ∧ Ext w wr) (fun i _ => l.length - (intOf i).toNat)
  case atStart => exact ⟨0, Nat.zero_le _, rfl, upto_zero, Ext.refl w⟩
  case round =>
    obtain ⟨k, hk, rfl, hall, he⟩ := hrel
    by_cases hlt : k < l.length
    · obtain ⟨b, off, rfl⟩ := H.base hlt
      obtain ⟨hb, c0, c1, c2, c3⟩ := Watch.at (H.ext he) k hlt
      have hz := hsz k hlt
      cases h1 : watchB (nth l k)
      · have hv : Hid (false = watList l) := vAll_bad hlt (vOk_false1 h1)
        clear hsz H
        go_wp2_with fail
        refine region_quiet (by kernel_rfl) (by kernel_rfl) ?_
        repeat (any_goals (first | go_big_quiet_step ((exact Gives.quiet (Watch_validS (nth l k) _ hz))) | quiet_step ((exact Gives.quiet (Watch_validS (nth l k) _ hz)))))
        refine wpQuiet_nil ?_
        intro _ hw'
        obtain ⟨y, hw''⟩ := hw'
        subst hw''
        go_wp2
        go_ret
        exact ⟨ret_bool hv.out, (he.alloc _).lift y⟩
      · rcases Nat.eq_zero_or_pos k with hk0 | hk0
        · have hv : Hid (vOk watchB watOrd l k = true) := vOk_true0 h1 hk0
          have hd : decide (0 < k) = false := decide_eq_false (by omega)
          clear hsz H hk0
          go_wp2_with fail
          refine region_quiet (by kernel_rfl) (by kernel_rfl) ?_
          repeat (any_goals (first | go_big_quiet_step ((exact Gives.quiet (Watch_validS (nth l k) _ hz))) | quiet_step ((exact Gives.quiet (Watch_validS (nth l k) _ hz)))))
          refine wpQuiet_nil ?_
          intro _ hw'
          obtain ⟨y, hw''⟩ := hw'
          subst hw''
          go_wp2_with fail
          refine region_quiet (by kernel_rfl) (by kernel_rfl) ?_
          repeat (any_goals (first | go_big_quiet_step ((fail)) | quiet_step ((fail))))
          refine wpQuiet_nil ?_
          intro _ hw'
          obtain ⟨y, hw''⟩ := hw'
          subst hw''
          go_wp2
          go_roundw
          case rel => exact ⟨k + 1, by omega, by go_num, upto_succ hall.out hv.out, ((he.alloc _).lift _).lift _⟩
          case measure => simp [intOf]; omega
        · obtain ⟨-, p0, p1, p2, p3⟩ := Watch.at (H.ext he) (k - 1) (by omega)
          have hd : decide (0 < k) = true := decide_eq_true hk0
          have hpv : watchB (nth l (k - 1)) = true := by have := hall.out (k - 1) (by omega); unfold vOk at this; simp only [Bool.and_eq_true] at this; exact this.1
          have hpb := watchB_bd hpv
          have hps := hpb.2.1
          have hph := hpb.2.2
          clear hpb hpv
          rcases wat_cases (nth l (k - 1)) (nth l k) hph.1 with ⟨q1, q2, q3, q4, q5⟩ | ⟨q1, q2, q3, q4, q5, q6⟩ | ⟨q1, q2, q3, q4, q5, q6⟩ | ⟨q1, q2, q3, q4, q5, q6⟩ | ⟨q1, q2, q3, q4, q5⟩
          all_goals
            first
              | have hv : Hid (vOk watchB watOrd l k = true) := vOk_true1 h1 q1
              | have hv : Hid (false = watList l) := vAll_bad hlt (vOk_false2 hk0 q1)
            have HE := Lib.hid fun (W : World) => Watch_end (nth l (k - 1)) W hps hph
            clear hsz H hps hph
            go_wp2_with fail
            refine region_quiet (by kernel_rfl) (by kernel_rfl) ?_
            repeat (any_goals (first | go_big_quiet_step ((first | (exact Gives.quiet (Watch_validS (nth l k) _ hz)) | (exact Gives.quiet (compareWatches_any (nth l (k - 1)) (nth l k) _)))) | quiet_step ((first | (exact Gives.quiet (Watch_validS (nth l k) _ hz)) | (exact Gives.quiet (compareWatches_any (nth l (k - 1)) (nth l k) _))))))
            refine wpQuiet_nil ?_
            intro _ hw'
            obtain ⟨y, hw''⟩ := hw'
            subst hw''
            first
              | (go_wp2; go_ret; exact ⟨ret_bool hv.out, (he.alloc _).lift y⟩)
              | (have hbb : b < wr.heap.size + 1 + y.blocks.size := by omega
                 go_wp2_with fail
                 refine region_quiet (by kernel_rfl) (by kernel_rfl) ?_
                 repeat (any_goals (first | go_big_quiet_step ((exact Gives.quiet (HE.out _))) | quiet_step ((exact Gives.quiet (HE.out _)))))
                 refine wpQuiet_nil ?_
                 intro _ hw'
                 obtain ⟨y, hw''⟩ := hw'
                 subst hw''
                 go_wp2
                 first
                   | (go_ret; exact ⟨ret_bool hv.out, ((he.alloc _).lift _).lift _⟩)
                   | (go_roundw
                      case rel => exact ⟨k + 1, by omega, by go_num, upto_succ hall.out hv.out, ((he.alloc _).lift _).lift _⟩
                      case measure => simp [intOf]; omega))
    · have hv : Hid (watList l = decide (l.length ≤ 32)) := vAll_end fun j hj => hall.out j (by omega)
      have hl8' : decide (l.length ≤ 32) = true := decide_eq_true (by omega)
      clear hsz H
      go_wp2
      go_ret
      exact ⟨ret_bool (by rw [hv.out, hl8']), he⟩
set_option maxRecDepth 100000 in
set_option maxHeartbeats 8000000 in
theorem l26Ok_any (a : Option Addr) (cap : Nat) (l : List Watch) (w : World) (H : WatchAt w a l) (hsz : ∀ k, k < l.length → (nth l k).Small) (hlen : l.length ≤ 1048576) :
    Gives Tryd.prog 31 #[.slice a l.length cap] w (.bool (watList l)) := by
  unfold Gives
  go_enter Tryd.func31, Tryd.ntmps31
  go_wp2_with fail
  go_loopw [3] (fun i wr => ∃ k : Nat, k ≤ l.length ∧ i = .int .i64 k ∧ Hid (∀ j, j < k → vOk watchB watOrd l j = true) ∧ Ext w wr) (fun i _ => l.length - (intOf i).toNat)
  case atStart => exact ⟨0, Nat.zero_le _, rfl, upto_zero, Ext.refl w⟩
  case round =>
    obtain ⟨k, hk, rfl, hall, he⟩ := hrel
    by_cases hlt : k < l.length
    · obtain ⟨b, off, rfl⟩ := H.base hlt
      obtain ⟨hb, c0, c1, c2, c3⟩ := Watch.at (H.ext he) k hlt
      have hz := hsz k hlt
      have HO := Lib.hid (l26One_anyS _ _ (nth l k) wr hz c0 c1 c2 c3)
      cases h1 : watchB (nth l k)
      · have hv : Hid (false = watList l) := vAll_bad hlt (vOk_false1 h1)
        rw [h1] at HO
        clear hsz H
        go_wp2_with fail
        refine HO.out.mono ?_
        rintro e w' ⟨rfl, y, rfl⟩
        go_wp2_with fail
        go_ret
        exact ⟨ret_bool hv.out, he.lift y⟩
      · rw [h1] at HO
        rcases Nat.eq_zero_or_pos k with hk0 | hk0
        · have hv : Hid (vOk watchB watOrd l k = true) := vOk_true0 h1 hk0
          have hd : decide (0 < k) = false := decide_eq_false (by omega)
          clear hsz H hk0
          go_wp2_with fail
          refine HO.out.mono ?_
          rintro e w' ⟨rfl, y, rfl⟩
          go_wp2_with fail
          refine region_quiet (by kernel_rfl) (by kernel_rfl) ?_
          repeat (any_goals (first | go_big_quiet_step ((fail)) | quiet_step ((fail))))
          refine wpQuiet_nil ?_
          intro _ hw'
          obtain ⟨y, hw''⟩ := hw'
          subst hw''
          go_wp2
          go_roundw
          case rel => exact ⟨k + 1, by omega, by go_num, upto_succ hall.out hv.out, (he.lift _).lift _⟩
          case measure => simp [intOf]; omega
        · obtain ⟨-, p0, p1, p2, p3⟩ := Watch.at (H.ext he) (k - 1) (by omega)
          have hd : decide (0 < k) = true := decide_eq_true hk0
          have hpv : watchB (nth l (k - 1)) = true := by have := hall.out (k - 1) (by omega); unfold vOk at this; simp only [Bool.and_eq_true] at this; exact this.1
          have hpb := watchB_bd hpv
          obtain ⟨hs0, hs1⟩ := hpb.2.1
          obtain ⟨hh0, hh1⟩ := hpb.2.2
          clear hpb hpv
          rcases wat_cases (nth l (k - 1)) (nth l k) hh0 with ⟨q1, -, q3, q4, q5⟩ | ⟨q1, -, q3, q4, q5, q6⟩ | ⟨q1, -, q3, q4, q5, q6⟩ | ⟨q1, -, q3, q4, q5, q6⟩ | ⟨q1, -, q3, q4, q5⟩
          all_goals
            first
              | have hv : Hid (vOk watchB watOrd l k = true) := vOk_true1 h1 q1
              | have hv : Hid (false = watList l) := vAll_bad hlt (vOk_false2 hk0 q1)
            clear hsz H
            go_wp2_with fail
            refine HO.out.mono ?_
            rintro e w' ⟨rfl, y, rfl⟩
            go_wp2_with fail
            refine region_quiet (by kernel_rfl) (by kernel_rfl) ?_
            repeat (any_goals (first | go_big_quiet_step ((fail)) | quiet_step ((fail))))
            refine wpQuiet_nil ?_
            intro _ hw'
            obtain ⟨y, hw''⟩ := hw'
            subst hw''
            go_wp2
            first
              | (go_ret; exact ⟨ret_bool hv.out, (he.lift _).lift _⟩)
              | (go_roundw
                 case rel => exact ⟨k + 1, by omega, by go_num, upto_succ hall.out hv.out, (he.lift _).lift _⟩
                 case measure => simp [intOf]; omega)
    · have hv : Hid (watList l = decide (l.length ≤ 32)) := vAll_end fun j hj => hall.out j (by omega)
      clear hsz H
      go_wp2
      go_ret
      exact ⟨ret_bool (by rw [hv.out, Bool.eq_iff_iff, decide_eq_true_eq, decide_eq_true_eq]; omega), he⟩
theorem addL_all {α : Type} [Inhabited α] {p : α → Prop} {l : List α} {x : α} {k : Nat} (h : ∀ j, j < l.length → p (nth l j)) (hx : p x) : ∀ j, j < (l.take k ++ x :: l.drop k).length → p (nth (l.take k ++ x :: l.drop k) j) := fun j hj => by
  have hm := nth_mem hj
  generalize nth (l.take k ++ x :: l.drop k) j = y at hm ⊢
  have hl : ∀ y, y ∈ l → p y := fun y hy => by obtain ⟨i, hi, rfl⟩ := mem_nth hy; exact h i hi
  rcases List.mem_append.1 hm with h1 | h1
  · exact hl _ (List.mem_of_mem_take h1)
  · rcases List.mem_cons.1 h1 with h2 | h2
    · rw [h2]; exact hx
    · exact hl _ (List.mem_of_mem_drop h2)
end Go.Proofs.YtmkmmenkjbmppaaDoor
