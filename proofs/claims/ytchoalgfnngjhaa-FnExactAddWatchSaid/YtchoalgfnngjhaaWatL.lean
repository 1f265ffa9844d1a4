/- Lists of watches: when one is valid; where one has its place; a copy. -/
import Derived.Test.YtchoalgfnngjhaaWatC
namespace Go.Proofs.Ytchoalgfnngjhaa
open Go.RowKit
theorem wat_cases (p c : Watch) (hp : 1 ≤ p.hours) :
    (watOrd p c = true ∧ decide (0 ≤ watK p c) = false ∧ sEq p.person c.person = false ∧ sLt p.person c.person = true ∧ sLt c.person p.person = false) ∨
    (watOrd p c = true ∧ decide (0 ≤ watK p c) = false ∧ sEq p.person c.person = true ∧ sLt p.person c.person = false ∧ sLt c.person p.person = false ∧ decide (c.start < p.start + p.hours) = false) ∨
    (watOrd p c = false ∧ decide (0 ≤ watK p c) = false ∧ sEq p.person c.person = true ∧ sLt p.person c.person = false ∧ sLt c.person p.person = false ∧ decide (c.start < p.start + p.hours) = true) ∨
    (watOrd p c = false ∧ decide (0 ≤ watK p c) = true ∧ sEq p.person c.person = true ∧ sLt p.person c.person = false ∧ sLt c.person p.person = false ∧ decide (c.start < p.start + p.hours) = true) ∨
    (watOrd p c = false ∧ decide (0 ≤ watK p c) = true ∧ sEq p.person c.person = false ∧ sLt p.person c.person = false ∧ sLt c.person p.person = true) := by
  rw [watK_ge]
  by_cases h : p.person = c.person
  · have e1 : sEq p.person c.person = true := sEq_iff.2 h
    have e2 : sLt p.person c.person = false := by rw [h]; exact sLt_irrefl _
    have e3 : sLt c.person p.person = false := by rw [h]; exact sLt_irrefl _
    have o : watOrd p c = decide (p.start + p.hours ≤ c.start) := by unfold watOrd; rw [if_pos h]
    have b : watB p c = decide (p.start < c.start) := by unfold watB; rw [if_pos h]
    rw [o, b, e1, e2, e3]
    rcases Int.lt_or_le c.start (p.start + p.hours) with h1 | h1
    · rcases Int.lt_or_le p.start c.start with h2 | h2
      · refine .inr (.inr (.inl ⟨decide_eq_false (by omega), by rw [decide_eq_true h2]; rfl, rfl, rfl, rfl, decide_eq_true h1⟩))
      · refine .inr (.inr (.inr (.inl ⟨decide_eq_false (by omega), by rw [decide_eq_false (by omega)]; rfl, rfl, rfl, rfl, decide_eq_true h1⟩)))
    · refine .inr (.inl ⟨decide_eq_true h1, by rw [decide_eq_true (show p.start < c.start by omega)]; rfl, rfl, rfl, rfl, decide_eq_false (by omega)⟩)
  · have e1 : sEq p.person c.person = false := sEq_not.2 h
    have o : watOrd p c = sLt p.person c.person := by unfold watOrd; rw [if_neg h]
    have b : watB p c = sLt p.person c.person := by unfold watB; rw [if_neg h]
    rw [o, b, e1]
    cases h2 : sLt p.person c.person
    · have h3 : sLt c.person p.person = true := by
        cases h4 : sLt c.person p.person
        · exact absurd (sLt_total h2 h4) h
        · rfl
      exact .inr (.inr (.inr (.inr ⟨rfl, rfl, rfl, rfl, h3⟩)))
    · exact .inl ⟨rfl, rfl, rfl, rfl, sLt_asymm h2⟩
set_option maxRecDepth 100000 in
set_option maxHeartbeats 8000000 in
theorem ValidWatches_any (a : Option Addr) (cap : Nat) (l : List Watch) (w : World) (H : WatchAt w a l) (hsz : ∀ k, k < l.length → (nth l k).Small) (hlen : l.length ≤ 1048576) :
    Gives Try.prog 88 #[.slice a l.length cap] w (.bool (watList l)) := by
  unfold Gives
  by_cases hl8 : 32 < l.length
  · have hv : Hid (false = watList l) := vAll_len hl8
    go_enter Try.func88, Try.ntmps88
    go_wp2
    go_ret
    exact ⟨ret_bool hv.out, Ext.refl _⟩
  go_enter Try.func88, Try.ntmps88
  go_wp2_with fail
  go_loopw [10] (fun i wr => ∃ k : Nat, k ≤ l.length ∧ i = .int .i64 k ∧ Hid (∀ j, j < k → vOk watchB watOrd l j = true) ∧ Ext w wr) (fun i _ => l.length - (intOf i).toNat)
  case atStart => exact ⟨0, Nat.zero_le _, rfl, upto_zero, Ext.refl w⟩
  case round =>
    obtain ⟨k, hk, rfl, hall, he⟩ := hrel
    by_cases hlt : k < l.length
    · obtain ⟨b, off, rfl⟩ := H.base hlt
      obtain ⟨hb, c0, c1, c2, c3⟩ := Watch.at (H.ext he) k hlt
      have hz := hsz k hlt
      cases h1 : watchB (nth l k)
      · have hv : Hid (false = watList l) := vAll_bad hlt (vOk_false1 h1)
        clear hsz H
        go_wp2_with fail
        refine region_quiet (by kernel_rfl) (by kernel_rfl) ?_
        repeat (any_goals (first | go_big_quiet_step ((exact Gives.quiet (Watch_validS (nth l k) _ hz))) | quiet_step ((exact Gives.quiet (Watch_validS (nth l k) _ hz)))))
        refine wpQuiet_nil ?_
        intro _ hw'
        obtain ⟨y, hw''⟩ := hw'
        subst hw''
        go_wp2
        go_ret
        exact ⟨ret_bool hv.out, (he.alloc _).lift y⟩
      · rcases Nat.eq_zero_or_pos k with hk0 | hk0
        · have hv : Hid (vOk watchB watOrd l k = true) := vOk_true0 h1 hk0
          have hd : decide (0 < k) = false := decide_eq_false (by omega)
          clear hsz H hk0
          go_wp2_with fail
          refine region_quiet (by kernel_rfl) (by kernel_rfl) ?_
          repeat (any_goals (first | go_big_quiet_step ((exact Gives.quiet (Watch_validS (nth l k) _ hz))) | quiet_step ((exact Gives.quiet (Watch_validS (nth l k) _ hz)))))
          refine wpQuiet_nil ?_
          intro _ hw'
          obtain ⟨y, hw''⟩ := hw'
          subst hw''
          go_wp2_with fail
          refine region_quiet (by kernel_rfl) (by kernel_rfl) ?_
          repeat (any_goals (first | go_big_quiet_step ((fail)) | quiet_step ((fail))))
          refine wpQuiet_nil ?_
          intro _ hw'
          obtain ⟨y, hw''⟩ := hw'
          subst hw''
          go_wp2
          go_roundw
          case rel => exact ⟨k + 1, by omega, by go_num, upto_succ hall.out hv.out, ((he.alloc _).lift _).lift _⟩
          case measure => simp [intOf]; omega
        · obtain ⟨-, p0, p1, p2, p3⟩ := Watch.at (H.ext he) (k - 1) (by omega)
          have hd : decide (0 < k) = true := decide_eq_true hk0
          have hpv : watchB (nth l (k - 1)) = true := by have := hall.out (k - 1) (by omega); unfold vOk at this; simp only [Bool.and_eq_true] at this; exact this.1
          have hpb := watchB_bd hpv
          have hps := hpb.2.1
          have hph := hpb.2.2
          clear hpb hpv
          rcases wat_cases (nth l (k - 1)) (nth l k) hph.1 with ⟨q1, q2, q3, q4, q5⟩ | ⟨q1, q2, q3, q4, q5, q6⟩ | ⟨q1, q2, q3, q4, q5, q6⟩ | ⟨q1, q2, q3, q4, q5, q6⟩ | ⟨q1, q2, q3, q4, q5⟩
          all_goals
            first
              | have hv : Hid (vOk watchB watOrd l k = true) := vOk_true1 h1 q1
              | have hv : Hid (false = watList l) := vAll_bad hlt (vOk_false2 hk0 q1)
            have HE := Lib.hid fun (W : World) => Watch_end (nth l (k - 1)) W hps hph
            clear hsz H hps hph
            go_wp2_with fail
            refine region_quiet (by kernel_rfl) (by kernel_rfl) ?_
            repeat (any_goals (first | go_big_quiet_step ((first | (exact Gives.quiet (Watch_validS (nth l k) _ hz)) | (exact Gives.quiet (compareWatches_any (nth l (k - 1)) (nth l k) _)))) | quiet_step ((first | (exact Gives.quiet (Watch_validS (nth l k) _ hz)) | (exact Gives.quiet (compareWatches_any (nth l (k - 1)) (nth l k) _))))))
            refine wpQuiet_nil ?_
            intro _ hw'
            obtain ⟨y, hw''⟩ := hw'
            subst hw''
            first
              | (go_wp2; go_ret; exact ⟨ret_bool hv.out, (he.alloc _).lift y⟩)
              | (have hbb : b < wr.heap.size + 1 + y.blocks.size := by omega
                 go_wp2_with fail
                 refine region_quiet (by kernel_rfl) (by kernel_rfl) ?_
                 repeat (any_goals (first | go_big_quiet_step ((exact Gives.quiet (HE.out _))) | quiet_step ((exact Gives.quiet (HE.out _)))))
                 refine wpQuiet_nil ?_
                 intro _ hw'
                 obtain ⟨y, hw''⟩ := hw'
                 subst hw''
                 go_wp2
                 first
                   | (go_ret; exact ⟨ret_bool hv.out, ((he.alloc _).lift _).lift _⟩)
                   | (go_roundw
                      case rel => exact ⟨k + 1, by omega, by go_num, upto_succ hall.out hv.out, ((he.alloc _).lift _).lift _⟩
                      case measure => simp [intOf]; omega))
    · have hv : Hid (watList l = decide (l.length ≤ 32)) := vAll_end fun j hj => hall.out j (by omega)
      have hl8' : decide (l.length ≤ 32) = true := decide_eq_true (by omega)
      clear hsz H
      go_wp2
      go_ret
      exact ⟨ret_bool (by rw [hv.out, hl8']), he⟩
set_option maxRecDepth 100000 in
set_option maxHeartbeats 8000000 in
theorem l26Ok_any (a : Option Addr) (cap : Nat) (l : List Watch) (w : World) (H : WatchAt w a l) (hsz : ∀ k, k < l.length → (nth l k).Small) (hlen : l.length ≤ 1048576) :
    Gives Try.prog 86 #[.slice a l.length cap] w (.bool (watList l)) := by
  unfold Gives
  go_enter Try.func86, Try.ntmps86
  go_wp2_with fail
  go_loopw [3] (fun i wr => ∃ k : Nat, k ≤ l.length ∧ i = .int .i64 k ∧ Hid (∀ j, j < k → vOk watchB watOrd l j = true) ∧ Ext w wr) (fun i _ => l.length - (intOf i).toNat)
  case atStart => exact ⟨0, Nat.zero_le _, rfl, upto_zero, Ext.refl w⟩
  case round =>
    obtain ⟨k, hk, rfl, hall, he⟩ := hrel
    by_cases hlt : k < l.length
    · obtain ⟨b, off, rfl⟩ := H.base hlt
      obtain ⟨hb, c0, c1, c2, c3⟩ := Watch.at (H.ext he) k hlt
      have hz := hsz k hlt
      have HO := Lib.hid (l26One_anyS _ _ (nth l k) wr hz c0 c1 c2 c3)
      cases h1 : watchB (nth l k)
      · have hv : Hid (false = watList l) := vAll_bad hlt (vOk_false1 h1)
        rw [h1] at HO
        clear hsz H
        go_wp2_with fail
        refine HO.out.mono ?_
        rintro e w' ⟨rfl, y, rfl⟩
        go_wp2_with fail
        go_ret
        exact ⟨ret_bool hv.out, he.lift y⟩
      · rw [h1] at HO
        rcases Nat.eq_zero_or_pos k with hk0 | hk0
        · have hv : Hid (vOk watchB watOrd l k = true) := vOk_true0 h1 hk0
          have hd : decide (0 < k) = false := decide_eq_false (by omega)
          clear hsz H hk0
          go_wp2_with fail
          refine HO.out.mono ?_
          rintro e w' ⟨rfl, y, rfl⟩
          go_wp2_with fail
          refine region_quiet (by kernel_rfl) (by kernel_rfl) ?_
          repeat (any_goals (first | go_big_quiet_step ((fail)) | quiet_step ((fail))))
          refine wpQuiet_nil ?_
          intro _ hw'
          obtain ⟨y, hw''⟩ := hw'
          subst hw''
          go_wp2
          go_roundw
          case rel => exact ⟨k + 1, by omega, by go_num, upto_succ hall.out hv.out, (he.lift _).lift _⟩
          case measure => simp [intOf]; omega
        · obtain ⟨-, p0, p1, p2, p3⟩ := Watch.at (H.ext he) (k - 1) (by omega)
          have hd : decide (0 < k) = true := decide_eq_true hk0
          have hpv : watchB (nth l (k - 1)) = true := by have := hall.out (k - 1) (by omega); unfold vOk at this; simp only [Bool.and_eq_true] at this; exact this.1
          have hpb := watchB_bd hpv
          obtain ⟨hs0, hs1⟩ := hpb.2.1
          obtain ⟨hh0, hh1⟩ := hpb.2.2
          clear hpb hpv
          rcases wat_cases (nth l (k - 1)) (nth l k) hh0 with ⟨q1, -, q3, q4, q5⟩ | ⟨q1, -, q3, q4, q5, q6⟩ | ⟨q1, -, q3, q4, q5, q6⟩ | ⟨q1, -, q3, q4, q5, q6⟩ | ⟨q1, -, q3, q4, q5⟩
          all_goals
            first
              | have hv : Hid (vOk watchB watOrd l k = true) := vOk_true1 h1 q1
              | have hv : Hid (false = watList l) := vAll_bad hlt (vOk_false2 hk0 q1)
            clear hsz H
            go_wp2_with fail
            refine HO.out.mono ?_
            rintro e w' ⟨rfl, y, rfl⟩
            go_wp2_with fail
            refine region_quiet (by kernel_rfl) (by kernel_rfl) ?_
            repeat (any_goals (first | go_big_quiet_step ((fail)) | quiet_step ((fail))))
            refine wpQuiet_nil ?_
            intro _ hw'
            obtain ⟨y, hw''⟩ := hw'
            subst hw''
            go_wp2
            first
              | (go_ret; exact ⟨ret_bool hv.out, (he.lift _).lift _⟩)
              | (go_roundw
                 case rel => exact ⟨k + 1, by omega, by go_num, upto_succ hall.out hv.out, (he.lift _).lift _⟩
                 case measure => simp [intOf]; omega)
    · have hv : Hid (watList l = decide (l.length ≤ 32)) := vAll_end fun j hj => hall.out j (by omega)
      clear hsz H
      go_wp2
      go_ret
      exact ⟨ret_bool (by rw [hv.out, Bool.eq_iff_iff, decide_eq_true_eq, decide_eq_true_eq]; omega), he⟩
set_option maxRecDepth 100000 in
set_option maxHeartbeats 4000000 in
theorem BSWatch_any (a : Option Addr) (cap : Nat) (l : List Watch) (F : FuncId) (y : Watch) (c : Watch → Int) (w : World) (eg : Enters Try.prog F) (H : WatchAt w a l) (hlen : l.length ≤ 1048576)
    (hf : ∀ k w', k < l.length → Ext w w' → Gives Try.prog F #[.agg #[.string (nth l k).person, .int .i64 (nth l k).start, .int .i64 (nth l k).hours, .bool (nth l k).call], .agg #[.string y.person, .int .i64 y.start, .int .i64 y.hours, .bool y.call]] w' (.int .i64 (c (nth l k))))
    (hm : ∀ i j, i ≤ j → j < l.length → c (nth l j) < 0 → c (nth l i) < 0) :
    Gives Try.prog 90 #[.slice a l.length cap, .agg #[.string y.person, .int .i64 y.start, .int .i64 y.hours, .bool y.call], .func (.func F) #[] #[]] w (.tuple #[.int .i64 (lowB c l : Nat), .bool (hitB c l)]) := by
  unfold Gives
  have HF := Lib.hid hf
  have HM := Lib.hid hm
  clear hf hm
  unfold Enters at eg
  obtain ⟨w1, hw1⟩ : ∃ w1, w1 = w.alloc (.cells #[.string y.person, .int .i64 y.start, .int .i64 y.hours, .bool y.call] 57) := ⟨_, rfl⟩
  have E0 : Ext w w1 := by rw [hw1]; exact (Ext.refl w).alloc _
  have xl : w.heap.size < w1.heap.size := by rw [hw1, size_new]; omega
  have xv0 : Hid (w1.cell? ⟨w.heap.size, 0, none⟩ = some (.string y.person)) := by show _ = _; rw [hw1, cell_new]; rfl
  have xv1 : Hid (w1.cell? ⟨w.heap.size, 1, none⟩ = some (.int .i64 y.start)) := by show _ = _; rw [hw1, cell_new]; rfl
  have xv2 : Hid (w1.cell? ⟨w.heap.size, 2, none⟩ = some (.int .i64 y.hours)) := by show _ = _; rw [hw1, cell_new]; rfl
  have xv3 : Hid (w1.cell? ⟨w.heap.size, 3, none⟩ = some (.bool y.call)) := by show _ = _; rw [hw1, cell_new]; rfl
  go_enter Try.func90, Try.ntmps90
  go_wp2_with fail
  rw [← hw1]
  clear hw1
  go_loopg [9, 10] l.length (fun g s9 s10 wr => ∃ lo hi : Nat, s9 = .int .i64 lo ∧ s10 = .int .i64 hi ∧ lo ≤ hi ∧ hi ≤ l.length ∧ hi - lo ≤ g ∧ Hid (∀ t, t < lo → c (nth l t) < 0) ∧ Hid (∀ t, hi ≤ t → t < l.length → 0 ≤ c (nth l t)) ∧ Ext w1 wr)
  case atStart => exact ⟨0, l.length, rfl, rfl, Nat.zero_le _, Nat.le_refl _, by omega, fun t ht => absurd ht (Nat.not_lt_zero _), fun t h1 h2 => by omega, Ext.refl w1⟩
  case round =>
    obtain ⟨lo, hi, rfl, rfl, hlh, hin, hg, hL, hH, he⟩ := hrel
    have xb := Nat.lt_of_lt_of_le xl he.size
    have xd0 := he.cell xv0.out
    have xd1 := he.cell xv1.out
    have xd2 := he.cell xv2.out
    have xd3 := he.cell xv3.out
    have heh := Lib.hid he
    by_cases hlt : lo < hi
    · obtain ⟨m, hmid⟩ : ∃ m, m = (lo + hi) / 2 := ⟨_, rfl⟩
      have hml : m < l.length := by omega
      obtain ⟨b, off, rfl⟩ := H.base hml
      obtain ⟨hb, c0, c1, c2, c3⟩ := Watch.at (H.ext (E0.trans he)) m hml
      have hmi : ((lo : Int) + (hi : Int)) / 2 = (m : Int) := by omega
      have hmn : (lo + hi) / 2 = m := by omega
      have hlm : lo ≤ m ∧ m < hi := by omega
      clear H hmid he
      by_cases hyx : c (nth l m) < 0
      · have hd : decide (c (nth l m) < 0) = true := decide_eq_true hyx
        go_wp2_with (simp only [hmi, hmn])
        refine region_quiet (by kernel_rfl) (by kernel_rfl) ?_
        repeat (any_goals (first | go_big_quiet_step ((exact Gives.quiet (HF.out m _ hml ((E0.trans heh.out).lift _)))) | quiet_step ((exact Gives.quiet (HF.out m _ hml ((E0.trans heh.out).lift _))))))
        refine wpQuiet_nil ?_
        intro _ hw'
        obtain ⟨y, hw''⟩ := hw'
        subst hw''
        go_wp2_with fail
        go_roundg (hi - (m + 1))
        case measure => omega
        case rel =>
          have hL2 : Hid (∀ t, t < m + 1 → c (nth l t) < 0) := fun t ht => HM.out t m (by omega) hml hyx
          exact ⟨m + 1, hi, by go_num, rfl, by omega, hin, Nat.le_refl _, hL2, hH, heh.out.lift _⟩
      · have hd : decide (c (nth l m) < 0) = false := decide_eq_false hyx
        go_wp2_with (simp only [hmi, hmn])
        refine region_quiet (by kernel_rfl) (by kernel_rfl) ?_
        repeat (any_goals (first | go_big_quiet_step ((exact Gives.quiet (HF.out m _ hml ((E0.trans heh.out).lift _)))) | quiet_step ((exact Gives.quiet (HF.out m _ hml ((E0.trans heh.out).lift _))))))
        refine wpQuiet_nil ?_
        intro _ hw'
        obtain ⟨y, hw''⟩ := hw'
        subst hw''
        go_wp2_with fail
        go_roundg (m - lo)
        case measure => omega
        case rel =>
          have hH2 : Hid (∀ t, m ≤ t → t < l.length → 0 ≤ c (nth l t)) := fun t ht htn => Int.not_lt.1 fun h => by have := HM.out m t ht htn h; omega
          exact ⟨lo, m, rfl, rfl, by omega, by omega, Nat.le_refl _, hL, hH2, heh.out.lift _⟩
    · obtain rfl : hi = lo := by omega
      have hk := lowB_eq hin hL.out hH.out
      by_cases hn : hi < l.length
      · obtain ⟨b, off, rfl⟩ := H.base hn
        obtain ⟨hb, c0, c1, c2, c3⟩ := Watch.at (H.ext (E0.trans he)) hi hn
        cases hz : (c (nth l hi) == 0)
        all_goals
          have hv := Lib.hid (hitB_at hk hn hz)
          have hk' := Lib.hid hk
          clear H hk he
          go_wp2_with fail
          refine region_quiet (by kernel_rfl) (by kernel_rfl) ?_
          repeat (any_goals (first | go_big_quiet_step ((exact Gives.quiet (HF.out hi _ hn ((E0.trans heh.out).lift _)))) | quiet_step ((exact Gives.quiet (HF.out hi _ hn ((E0.trans heh.out).lift _))))))
          refine wpQuiet_nil ?_
          intro _ hw'
          obtain ⟨y, hw''⟩ := hw'
          subst hw''
          go_wp2_with fail
          go_ret2
          exact ⟨ret_ib hk'.out hv.out, (E0.trans heh.out).lift _⟩
      · have hv := Lib.hid (hitB_end hk hn)
        have hk' := Lib.hid hk
        clear H hk he
        go_wp2_with fail
        refine region_quiet (by kernel_rfl) (by kernel_rfl) ?_
        repeat (any_goals (first | go_big_quiet_step ((fail)) | quiet_step ((fail))))
        refine wpQuiet_nil ?_
        intro _ hw'
        obtain ⟨y, hw''⟩ := hw'
        subst hw''
        go_wp2_with fail
        go_ret2
        exact ⟨ret_ib hk'.out hv.out, (E0.trans heh.out).lift _⟩
set_option maxRecDepth 100000 in
set_option maxHeartbeats 4000000 in
theorem CloneWatch_any (a : Option Addr) (cap : Nat) (l : List Watch) (w : World) (H : WatchAt w a l) (hlen : l.length ≤ 1048576) :
    Calls Try.prog 93 #[.slice a l.length cap] w fun e w' => ∃ v, e = .returned v ∧ Lst 57 4 Watch.cell w' w.heap.size v l ∧ Ext w w' := by
  cases a with
  | none =>
    have h0 : l = [] := by
      cases l with
      | nil => rfl
      | cons x r => obtain ⟨b, off, h⟩ := H.base (show 0 < (x :: r).length by simp); cases h
    subst h0
    clear H
    have hq := Lib.hid (fun (w : World) => run_eql_slice_nil (P := Try.prog) w 53 57 none 0 cap Try.underlying53)
    go_enter Try.func93, Try.ntmps93
    go_wp2_with (simp only [hq.out])
    go_ret
    exact ⟨_, rfl, Lst.nil _ _, Ext.refl _⟩
  | some ad =>
    have HO := Lib.hid (Lst.new (T := 57) (n := 4) (cell := Watch.cell) w w.heap.size (Nat.le_refl _))
    have HR := Lib.hid (RowsAt.ext H ((Ext.refl w).alloc (.cells #[] 57)))
    clear H
    obtain ⟨ab, ao, asp⟩ := ad
    have hq := Lib.hid (fun (w : World) => run_eql_slice_nil (P := Try.prog) w 53 57 (some ⟨ab, ao, asp⟩) l.length cap Try.underlying53)
    have C1 : Hid (([] : List Watch).length + l.length ≤ 9223372036854775807) := by show _ ≤ _; rw [List.length_nil]; omega
    have C2 : Hid ((([] : List Watch).length + l.length) * 40 ≤ 140737488355328) := by show _ ≤ _; rw [List.length_nil]; omega
    have hb : Hid (w.heap.size ≤ (w.alloc (.cells #[] 57)).heap.size) := by show _ ≤ _; rw [size_new]; omega
    go_enter Try.func93, Try.ntmps93
    go_wp2_with (first | (at_builtin; refine wpList_pushL elWatch oneWatch rfl _ _ rfl w.heap.size _ [] rfl HO.out ⟨ab, ao, asp⟩ l.length cap l rfl rfl HR.out C1.out C2.out hb.out ?_; intro v' w1 HL1 hs1 _) | (simp only [hq.out]))
    have HL2 := Lib.hid HL1
    have hs2 := Lib.hid hs1
    clear HL1 hs1
    go_wp2_with fail
    go_ret
    exact ⟨v', rfl, HL2.out, hs2.out.ext ((Ext.refl w).alloc _) (Nat.le_refl _)⟩
theorem addL_all {α : Type} [Inhabited α] {p : α → Prop} {l : List α} {x : α} {k : Nat} (h : ∀ j, j < l.length → p (nth l j)) (hx : p x) : ∀ j, j < (l.take k ++ x :: l.drop k).length → p (nth (l.take k ++ x :: l.drop k) j) := fun j hj => by
  have hm := nth_mem hj
  generalize nth (l.take k ++ x :: l.drop k) j = y at hm ⊢
  have hl : ∀ y, y ∈ l → p y := fun y hy => by obtain ⟨i, hi, rfl⟩ := mem_nth hy; exact h i hi
  rcases List.mem_append.1 hm with h1 | h1
  · exact hl _ (List.mem_of_mem_take h1)
  · rcases List.mem_cons.1 h1 with h2 | h2
    · rw [h2]; exact hx
    · exact hl _ (List.mem_of_mem_drop h2)
end Go.Proofs.Ytchoalgfnngjhaa
