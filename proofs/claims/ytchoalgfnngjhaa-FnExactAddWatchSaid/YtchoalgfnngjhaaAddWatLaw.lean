/- The law FnExactAddWatch: whatever the arguments, the program's list with a watch more is the reference's, in memory of its own. -/
import Derived.Test.YtchoalgfnngjhaaAddWatI
import Derived.Test.YtchoalgfnngjhaaHelpWatch
import Derived.Test.YtchoalgfnngjhaaHelpInt
namespace Go.Proofs.Ytchoalgfnngjhaa
open Go.RowKit
set_option maxRecDepth 100000 in
set_option maxHeartbeats 8000000 in
theorem addWatch_law (w : World) (a0 : Option Addr) (cap0 : Nat) (l0 : List Watch) (H0 : WatchAt w a0 l0) (hz0 : ∀ k, k < l0.length → (nth l0 k).Sz ∧ (nth l0 k).Wf) (hn0 : l0.length ≤ 9223372036854775807) (_ : l0.length ≤ cap0) (x1 : Watch) (hz1 : x1.Sz) (hw1 : x1.Wf) :
    Gives Try.prog 5 #[.slice a0 l0.length cap0, .agg #[.string x1.person, .int .i64 x1.start, .int .i64 x1.hours, .bool x1.call]] w (.bool true) := by
  unfold Gives
  have HH0 := Lib.hid H0
  have HZ0 := Lib.hid hz0
  clear H0 hz0
  go_enter Try.func5, Try.ntmps5
  go_wp2_with fail
  have _ := hz1
  have _ := hw1
  obtain ⟨w1, hw1⟩ : ∃ w1, w1 = w.alloc (.cells #[.string x1.person, .int .i64 x1.start, .int .i64 x1.hours, .bool x1.call] 50) := ⟨_, rfl⟩
  have E0 : Ext w w1 := by rw [hw1]; exact (Ext.refl w).alloc _
  have xl : w.heap.size < w1.heap.size := by rw [hw1, size_new]; omega
  have xv0 : Hid (w1.cell? ⟨w.heap.size, 0, none⟩ = some (.string x1.person)) := by show _ = _; rw [hw1, cell_new]; rfl
  have xv1 : Hid (w1.cell? ⟨w.heap.size, 1, none⟩ = some (.int .i64 x1.start)) := by show _ = _; rw [hw1, cell_new]; rfl
  have xv2 : Hid (w1.cell? ⟨w.heap.size, 2, none⟩ = some (.int .i64 x1.hours)) := by show _ = _; rw [hw1, cell_new]; rfl
  have xv3 : Hid (w1.cell? ⟨w.heap.size, 3, none⟩ = some (.bool x1.call)) := by show _ = _; rw [hw1, cell_new]; rfl
  rw [← hw1]
  clear hw1
  replace HH0 := Lib.hid (HH0.out.ext E0)
  have T := Ext.refl w1
  refine (szWatchS_any a0 cap0 l0 (1048576) _ (HH0.out.ext T) (fun k hk => (HZ0.out k hk).1) hn0 (by omega) (by omega)).mono ?_
  rintro e W1 ⟨r0, rfl, E, r0a, r0b, hr⟩
  have HR := Lib.hid hr
  clear hr
  replace T := T.trans E
  clear E
  by_cases hneg : r0 < 0
  · go_wp2_with fail
    go_ret
    exact ⟨rfl, (E0.trans T)⟩
  obtain ⟨hl0, hs0⟩ := HR.out (by omega)
  have hS0 : Hid (∀ k, k < l0.length → (nth l0 k).Small) := fun k hk => by have := hs0 k hk; unfold Watch.Small; omega
  clear HR hs0
  have xb := Nat.lt_of_lt_of_le xl T.size
  have xd0 := T.cell xv0.out
  have xd1 := T.cell xv1.out
  have xd2 := T.cell xv2.out
  have xd3 := T.cell xv3.out
  go_wp2_with fail
  clear xb xd0 xd1 xd2 xd3
  refine (szWatch_any x1 (r0) _ hz1 (by omega) (by omega)).mono ?_
  rintro e W2 ⟨r1, rfl, E, r1a, r1b, hr⟩
  have HR := Lib.hid hr
  clear hr
  replace T := T.trans E
  clear E
  by_cases hneg : r1 < 0
  · go_wp2_with fail
    go_ret
    exact ⟨rfl, (E0.trans T)⟩
  have hs1 := HR.out (by omega)
  have hS1 : Hid x1.Small := by show Watch.Small x1; unfold Watch.Small; omega
  clear HR hs1
  go_wp2_with fail
  have xb := Nat.lt_of_lt_of_le xl T.size
  have xd0 := T.cell xv0.out
  have xd1 := T.cell xv1.out
  have xd2 := T.cell xv2.out
  have xd3 := T.cell xv3.out
  refine Grow.region [0, 2] [(false, 1), (false, 3), (false, 4), (false, 5), (true, 6), (true, 7), (true, 8), (true, 9)] (by kernel_rfl) (by kernel_rfl) ?_
  simp only [Grow.pick, Grow.pickB, List.getElem?_cons_succ, List.getElem?_cons_zero]
  repeat
    refine Grow.heads_step (fun K' hK => ⟨rfl, ?_⟩)
    apply Exists.intro
    apply And.intro
    · intro w' hw'
      obtain ⟨x', rfl⟩ := hw'
      go_simp
      first | done | rfl | (rw [if_neg (by omega)]; done) | (rw [if_neg (by omega)]; rfl)
    go_simp
    refine hK _ ?_
    clear hK K'
  clear xb xd0 xd1 xd2 xd3
  refine Grow.heads_nil ?_
  intro W3h E
  replace T := T.trans E
  clear E
  refine Grow.seq_step (fun K' hK => ⟨rfl, ?_⟩)
  go_simp
  simp only [Grow.upon]
  refine (toWatchS_any a0 cap0 l0 _ (HH0.out.ext T) (by omega)).mono ?_
  rintro e W3 ⟨sg0, rfl, sb0, sc0, A, B, E⟩
  replace T := T.trans E
  have sA0 := Lib.hid A
  clear sc0 A B sb0
  refine ⟨_, rfl, E, fun W4 e7 => hK _ _ ?_⟩
  clear hK K' E
  replace T := T.trans e7
  replace sA0 := Lib.hid (sA0.out.ext e7)
  clear e7
  refine Grow.seq_step (fun K' hK => ⟨rfl, ?_⟩)
  go_simp
  refine Grow.gives_upon (toWatch_any x1 _) fun W5 E => hK _ _ ?_
  clear hK K'
  replace T := T.trans E
  replace sA0 := Lib.hid (sA0.out.ext E)
  clear E
  refine Grow.seq_step (fun K' hK => ⟨rfl, ?_⟩)
  go_simp
  simp only [Grow.upon]
  refine (specAddWatch_any _ _ _ l0 sA0.out hS0.out (by omega) (Nat.le_refl _) x1 hS1.out).mono ?_
  rintro e W6 ⟨sa, scap, rfl, sk, SR, E⟩
  clear sA0
  have E9 := E
  replace T := T.trans E
  clear E
  have SR0 := Lib.hid SR
  clear SR
  have U := Ext.refl W6
  refine ⟨_, rfl, E9, fun W7 e7 => hK _ _ ?_⟩
  clear hK K' E9
  replace T := T.trans e7
  replace U := U.trans e7
  clear e7
  refine Grow.seq_step (fun K' hK => ⟨rfl, ?_⟩)
  go_simp
  try rw [if_neg (by omega)]
  simp only [Grow.upon]
  refine ⟨Ext.refl _, fun W8 E => hK _ _ ?_⟩
  clear hK K'
  replace T := T.trans E
  replace U := U.trans E
  clear E
  refine Grow.seq_pure (fun K' hK => ⟨rfl, ?_⟩)
  apply Exists.intro
  apply And.intro
  · intro w' hw'
    obtain ⟨x', rfl⟩ := hw'
    go_simp
    first | done | rfl | (rw [if_neg (by omega)]; done) | (rw [if_neg (by omega)]; rfl)
  intro W9 E
  go_simp
  refine hK _ _ ?_
  clear hK K'
  replace T := T.trans E
  replace U := U.trans E
  clear E
  refine Grow.seq_pure (fun K' hK => ⟨rfl, ?_⟩)
  apply Exists.intro
  apply And.intro
  · intro w' hw'
    obtain ⟨x', rfl⟩ := hw'
    go_simp
    first | done | rfl | (rw [if_neg (by omega)]; done) | (rw [if_neg (by omega)]; rfl)
  intro W10 E
  go_simp
  refine hK _ _ ?_
  clear hK K'
  replace T := T.trans E
  replace U := U.trans E
  clear E
  refine Grow.seq_pure (fun K' hK => ⟨rfl, ?_⟩)
  apply Exists.intro
  apply And.intro
  · intro w' hw'
    obtain ⟨x', rfl⟩ := hw'
    go_simp
    first | done | rfl | (rw [if_neg (by omega)]; done) | (rw [if_neg (by omega)]; rfl)
  intro W11 E
  go_simp
  refine hK _ _ ?_
  clear hK K'
  replace T := T.trans E
  replace U := U.trans E
  clear E
  refine Grow.seq_pure (fun K' hK => ⟨rfl, ?_⟩)
  apply Exists.intro
  apply And.intro
  · intro w' hw'
    obtain ⟨x', rfl⟩ := hw'
    go_simp
    first | done | rfl | (rw [if_neg (by omega)]; done) | (rw [if_neg (by omega)]; rfl)
  intro W12 E
  go_simp
  refine hK _ _ ?_
  clear hK K'
  replace T := T.trans E
  replace U := U.trans E
  clear E
  refine Grow.seq_nil ?_
  go_wp2_with fail
  have hlenR := addWat_len l0 x1
  refine (toWatchS_any a0 cap0 l0 _ (HH0.out.ext T) (by omega)).mono ?_
  rintro e W13 ⟨xg0, rfl, xb0, xc0, A, B, E⟩
  have xbT0 := Nat.le_trans T.size xb0
  have xbU0 := Nat.le_trans U.size xb0
  replace T := T.trans E
  replace U := U.trans E
  have xA0 := Lib.hid A
  have xB0 := Lib.hid B
  clear A B E xb0
  have xb := Nat.lt_of_lt_of_le xl T.size
  have xd0 := T.cell xv0.out
  have xd1 := T.cell xv1.out
  have xd2 := T.cell xv2.out
  have xd3 := T.cell xv3.out
  go_wp2_with fail
  clear xb xd0 xd1 xd2 xd3
  refine (toWatch_any x1 _).mono ?_
  rintro e W14 ⟨rfl, E⟩
  replace T := T.trans E
  replace U := U.trans E
  replace xA0 := Lib.hid (xA0.out.ext E)
  replace xB0 := Lib.hid (xB0.out.ext E)
  replace xc0 := Nat.lt_of_lt_of_le xc0 E.size
  clear E
  go_wp2_with fail
  refine (implAddWatch_any _ _ _ l0 xA0.out hS0.out (by omega) (Nat.le_refl _) x1 hS1.out).mono ?_
  rintro e W15 ⟨xa, xcap, rfl, xk, xO, xR, E⟩
  have gT := T.size
  have gU := U.size
  have xc0i := xc0
  replace T := T.trans E
  replace U := U.trans E
  replace xA0 := Lib.hid (xA0.out.ext E)
  replace xB0 := Lib.hid (xB0.out.ext E)
  clear E
  have xRR := Lib.hid xR
  clear xR
  have xOO := Lib.hid xO
  clear xO
  go_wp2_with fail
  refine (eqWatchS_same _ _ _ _ _ _ xRR.out (SR0.out.ext U) (by omega)).mono ?_
  rintro e W16 ⟨rfl, E⟩
  replace T := T.trans E
  replace U := U.trans E
  replace xA0 := Lib.hid (xA0.out.ext E)
  replace xB0 := Lib.hid (xB0.out.ext E)
  replace xRR := Lib.hid (xRR.out.ext E)
  replace xOO := Lib.hid (xOO.out.ext E)
  clear E
  go_wp2_with fail
  refine (toWatchS_any a0 cap0 l0 _ (HH0.out.ext T) (by omega)).mono ?_
  rintro e W17 ⟨tg, rfl, tb, tc, A, B, E⟩
  replace T := T.trans E
  replace U := U.trans E
  replace xA0 := Lib.hid (xA0.out.ext E)
  replace xB0 := Lib.hid (xB0.out.ext E)
  replace xRR := Lib.hid (xRR.out.ext E)
  replace xOO := Lib.hid (xOO.out.ext E)
  have AA := Lib.hid A
  clear A B E tb tc
  go_wp2_with fail
  refine (eqWatchS_same _ _ _ _ l0 _ xA0.out AA.out (by omega)).mono ?_
  rintro e W18 ⟨rfl, E⟩
  clear AA xA0
  replace T := T.trans E
  replace U := U.trans E
  replace xB0 := Lib.hid (xB0.out.ext E)
  replace xRR := Lib.hid (xRR.out.ext E)
  replace xOO := Lib.hid (xOO.out.ext E)
  clear E
  go_wp2_with fail
  have O : Hid (Own _ xg0 57 4 (some ⟨xg0, 0, none⟩) l0.length) := Own.of_blk xB0.out (Nat.le_refl _) (by omega)
  refine (markWatchS_any _ l0.length _ _ xg0 _ O.out (by omega) (by omega) (by omega)).mono ?_
  rintro e W19 ⟨rfl, C, -, -⟩
  clear xB0
  replace T := T.marked C O.out xbT0
  replace U := U.marked C O.out xbU0
  have xRRn := Lib.hid (xRR.out.marked xOO.out C (ownA_lt xc0i))
  replace xOO := Lib.hid (xOO.out.marked C (ownA_lt xc0i))
  clear xRR
  have xRR := xRRn
  clear xRRn
  clear O C
  go_wp2_with fail
  refine (eqWatchS_same _ _ _ _ _ _ xRR.out (SR0.out.ext U) (by omega)).mono ?_
  rintro e W20 ⟨rfl, E⟩
  replace T := T.trans E
  replace U := U.trans E
  replace xRR := Lib.hid (xRR.out.ext E)
  replace xOO := Lib.hid (xOO.out.ext E)
  clear E
  go_wp2_with fail
  refine (markWatchS_any _ _ _ _ _ _ xOO.out (by omega) (by omega) (by omega)).mono ?_
  rintro e W21 ⟨rfl, C, -, M⟩
  replace T := T.marked C xOO.out gT
  replace U := U.marked C xOO.out gU
  have MM := Lib.hid M
  clear xRR xOO C M
  go_wp2_with fail
  refine (heldWatchS_any _ _ _ _ _ MM.out (by omega) (by omega) (by omega)).mono ?_
  rintro e W22 ⟨rfl, E⟩
  replace T := T.trans E
  replace U := U.trans E
  replace MM := Lib.hid (MM.out.ext E)
  clear E
  go_wp2_with fail
  have xb := Nat.lt_of_lt_of_le xl T.size
  have xd0 := T.cell xv0.out
  have xd1 := T.cell xv1.out
  have xd2 := T.cell xv2.out
  have xd3 := T.cell xv3.out
  refine Grow.region [0, 2] [(false, 1), (false, 3), (false, 4), (false, 5), (true, 6), (true, 7), (true, 8), (true, 9)] (by kernel_rfl) (by kernel_rfl) ?_
  simp only [Grow.pick, Grow.pickB, List.getElem?_cons_succ, List.getElem?_cons_zero]
  repeat
    refine Grow.heads_step (fun K' hK => ⟨rfl, ?_⟩)
    apply Exists.intro
    apply And.intro
    · intro w' hw'
      obtain ⟨x', rfl⟩ := hw'
      go_simp
      first | done | rfl | (rw [if_neg (by omega)]; done) | (rw [if_neg (by omega)]; rfl)
    go_simp
    refine hK _ ?_
    clear hK K'
  clear xb xd0 xd1 xd2 xd3
  refine Grow.heads_nil ?_
  intro W23h E
  replace T := T.trans E
  replace U := U.trans E
  replace MM := Lib.hid (MM.out.ext E)
  clear E
  refine Grow.seq_step (fun K' hK => ⟨rfl, ?_⟩)
  go_simp
  simp only [Grow.upon]
  refine (toWatchS_any a0 cap0 l0 _ (HH0.out.ext T) (by omega)).mono ?_
  rintro e W23 ⟨yg0, rfl, yb0, yc0, A, B, E⟩
  replace T := T.trans E
  replace U := U.trans E
  replace MM := Lib.hid (MM.out.ext E)
  have yA0 := Lib.hid A
  clear yc0 A B yb0
  refine ⟨_, rfl, E, fun W24 e7 => hK _ _ ?_⟩
  clear hK K' E
  replace T := T.trans e7
  replace U := U.trans e7
  replace MM := Lib.hid (MM.out.ext e7)
  replace yA0 := Lib.hid (yA0.out.ext e7)
  clear e7
  refine Grow.seq_step (fun K' hK => ⟨rfl, ?_⟩)
  go_simp
  refine Grow.gives_upon (toWatch_any x1 _) fun W25 E => hK _ _ ?_
  clear hK K'
  replace T := T.trans E
  replace U := U.trans E
  replace MM := Lib.hid (MM.out.ext E)
  replace yA0 := Lib.hid (yA0.out.ext E)
  clear E
  refine Grow.seq_step (fun K' hK => ⟨rfl, ?_⟩)
  go_simp
  simp only [Grow.upon]
  refine (implAddWatch_any _ _ _ l0 yA0.out hS0.out (by omega) (Nat.le_refl _) x1 hS1.out).mono ?_
  rintro e W26 ⟨ya, ycap, rfl, yk, yO, yR, E⟩
  have E9 := E
  replace T := T.trans E
  replace U := U.trans E
  replace MM := Lib.hid (MM.out.ext E)
  replace yA0 := Lib.hid (yA0.out.ext E)
  clear E
  have yRR := Lib.hid yR
  clear yR
  clear yO
  refine ⟨_, rfl, E9, fun W27 e7 => hK _ _ ?_⟩
  clear hK K' E9
  replace T := T.trans e7
  replace U := U.trans e7
  replace MM := Lib.hid (MM.out.ext e7)
  replace yA0 := Lib.hid (yA0.out.ext e7)
  replace yRR := Lib.hid (yRR.out.ext e7)
  clear e7
  refine Grow.seq_step (fun K' hK => ⟨rfl, ?_⟩)
  go_simp
  try rw [if_neg (by omega)]
  simp only [Grow.upon]
  refine ⟨Ext.refl _, fun W28 E => hK _ _ ?_⟩
  clear hK K'
  replace T := T.trans E
  replace U := U.trans E
  replace MM := Lib.hid (MM.out.ext E)
  replace yA0 := Lib.hid (yA0.out.ext E)
  replace yRR := Lib.hid (yRR.out.ext E)
  clear E
  refine Grow.seq_pure (fun K' hK => ⟨rfl, ?_⟩)
  apply Exists.intro
  apply And.intro
  · intro w' hw'
    obtain ⟨x', rfl⟩ := hw'
    go_simp
    first | done | rfl | (rw [if_neg (by omega)]; done) | (rw [if_neg (by omega)]; rfl)
  intro W29 E
  go_simp
  refine hK _ _ ?_
  clear hK K'
  replace T := T.trans E
  replace U := U.trans E
  replace MM := Lib.hid (MM.out.ext E)
  replace yA0 := Lib.hid (yA0.out.ext E)
  replace yRR := Lib.hid (yRR.out.ext E)
  clear E
  refine Grow.seq_pure (fun K' hK => ⟨rfl, ?_⟩)
  apply Exists.intro
  apply And.intro
  · intro w' hw'
    obtain ⟨x', rfl⟩ := hw'
    go_simp
    first | done | rfl | (rw [if_neg (by omega)]; done) | (rw [if_neg (by omega)]; rfl)
  intro W30 E
  go_simp
  refine hK _ _ ?_
  clear hK K'
  replace T := T.trans E
  replace U := U.trans E
  replace MM := Lib.hid (MM.out.ext E)
  replace yA0 := Lib.hid (yA0.out.ext E)
  replace yRR := Lib.hid (yRR.out.ext E)
  clear E
  refine Grow.seq_pure (fun K' hK => ⟨rfl, ?_⟩)
  apply Exists.intro
  apply And.intro
  · intro w' hw'
    obtain ⟨x', rfl⟩ := hw'
    go_simp
    first | done | rfl | (rw [if_neg (by omega)]; done) | (rw [if_neg (by omega)]; rfl)
  intro W31 E
  go_simp
  refine hK _ _ ?_
  clear hK K'
  replace T := T.trans E
  replace U := U.trans E
  replace MM := Lib.hid (MM.out.ext E)
  replace yA0 := Lib.hid (yA0.out.ext E)
  replace yRR := Lib.hid (yRR.out.ext E)
  clear E
  refine Grow.seq_pure (fun K' hK => ⟨rfl, ?_⟩)
  apply Exists.intro
  apply And.intro
  · intro w' hw'
    obtain ⟨x', rfl⟩ := hw'
    go_simp
    first | done | rfl | (rw [if_neg (by omega)]; done) | (rw [if_neg (by omega)]; rfl)
  intro W32 E
  go_simp
  refine hK _ _ ?_
  clear hK K'
  replace T := T.trans E
  replace U := U.trans E
  replace MM := Lib.hid (MM.out.ext E)
  replace yA0 := Lib.hid (yA0.out.ext E)
  replace yRR := Lib.hid (yRR.out.ext E)
  clear E
  refine Grow.seq_nil ?_
  go_wp2_with fail
  refine (eqWatchS_same _ _ _ _ _ _ yRR.out (SR0.out.ext U) (by omega)).mono ?_
  rintro e W33 ⟨rfl, E⟩
  replace T := T.trans E
  replace U := U.trans E
  replace MM := Lib.hid (MM.out.ext E)
  replace yA0 := Lib.hid (yA0.out.ext E)
  replace yRR := Lib.hid (yRR.out.ext E)
  clear E
  go_wp2_with fail
  refine (heldWatchS_any _ _ _ _ _ MM.out (by omega) (by omega) (by omega)).mono ?_
  rintro e W34 ⟨rfl, E⟩
  replace T := T.trans E
  replace U := U.trans E
  replace MM := Lib.hid (MM.out.ext E)
  replace yA0 := Lib.hid (yA0.out.ext E)
  replace yRR := Lib.hid (yRR.out.ext E)
  clear E
  go_wp2_with fail
  go_ret
  exact ⟨rfl, (E0.trans T)⟩
open Go.ChangeShapes Go.WideShapes Go.ChangeAt
open Go.ChangeMaps (open_string shut_string)
namespace lawFnExactAddWatch
set_option maxRecDepth 100000 in
theorem lifted (os : Os) (started : os.Started) (H : Type) (enc : TypeId × Value → H) :
    ReturnsInHanded {} Try.checked os 5 .any (Rows.fnExactAddWatchSpec.pre6 enc Try.prog Try.f5 Rows.fnExactAddWatchRow.domain false) (Rows.fnExactAddWatchSpec.post enc Try.prog Try.f5 false true false false) := by
  refine returnsInHanded_of_change (C := Try.checked) own started (by kernel_rfl) Try.func5
    (ChangeSpec.witness6 (enc := enc) (C := Try.checked) false ⟨#[], #[.slice none 0 0, .agg #[.string ⟨#[]⟩, .int .i64 0, .int .i64 0, .bool false]], []⟩ 8 (by kernel_rfl) (by kernel_rfl) (by kernel_rfl) (by kernel_rfl)) ?_
  intro W base args ds gs before hval0 hW hcnd _
  have hval : ∀ (j : Nat) t v, Try.f5.params[j]? = some t → args[j]? = some v → Value.okWide Try.prog W .any base t v := hval0
  have hW' := hW
  obtain ⟨p, q, hA0, hV, rfl, hfz, hnd⟩ := hW
  have hA : DataW.TrodAll enc Try.prog W 0 (fun _ => true) true Try.f5.params.toList args.toList ds p := hA0
  rw [Try.params5] at hA hval
  obtain ⟨v0, vs0, d0, ds0, p0, q0, hargs, rfl, rfl, h0, r0⟩ := trodAll_cons hA
  obtain ⟨v1, vs1, d1, ds1, p1, q1, rfl, rfl, rfl, h1, r1⟩ := trodAll_cons r0
  obtain ⟨rfl, rfl, rfl⟩ := trodAll_nil r1
  obtain rfl : args = #[v0, v1] := by cases args; simp_all
  obtain ⟨rfl, rfl⟩ := trodVars_none hV
  have k0 := h0
  have lt0 : ∀ x ∈ p0, x.block < W.heap.size := by obtain ⟨m, hm⟩ := k0; exact DataW.trod_lt m _ _ _ hm
  obtain ⟨a0, len0, cap0, rfl⟩ := okWide_slice Try.underlying48 (hval 0 48 v0 rfl rfl)
  obtain ⟨fuel0, hf0⟩ := h0
  obtain ⟨b0, c0, l0, e0, hl0, hc0, H0, Q0⟩ := open_rows Watch.cell (fun y => y.Sz ∧ y.Wf) Try.underlying48 (by kernel_rfl : Try.prog.cellsOf 50 = 4) (by decide) (fun _ _ _ => Watch.el) hf0
  simp only [Value.cells, List.cons.injEq, Value.slice.injEq, and_true] at e0
  obtain ⟨rfl, rfl, rfl⟩ := e0
  have k1 := h1
  have lt1 : ∀ x ∈ p1, x.block < W.heap.size := by obtain ⟨m, hm⟩ := k1; exact DataW.trod_lt m _ _ _ hm
  obtain ⟨x1, e1, w1⟩ := Watch.op (hval 1 50 v1 rfl rfl) h1
  subst e1
  clear hA0 hval0
  refine (addWatch_law W a0 cap0 l0 H0 Q0 (by omega) hl0 x1 w1.1 w1.2).mono fun e W' ⟨he, bx⟩ => ?_
  have bel := bx.below
  subst he
  exact ⟨_, rfl, _, _, _, [], _, [], hW', trodAll_mk1 (shut_bool Try.underlying4 _), (trodAll_cons_mk (Below.trod laidOut (by kernel_rfl) (of_decide_eq_true (by kernel_rfl)) k0 bel lt0) (trodAll_cons_mk (Below.trod laidOut (by kernel_rfl) (of_decide_eq_true (by kernel_rfl)) k1 bel lt1) trodAll_mk0)), rfl, bel.frame _, fun h => by cases h⟩
theorem over : Rows.fnExactAddWatchRow.holds Try.pinned (OpenSpec.ofChange Rows.fnExactAddWatchSpec) :=
  OpenClaim.holds_of_wide 5 Try.f5 rfl rfl rfl rfl rfl rfl rfl ⟨rfl, rfl, rfl, rfl, rfl⟩ rfl rfl rfl rfl rfl (by kernel_rfl) Try.func5 (by kernel_rfl)
    (of_decide_eq_true (by kernel_rfl)) (by unfold Func.isWrapper; first | (rw [if_pos (by decide +kernel)]; kernel_rfl) | (rw [if_neg (by decide +kernel)]; exact ⟨rfl, rfl⟩))
    (fun os started H enc _ => lifted os started H enc)
/-- The given statement. -/
theorem proved : Rows.FnExactAddWatchSaid := over
end lawFnExactAddWatch
end Go.Proofs.Ytchoalgfnngjhaa
