/- What a state has at a name: the program's valueAt, thingAt, and its test of a conflict. No conditions but lengths that fit. -/
import Derived.Test.YtbcpgdidajapoaaMrgP
import Derived.Test.YtbcpgdidajapoaaGrowN
import Derived.Test.YtbcpgdidajapoaaLift
namespace Go.Proofs.Ytbcpgdidajapoaa
open Go.RowKit
set_option maxRecDepth 100000 in
set_option maxHeartbeats 2000000 in
theorem valueAt_any (a : Option Addr) (cap : Nat) (l : List Setting) (n : ByteArray) (w : World) (H : SettingAt w a l) (hl : l.length ≤ 1048576) :
    Gives Try.prog 77 #[.slice a l.length cap, .string n] w (.tuple #[.int .i64 ((thg l n).getD 0), .bool (thg l n).isSome]) := by
  unfold Gives
  have HA := Lib.hid H
  clear H
  go_enter Try.func77, Try.ntmps77
  go_wp2_with fail
  go_loopw [10] (fun i wr => ∃ k : Nat, k ≤ l.length ∧ i = .int .i64 k ∧ Hid (∀ j, j < k → (nth l j).name ≠ n) ∧ Ext w wr) (fun i _ => l.length - (intOf i).toNat)
  case atStart => exact ⟨0, Nat.zero_le _, rfl, upto_zero, Ext.refl _⟩
  case round =>
    obtain ⟨k, hk, rfl, hall, he⟩ := hrel
    by_cases hlt : k < l.length
    · obtain ⟨b, off, rfl⟩ := HA.out.base hlt
      obtain ⟨hb, c0, c1⟩ := Setting.at (HA.out.ext he) k hlt
      cases h1 : sEq (nth l k).name n
      · have hnx : Hid (∀ j, j < k + 1 → (nth l j).name ≠ n) := upto_succ hall.out (sEq_not.1 h1)
        go_wp2_with fail
        go_roundw
        case rel => exact ⟨k + 1, by omega, by go_num, hnx.out, he.alloc _⟩
        case measure => simp [intOf]; omega
      · have hv : Hid (thg l n = some (nth l k).value) := thg_at hall.out hlt (sEq_iff.1 h1)
        go_wp2_with fail
        go_ret2
        exact ⟨by rw [hv.out]; rfl, he.alloc _⟩
    · have hv : Hid (thg l n = none) := thg_none fun j hj => hall.out j (by omega)
      go_wp2_with fail
      go_ret2
      exact ⟨by rw [hv.out]; rfl, he⟩
set_option maxRecDepth 100000 in
set_option maxHeartbeats 2000000 in
theorem thingAt_any (a : Option Addr) (cap : Nat) (l : List Setting) (n : ByteArray) (w : World) (H : SettingAt w a l) (hl : l.length ≤ 1048576) :
    Gives Try.prog 47 #[.slice a l.length cap, .string n] w (.agg #[.int .i64 ((thg l n).getD 0), .bool (thg l n).isSome]) := by
  unfold Gives
  have HV := Lib.hid fun (W : World) (he : Ext w W) => valueAt_any a cap l n W (RowsAt.ext H he) hl
  clear H
  generalize (thg l n).getD 0 = v at *
  generalize (thg l n).isSome = t at *
  go_enter Try.func47, Try.ntmps47
  go_wp2_with fail
  refine (HV.out _ (by repeat (first | exact Ext.refl _ | refine Ext.lift ?_ _ | refine Ext.alloc ?_ _))).mono ?_
  rintro e w' ⟨rfl, y, rfl⟩
  go_wp2_with fail
  refine bodyPost_ret (v := .agg #[.int .i64 v, .bool t]) (by simp [results, Try.results47, go_sem]) rfl ?_
  exact ⟨rfl, ((((Ext.refl w).alloc _).lift y).setCell (p := ⟨w.heap.size, 0, none⟩) (Nat.le_refl _) _).setCell (p := ⟨w.heap.size, 1, none⟩) (Nat.le_refl _) _⟩
set_option maxRecDepth 100000 in
set_option maxHeartbeats 8000000 in
theorem conflicts_1 (b1 b2 b3 : Nat) (a1 a2 a3 : Option Addr) (p1 p2 p3 : Nat) (x y z : List Setting) (n : ByteArray) (w : World) (h1 : w.cell? ⟨b1, 0, none⟩ = some (.slice a1 x.length p1)) (h2 : w.cell? ⟨b2, 0, none⟩ = some (.slice a2 y.length p2)) (h3 : w.cell? ⟨b3, 0, none⟩ = some (.slice a3 z.length p3))
    (H1 : SettingAt w a1 x) (H2 : SettingAt w a2 y) (H3 : SettingAt w a3 z) (l1 : x.length ≤ 1048576) (l2 : y.length ≤ 1048576) (l3 : z.length ≤ 1048576) :
    Gives Try.prog 74 #[.string n, .pointer (some ⟨b1, 0, none⟩), .pointer (some ⟨b2, 0, none⟩), .pointer (some ⟨b3, 0, none⟩)] w (.bool (!confAt x y z n)) := by
  unfold Gives
  have T1 := Lib.hid fun (W : World) (he : Ext w W) => thingAt_any a1 p1 x n W (RowsAt.ext H1 he) l1
  have T2 := Lib.hid fun (W : World) (he : Ext w W) => thingAt_any a2 p2 y n W (RowsAt.ext H2 he) l2
  have T3 := Lib.hid fun (W : World) (he : Ext w W) => thingAt_any a3 p3 z n W (RowsAt.ext H3 he) l3
  have hb1 := block_lt h1
  have hb2 := block_lt h2
  have hb3 := block_lt h3
  have hv : Hid ((!confAt x y z n) = (decide (thg y n = thg z n) || (decide (thg y n = thg x n) || decide (thg z n = thg x n)))) := by show _ = _; unfold confAt conf; rw [Bool.not_not]
  rw [← thg_eq, ← thg_eq, ← thg_eq] at hv
  clear H1 H2 H3
  generalize (thg x n).getD 0 = v1 at *
  generalize (thg x n).isSome = t1 at *
  generalize (thg y n).getD 0 = v2 at *
  generalize (thg y n).isSome = t2 at *
  generalize (thg z n).getD 0 = v3 at *
  generalize (thg z n).isSome = t3 at *
  go_enter Try.func74, Try.ntmps74
  go_wp2_with fail
  refine Grow.region_new 12 3 [0, 1, 2, 3, 4, 5, 6, 7, 8] (by kernel_rfl) (by kernel_rfl) ?_
  simp only [Grow.pick, List.getElem?_cons_succ, List.getElem?_cons_zero]
  repeat
    refine Grow.heads_step (fun K' hK => ⟨rfl, ?_⟩)
    apply Exists.intro
    apply And.intro
    · intro w' hw'
      obtain ⟨x', rfl⟩ := hw'
      go_simp
      first | done | rfl | (rw [if_neg (by omega)]; done) | (rw [if_neg (by omega)]; rfl) | (rw [if_pos (by omega)]; done) | (rw [if_pos (by omega)]; rfl)
    go_simp
    refine hK _ ?_
    clear hK K'
  refine Grow.heads_call _ _ _ (fun K' hK => ⟨rfl, ?_, (fun w' h' => (T1.out _ h')), ?_⟩)
  · intro w' hw'
    obtain ⟨x', rfl⟩ := hw'
    go_simp
    first | done | rfl
  go_simp
  refine hK _ ?_
  clear hK K'
  repeat
    refine Grow.heads_step (fun K' hK => ⟨rfl, ?_⟩)
    apply Exists.intro
    apply And.intro
    · intro w' hw'
      obtain ⟨x', rfl⟩ := hw'
      go_simp
      first | done | rfl | (rw [if_neg (by omega)]; done) | (rw [if_neg (by omega)]; rfl) | (rw [if_pos (by omega)]; done) | (rw [if_pos (by omega)]; rfl)
    go_simp
    refine hK _ ?_
    clear hK K'
  refine Grow.heads_call _ _ _ (fun K' hK => ⟨rfl, ?_, (fun w' h' => (T2.out _ h')), ?_⟩)
  · intro w' hw'
    obtain ⟨x', rfl⟩ := hw'
    go_simp
    first | done | rfl
  go_simp
  refine hK _ ?_
  clear hK K'
  repeat
    refine Grow.heads_step (fun K' hK => ⟨rfl, ?_⟩)
    apply Exists.intro
    apply And.intro
    · intro w' hw'
      obtain ⟨x', rfl⟩ := hw'
      go_simp
      first | done | rfl | (rw [if_neg (by omega)]; done) | (rw [if_neg (by omega)]; rfl) | (rw [if_pos (by omega)]; done) | (rw [if_pos (by omega)]; rfl)
    go_simp
    refine hK _ ?_
    clear hK K'
  refine Grow.heads_call _ _ _ (fun K' hK => ⟨rfl, ?_, (fun w' h' => (T3.out _ h')), ?_⟩)
  · intro w' hw'
    obtain ⟨x', rfl⟩ := hw'
    go_simp
    first | done | rfl
  go_simp
  refine hK _ ?_
  clear hK K'
  refine Grow.heads_nil ?_
  intro W E
  refine Grow.anyL_news 3 [⟨9, 6, .cells #[.int .i64 0, .bool false] 71 (0, 0)⟩, ⟨10, 7, .cells #[.int .i64 0, .bool false] 71 (0, 0)⟩, ⟨11, 8, .cells #[.int .i64 0, .bool false] 71 (0, 0)⟩] _ _ _ (by kernel_rfl) (by decide) (by decide) (fun x hx => ?_) ?_
  · simp only [List.mem_cons, List.not_mem_nil, or_false] at hx
    rcases hx with rfl | rfl | rfl
    all_goals
      refine ⟨_, rfl, rfl, fun a w => ⟨rfl, ?_⟩⟩
      go_simp
      first | done | rfl
  intro b W2 hW2 hb hd
  have q1 := hb ⟨9, 6, .cells #[.int .i64 0, .bool false] 71 (0, 0)⟩ (by simp)
  have q2 := hb ⟨10, 7, .cells #[.int .i64 0, .bool false] 71 (0, 0)⟩ (by simp)
  have q3 := hb ⟨11, 8, .cells #[.int .i64 0, .bool false] 71 (0, 0)⟩ (by simp)
  have d12 := hd ⟨9, 6, .cells #[.int .i64 0, .bool false] 71 (0, 0)⟩ (by simp) ⟨10, 7, .cells #[.int .i64 0, .bool false] 71 (0, 0)⟩ (by simp) (by simp)
  have d13 := hd ⟨9, 6, .cells #[.int .i64 0, .bool false] 71 (0, 0)⟩ (by simp) ⟨11, 8, .cells #[.int .i64 0, .bool false] 71 (0, 0)⟩ (by simp) (by simp)
  have d23 := hd ⟨10, 7, .cells #[.int .i64 0, .bool false] 71 (0, 0)⟩ (by simp) ⟨11, 8, .cells #[.int .i64 0, .bool false] 71 (0, 0)⟩ (by simp) (by simp)
  simp only [Grow.putAll, Grow.ptr]
  simp only at q1 q2 q3 d12 d13 d23
  clear hb hd
  generalize b 9 = g1 at *
  generalize b 10 = g2 at *
  generalize b 11 = g3 at *
  refine ⟨by kernel_rfl, ?_⟩
  simp only [List.drop_succ_cons, List.drop_zero]
  have hE2 := Lib.hid (E.trans hW2)
  have hws := E.size
  have B1 : Blk W2 g1 71 2 := ⟨_, q1.2, rfl⟩
  have B2 : Blk W2 g2 71 2 := ⟨_, q2.2, rfl⟩
  have B3 : Blk W2 g3 71 2 := ⟨_, q3.2, rfl⟩
  have r1 := Nat.le_trans hws q1.1
  have r2 := Nat.le_trans hws q2.1
  have r3 := Nat.le_trans hws q3.1
  clear q1 q2 q3 T1 T2 T3 E hW2 hb1 hb2 hb3 h1 h2 h3
  have hl1 := B1.lt
  have hl2 := B2.lt
  have hl3 := B3.lt
  obtain ⟨u1, x1⟩ := B1.cell (o := 0) (by decide)
  obtain ⟨u2, x2⟩ := B1.cell (o := 1) (by decide)
  obtain ⟨u3, x3⟩ := B2.cell (o := 0) (by decide)
  obtain ⟨u4, x4⟩ := B2.cell (o := 1) (by decide)
  obtain ⟨u5, x5⟩ := B3.cell (o := 0) (by decide)
  obtain ⟨u6, x6⟩ := B3.cell (o := 1) (by decide)
  have f1 := B1.frozen 0
  have f2 := B1.frozen 1
  have f3 := B2.frozen 0
  have f4 := B2.frozen 1
  have f5 := B3.frozen 0
  have f6 := B3.frozen 1
  have d21 := Ne.symm d12
  have d31 := Ne.symm d13
  have d32 := Ne.symm d23
  clear B1 B2 B3
  go_wp2_with fail
  all_goals
    go_ret
    refine ⟨ret_bool ?_, (((((hE2.out.setCell (p := ⟨g1, 0, none⟩) r1 _).setCell (p := ⟨g1, 1, none⟩) r1 _).setCell (p := ⟨g2, 0, none⟩) r2 _).setCell (p := ⟨g2, 1, none⟩) r2 _).setCell (p := ⟨g3, 0, none⟩) r3 _).setCell (p := ⟨g3, 1, none⟩) r3 _⟩
    rw [hv.out]
    clear hv hE2 x1 x2 x3 x4 x5 x6 f1 f2 f3 f4 f5 f6
    first
      | (simp [*]; done)
      | (simp [*]; exact ⟨fun e e2 => by simp_all, fun e e2 => by simp_all⟩)
end Go.Proofs.Ytbcpgdidajapoaa
