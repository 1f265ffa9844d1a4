/- A test that the reference draws, and bends. -/
import Derived.Test.YtdopffhekinbnaaAmongI
import Derived.Test.YtdopffhekinbnaaTest
import Derived.Deep.RegionLaw
import Derived.Deep.CutRange
namespace Go.Proofs.Ytdopffhekinbnaa
open Go.RowKit
abbrev cellJ : Int → Nat → Value := fun (x : Int) (_ : Nat) => Value.int .i64 x
theorem five {j : Nat} (h : j < 5) : j = 0 ∨ j = 1 ∨ j = 2 ∨ j = 3 ∨ j = 4 := by omega
/-- A test near to a valid one. -/
structure TstN (x : Test) : Prop where
  kd : -1 ≤ x.kind ∧ x.kind ≤ 200000
  sc : -1 ≤ x.score ∧ x.score ≤ 200000
  qu : -1 ≤ x.quality ∧ x.quality ≤ 200000
  de : -1 ≤ x.depth ∧ x.depth ≤ 200000
  ho : -1 ≤ x.hour ∧ x.hour ≤ 200000
/-- A test in a block of its own. -/
structure Tbox (w : World) (b : Nat) (x : Test) : Prop where
  blk : Blk w b 41 5
  cell : ∀ j, j < 5 → w.cell? ⟨b, j, none⟩ = some (x.cell j)
theorem Tbox.new (w : World) (x : Test) : Tbox (w.alloc (.cells #[.int .i64 x.kind, .int .i64 x.score, .int .i64 x.quality, .int .i64 x.depth, .int .i64 x.hour] 41)) w.heap.size x :=
  ⟨Blk.new w _ _, fun j hj => by rw [cell_new]; rcases five hj with rfl | rfl | rfl | rfl | rfl <;> rfl⟩
theorem Tbox.ext {w w' : World} {b : Nat} {x : Test} (h : Tbox w b x) (he : Ext w w') : Tbox w' b x := ⟨h.blk.ext he, fun j hj => he.cell (h.cell j hj)⟩
theorem Tbox.moved {sb : Nat} {w w' : World} {b : Nat} {x : Test} (h : Tbox w b x) (hm : Moved sb w w') (hne : b ≠ sb) : Tbox w' b x :=
  ⟨hm.blk hne h.blk, fun j hj => hm.cell (by show b ≠ sb; exact hne) (h.cell j hj)⟩
theorem Tbox.at1 {w : World} {b : Nat} {x : Test} (h : Tbox w b x) (y : Test) (j0 : Nat) (hj0 : j0 < 5) (v : Value) (hv : y.cell j0 = v) (hne : ∀ j, j < 5 → j ≠ j0 → y.cell j = x.cell j) : Tbox (w.setCell ⟨b, j0, none⟩ v) b y :=
  ⟨h.blk.set _ _ _, fun j hj => by
    by_cases h3 : j = j0
    · subst h3; rw [h.blk.same hj0, hv]
    · rw [cell_other _ (by omega), h.cell j hj, hne j hj h3]⟩
theorem Tbox.all {w : World} {b : Nat} {x : Test} (h : Tbox w b x) : b < w.heap.size ∧ w.cell? ⟨b, 0, none⟩ = some (.int .i64 x.kind) ∧ w.cell? ⟨b, 1, none⟩ = some (.int .i64 x.score) ∧ w.cell? ⟨b, 2, none⟩ = some (.int .i64 x.quality) ∧ w.cell? ⟨b, 3, none⟩ = some (.int .i64 x.depth) ∧ w.cell? ⟨b, 4, none⟩ = some (.int .i64 x.hour) :=
  ⟨h.blk.lt, h.cell 0 (by decide), h.cell 1 (by decide), h.cell 2 (by decide), h.cell 3 (by decide), h.cell 4 (by decide)⟩
theorem rows_lit {α : Type} [Inhabited α] {cell : α → Nat → Value} {T : TypeId} (w : World) (cs : Array Value) (l : List α) (h : ∀ k, k < l.length → cs[k]? = some (cell (nth l k) 0)) {n : Nat} (hn : n = w.heap.size) : RowsAt 1 cell (w.alloc (.cells cs T)) (some ⟨n, 0, none⟩) l := fun k hk => by
  subst hn
  exact ⟨_, _, rfl, by rw [size_new]; omega, fun j hj => by
    obtain rfl : j = 0 := by omega
    simp only [Nat.mul_one, Nat.zero_add, Nat.add_zero]; rw [cell_new]; exact h k hk⟩
/-- The state of a draw that began in w: the source, what else holds. -/
structure Dr (w W : World) (sb : Nat) (a : Option Addr) (cap : Nat) (code : List Int) (n : Nat) : Prop where
  src : Src W sb a cap code n
  mv : Moved sb w W
  by0 : ByteAt w a code
  lt : sb < w.heap.size
section
variable {w W W' : World} {sb : Nat} {a : Option Addr} {cap : Nat} {code : List Int} {n : Nat}
theorem Dr.start (h : Src w sb a cap code n) : Dr w w sb a cap code n := ⟨h, Moved.refl _ _, h.bytes, h.lt⟩
theorem Dr.ext (h : Dr w W sb a cap code n) (he : Ext W W') : Dr w W' sb a cap code n := ⟨h.src.ext he, h.mv.more he, h.by0, h.lt⟩
theorem Dr.step {k : Nat} (h : Dr w W sb a cap code n) (hs : Src W' sb a cap code (n + k)) (hm : Moved sb W W') : Dr w W' sb a cap code (n + k) := ⟨hs, h.mv.trans hm, h.by0, h.lt⟩
theorem Dr.set {b o : Nat} (h : Dr w W sb a cap code n) (hb : w.heap.size ≤ b) (v : Value) : Dr w (W.setCell ⟨b, o, none⟩ v) sb a cap code n :=
  ⟨h.src.other h.by0 hb (by have := h.lt; omega) v, h.mv.fresh hb v, h.by0, h.lt⟩
theorem Dr.size (h : Dr w W sb a cap code n) : w.heap.size ≤ W.heap.size := h.mv.size
theorem Dr.grown {row : Option Nat} (h : Dr w W sb a cap code n) (hg : W.grownBy W' row) (hr : ∀ g, row = some g → w.heap.size ≤ g) : Dr w W' sb a cap code n :=
  ⟨h.src.grown hg hr h.lt h.by0 (Nat.le_refl _), h.mv.grown hg hr, h.by0, h.lt⟩
end
set_option maxRecDepth 100000 in
set_option maxHeartbeats 8000000 in
theorem l08DrawOne_any (w : World) (sb : Nat) (a : Option Addr) (cap : Nat) (code : List Int) (n : Nat) (H : Src w sb a cap code n) (hn : n ≤ 800000000) :
    Calls Try.prog 52 #[.pointer (some ⟨sb, 0, none⟩)] w fun e w' => ∃ (x : Test) (k : Nat), e = .returned (.agg #[.int .i64 x.kind, .int .i64 x.score, .int .i64 x.quality, .int .i64 x.depth, .int .i64 x.hour]) ∧ TstN x ∧ k ≤ 12 ∧ Src w' sb a cap code (n + k) ∧ Moved sb w w' := by
  have HD := Lib.hid (Dr.start H)
  have hsl := H.lt
  clear H
  have HB := Lib.hid (Blk.new w #[.int .i64 0, .int .i64 0, .int .i64 0, .int .i64 0, .int .i64 0] 41)
  go_enter Try.func52, Try.ntmps52
  go_wp2_with fail
  replace HD := Lib.hid (HD.out.ext ((Ext.refl w).alloc (.cells #[.int .i64 0, .int .i64 0, .int .i64 0, .int .i64 0, .int .i64 0] 41)))
  refine (pick_any _ sb a cap code n HD.out.src (by omega) 3 (by omega)).mono ?_
  rintro e W1 ⟨r1, q1, rfl, p0, p1, hq1, S1, M1⟩
  replace p1 := p1 (by omega)
  replace HB := Lib.hid (M1.blk (g := w.heap.size) (by omega) HB.out)
  replace HD := Lib.hid (HD.out.step S1 M1)
  clear S1 M1
  obtain ⟨rb, hrb, hrw⟩ : ∃ rb, rb = w.heap.size ∧ w.heap.size ≤ rb := ⟨_, rfl, Nat.le_refl _⟩
  rw [← hrb] at HB ⊢
  clear hrb
  have hrs : rb ≠ sb := by omega
  go_wp2_with fail
  refine (pick_any W1 sb a cap code (n + q1) HD.out.src (by omega) 32 (by omega)).mono ?_
  rintro e W2 ⟨v2, q2, rfl, v2l, v2u, v2q, S2, M2⟩
  replace v2u := v2u (by omega)
  replace HB := Lib.hid (M2.blk (g := rb) hrs HB.out)
  replace HD := Lib.hid (HD.out.step S2 M2)
  clear S2 M2
  go_wp2_with fail
  refine (pick_any W2 sb a cap code (n + q1 + q2) HD.out.src (by omega) 3 (by omega)).mono ?_
  rintro e W3 ⟨v3, q3, rfl, v3l, v3u, v3q, S2, M2⟩
  replace v3u := v3u (by omega)
  replace HB := Lib.hid (M2.blk (g := rb) hrs HB.out)
  replace HD := Lib.hid (HD.out.step S2 M2)
  clear S2 M2
  have hxr : W3.heap.size ≠ rb := by have := HB.out.lt; omega
  have hz := HD.out.size
  have HI := Lib.hid (Tbox.new W3 ⟨1 + r1, v2, 1 + v3, 0, 0⟩)
  have hx := (Ext.refl W3).alloc (.cells #[.int .i64 (1 + r1), .int .i64 v2, .int .i64 (1 + v3), .int .i64 0, .int .i64 0] 41)
  replace HB := Lib.hid (HB.out.ext hx)
  replace HD := Lib.hid (HD.out.ext hx)
  obtain ⟨xb, hxb⟩ : ∃ xb, xb = W3.heap.size := ⟨_, rfl⟩
  have hxw : w.heap.size ≤ xb := by omega
  have hxs : xb ≠ sb := by omega
  rw [← hxb] at HI hxr
  have hrx : rb ≠ xb := Ne.symm hxr
  obtain ⟨W4, hW4⟩ : ∃ W4, W4 = W3.alloc (.cells #[.int .i64 (1 + r1), .int .i64 v2, .int .i64 (1 + v3), .int .i64 0, .int .i64 0] 41) := ⟨_, rfl⟩
  rw [← hW4] at HI HB HD
  replace hW4 := Lib.hid hW4
  replace hxb := Lib.hid hxb
  clear hx
  by_cases hk : r1 = 2
  · have e3 : 1 + r1 = 3 := by omega
    rw [e3] at HI hW4 ⊢
    clear e3
    go_upto_region 3 with fail
    rw [← hW4.out, ← hxb.out]
    clear hW4 hxb
    obtain ⟨gl, g0, g1, g2, g3, g4⟩ := HI.out.all
    have gk := HI.out.blk.frozen 1
    replace HI := Lib.hid (HI.out.at1 ⟨3, 1 + v2 % 7, 1 + v3, 0, 0⟩ 1 (by decide) (.int .i64 (1 + v2 % 7)) rfl (fun j hj hne => by rcases five hj with rfl | rfl | rfl | rfl | rfl <;> first | rfl | exact absurd rfl hne))
    replace HB := Lib.hid (HB.out.set xb 1 (.int .i64 (1 + v2 % 7)))
    replace HD := Lib.hid (HD.out.set (o := 1) hxw (.int .i64 (1 + v2 % 7)))
    obtain ⟨W5, hW5⟩ : ∃ W5, W5 = W4.setCell ⟨xb, 1, none⟩ (.int .i64 (1 + v2 % 7)) := ⟨_, rfl⟩
    rw [← hW5] at HI HB HD
    go_wp2_with fail
    rw [← hW5]
    clear hW5 gl g0 g1 g2 g3 g4 gk
    have hsc : -1 ≤ 1 + v2 % 7 ∧ 1 + v2 % 7 ≤ 200000 := by omega
    generalize 1 + v2 % 7 = s1 at HI hsc ⊢
    refine (pick_any W5 sb a cap code (n + q1 + q2 + q3) HD.out.src (by omega) 20 (by omega)).mono ?_
    rintro e W6 ⟨v5, k5, rfl, v5l, v5u, v5q, S2, M2⟩
    replace v5u := v5u (by omega)
    replace HB := Lib.hid (M2.blk (g := rb) hrs HB.out)
    replace HI := Lib.hid (HI.out.moved M2 hxs)
    replace HD := Lib.hid (HD.out.step S2 M2)
    clear S2 M2
    obtain ⟨gl, g0, g1, g2, g3, g4⟩ := HI.out.all
    have gk := HI.out.blk.frozen 3
    replace HI := Lib.hid (HI.out.at1 ⟨3, s1, 1 + v3, 10 + 5 * v5, 0⟩ 3 (by decide) (.int .i64 (10 + 5 * v5)) rfl (fun j hj hne => by rcases five hj with rfl | rfl | rfl | rfl | rfl <;> first | rfl | exact absurd rfl hne))
    replace HB := Lib.hid (HB.out.set xb 3 (.int .i64 (10 + 5 * v5)))
    replace HD := Lib.hid (HD.out.set (o := 3) hxw (.int .i64 (10 + 5 * v5)))
    obtain ⟨W7, hW7⟩ : ∃ W7, W7 = W6.setCell ⟨xb, 3, none⟩ (.int .i64 (10 + 5 * v5)) := ⟨_, rfl⟩
    rw [← hW7] at HI HB HD
    go_wp2_with fail
    rw [← hW7]
    clear hW7 gl g0 g1 g2 g3 g4 gk
    refine (pick_any W7 sb a cap code (n + q1 + q2 + q3 + k5) HD.out.src (by omega) 60 (by omega)).mono ?_
    rintro e W8 ⟨v7, k7, rfl, v7l, v7u, v7q, S2, M2⟩
    replace v7u := v7u (by omega)
    replace HB := Lib.hid (M2.blk (g := rb) hrs HB.out)
    replace HI := Lib.hid (HI.out.moved M2 hxs)
    replace HD := Lib.hid (HD.out.step S2 M2)
    clear S2 M2
    have HB0 := HB.out
    obtain ⟨gl, g0, g1, g2, g3, g4⟩ := HI.out.all
    have gk := HI.out.blk.frozen 4
    replace HI := Lib.hid (HI.out.at1 ⟨3, s1, 1 + v3, 10 + 5 * v5, v7⟩ 4 (by decide) (.int .i64 v7) rfl (fun j hj hne => by rcases five hj with rfl | rfl | rfl | rfl | rfl <;> first | rfl | exact absurd rfl hne))
    replace HB := Lib.hid (HB.out.set xb 4 (.int .i64 v7))
    replace HD := Lib.hid (HD.out.set (o := 4) hxw (.int .i64 v7))
    obtain ⟨W9, hW9⟩ : ∃ W9, W9 = W8.setCell ⟨xb, 4, none⟩ (.int .i64 v7) := ⟨_, rfl⟩
    rw [← hW9] at HI HB HD
    have HX : Hid (TstN ⟨3, s1, 1 + v3, 10 + 5 * v5, v7⟩) := ⟨by dsimp only; omega, by dsimp only; omega, by dsimp only; omega, by dsimp only; omega, by dsimp only; omega⟩
    have rl0 := HB0.lt
    obtain ⟨u0, o0⟩ := HB0.cell (o := 0) (by decide)
    obtain ⟨u1, o1⟩ := HB0.cell (o := 1) (by decide)
    obtain ⟨u2, o2⟩ := HB0.cell (o := 2) (by decide)
    obtain ⟨u3, o3⟩ := HB0.cell (o := 3) (by decide)
    obtain ⟨u4, o4⟩ := HB0.cell (o := 4) (by decide)
    have n0 := HB0.frozen 0
    have n1 := HB0.frozen 1
    have n2 := HB0.frozen 2
    have n3 := HB0.frozen 3
    have n4 := HB0.frozen 4
    clear HB0
    have HQ := Lib.hid (Dr.set (o := 4) (Dr.set (o := 3) (Dr.set (o := 2) (Dr.set (o := 1) (Dr.set (o := 0) HD.out hrw (.int .i64 ((⟨3, s1, 1 + v3, 10 + 5 * v5, v7⟩ : Test)).kind)) hrw (.int .i64 ((⟨3, s1, 1 + v3, 10 + 5 * v5, v7⟩ : Test)).score)) hrw (.int .i64 ((⟨3, s1, 1 + v3, 10 + 5 * v5, v7⟩ : Test)).quality)) hrw (.int .i64 ((⟨3, s1, 1 + v3, 10 + 5 * v5, v7⟩ : Test)).depth)) hrw (.int .i64 ((⟨3, s1, 1 + v3, 10 + 5 * v5, v7⟩ : Test)).hour))
    first | rw [hW9] at HQ | skip
    first | clear hW9 | skip
    clear HD HI HB
    go_wp2_with fail
    refine bodyPost_ret (v := .agg #[.int .i64 ((⟨3, s1, 1 + v3, 10 + 5 * v5, v7⟩ : Test)).kind, .int .i64 ((⟨3, s1, 1 + v3, 10 + 5 * v5, v7⟩ : Test)).score, .int .i64 ((⟨3, s1, 1 + v3, 10 + 5 * v5, v7⟩ : Test)).quality, .int .i64 ((⟨3, s1, 1 + v3, 10 + 5 * v5, v7⟩ : Test)).depth, .int .i64 ((⟨3, s1, 1 + v3, 10 + 5 * v5, v7⟩ : Test)).hour]) (by simp [results, Try.results52, go_sem, o0, o1, o2, o3, o4]) rfl ?_
    refine ⟨(⟨3, s1, 1 + v3, 10 + 5 * v5, v7⟩ : Test), q1 + q2 + q3 + k5 + k7, rfl, HX.out, by omega, ?_, HQ.out.mv⟩
    rw [show n + (q1 + q2 + q3 + k5 + k7) = n + q1 + q2 + q3 + k5 + k7 by omega]
    exact HQ.out.src
  · have hk3 : ((1 + r1 : Int) == 3) = false := beq_eq_false_iff_ne.2 (by omega)
    go_upto_region 4 with fail
    rw [← hW4.out, ← hxb.out]
    clear hW4 hxb
    obtain ⟨W5, hW5⟩ : ∃ W5, W5 = W4 := ⟨_, rfl⟩
    rw [← hW5] at HI HB HD ⊢
    clear hW5
    have hsc : -1 ≤ v2 ∧ v2 ≤ 200000 := by omega
    go_wp2_with fail
    refine (pick_any W5 sb a cap code (n + q1 + q2 + q3) HD.out.src (by omega) 20 (by omega)).mono ?_
    rintro e W6 ⟨v5, k5, rfl, v5l, v5u, v5q, S2, M2⟩
    replace v5u := v5u (by omega)
    replace HB := Lib.hid (M2.blk (g := rb) hrs HB.out)
    replace HI := Lib.hid (HI.out.moved M2 hxs)
    replace HD := Lib.hid (HD.out.step S2 M2)
    clear S2 M2
    obtain ⟨gl, g0, g1, g2, g3, g4⟩ := HI.out.all
    have gk := HI.out.blk.frozen 3
    replace HI := Lib.hid (HI.out.at1 ⟨(1 + r1), v2, 1 + v3, 10 + 5 * v5, 0⟩ 3 (by decide) (.int .i64 (10 + 5 * v5)) rfl (fun j hj hne => by rcases five hj with rfl | rfl | rfl | rfl | rfl <;> first | rfl | exact absurd rfl hne))
    replace HB := Lib.hid (HB.out.set xb 3 (.int .i64 (10 + 5 * v5)))
    replace HD := Lib.hid (HD.out.set (o := 3) hxw (.int .i64 (10 + 5 * v5)))
    obtain ⟨W7, hW7⟩ : ∃ W7, W7 = W6.setCell ⟨xb, 3, none⟩ (.int .i64 (10 + 5 * v5)) := ⟨_, rfl⟩
    rw [← hW7] at HI HB HD
    go_wp2_with fail
    rw [← hW7]
    clear hW7 gl g0 g1 g2 g3 g4 gk
    refine (pick_any W7 sb a cap code (n + q1 + q2 + q3 + k5) HD.out.src (by omega) 60 (by omega)).mono ?_
    rintro e W8 ⟨v7, k7, rfl, v7l, v7u, v7q, S2, M2⟩
    replace v7u := v7u (by omega)
    replace HB := Lib.hid (M2.blk (g := rb) hrs HB.out)
    replace HI := Lib.hid (HI.out.moved M2 hxs)
    replace HD := Lib.hid (HD.out.step S2 M2)
    clear S2 M2
    have HB0 := HB.out
    obtain ⟨gl, g0, g1, g2, g3, g4⟩ := HI.out.all
    have gk := HI.out.blk.frozen 4
    replace HI := Lib.hid (HI.out.at1 ⟨(1 + r1), v2, 1 + v3, 10 + 5 * v5, v7⟩ 4 (by decide) (.int .i64 v7) rfl (fun j hj hne => by rcases five hj with rfl | rfl | rfl | rfl | rfl <;> first | rfl | exact absurd rfl hne))
    replace HB := Lib.hid (HB.out.set xb 4 (.int .i64 v7))
    replace HD := Lib.hid (HD.out.set (o := 4) hxw (.int .i64 v7))
    obtain ⟨W9, hW9⟩ : ∃ W9, W9 = W8.setCell ⟨xb, 4, none⟩ (.int .i64 v7) := ⟨_, rfl⟩
    rw [← hW9] at HI HB HD
    have HX : Hid (TstN ⟨(1 + r1), v2, 1 + v3, 10 + 5 * v5, v7⟩) := ⟨by dsimp only; omega, by dsimp only; omega, by dsimp only; omega, by dsimp only; omega, by dsimp only; omega⟩
    have rl0 := HB0.lt
    obtain ⟨u0, o0⟩ := HB0.cell (o := 0) (by decide)
    obtain ⟨u1, o1⟩ := HB0.cell (o := 1) (by decide)
    obtain ⟨u2, o2⟩ := HB0.cell (o := 2) (by decide)
    obtain ⟨u3, o3⟩ := HB0.cell (o := 3) (by decide)
    obtain ⟨u4, o4⟩ := HB0.cell (o := 4) (by decide)
    have n0 := HB0.frozen 0
    have n1 := HB0.frozen 1
    have n2 := HB0.frozen 2
    have n3 := HB0.frozen 3
    have n4 := HB0.frozen 4
    clear HB0
    have HQ := Lib.hid (Dr.set (o := 4) (Dr.set (o := 3) (Dr.set (o := 2) (Dr.set (o := 1) (Dr.set (o := 0) HD.out hrw (.int .i64 ((⟨(1 + r1), v2, 1 + v3, 10 + 5 * v5, v7⟩ : Test)).kind)) hrw (.int .i64 ((⟨(1 + r1), v2, 1 + v3, 10 + 5 * v5, v7⟩ : Test)).score)) hrw (.int .i64 ((⟨(1 + r1), v2, 1 + v3, 10 + 5 * v5, v7⟩ : Test)).quality)) hrw (.int .i64 ((⟨(1 + r1), v2, 1 + v3, 10 + 5 * v5, v7⟩ : Test)).depth)) hrw (.int .i64 ((⟨(1 + r1), v2, 1 + v3, 10 + 5 * v5, v7⟩ : Test)).hour))
    first | rw [hW9] at HQ | skip
    first | clear hW9 | skip
    clear HD HI HB
    go_wp2_with fail
    refine bodyPost_ret (v := .agg #[.int .i64 ((⟨(1 + r1), v2, 1 + v3, 10 + 5 * v5, v7⟩ : Test)).kind, .int .i64 ((⟨(1 + r1), v2, 1 + v3, 10 + 5 * v5, v7⟩ : Test)).score, .int .i64 ((⟨(1 + r1), v2, 1 + v3, 10 + 5 * v5, v7⟩ : Test)).quality, .int .i64 ((⟨(1 + r1), v2, 1 + v3, 10 + 5 * v5, v7⟩ : Test)).depth, .int .i64 ((⟨(1 + r1), v2, 1 + v3, 10 + 5 * v5, v7⟩ : Test)).hour]) (by simp [results, Try.results52, go_sem, o0, o1, o2, o3, o4]) rfl ?_
    refine ⟨(⟨(1 + r1), v2, 1 + v3, 10 + 5 * v5, v7⟩ : Test), q1 + q2 + q3 + k5 + k7, rfl, HX.out, by omega, ?_, HQ.out.mv⟩
    rw [show n + (q1 + q2 + q3 + k5 + k7) = n + q1 + q2 + q3 + k5 + k7 by omega]
    exact HQ.out.src
set_option maxRecDepth 100000 in
set_option maxHeartbeats 8000000 in
theorem l08Bend_any (w : World) (sb : Nat) (a : Option Addr) (cap : Nat) (code : List Int) (n : Nat) (H : Src w sb a cap code n) (hn : n ≤ 800000000) (x : Test) (hxi : TstN x) :
    Calls Try.prog 53 #[.pointer (some ⟨sb, 0, none⟩), .agg #[.int .i64 x.kind, .int .i64 x.score, .int .i64 x.quality, .int .i64 x.depth, .int .i64 x.hour]] w fun e w' => ∃ (x : Test) (k : Nat), e = .returned (.agg #[.int .i64 x.kind, .int .i64 x.score, .int .i64 x.quality, .int .i64 x.depth, .int .i64 x.hour]) ∧ TstN x ∧ k ≤ 12 ∧ Src w' sb a cap code (n + k) ∧ Moved sb w w' := by
  have HD := Lib.hid (Dr.start H)
  have hsl := H.lt
  have hxn := Lib.hid hxi
  clear H hxi
  have hx1 := (Ext.refl w).alloc (.cells #[.int .i64 x.kind, .int .i64 x.score, .int .i64 x.quality, .int .i64 x.depth, .int .i64 x.hour] 41)
  have HB := Blk.new (w.alloc (.cells #[.int .i64 x.kind, .int .i64 x.score, .int .i64 x.quality, .int .i64 x.depth, .int .i64 x.hour] 41)) #[.int .i64 0, .int .i64 0, .int .i64 0, .int .i64 0, .int .i64 0] 41
  have hx2 := (Ext.refl (w.alloc (.cells #[.int .i64 x.kind, .int .i64 x.score, .int .i64 x.quality, .int .i64 x.depth, .int .i64 x.hour] 41))).alloc (.cells #[.int .i64 0, .int .i64 0, .int .i64 0, .int .i64 0, .int .i64 0] 41)
  have HI := Lib.hid ((Tbox.new w x).ext hx2)
  rw [size_new] at HB
  replace HB := Lib.hid HB
  replace HD := Lib.hid ((HD.out.ext hx1).ext hx2)
  clear hx1 hx2
  go_enter Try.func53, Try.ntmps53
  go_wp2_with fail
  refine (pick_any _ sb a cap code n HD.out.src (by omega) 18 (by omega)).mono ?_
  rintro e W1 ⟨r1, q1, rfl, p0, p1, hq1, S1, M1⟩
  replace p1 := p1 (by omega)
  replace HB := Lib.hid (M1.blk (g := w.heap.size + 1) (by omega) HB.out)
  replace HI := Lib.hid (HI.out.moved M1 (by omega))
  replace HD := Lib.hid (HD.out.step S1 M1)
  clear S1 M1
  obtain ⟨rb, hrb⟩ : ∃ rb, rb = w.heap.size + 1 := ⟨_, rfl⟩
  rw [← hrb] at HB ⊢
  obtain ⟨xb, hxb⟩ : ∃ xb, xb = w.heap.size := ⟨_, rfl⟩
  rw [← hxb] at HI ⊢
  have hrw : w.heap.size ≤ rb := by omega
  have hxw : w.heap.size ≤ xb := by omega
  have hrs : rb ≠ sb := by omega
  have hxs : xb ≠ sb := by omega
  have hxr : xb ≠ rb := by omega
  have hrx : rb ≠ xb := Ne.symm hxr
  clear hrb hxb
  rcases (show r1 = 0 ∨ r1 = 1 ∨ r1 = 2 ∨ r1 = 3 ∨ r1 = 4 ∨ 5 ≤ r1 by omega) with hr | hr | hr | hr | hr | hr
  · subst hr
    go_wp2_with fail
    have HT := rows_lit (cell := cellJ) (T := 2) W1 #[.int .i64 0, .int .i64 4] [0, 4] (fun k hk => by rcases (show k = 0 ∨ k = 1 by simp at hk; omega) with rfl | rfl <;> rfl) rfl
    have hx := (Ext.refl W1).alloc (.cells #[.int .i64 0, .int .i64 4] 2)
    refine (among_any _ sb a cap code (n + q1) (HD.out.src.ext hx) (by omega) (some ⟨W1.heap.size, 0, none⟩) 2 _ HT (by simp) (by simp) (fun p e => by cases e; have := HD.out.src.lt; show W1.heap.size ≠ sb; omega)).mono ?_
    rintro e W2 ⟨s1, q2, rfl, hs1, hq2, S2, M2⟩
    have hs1 : -1 ≤ s1 ∧ s1 ≤ 200000 := by simp only [List.mem_cons, List.not_mem_nil, or_false] at hs1; omega
    replace HB := Lib.hid (M2.blk (g := rb) hrs (HB.out.ext hx))
    replace HI := Lib.hid ((HI.out.ext hx).moved M2 hxs)
    replace HD := Lib.hid ((HD.out.ext hx).step S2 M2)
    clear S2 M2 HT hx
    have HB0 := HB.out
    obtain ⟨gl, g0, g1, g2, g3, g4⟩ := HI.out.all
    have gk := HI.out.blk.frozen 0
    replace HI := Lib.hid (HI.out.at1 ⟨s1, x.score, x.quality, x.depth, x.hour⟩ 0 (by decide) (.int .i64 s1) rfl (fun j hj hne => by rcases five hj with rfl | rfl | rfl | rfl | rfl <;> first | rfl | exact absurd rfl hne))
    replace HB := Lib.hid (HB.out.set xb 0 (.int .i64 s1))
    replace HD := Lib.hid (HD.out.set (o := 0) hxw (.int .i64 s1))
    obtain ⟨Wb, hWb⟩ : ∃ Wb, Wb = W2.setCell ⟨xb, 0, none⟩ (.int .i64 s1) := ⟨_, rfl⟩
    rw [← hWb] at HI HB HD
    have HX : Hid (TstN ⟨s1, x.score, x.quality, x.depth, x.hour⟩) := ⟨hs1, hxn.out.sc, hxn.out.qu, hxn.out.de, hxn.out.ho⟩
    have rl0 := HB0.lt
    obtain ⟨u0, o0⟩ := HB0.cell (o := 0) (by decide)
    obtain ⟨u1, o1⟩ := HB0.cell (o := 1) (by decide)
    obtain ⟨u2, o2⟩ := HB0.cell (o := 2) (by decide)
    obtain ⟨u3, o3⟩ := HB0.cell (o := 3) (by decide)
    obtain ⟨u4, o4⟩ := HB0.cell (o := 4) (by decide)
    have n0 := HB0.frozen 0
    have n1 := HB0.frozen 1
    have n2 := HB0.frozen 2
    have n3 := HB0.frozen 3
    have n4 := HB0.frozen 4
    clear HB0
    have HQ := Lib.hid (Dr.set (o := 4) (Dr.set (o := 3) (Dr.set (o := 2) (Dr.set (o := 1) (Dr.set (o := 0) HD.out hrw (.int .i64 ((⟨s1, x.score, x.quality, x.depth, x.hour⟩ : Test)).kind)) hrw (.int .i64 ((⟨s1, x.score, x.quality, x.depth, x.hour⟩ : Test)).score)) hrw (.int .i64 ((⟨s1, x.score, x.quality, x.depth, x.hour⟩ : Test)).quality)) hrw (.int .i64 ((⟨s1, x.score, x.quality, x.depth, x.hour⟩ : Test)).depth)) hrw (.int .i64 ((⟨s1, x.score, x.quality, x.depth, x.hour⟩ : Test)).hour))
    first | rw [hWb] at HQ | skip
    first | clear hWb | skip
    clear HD HI HB
    go_wp2_with fail
    refine bodyPost_ret (v := .agg #[.int .i64 ((⟨s1, x.score, x.quality, x.depth, x.hour⟩ : Test)).kind, .int .i64 ((⟨s1, x.score, x.quality, x.depth, x.hour⟩ : Test)).score, .int .i64 ((⟨s1, x.score, x.quality, x.depth, x.hour⟩ : Test)).quality, .int .i64 ((⟨s1, x.score, x.quality, x.depth, x.hour⟩ : Test)).depth, .int .i64 ((⟨s1, x.score, x.quality, x.depth, x.hour⟩ : Test)).hour]) (by simp [results, Try.results53, go_sem, o0, o1, o2, o3, o4]) rfl ?_
    refine ⟨(⟨s1, x.score, x.quality, x.depth, x.hour⟩ : Test), q1 + q2, rfl, HX.out, by omega, ?_, HQ.out.mv⟩
    rw [show n + (q1 + q2) = n + q1 + q2 by omega]
    exact HQ.out.src
  · subst hr
    go_wp2_with fail
    have HT := rows_lit (cell := cellJ) (T := 2) W1 #[.int .i64 (-1), .int .i64 0, .int .i64 7, .int .i64 8, .int .i64 31, .int .i64 32] [(-1), 0, 7, 8, 31, 32] (fun k hk => by rcases (show k = 0 ∨ k = 1 ∨ k = 2 ∨ k = 3 ∨ k = 4 ∨ k = 5 by simp at hk; omega) with rfl | rfl | rfl | rfl | rfl | rfl <;> rfl) rfl
    have hx := (Ext.refl W1).alloc (.cells #[.int .i64 (-1), .int .i64 0, .int .i64 7, .int .i64 8, .int .i64 31, .int .i64 32] 2)
    refine (among_any _ sb a cap code (n + q1) (HD.out.src.ext hx) (by omega) (some ⟨W1.heap.size, 0, none⟩) 6 _ HT (by simp) (by simp) (fun p e => by cases e; have := HD.out.src.lt; show W1.heap.size ≠ sb; omega)).mono ?_
    rintro e W2 ⟨s1, q2, rfl, hs1, hq2, S2, M2⟩
    have hs1 : -1 ≤ s1 ∧ s1 ≤ 200000 := by simp only [List.mem_cons, List.not_mem_nil, or_false] at hs1; omega
    replace HB := Lib.hid (M2.blk (g := rb) hrs (HB.out.ext hx))
    replace HI := Lib.hid ((HI.out.ext hx).moved M2 hxs)
    replace HD := Lib.hid ((HD.out.ext hx).step S2 M2)
    clear S2 M2 HT hx
    have HB0 := HB.out
    obtain ⟨gl, g0, g1, g2, g3, g4⟩ := HI.out.all
    have gk := HI.out.blk.frozen 1
    replace HI := Lib.hid (HI.out.at1 ⟨x.kind, s1, x.quality, x.depth, x.hour⟩ 1 (by decide) (.int .i64 s1) rfl (fun j hj hne => by rcases five hj with rfl | rfl | rfl | rfl | rfl <;> first | rfl | exact absurd rfl hne))
    replace HB := Lib.hid (HB.out.set xb 1 (.int .i64 s1))
    replace HD := Lib.hid (HD.out.set (o := 1) hxw (.int .i64 s1))
    obtain ⟨Wb, hWb⟩ : ∃ Wb, Wb = W2.setCell ⟨xb, 1, none⟩ (.int .i64 s1) := ⟨_, rfl⟩
    rw [← hWb] at HI HB HD
    have HX : Hid (TstN ⟨x.kind, s1, x.quality, x.depth, x.hour⟩) := ⟨hxn.out.kd, hs1, hxn.out.qu, hxn.out.de, hxn.out.ho⟩
    have rl0 := HB0.lt
    obtain ⟨u0, o0⟩ := HB0.cell (o := 0) (by decide)
    obtain ⟨u1, o1⟩ := HB0.cell (o := 1) (by decide)
    obtain ⟨u2, o2⟩ := HB0.cell (o := 2) (by decide)
    obtain ⟨u3, o3⟩ := HB0.cell (o := 3) (by decide)
    obtain ⟨u4, o4⟩ := HB0.cell (o := 4) (by decide)
    have n0 := HB0.frozen 0
    have n1 := HB0.frozen 1
    have n2 := HB0.frozen 2
    have n3 := HB0.frozen 3
    have n4 := HB0.frozen 4
    clear HB0
    have HQ := Lib.hid (Dr.set (o := 4) (Dr.set (o := 3) (Dr.set (o := 2) (Dr.set (o := 1) (Dr.set (o := 0) HD.out hrw (.int .i64 ((⟨x.kind, s1, x.quality, x.depth, x.hour⟩ : Test)).kind)) hrw (.int .i64 ((⟨x.kind, s1, x.quality, x.depth, x.hour⟩ : Test)).score)) hrw (.int .i64 ((⟨x.kind, s1, x.quality, x.depth, x.hour⟩ : Test)).quality)) hrw (.int .i64 ((⟨x.kind, s1, x.quality, x.depth, x.hour⟩ : Test)).depth)) hrw (.int .i64 ((⟨x.kind, s1, x.quality, x.depth, x.hour⟩ : Test)).hour))
    first | rw [hWb] at HQ | skip
    first | clear hWb | skip
    clear HD HI HB
    go_wp2_with fail
    refine bodyPost_ret (v := .agg #[.int .i64 ((⟨x.kind, s1, x.quality, x.depth, x.hour⟩ : Test)).kind, .int .i64 ((⟨x.kind, s1, x.quality, x.depth, x.hour⟩ : Test)).score, .int .i64 ((⟨x.kind, s1, x.quality, x.depth, x.hour⟩ : Test)).quality, .int .i64 ((⟨x.kind, s1, x.quality, x.depth, x.hour⟩ : Test)).depth, .int .i64 ((⟨x.kind, s1, x.quality, x.depth, x.hour⟩ : Test)).hour]) (by simp [results, Try.results53, go_sem, o0, o1, o2, o3, o4]) rfl ?_
    refine ⟨(⟨x.kind, s1, x.quality, x.depth, x.hour⟩ : Test), q1 + q2, rfl, HX.out, by omega, ?_, HQ.out.mv⟩
    rw [show n + (q1 + q2) = n + q1 + q2 by omega]
    exact HQ.out.src
  · subst hr
    go_wp2_with fail
    have HT := rows_lit (cell := cellJ) (T := 2) W1 #[.int .i64 0, .int .i64 4] [0, 4] (fun k hk => by rcases (show k = 0 ∨ k = 1 by simp at hk; omega) with rfl | rfl <;> rfl) rfl
    have hx := (Ext.refl W1).alloc (.cells #[.int .i64 0, .int .i64 4] 2)
    refine (among_any _ sb a cap code (n + q1) (HD.out.src.ext hx) (by omega) (some ⟨W1.heap.size, 0, none⟩) 2 _ HT (by simp) (by simp) (fun p e => by cases e; have := HD.out.src.lt; show W1.heap.size ≠ sb; omega)).mono ?_
    rintro e W2 ⟨s1, q2, rfl, hs1, hq2, S2, M2⟩
    have hs1 : -1 ≤ s1 ∧ s1 ≤ 200000 := by simp only [List.mem_cons, List.not_mem_nil, or_false] at hs1; omega
    replace HB := Lib.hid (M2.blk (g := rb) hrs (HB.out.ext hx))
    replace HI := Lib.hid ((HI.out.ext hx).moved M2 hxs)
    replace HD := Lib.hid ((HD.out.ext hx).step S2 M2)
    clear S2 M2 HT hx
    have HB0 := HB.out
    obtain ⟨gl, g0, g1, g2, g3, g4⟩ := HI.out.all
    have gk := HI.out.blk.frozen 2
    replace HI := Lib.hid (HI.out.at1 ⟨x.kind, x.score, s1, x.depth, x.hour⟩ 2 (by decide) (.int .i64 s1) rfl (fun j hj hne => by rcases five hj with rfl | rfl | rfl | rfl | rfl <;> first | rfl | exact absurd rfl hne))
    replace HB := Lib.hid (HB.out.set xb 2 (.int .i64 s1))
    replace HD := Lib.hid (HD.out.set (o := 2) hxw (.int .i64 s1))
    obtain ⟨Wb, hWb⟩ : ∃ Wb, Wb = W2.setCell ⟨xb, 2, none⟩ (.int .i64 s1) := ⟨_, rfl⟩
    rw [← hWb] at HI HB HD
    have HX : Hid (TstN ⟨x.kind, x.score, s1, x.depth, x.hour⟩) := ⟨hxn.out.kd, hxn.out.sc, hs1, hxn.out.de, hxn.out.ho⟩
    have rl0 := HB0.lt
    obtain ⟨u0, o0⟩ := HB0.cell (o := 0) (by decide)
    obtain ⟨u1, o1⟩ := HB0.cell (o := 1) (by decide)
    obtain ⟨u2, o2⟩ := HB0.cell (o := 2) (by decide)
    obtain ⟨u3, o3⟩ := HB0.cell (o := 3) (by decide)
    obtain ⟨u4, o4⟩ := HB0.cell (o := 4) (by decide)
    have n0 := HB0.frozen 0
    have n1 := HB0.frozen 1
    have n2 := HB0.frozen 2
    have n3 := HB0.frozen 3
    have n4 := HB0.frozen 4
    clear HB0
    have HQ := Lib.hid (Dr.set (o := 4) (Dr.set (o := 3) (Dr.set (o := 2) (Dr.set (o := 1) (Dr.set (o := 0) HD.out hrw (.int .i64 ((⟨x.kind, x.score, s1, x.depth, x.hour⟩ : Test)).kind)) hrw (.int .i64 ((⟨x.kind, x.score, s1, x.depth, x.hour⟩ : Test)).score)) hrw (.int .i64 ((⟨x.kind, x.score, s1, x.depth, x.hour⟩ : Test)).quality)) hrw (.int .i64 ((⟨x.kind, x.score, s1, x.depth, x.hour⟩ : Test)).depth)) hrw (.int .i64 ((⟨x.kind, x.score, s1, x.depth, x.hour⟩ : Test)).hour))
    first | rw [hWb] at HQ | skip
    first | clear hWb | skip
    clear HD HI HB
    go_wp2_with fail
    refine bodyPost_ret (v := .agg #[.int .i64 ((⟨x.kind, x.score, s1, x.depth, x.hour⟩ : Test)).kind, .int .i64 ((⟨x.kind, x.score, s1, x.depth, x.hour⟩ : Test)).score, .int .i64 ((⟨x.kind, x.score, s1, x.depth, x.hour⟩ : Test)).quality, .int .i64 ((⟨x.kind, x.score, s1, x.depth, x.hour⟩ : Test)).depth, .int .i64 ((⟨x.kind, x.score, s1, x.depth, x.hour⟩ : Test)).hour]) (by simp [results, Try.results53, go_sem, o0, o1, o2, o3, o4]) rfl ?_
    refine ⟨(⟨x.kind, x.score, s1, x.depth, x.hour⟩ : Test), q1 + q2, rfl, HX.out, by omega, ?_, HQ.out.mv⟩
    rw [show n + (q1 + q2) = n + q1 + q2 by omega]
    exact HQ.out.src
  · subst hr
    go_wp2_with fail
    have HT := rows_lit (cell := cellJ) (T := 2) W1 #[.int .i64 0, .int .i64 1, .int .i64 300, .int .i64 301] [0, 1, 300, 301] (fun k hk => by rcases (show k = 0 ∨ k = 1 ∨ k = 2 ∨ k = 3 by simp at hk; omega) with rfl | rfl | rfl | rfl <;> rfl) rfl
    have hx := (Ext.refl W1).alloc (.cells #[.int .i64 0, .int .i64 1, .int .i64 300, .int .i64 301] 2)
    refine (among_any _ sb a cap code (n + q1) (HD.out.src.ext hx) (by omega) (some ⟨W1.heap.size, 0, none⟩) 4 _ HT (by simp) (by simp) (fun p e => by cases e; have := HD.out.src.lt; show W1.heap.size ≠ sb; omega)).mono ?_
    rintro e W2 ⟨s1, q2, rfl, hs1, hq2, S2, M2⟩
    have hs1 : -1 ≤ s1 ∧ s1 ≤ 200000 := by simp only [List.mem_cons, List.not_mem_nil, or_false] at hs1; omega
    replace HB := Lib.hid (M2.blk (g := rb) hrs (HB.out.ext hx))
    replace HI := Lib.hid ((HI.out.ext hx).moved M2 hxs)
    replace HD := Lib.hid ((HD.out.ext hx).step S2 M2)
    clear S2 M2 HT hx
    have HB0 := HB.out
    obtain ⟨gl, g0, g1, g2, g3, g4⟩ := HI.out.all
    have gk := HI.out.blk.frozen 3
    replace HI := Lib.hid (HI.out.at1 ⟨x.kind, x.score, x.quality, s1, x.hour⟩ 3 (by decide) (.int .i64 s1) rfl (fun j hj hne => by rcases five hj with rfl | rfl | rfl | rfl | rfl <;> first | rfl | exact absurd rfl hne))
    replace HB := Lib.hid (HB.out.set xb 3 (.int .i64 s1))
    replace HD := Lib.hid (HD.out.set (o := 3) hxw (.int .i64 s1))
    obtain ⟨Wb, hWb⟩ : ∃ Wb, Wb = W2.setCell ⟨xb, 3, none⟩ (.int .i64 s1) := ⟨_, rfl⟩
    rw [← hWb] at HI HB HD
    have HX : Hid (TstN ⟨x.kind, x.score, x.quality, s1, x.hour⟩) := ⟨hxn.out.kd, hxn.out.sc, hxn.out.qu, hs1, hxn.out.ho⟩
    have rl0 := HB0.lt
    obtain ⟨u0, o0⟩ := HB0.cell (o := 0) (by decide)
    obtain ⟨u1, o1⟩ := HB0.cell (o := 1) (by decide)
    obtain ⟨u2, o2⟩ := HB0.cell (o := 2) (by decide)
    obtain ⟨u3, o3⟩ := HB0.cell (o := 3) (by decide)
    obtain ⟨u4, o4⟩ := HB0.cell (o := 4) (by decide)
    have n0 := HB0.frozen 0
    have n1 := HB0.frozen 1
    have n2 := HB0.frozen 2
    have n3 := HB0.frozen 3
    have n4 := HB0.frozen 4
    clear HB0
    have HQ := Lib.hid (Dr.set (o := 4) (Dr.set (o := 3) (Dr.set (o := 2) (Dr.set (o := 1) (Dr.set (o := 0) HD.out hrw (.int .i64 ((⟨x.kind, x.score, x.quality, s1, x.hour⟩ : Test)).kind)) hrw (.int .i64 ((⟨x.kind, x.score, x.quality, s1, x.hour⟩ : Test)).score)) hrw (.int .i64 ((⟨x.kind, x.score, x.quality, s1, x.hour⟩ : Test)).quality)) hrw (.int .i64 ((⟨x.kind, x.score, x.quality, s1, x.hour⟩ : Test)).depth)) hrw (.int .i64 ((⟨x.kind, x.score, x.quality, s1, x.hour⟩ : Test)).hour))
    first | rw [hWb] at HQ | skip
    first | clear hWb | skip
    clear HD HI HB
    go_wp2_with fail
    refine bodyPost_ret (v := .agg #[.int .i64 ((⟨x.kind, x.score, x.quality, s1, x.hour⟩ : Test)).kind, .int .i64 ((⟨x.kind, x.score, x.quality, s1, x.hour⟩ : Test)).score, .int .i64 ((⟨x.kind, x.score, x.quality, s1, x.hour⟩ : Test)).quality, .int .i64 ((⟨x.kind, x.score, x.quality, s1, x.hour⟩ : Test)).depth, .int .i64 ((⟨x.kind, x.score, x.quality, s1, x.hour⟩ : Test)).hour]) (by simp [results, Try.results53, go_sem, o0, o1, o2, o3, o4]) rfl ?_
    refine ⟨(⟨x.kind, x.score, x.quality, s1, x.hour⟩ : Test), q1 + q2, rfl, HX.out, by omega, ?_, HQ.out.mv⟩
    rw [show n + (q1 + q2) = n + q1 + q2 by omega]
    exact HQ.out.src
  · subst hr
    go_wp2_with fail
    have HT := rows_lit (cell := cellJ) (T := 2) W1 #[.int .i64 (-1), .int .i64 0, .int .i64 100000, .int .i64 100001] [(-1), 0, 100000, 100001] (fun k hk => by rcases (show k = 0 ∨ k = 1 ∨ k = 2 ∨ k = 3 by simp at hk; omega) with rfl | rfl | rfl | rfl <;> rfl) rfl
    have hx := (Ext.refl W1).alloc (.cells #[.int .i64 (-1), .int .i64 0, .int .i64 100000, .int .i64 100001] 2)
    refine (among_any _ sb a cap code (n + q1) (HD.out.src.ext hx) (by omega) (some ⟨W1.heap.size, 0, none⟩) 4 _ HT (by simp) (by simp) (fun p e => by cases e; have := HD.out.src.lt; show W1.heap.size ≠ sb; omega)).mono ?_
    rintro e W2 ⟨s1, q2, rfl, hs1, hq2, S2, M2⟩
    have hs1 : -1 ≤ s1 ∧ s1 ≤ 200000 := by simp only [List.mem_cons, List.not_mem_nil, or_false] at hs1; omega
    replace HB := Lib.hid (M2.blk (g := rb) hrs (HB.out.ext hx))
    replace HI := Lib.hid ((HI.out.ext hx).moved M2 hxs)
    replace HD := Lib.hid ((HD.out.ext hx).step S2 M2)
    clear S2 M2 HT hx
    have HB0 := HB.out
    obtain ⟨gl, g0, g1, g2, g3, g4⟩ := HI.out.all
    have gk := HI.out.blk.frozen 4
    replace HI := Lib.hid (HI.out.at1 ⟨x.kind, x.score, x.quality, x.depth, s1⟩ 4 (by decide) (.int .i64 s1) rfl (fun j hj hne => by rcases five hj with rfl | rfl | rfl | rfl | rfl <;> first | rfl | exact absurd rfl hne))
    replace HB := Lib.hid (HB.out.set xb 4 (.int .i64 s1))
    replace HD := Lib.hid (HD.out.set (o := 4) hxw (.int .i64 s1))
    obtain ⟨Wb, hWb⟩ : ∃ Wb, Wb = W2.setCell ⟨xb, 4, none⟩ (.int .i64 s1) := ⟨_, rfl⟩
    rw [← hWb] at HI HB HD
    have HX : Hid (TstN ⟨x.kind, x.score, x.quality, x.depth, s1⟩) := ⟨hxn.out.kd, hxn.out.sc, hxn.out.qu, hxn.out.de, hs1⟩
    have rl0 := HB0.lt
    obtain ⟨u0, o0⟩ := HB0.cell (o := 0) (by decide)
    obtain ⟨u1, o1⟩ := HB0.cell (o := 1) (by decide)
    obtain ⟨u2, o2⟩ := HB0.cell (o := 2) (by decide)
    obtain ⟨u3, o3⟩ := HB0.cell (o := 3) (by decide)
    obtain ⟨u4, o4⟩ := HB0.cell (o := 4) (by decide)
    have n0 := HB0.frozen 0
    have n1 := HB0.frozen 1
    have n2 := HB0.frozen 2
    have n3 := HB0.frozen 3
    have n4 := HB0.frozen 4
    clear HB0
    have HQ := Lib.hid (Dr.set (o := 4) (Dr.set (o := 3) (Dr.set (o := 2) (Dr.set (o := 1) (Dr.set (o := 0) HD.out hrw (.int .i64 ((⟨x.kind, x.score, x.quality, x.depth, s1⟩ : Test)).kind)) hrw (.int .i64 ((⟨x.kind, x.score, x.quality, x.depth, s1⟩ : Test)).score)) hrw (.int .i64 ((⟨x.kind, x.score, x.quality, x.depth, s1⟩ : Test)).quality)) hrw (.int .i64 ((⟨x.kind, x.score, x.quality, x.depth, s1⟩ : Test)).depth)) hrw (.int .i64 ((⟨x.kind, x.score, x.quality, x.depth, s1⟩ : Test)).hour))
    first | rw [hWb] at HQ | skip
    first | clear hWb | skip
    clear HD HI HB
    go_wp2_with fail
    refine bodyPost_ret (v := .agg #[.int .i64 ((⟨x.kind, x.score, x.quality, x.depth, s1⟩ : Test)).kind, .int .i64 ((⟨x.kind, x.score, x.quality, x.depth, s1⟩ : Test)).score, .int .i64 ((⟨x.kind, x.score, x.quality, x.depth, s1⟩ : Test)).quality, .int .i64 ((⟨x.kind, x.score, x.quality, x.depth, s1⟩ : Test)).depth, .int .i64 ((⟨x.kind, x.score, x.quality, x.depth, s1⟩ : Test)).hour]) (by simp [results, Try.results53, go_sem, o0, o1, o2, o3, o4]) rfl ?_
    refine ⟨(⟨x.kind, x.score, x.quality, x.depth, s1⟩ : Test), q1 + q2, rfl, HX.out, by omega, ?_, HQ.out.mv⟩
    rw [show n + (q1 + q2) = n + q1 + q2 by omega]
    exact HQ.out.src
  · have HB0 := HB.out
    obtain ⟨gl, g0, g1, g2, g3, g4⟩ := HI.out.all
    have HX := hxn
    have rl0 := HB0.lt
    obtain ⟨u0, o0⟩ := HB0.cell (o := 0) (by decide)
    obtain ⟨u1, o1⟩ := HB0.cell (o := 1) (by decide)
    obtain ⟨u2, o2⟩ := HB0.cell (o := 2) (by decide)
    obtain ⟨u3, o3⟩ := HB0.cell (o := 3) (by decide)
    obtain ⟨u4, o4⟩ := HB0.cell (o := 4) (by decide)
    have n0 := HB0.frozen 0
    have n1 := HB0.frozen 1
    have n2 := HB0.frozen 2
    have n3 := HB0.frozen 3
    have n4 := HB0.frozen 4
    clear HB0
    have HQ := Lib.hid (Dr.set (o := 4) (Dr.set (o := 3) (Dr.set (o := 2) (Dr.set (o := 1) (Dr.set (o := 0) HD.out hrw (.int .i64 (x).kind)) hrw (.int .i64 (x).score)) hrw (.int .i64 (x).quality)) hrw (.int .i64 (x).depth)) hrw (.int .i64 (x).hour))
    first | rw [hWb] at HQ | skip
    first | clear hWb | skip
    clear HD HI HB
    go_wp2_with fail
    refine bodyPost_ret (v := .agg #[.int .i64 (x).kind, .int .i64 (x).score, .int .i64 (x).quality, .int .i64 (x).depth, .int .i64 (x).hour]) (by simp [results, Try.results53, go_sem, o0, o1, o2, o3, o4]) rfl ?_
    refine ⟨x, q1, rfl, HX.out, by omega, ?_, HQ.out.mv⟩
    rw [show n + (q1) = n + q1 by omega]
    exact HQ.out.src
end Go.Proofs.Ytdopffhekinbnaa
