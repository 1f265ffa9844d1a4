/- A shot that the reference draws, and bends. -/
import Derived.Test.YtpmbaemfpkcjnaaDr
import Derived.Test.YtpmbaemfpkcjnaaShot
import Derived.Deep.RegionLaw
import Derived.Deep.CutRange
namespace Go.Proofs.Ytpmbaemfpkcjnaa
open Go.RowKit
/-- A shot near to a valid one. -/
structure ShotN (m : Int) (x : Shot) : Prop where
  ids : x.id.size ≤ 100
  fr : -m ≤ x.frm ∧ x.frm ≤ m
  ti : -m ≤ x.til ∧ x.til ≤ m
  mi : -m ≤ x.mins ∧ x.mins ≤ m
  ga : -m ≤ x.gain ∧ x.gain ≤ m
theorem ShotN.more {m n : Int} {x : Shot} (h : ShotN m x) (hm : m ≤ n) : ShotN n x := by
  obtain ⟨h1, h2, h3, h4, h5⟩ := h
  exact ⟨h1, by omega, by omega, by omega, by omega⟩
theorem ShotN.small {m : Int} {x : Shot} (h : ShotN m x) : x.Small := by have := h.ids; unfold Shot.Small; omega
/-- A shot in a block of its own. -/
structure Shbox (w : World) (b : Nat) (x : Shot) : Prop where
  blk : Blk w b 40 5
  cell : ∀ j, j < 5 → w.cell? ⟨b, j, none⟩ = some (x.cell j)
theorem Shbox.new (w : World) (x : Shot) : Shbox (w.alloc (.cells #[.string x.id, .int .i64 x.frm, .int .i64 x.til, .int .i64 x.mins, .int .i64 x.gain] 40)) w.heap.size x :=
  ⟨Blk.new w _ _, fun j hj => by rw [cell_new]; rcases five hj with rfl | rfl | rfl | rfl | rfl <;> rfl⟩
theorem Shbox.ext {w w' : World} {b : Nat} {x : Shot} (h : Shbox w b x) (he : Ext w w') : Shbox w' b x := ⟨h.blk.ext he, fun j hj => he.cell (h.cell j hj)⟩
theorem Shbox.moved {sb : Nat} {w w' : World} {b : Nat} {x : Shot} (h : Shbox w b x) (hm : Moved sb w w') (hne : b ≠ sb) : Shbox w' b x :=
  ⟨hm.blk hne h.blk, fun j hj => hm.cell (by show b ≠ sb; exact hne) (h.cell j hj)⟩
theorem Shbox.at1 {w : World} {b : Nat} {x : Shot} (h : Shbox w b x) (y : Shot) (j0 : Nat) (hj0 : j0 < 5) (v : Value) (hv : y.cell j0 = v) (hne : ∀ j, j < 5 → j ≠ j0 → y.cell j = x.cell j) : Shbox (w.setCell ⟨b, j0, none⟩ v) b y :=
  ⟨h.blk.set _ _ _, fun j hj => by
    by_cases h3 : j = j0
    · subst h3; rw [h.blk.same hj0, hv]
    · rw [cell_other _ (by omega), h.cell j hj, hne j hj h3]⟩
theorem Shbox.all {w : World} {b : Nat} {x : Shot} (h : Shbox w b x) : b < w.heap.size ∧ w.cell? ⟨b, 0, none⟩ = some (.string x.id) ∧ w.cell? ⟨b, 1, none⟩ = some (.int .i64 x.frm) ∧ w.cell? ⟨b, 2, none⟩ = some (.int .i64 x.til) ∧ w.cell? ⟨b, 3, none⟩ = some (.int .i64 x.mins) ∧ w.cell? ⟨b, 4, none⟩ = some (.int .i64 x.gain) :=
  ⟨h.blk.lt, h.cell 0 (by decide), h.cell 1 (by decide), h.cell 2 (by decide), h.cell 3 (by decide), h.cell 4 (by decide)⟩

set_option maxRecDepth 100000 in
set_option maxHeartbeats 8000000 in
theorem l22DrawOne_any (w : World) (sb : Nat) (a : Option Addr) (cap : Nat) (code : List Int) (n : Nat) (H : Src w sb a cap code n) (hn : n ≤ 800000000) (id : ByteArray) (hid : id.size ≤ 100) :
    Calls Try.prog 47 #[.pointer (some ⟨sb, 0, none⟩), .string id] w fun e w' => ∃ (x : Shot) (k : Nat), e = .returned (.agg #[.string x.id, .int .i64 x.frm, .int .i64 x.til, .int .i64 x.mins, .int .i64 x.gain]) ∧ ShotN 1000 x ∧ k ≤ 12 ∧ Src w' sb a cap code (n + k) ∧ Moved sb w w' := by
  have HD := Lib.hid (Dr.start H)
  have hsl := H.lt
  clear H
  have HB := Lib.hid (Blk.new w #[.string ⟨#[]⟩, .int .i64 0, .int .i64 0, .int .i64 0, .int .i64 0] 40)
  go_enter Try.func47, Try.ntmps47
  go_wp2_with fail
  replace HD := Lib.hid (HD.out.ext ((Ext.refl w).alloc (.cells #[.string ⟨#[]⟩, .int .i64 0, .int .i64 0, .int .i64 0, .int .i64 0] 40)))
  refine (pick_any _ sb a cap code n HD.out.src (by omega) 12 (by omega)).mono ?_
  rintro e W1 ⟨r1, q1, rfl, p0, p1, hq1, S1, M1⟩
  replace p1 := p1 (by omega)
  replace HB := Lib.hid (M1.blk (g := w.heap.size) (by omega) HB.out)
  replace HD := Lib.hid (HD.out.step S1 M1)
  clear S1 M1
  obtain ⟨rb, hrb, hrw⟩ : ∃ rb, rb = w.heap.size ∧ w.heap.size ≤ rb := ⟨_, rfl, Nat.le_refl _⟩
  rw [← hrb] at HB ⊢
  clear hrb
  have hrs : rb ≠ sb := by omega
  go_wp2_with fail
  refine (pick_any W1 sb a cap code (n + q1) HD.out.src (by omega) 8 (by omega)).mono ?_
  rintro e W3 ⟨r2, q2, rfl, v2l, v2u, v2q, S2, M2⟩
  replace v2u := v2u (by omega)
  replace HB := Lib.hid (M2.blk (g := rb) hrs HB.out)
  replace HD := Lib.hid (HD.out.step S2 M2)
  clear S2 M2
  have hxr : W3.heap.size ≠ rb := by have := HB.out.lt; omega
  have hz := HD.out.size
  have HI := Lib.hid (Shbox.new W3 ⟨id, 300 + 10 * r1, 0, 5 + 5 * r2, 0⟩)
  have hx := (Ext.refl W3).alloc (.cells #[.string id, .int .i64 (300 + 10 * r1), .int .i64 0, .int .i64 (5 + 5 * r2), .int .i64 0] 40)
  replace HB := Lib.hid (HB.out.ext hx)
  replace HD := Lib.hid (HD.out.ext hx)
  obtain ⟨xb, hxb⟩ : ∃ xb, xb = W3.heap.size := ⟨_, rfl⟩
  have hxw : w.heap.size ≤ xb := by omega
  have hxs : xb ≠ sb := by omega
  rw [← hxb] at HI hxr
  have hrx : rb ≠ xb := Ne.symm hxr
  obtain ⟨W4, hW4⟩ : ∃ W4, W4 = W3.alloc (.cells #[.string id, .int .i64 (300 + 10 * r1), .int .i64 0, .int .i64 (5 + 5 * r2), .int .i64 0] 40) := ⟨_, rfl⟩
  rw [← hW4] at HI HB HD
  replace hW4 := Lib.hid hW4
  replace hxb := Lib.hid hxb
  clear hx
  go_wp2_with fail
  rw [← hW4.out, ← hxb.out]
  clear hW4 hxb
  obtain ⟨gl, g0, g1, g2, g3, g4⟩ := HI.out.all
  have k2 := HI.out.blk.frozen 2
  obtain ⟨y0, hy0⟩ : ∃ y0, y0 = 300 + 10 * r1 + (5 + 5 * r2) := ⟨_, rfl⟩
  have z0 : IntKind.i64.wrap (300 + 10 * r1 + (5 + 5 * r2)) = y0 := by rw [IntKind.wrap_i64, hy0]; omega
  go_region_law (refine step_callD rfl 48 #[.pointer (some ⟨sb, 0, none⟩), .int .i64 20] (by first | rfl | (go_simp; done) | (go_simp; rfl)) ?_; refine (pick_any _ sb a cap code (n + q1 + q2) (HD.out.src.ext ((Ext.refl _).drew)) (by omega) 20 (by omega)).mono ?_; rintro e W5 ⟨r3, q3, rfl, p4, p5, hq3, S3, M3⟩; refine ⟨_, rfl, ?_⟩; have p5 := p5 (by omega); have S3 := Lib.hid S3; have M3 := Lib.hid ((Moved.grow ((Ext.refl W4).drew)).trans M3); have y1 := M3.out.cell (p := ⟨xb, 1, none⟩) (by show xb ≠ sb; omega) g1; have y3 := M3.out.cell (p := ⟨xb, 3, none⟩) (by show xb ≠ sb; omega) g3; have hb3 := M3.out.blk (g := xb) (by omega) HI.out.blk; have yk := hb3.frozen 2; obtain ⟨yu, yo⟩ := hb3.cell (o := 2) (by decide); have yl := hb3.lt)
  all_goals
    obtain ⟨ti, hti⟩ : ∃ ti, ti = 300 + 10 * r1 + (5 + 5 * r2) + 5 * r3 := ⟨_, rfl⟩
    have z1 : IntKind.i64.wrap (5 * r3) = 5 * r3 := by rw [IntKind.wrap_i64]; omega
    have z2 : IntKind.i64.wrap (300 + 10 * r1 + (5 + 5 * r2) + 5 * r3) = ti := by rw [IntKind.wrap_i64]; omega
    rw [z1, z2]
    have hti2 : 0 ≤ ti ∧ ti ≤ 1000 := by omega
    replace HI := Lib.hid ((HI.out.moved M3.out hxs).at1 ⟨id, 300 + 10 * r1, ti, 5 + 5 * r2, 0⟩ 2 (by decide) (.int .i64 ti) rfl (fun j hj hne => by rcases five hj with rfl | rfl | rfl | rfl | rfl <;> first | rfl | exact absurd rfl hne))
    replace HB := Lib.hid ((M3.out.blk (g := rb) hrs HB.out).set xb 2 (.int .i64 ti))
    replace HD := Lib.hid ((HD.out.step S3.out M3.out).set (o := 2) hxw (.int .i64 ti))
    obtain ⟨W6, hW6⟩ : ∃ W6, W6 = W5.setCell ⟨xb, 2, none⟩ (.int .i64 ti) := ⟨_, rfl⟩
    rw [← hW6] at HI HB HD ⊢
    clear hW6 z1 z2 hti S3 M3 g0 g1 g2 g3 g4 k2 y1 y3 hb3 yk yu yo yl gl z0 hy0
    go_wp2_with fail
    refine (pick_any W6 sb a cap code (n + q1 + q2 + q3) HD.out.src (by omega) 30 (by omega)).mono ?_
    rintro e W7 ⟨r4, q4, rfl, p6, p7, hq4, S4, M4⟩
    replace p7 := p7 (by omega)
    replace HB := Lib.hid (M4.blk (g := rb) hrs HB.out)
    replace HI := Lib.hid (HI.out.moved M4 hxs)
    replace HD := Lib.hid (HD.out.step S4 M4)
    clear S4 M4
    have HB0 := HB.out
    obtain ⟨gl, g0, g1, g2, g3, g4⟩ := HI.out.all
    have gk := HI.out.blk.frozen 4
    replace HI := Lib.hid (HI.out.at1 ⟨id, 300 + 10 * r1, ti, 5 + 5 * r2, 10 * r4⟩ 4 (by decide) (.int .i64 (10 * r4)) rfl (fun j hj hne => by rcases five hj with rfl | rfl | rfl | rfl | rfl <;> first | rfl | exact absurd rfl hne))
    replace HB := Lib.hid (HB.out.set xb 4 (.int .i64 (10 * r4)))
    replace HD := Lib.hid (HD.out.set (o := 4) hxw (.int .i64 (10 * r4)))
    obtain ⟨W9, hW9⟩ : ∃ W9, W9 = W7.setCell ⟨xb, 4, none⟩ (.int .i64 (10 * r4)) := ⟨_, rfl⟩
    rw [← hW9] at HI HB HD
    have HX : Hid (ShotN 1000 ⟨id, 300 + 10 * r1, ti, 5 + 5 * r2, 10 * r4⟩) := ⟨hid, by dsimp only; omega, by dsimp only; omega, by dsimp only; omega, by dsimp only; omega⟩
    have rl0 := HB0.lt
    obtain ⟨u0, o0⟩ := HB0.cell (o := 0) (by decide)
    obtain ⟨u1, o1⟩ := HB0.cell (o := 1) (by decide)
    obtain ⟨u2, o2⟩ := HB0.cell (o := 2) (by decide)
    obtain ⟨u3, o3⟩ := HB0.cell (o := 3) (by decide)
    obtain ⟨u4, o4⟩ := HB0.cell (o := 4) (by decide)
    have n0 := HB0.frozen 0
    have n1 := HB0.frozen 1
    have n2 := HB0.frozen 2
    have n3 := HB0.frozen 3
    have n4 := HB0.frozen 4
    clear HB0
    have HQ := Lib.hid (Dr.set (o := 4) (Dr.set (o := 3) (Dr.set (o := 2) (Dr.set (o := 1) (Dr.set (o := 0) HD.out hrw (.string ((⟨id, 300 + 10 * r1, ti, 5 + 5 * r2, 10 * r4⟩ : Shot)).id)) hrw (.int .i64 ((⟨id, 300 + 10 * r1, ti, 5 + 5 * r2, 10 * r4⟩ : Shot)).frm)) hrw (.int .i64 ((⟨id, 300 + 10 * r1, ti, 5 + 5 * r2, 10 * r4⟩ : Shot)).til)) hrw (.int .i64 ((⟨id, 300 + 10 * r1, ti, 5 + 5 * r2, 10 * r4⟩ : Shot)).mins)) hrw (.int .i64 ((⟨id, 300 + 10 * r1, ti, 5 + 5 * r2, 10 * r4⟩ : Shot)).gain))
    first | rw [hW9] at HQ | skip
    first | clear hW9 | skip
    clear HD HI HB
    go_wp2_with fail
    refine bodyPost_ret (v := .agg #[.string ((⟨id, 300 + 10 * r1, ti, 5 + 5 * r2, 10 * r4⟩ : Shot)).id, .int .i64 ((⟨id, 300 + 10 * r1, ti, 5 + 5 * r2, 10 * r4⟩ : Shot)).frm, .int .i64 ((⟨id, 300 + 10 * r1, ti, 5 + 5 * r2, 10 * r4⟩ : Shot)).til, .int .i64 ((⟨id, 300 + 10 * r1, ti, 5 + 5 * r2, 10 * r4⟩ : Shot)).mins, .int .i64 ((⟨id, 300 + 10 * r1, ti, 5 + 5 * r2, 10 * r4⟩ : Shot)).gain]) (by simp [results, Try.results47, go_sem, o0, o1, o2, o3, o4]) rfl ?_
    refine ⟨(⟨id, 300 + 10 * r1, ti, 5 + 5 * r2, 10 * r4⟩ : Shot), q1 + q2 + q3 + q4, rfl, HX.out, by omega, ?_, HQ.out.mv⟩
    rw [show n + (q1 + q2 + q3 + q4) = n + q1 + q2 + q3 + q4 by omega]
    exact HQ.out.src
set_option maxRecDepth 100000 in
set_option maxHeartbeats 8000000 in
theorem l22Bend_any (w : World) (sb : Nat) (a : Option Addr) (cap : Nat) (code : List Int) (n : Nat) (H : Src w sb a cap code n) (hn : n ≤ 800000000) (x : Shot) (hxi : ShotN 1000 x) :
    Calls Try.prog 49 #[.pointer (some ⟨sb, 0, none⟩), .agg #[.string x.id, .int .i64 x.frm, .int .i64 x.til, .int .i64 x.mins, .int .i64 x.gain]] w fun e w' => ∃ (x : Shot) (k : Nat), e = .returned (.agg #[.string x.id, .int .i64 x.frm, .int .i64 x.til, .int .i64 x.mins, .int .i64 x.gain]) ∧ ShotN 4000 x ∧ k ≤ 12 ∧ Src w' sb a cap code (n + k) ∧ Moved sb w w' := by
  have HD := Lib.hid (Dr.start H)
  have hsl := H.lt
  have hx4 := hxi.more (n := 4000) (by decide)
  have hxn := Lib.hid hx4
  obtain ⟨-, b1, b2, b3, b4⟩ := hxi
  clear H
  have hx1 := (Ext.refl w).alloc (.cells #[.string x.id, .int .i64 x.frm, .int .i64 x.til, .int .i64 x.mins, .int .i64 x.gain] 40)
  have HB := Blk.new (w.alloc (.cells #[.string x.id, .int .i64 x.frm, .int .i64 x.til, .int .i64 x.mins, .int .i64 x.gain] 40)) #[.string ⟨#[]⟩, .int .i64 0, .int .i64 0, .int .i64 0, .int .i64 0] 40
  have hx2 := (Ext.refl (w.alloc (.cells #[.string x.id, .int .i64 x.frm, .int .i64 x.til, .int .i64 x.mins, .int .i64 x.gain] 40))).alloc (.cells #[.string ⟨#[]⟩, .int .i64 0, .int .i64 0, .int .i64 0, .int .i64 0] 40)
  have HI := Lib.hid ((Shbox.new w x).ext hx2)
  rw [size_new] at HB
  replace HB := Lib.hid HB
  replace HD := Lib.hid ((HD.out.ext hx1).ext hx2)
  clear hx1 hx2
  go_enter Try.func49, Try.ntmps49
  go_wp2_with fail
  refine (pick_any _ sb a cap code n HD.out.src (by omega) 18 (by omega)).mono ?_
  rintro e W1 ⟨r1, q1, rfl, p0, p1, hq1, S1, M1⟩
  replace p1 := p1 (by omega)
  replace HB := Lib.hid (M1.blk (g := w.heap.size + 1) (by omega) HB.out)
  replace HI := Lib.hid (HI.out.moved M1 (by omega))
  replace HD := Lib.hid (HD.out.step S1 M1)
  clear S1 M1
  obtain ⟨rb, hrb⟩ : ∃ rb, rb = w.heap.size + 1 := ⟨_, rfl⟩
  rw [← hrb] at HB ⊢
  obtain ⟨xb, hxb⟩ : ∃ xb, xb = w.heap.size := ⟨_, rfl⟩
  rw [← hxb] at HI ⊢
  have hrw : w.heap.size ≤ rb := by omega
  have hxw : w.heap.size ≤ xb := by omega
  have hrs : rb ≠ sb := by omega
  have hxs : xb ≠ sb := by omega
  have hxr : xb ≠ rb := by omega
  have hrx : rb ≠ xb := Ne.symm hxr
  clear hrb hxb
  rcases (show r1 = 0 ∨ r1 = 1 ∨ r1 = 2 ∨ r1 = 3 ∨ 4 ≤ r1 by omega) with hr | hr | hr | hr | hr
  · subst hr
    obtain ⟨gl, g0, g1, g2, g3, g4⟩ := HI.out.all
    go_wp2_with fail
    clear gl g0 g1 g2 g3 g4
    have HT := rows_lit (cell := cellJ) (T := 2) W1 #[.int .i64 (-1), .int .i64 0, .int .i64 (x.til - x.mins), .int .i64 x.til] [(-1), 0, (x.til - x.mins), x.til] (fun k hk => by rcases (show k = 0 ∨ k = 1 ∨ k = 2 ∨ k = 3 by simp at hk; omega) with rfl | rfl | rfl | rfl <;> rfl) rfl
    have hx := (Ext.refl W1).alloc (.cells #[.int .i64 (-1), .int .i64 0, .int .i64 (x.til - x.mins), .int .i64 x.til] 2)
    refine (among_any _ sb a cap code (n + q1) (HD.out.src.ext hx) (by omega) (some ⟨W1.heap.size, 0, none⟩) 4 _ HT (by simp) (by simp) (fun p e => by cases e; have := HD.out.src.lt; show W1.heap.size ≠ sb; omega)).mono ?_
    rintro e W2 ⟨s1, q2, rfl, hs1, hq2, S2, M2⟩
    have hs1 : -4000 ≤ s1 ∧ s1 ≤ 4000 := by simp only [List.mem_cons, List.not_mem_nil, or_false] at hs1; omega
    replace HB := Lib.hid (M2.blk (g := rb) hrs (HB.out.ext hx))
    replace HI := Lib.hid ((HI.out.ext hx).moved M2 hxs)
    replace HD := Lib.hid ((HD.out.ext hx).step S2 M2)
    clear S2 M2 HT hx
    have HB0 := HB.out
    obtain ⟨gl, g0, g1, g2, g3, g4⟩ := HI.out.all
    have gk := HI.out.blk.frozen 1
    replace HI := Lib.hid (HI.out.at1 ⟨x.id, s1, x.til, x.mins, x.gain⟩ 1 (by decide) (.int .i64 s1) rfl (fun j hj hne => by rcases five hj with rfl | rfl | rfl | rfl | rfl <;> first | rfl | exact absurd rfl hne))
    replace HB := Lib.hid (HB.out.set xb 1 (.int .i64 s1))
    replace HD := Lib.hid (HD.out.set (o := 1) hxw (.int .i64 s1))
    obtain ⟨Wb, hWb⟩ : ∃ Wb, Wb = W2.setCell ⟨xb, 1, none⟩ (.int .i64 s1) := ⟨_, rfl⟩
    rw [← hWb] at HI HB HD
    have HX : Hid (ShotN 4000 ⟨x.id, s1, x.til, x.mins, x.gain⟩) := ⟨(hx4.ids), hs1, hx4.ti, hx4.mi, hx4.ga⟩
    have rl0 := HB0.lt
    obtain ⟨u0, o0⟩ := HB0.cell (o := 0) (by decide)
    obtain ⟨u1, o1⟩ := HB0.cell (o := 1) (by decide)
    obtain ⟨u2, o2⟩ := HB0.cell (o := 2) (by decide)
    obtain ⟨u3, o3⟩ := HB0.cell (o := 3) (by decide)
    obtain ⟨u4, o4⟩ := HB0.cell (o := 4) (by decide)
    have n0 := HB0.frozen 0
    have n1 := HB0.frozen 1
    have n2 := HB0.frozen 2
    have n3 := HB0.frozen 3
    have n4 := HB0.frozen 4
    clear HB0
    have HQ := Lib.hid (Dr.set (o := 4) (Dr.set (o := 3) (Dr.set (o := 2) (Dr.set (o := 1) (Dr.set (o := 0) HD.out hrw (.string ((⟨x.id, s1, x.til, x.mins, x.gain⟩ : Shot)).id)) hrw (.int .i64 ((⟨x.id, s1, x.til, x.mins, x.gain⟩ : Shot)).frm)) hrw (.int .i64 ((⟨x.id, s1, x.til, x.mins, x.gain⟩ : Shot)).til)) hrw (.int .i64 ((⟨x.id, s1, x.til, x.mins, x.gain⟩ : Shot)).mins)) hrw (.int .i64 ((⟨x.id, s1, x.til, x.mins, x.gain⟩ : Shot)).gain))
    first | rw [hWb] at HQ | skip
    first | clear hWb | skip
    clear HD HI HB
    go_wp2_with fail
    refine bodyPost_ret (v := .agg #[.string ((⟨x.id, s1, x.til, x.mins, x.gain⟩ : Shot)).id, .int .i64 ((⟨x.id, s1, x.til, x.mins, x.gain⟩ : Shot)).frm, .int .i64 ((⟨x.id, s1, x.til, x.mins, x.gain⟩ : Shot)).til, .int .i64 ((⟨x.id, s1, x.til, x.mins, x.gain⟩ : Shot)).mins, .int .i64 ((⟨x.id, s1, x.til, x.mins, x.gain⟩ : Shot)).gain]) (by simp [results, Try.results49, go_sem, o0, o1, o2, o3, o4]) rfl ?_
    refine ⟨(⟨x.id, s1, x.til, x.mins, x.gain⟩ : Shot), q1 + q2, rfl, HX.out, by omega, ?_, HQ.out.mv⟩
    rw [show n + (q1 + q2) = n + q1 + q2 by omega]
    exact HQ.out.src
  · subst hr
    obtain ⟨gl, g0, g1, g2, g3, g4⟩ := HI.out.all
    go_wp2_with fail
    clear gl g0 g1 g2 g3 g4
    have HT := rows_lit (cell := cellJ) (T := 2) W1 #[.int .i64 (x.frm + x.mins - 1), .int .i64 1440, .int .i64 1441] [(x.frm + x.mins - 1), 1440, 1441] (fun k hk => by rcases (show k = 0 ∨ k = 1 ∨ k = 2 by simp at hk; omega) with rfl | rfl | rfl <;> rfl) rfl
    have hx := (Ext.refl W1).alloc (.cells #[.int .i64 (x.frm + x.mins - 1), .int .i64 1440, .int .i64 1441] 2)
    refine (among_any _ sb a cap code (n + q1) (HD.out.src.ext hx) (by omega) (some ⟨W1.heap.size, 0, none⟩) 3 _ HT (by simp) (by simp) (fun p e => by cases e; have := HD.out.src.lt; show W1.heap.size ≠ sb; omega)).mono ?_
    rintro e W2 ⟨s1, q2, rfl, hs1, hq2, S2, M2⟩
    have hs1 : -4000 ≤ s1 ∧ s1 ≤ 4000 := by simp only [List.mem_cons, List.not_mem_nil, or_false] at hs1; omega
    replace HB := Lib.hid (M2.blk (g := rb) hrs (HB.out.ext hx))
    replace HI := Lib.hid ((HI.out.ext hx).moved M2 hxs)
    replace HD := Lib.hid ((HD.out.ext hx).step S2 M2)
    clear S2 M2 HT hx
    have HB0 := HB.out
    obtain ⟨gl, g0, g1, g2, g3, g4⟩ := HI.out.all
    have gk := HI.out.blk.frozen 2
    replace HI := Lib.hid (HI.out.at1 ⟨x.id, x.frm, s1, x.mins, x.gain⟩ 2 (by decide) (.int .i64 s1) rfl (fun j hj hne => by rcases five hj with rfl | rfl | rfl | rfl | rfl <;> first | rfl | exact absurd rfl hne))
    replace HB := Lib.hid (HB.out.set xb 2 (.int .i64 s1))
    replace HD := Lib.hid (HD.out.set (o := 2) hxw (.int .i64 s1))
    obtain ⟨Wb, hWb⟩ : ∃ Wb, Wb = W2.setCell ⟨xb, 2, none⟩ (.int .i64 s1) := ⟨_, rfl⟩
    rw [← hWb] at HI HB HD
    have HX : Hid (ShotN 4000 ⟨x.id, x.frm, s1, x.mins, x.gain⟩) := ⟨(hx4.ids), hx4.fr, hs1, hx4.mi, hx4.ga⟩
    have rl0 := HB0.lt
    obtain ⟨u0, o0⟩ := HB0.cell (o := 0) (by decide)
    obtain ⟨u1, o1⟩ := HB0.cell (o := 1) (by decide)
    obtain ⟨u2, o2⟩ := HB0.cell (o := 2) (by decide)
    obtain ⟨u3, o3⟩ := HB0.cell (o := 3) (by decide)
    obtain ⟨u4, o4⟩ := HB0.cell (o := 4) (by decide)
    have n0 := HB0.frozen 0
    have n1 := HB0.frozen 1
    have n2 := HB0.frozen 2
    have n3 := HB0.frozen 3
    have n4 := HB0.frozen 4
    clear HB0
    have HQ := Lib.hid (Dr.set (o := 4) (Dr.set (o := 3) (Dr.set (o := 2) (Dr.set (o := 1) (Dr.set (o := 0) HD.out hrw (.string ((⟨x.id, x.frm, s1, x.mins, x.gain⟩ : Shot)).id)) hrw (.int .i64 ((⟨x.id, x.frm, s1, x.mins, x.gain⟩ : Shot)).frm)) hrw (.int .i64 ((⟨x.id, x.frm, s1, x.mins, x.gain⟩ : Shot)).til)) hrw (.int .i64 ((⟨x.id, x.frm, s1, x.mins, x.gain⟩ : Shot)).mins)) hrw (.int .i64 ((⟨x.id, x.frm, s1, x.mins, x.gain⟩ : Shot)).gain))
    first | rw [hWb] at HQ | skip
    first | clear hWb | skip
    clear HD HI HB
    go_wp2_with fail
    refine bodyPost_ret (v := .agg #[.string ((⟨x.id, x.frm, s1, x.mins, x.gain⟩ : Shot)).id, .int .i64 ((⟨x.id, x.frm, s1, x.mins, x.gain⟩ : Shot)).frm, .int .i64 ((⟨x.id, x.frm, s1, x.mins, x.gain⟩ : Shot)).til, .int .i64 ((⟨x.id, x.frm, s1, x.mins, x.gain⟩ : Shot)).mins, .int .i64 ((⟨x.id, x.frm, s1, x.mins, x.gain⟩ : Shot)).gain]) (by simp [results, Try.results49, go_sem, o0, o1, o2, o3, o4]) rfl ?_
    refine ⟨(⟨x.id, x.frm, s1, x.mins, x.gain⟩ : Shot), q1 + q2, rfl, HX.out, by omega, ?_, HQ.out.mv⟩
    rw [show n + (q1 + q2) = n + q1 + q2 by omega]
    exact HQ.out.src
  · subst hr
    go_wp2_with fail
    have HT := rows_lit (cell := cellJ) (T := 2) W1 #[.int .i64 0, .int .i64 1, .int .i64 240, .int .i64 241] [0, 1, 240, 241] (fun k hk => by rcases (show k = 0 ∨ k = 1 ∨ k = 2 ∨ k = 3 by simp at hk; omega) with rfl | rfl | rfl | rfl <;> rfl) rfl
    have hx := (Ext.refl W1).alloc (.cells #[.int .i64 0, .int .i64 1, .int .i64 240, .int .i64 241] 2)
    refine (among_any _ sb a cap code (n + q1) (HD.out.src.ext hx) (by omega) (some ⟨W1.heap.size, 0, none⟩) 4 _ HT (by simp) (by simp) (fun p e => by cases e; have := HD.out.src.lt; show W1.heap.size ≠ sb; omega)).mono ?_
    rintro e W2 ⟨s1, q2, rfl, hs1, hq2, S2, M2⟩
    have hs1 : -4000 ≤ s1 ∧ s1 ≤ 4000 := by simp only [List.mem_cons, List.not_mem_nil, or_false] at hs1; omega
    replace HB := Lib.hid (M2.blk (g := rb) hrs (HB.out.ext hx))
    replace HI := Lib.hid ((HI.out.ext hx).moved M2 hxs)
    replace HD := Lib.hid ((HD.out.ext hx).step S2 M2)
    clear S2 M2 HT hx
    have HB0 := HB.out
    obtain ⟨gl, g0, g1, g2, g3, g4⟩ := HI.out.all
    have gk := HI.out.blk.frozen 3
    replace HI := Lib.hid (HI.out.at1 ⟨x.id, x.frm, x.til, s1, x.gain⟩ 3 (by decide) (.int .i64 s1) rfl (fun j hj hne => by rcases five hj with rfl | rfl | rfl | rfl | rfl <;> first | rfl | exact absurd rfl hne))
    replace HB := Lib.hid (HB.out.set xb 3 (.int .i64 s1))
    replace HD := Lib.hid (HD.out.set (o := 3) hxw (.int .i64 s1))
    obtain ⟨Wb, hWb⟩ : ∃ Wb, Wb = W2.setCell ⟨xb, 3, none⟩ (.int .i64 s1) := ⟨_, rfl⟩
    rw [← hWb] at HI HB HD
    have HX : Hid (ShotN 4000 ⟨x.id, x.frm, x.til, s1, x.gain⟩) := ⟨(hx4.ids), hx4.fr, hx4.ti, hs1, hx4.ga⟩
    have rl0 := HB0.lt
    obtain ⟨u0, o0⟩ := HB0.cell (o := 0) (by decide)
    obtain ⟨u1, o1⟩ := HB0.cell (o := 1) (by decide)
    obtain ⟨u2, o2⟩ := HB0.cell (o := 2) (by decide)
    obtain ⟨u3, o3⟩ := HB0.cell (o := 3) (by decide)
    obtain ⟨u4, o4⟩ := HB0.cell (o := 4) (by decide)
    have n0 := HB0.frozen 0
    have n1 := HB0.frozen 1
    have n2 := HB0.frozen 2
    have n3 := HB0.frozen 3
    have n4 := HB0.frozen 4
    clear HB0
    have HQ := Lib.hid (Dr.set (o := 4) (Dr.set (o := 3) (Dr.set (o := 2) (Dr.set (o := 1) (Dr.set (o := 0) HD.out hrw (.string ((⟨x.id, x.frm, x.til, s1, x.gain⟩ : Shot)).id)) hrw (.int .i64 ((⟨x.id, x.frm, x.til, s1, x.gain⟩ : Shot)).frm)) hrw (.int .i64 ((⟨x.id, x.frm, x.til, s1, x.gain⟩ : Shot)).til)) hrw (.int .i64 ((⟨x.id, x.frm, x.til, s1, x.gain⟩ : Shot)).mins)) hrw (.int .i64 ((⟨x.id, x.frm, x.til, s1, x.gain⟩ : Shot)).gain))
    first | rw [hWb] at HQ | skip
    first | clear hWb | skip
    clear HD HI HB
    go_wp2_with fail
    refine bodyPost_ret (v := .agg #[.string ((⟨x.id, x.frm, x.til, s1, x.gain⟩ : Shot)).id, .int .i64 ((⟨x.id, x.frm, x.til, s1, x.gain⟩ : Shot)).frm, .int .i64 ((⟨x.id, x.frm, x.til, s1, x.gain⟩ : Shot)).til, .int .i64 ((⟨x.id, x.frm, x.til, s1, x.gain⟩ : Shot)).mins, .int .i64 ((⟨x.id, x.frm, x.til, s1, x.gain⟩ : Shot)).gain]) (by simp [results, Try.results49, go_sem, o0, o1, o2, o3, o4]) rfl ?_
    refine ⟨(⟨x.id, x.frm, x.til, s1, x.gain⟩ : Shot), q1 + q2, rfl, HX.out, by omega, ?_, HQ.out.mv⟩
    rw [show n + (q1 + q2) = n + q1 + q2 by omega]
    exact HQ.out.src
  · subst hr
    go_wp2_with fail
    have HT := rows_lit (cell := cellJ) (T := 2) W1 #[.int .i64 (-1), .int .i64 0, .int .i64 1000, .int .i64 1001] [(-1), 0, 1000, 1001] (fun k hk => by rcases (show k = 0 ∨ k = 1 ∨ k = 2 ∨ k = 3 by simp at hk; omega) with rfl | rfl | rfl | rfl <;> rfl) rfl
    have hx := (Ext.refl W1).alloc (.cells #[.int .i64 (-1), .int .i64 0, .int .i64 1000, .int .i64 1001] 2)
    refine (among_any _ sb a cap code (n + q1) (HD.out.src.ext hx) (by omega) (some ⟨W1.heap.size, 0, none⟩) 4 _ HT (by simp) (by simp) (fun p e => by cases e; have := HD.out.src.lt; show W1.heap.size ≠ sb; omega)).mono ?_
    rintro e W2 ⟨s1, q2, rfl, hs1, hq2, S2, M2⟩
    have hs1 : -4000 ≤ s1 ∧ s1 ≤ 4000 := by simp only [List.mem_cons, List.not_mem_nil, or_false] at hs1; omega
    replace HB := Lib.hid (M2.blk (g := rb) hrs (HB.out.ext hx))
    replace HI := Lib.hid ((HI.out.ext hx).moved M2 hxs)
    replace HD := Lib.hid ((HD.out.ext hx).step S2 M2)
    clear S2 M2 HT hx
    have HB0 := HB.out
    obtain ⟨gl, g0, g1, g2, g3, g4⟩ := HI.out.all
    have gk := HI.out.blk.frozen 4
    replace HI := Lib.hid (HI.out.at1 ⟨x.id, x.frm, x.til, x.mins, s1⟩ 4 (by decide) (.int .i64 s1) rfl (fun j hj hne => by rcases five hj with rfl | rfl | rfl | rfl | rfl <;> first | rfl | exact absurd rfl hne))
    replace HB := Lib.hid (HB.out.set xb 4 (.int .i64 s1))
    replace HD := Lib.hid (HD.out.set (o := 4) hxw (.int .i64 s1))
    obtain ⟨Wb, hWb⟩ : ∃ Wb, Wb = W2.setCell ⟨xb, 4, none⟩ (.int .i64 s1) := ⟨_, rfl⟩
    rw [← hWb] at HI HB HD
    have HX : Hid (ShotN 4000 ⟨x.id, x.frm, x.til, x.mins, s1⟩) := ⟨(hx4.ids), hx4.fr, hx4.ti, hx4.mi, hs1⟩
    have rl0 := HB0.lt
    obtain ⟨u0, o0⟩ := HB0.cell (o := 0) (by decide)
    obtain ⟨u1, o1⟩ := HB0.cell (o := 1) (by decide)
    obtain ⟨u2, o2⟩ := HB0.cell (o := 2) (by decide)
    obtain ⟨u3, o3⟩ := HB0.cell (o := 3) (by decide)
    obtain ⟨u4, o4⟩ := HB0.cell (o := 4) (by decide)
    have n0 := HB0.frozen 0
    have n1 := HB0.frozen 1
    have n2 := HB0.frozen 2
    have n3 := HB0.frozen 3
    have n4 := HB0.frozen 4
    clear HB0
    have HQ := Lib.hid (Dr.set (o := 4) (Dr.set (o := 3) (Dr.set (o := 2) (Dr.set (o := 1) (Dr.set (o := 0) HD.out hrw (.string ((⟨x.id, x.frm, x.til, x.mins, s1⟩ : Shot)).id)) hrw (.int .i64 ((⟨x.id, x.frm, x.til, x.mins, s1⟩ : Shot)).frm)) hrw (.int .i64 ((⟨x.id, x.frm, x.til, x.mins, s1⟩ : Shot)).til)) hrw (.int .i64 ((⟨x.id, x.frm, x.til, x.mins, s1⟩ : Shot)).mins)) hrw (.int .i64 ((⟨x.id, x.frm, x.til, x.mins, s1⟩ : Shot)).gain))
    first | rw [hWb] at HQ | skip
    first | clear hWb | skip
    clear HD HI HB
    go_wp2_with fail
    refine bodyPost_ret (v := .agg #[.string ((⟨x.id, x.frm, x.til, x.mins, s1⟩ : Shot)).id, .int .i64 ((⟨x.id, x.frm, x.til, x.mins, s1⟩ : Shot)).frm, .int .i64 ((⟨x.id, x.frm, x.til, x.mins, s1⟩ : Shot)).til, .int .i64 ((⟨x.id, x.frm, x.til, x.mins, s1⟩ : Shot)).mins, .int .i64 ((⟨x.id, x.frm, x.til, x.mins, s1⟩ : Shot)).gain]) (by simp [results, Try.results49, go_sem, o0, o1, o2, o3, o4]) rfl ?_
    refine ⟨(⟨x.id, x.frm, x.til, x.mins, s1⟩ : Shot), q1 + q2, rfl, HX.out, by omega, ?_, HQ.out.mv⟩
    rw [show n + (q1 + q2) = n + q1 + q2 by omega]
    exact HQ.out.src
  · have HB0 := HB.out
    have hr0 : (r1 == 0) = false := beq_eq_false_iff_ne.2 (by omega)
    have hr1 : (r1 == 1) = false := beq_eq_false_iff_ne.2 (by omega)
    have hr2 : (r1 == 2) = false := beq_eq_false_iff_ne.2 (by omega)
    have hr3 : (r1 == 3) = false := beq_eq_false_iff_ne.2 (by omega)
    obtain ⟨gl, g0, g1, g2, g3, g4⟩ := HI.out.all
    have HX := hxn
    have rl0 := HB0.lt
    obtain ⟨u0, o0⟩ := HB0.cell (o := 0) (by decide)
    obtain ⟨u1, o1⟩ := HB0.cell (o := 1) (by decide)
    obtain ⟨u2, o2⟩ := HB0.cell (o := 2) (by decide)
    obtain ⟨u3, o3⟩ := HB0.cell (o := 3) (by decide)
    obtain ⟨u4, o4⟩ := HB0.cell (o := 4) (by decide)
    have n0 := HB0.frozen 0
    have n1 := HB0.frozen 1
    have n2 := HB0.frozen 2
    have n3 := HB0.frozen 3
    have n4 := HB0.frozen 4
    clear HB0
    have HQ := Lib.hid (Dr.set (o := 4) (Dr.set (o := 3) (Dr.set (o := 2) (Dr.set (o := 1) (Dr.set (o := 0) HD.out hrw (.string (x).id)) hrw (.int .i64 (x).frm)) hrw (.int .i64 (x).til)) hrw (.int .i64 (x).mins)) hrw (.int .i64 (x).gain))
    first | rw [hW1] at HQ | skip
    first | clear hW1 | skip
    clear HD HI HB
    go_wp2_with fail
    refine bodyPost_ret (v := .agg #[.string (x).id, .int .i64 (x).frm, .int .i64 (x).til, .int .i64 (x).mins, .int .i64 (x).gain]) (by simp [results, Try.results49, go_sem, o0, o1, o2, o3, o4]) rfl ?_
    refine ⟨x, q1, rfl, HX.out, by omega, ?_, HQ.out.mv⟩
    rw [show n + (q1) = n + q1 by omega]
    exact HQ.out.src
end Go.Proofs.Ytpmbaemfpkcjnaa
