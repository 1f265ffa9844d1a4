/- An incident that the reference draws, and bends. -/
import Derived.Test.YtndkcgiadpdcjaaAmong
import Derived.Test.YtndkcgiadpdcjaaIncident
import Derived.Deep.RegionLaw
namespace Go.Proofs.Ytndkcgiadpdcjaa
open Go.RowKit
abbrev cellJ : Int → Nat → Value := fun (x : Int) (_ : Nat) => Value.int .i64 x
theorem six {j : Nat} (h : j < 6) : j = 0 ∨ j = 1 ∨ j = 2 ∨ j = 3 ∨ j = 4 ∨ j = 5 := by omega
/-- An incident near to a valid one. -/
structure IncN (x : Incident) : Prop where
  day : -1 ≤ x.day ∧ x.day ≤ 40000
  ps : x.place.size ≤ 100
  cs : x.cause.size ≤ 100
  lv : 0 ≤ x.level ∧ x.level ≤ 100
  ca : -1 ≤ x.caught ∧ x.caught ≤ 100
  bu : -1 ≤ x.buried ∧ x.buried ≤ 200
theorem IncN.small {x : Incident} (h : IncN x) : x.Small := ⟨by have := h.ps; omega, by have := h.cs; omega⟩
/-- An incident in a block of its own. -/
structure Ibox (w : World) (b : Nat) (x : Incident) : Prop where
  blk : Blk w b 44 6
  cell : ∀ j, j < 6 → w.cell? ⟨b, j, none⟩ = some (x.cell j)
theorem Ibox.new (w : World) (x : Incident) : Ibox (w.alloc (.cells #[.int .i64 x.day, .string x.place, .string x.cause, .int .i64 x.level, .int .i64 x.caught, .int .i64 x.buried] 44)) w.heap.size x :=
  ⟨Blk.new w _ _, fun j hj => by rw [cell_new]; rcases six hj with rfl | rfl | rfl | rfl | rfl | rfl <;> rfl⟩
theorem Ibox.ext {w w' : World} {b : Nat} {x : Incident} (h : Ibox w b x) (he : Ext w w') : Ibox w' b x := ⟨h.blk.ext he, fun j hj => he.cell (h.cell j hj)⟩
theorem Ibox.moved {sb : Nat} {w w' : World} {b : Nat} {x : Incident} (h : Ibox w b x) (hm : Moved sb w w') (hne : b ≠ sb) : Ibox w' b x :=
  ⟨hm.blk hne h.blk, fun j hj => hm.cell (by show b ≠ sb; exact hne) (h.cell j hj)⟩
theorem Ibox.at1 {w : World} {b : Nat} {x : Incident} (h : Ibox w b x) (y : Incident) (j0 : Nat) (hj0 : j0 < 6) (v : Value) (hv : y.cell j0 = v) (hne : ∀ j, j < 6 → j ≠ j0 → y.cell j = x.cell j) : Ibox (w.setCell ⟨b, j0, none⟩ v) b y :=
  ⟨h.blk.set _ _ _, fun j hj => by
    by_cases h3 : j = j0
    · subst h3; rw [h.blk.same hj0, hv]
    · rw [cell_other _ (by omega), h.cell j hj, hne j hj h3]⟩
theorem Ibox.all {w : World} {b : Nat} {x : Incident} (h : Ibox w b x) : b < w.heap.size ∧ w.cell? ⟨b, 0, none⟩ = some (.int .i64 x.day) ∧ w.cell? ⟨b, 1, none⟩ = some (.string x.place) ∧ w.cell? ⟨b, 2, none⟩ = some (.string x.cause) ∧ w.cell? ⟨b, 3, none⟩ = some (.int .i64 x.level) ∧ w.cell? ⟨b, 4, none⟩ = some (.int .i64 x.caught) ∧ w.cell? ⟨b, 5, none⟩ = some (.int .i64 x.buried) :=
  ⟨h.blk.lt, h.cell 0 (by decide), h.cell 1 (by decide), h.cell 2 (by decide), h.cell 3 (by decide), h.cell 4 (by decide), h.cell 5 (by decide)⟩
theorem rows_lit {α : Type} [Inhabited α] {cell : α → Nat → Value} {T : TypeId} (w : World) (cs : Array Value) (l : List α) (h : ∀ k, k < l.length → cs[k]? = some (cell (nth l k) 0)) {n : Nat} (hn : n = w.heap.size) : RowsAt 1 cell (w.alloc (.cells cs T)) (some ⟨n, 0, none⟩) l := fun k hk => by
  subst hn
  exact ⟨_, _, rfl, by rw [size_new]; omega, fun j hj => by
    obtain rfl : j = 0 := by omega
    simp only [Nat.mul_one, Nat.zero_add, Nat.add_zero]; rw [cell_new]; exact h k hk⟩
/-- The state of a draw that began in w: the source, what else holds. -/
structure Dr (w W : World) (sb : Nat) (a : Option Addr) (cap : Nat) (code : List Int) (n : Nat) : Prop where
  src : Src W sb a cap code n
  mv : Moved sb w W
  by0 : ByteAt w a code
  lt : sb < w.heap.size
section
variable {w W W' : World} {sb : Nat} {a : Option Addr} {cap : Nat} {code : List Int} {n : Nat}
theorem Dr.start (h : Src w sb a cap code n) : Dr w w sb a cap code n := ⟨h, Moved.refl _ _, h.bytes, h.lt⟩
theorem Dr.ext (h : Dr w W sb a cap code n) (he : Ext W W') : Dr w W' sb a cap code n := ⟨h.src.ext he, h.mv.more he, h.by0, h.lt⟩
theorem Dr.step {k : Nat} (h : Dr w W sb a cap code n) (hs : Src W' sb a cap code (n + k)) (hm : Moved sb W W') : Dr w W' sb a cap code (n + k) := ⟨hs, h.mv.trans hm, h.by0, h.lt⟩
theorem Dr.set {b o : Nat} (h : Dr w W sb a cap code n) (hb : w.heap.size ≤ b) (v : Value) : Dr w (W.setCell ⟨b, o, none⟩ v) sb a cap code n :=
  ⟨h.src.other h.by0 hb (by have := h.lt; omega) v, h.mv.fresh hb v, h.by0, h.lt⟩
theorem Dr.size (h : Dr w W sb a cap code n) : w.heap.size ≤ W.heap.size := h.mv.size
end
set_option maxRecDepth 100000 in
set_option maxHeartbeats 8000000 in
theorem l28DrawOne_any (w : World) (sb : Nat) (a : Option Addr) (cap : Nat) (code : List Int) (n : Nat) (H : Src w sb a cap code n) (hn : n ≤ 800000000) :
    Calls Try.prog 55 #[.pointer (some ⟨sb, 0, none⟩)] w fun e w' => ∃ (x : Incident) (k : Nat), e = .returned (.agg #[.int .i64 x.day, .string x.place, .string x.cause, .int .i64 x.level, .int .i64 x.caught, .int .i64 x.buried]) ∧ IncN x ∧ k ≤ 12 ∧ Src w' sb a cap code (n + k) ∧ Moved sb w w' := by
  have HD := Lib.hid (Dr.start H)
  have hsl := H.lt
  clear H
  have HB := Lib.hid (Blk.new w #[.int .i64 0, .string ⟨#[]⟩, .string ⟨#[]⟩, .int .i64 0, .int .i64 0, .int .i64 0] 44)
  go_enter Try.func55, Try.ntmps55
  go_wp2_with fail
  replace HD := Lib.hid (HD.out.ext ((Ext.refl w).alloc (.cells #[.int .i64 0, .string ⟨#[]⟩, .string ⟨#[]⟩, .int .i64 0, .int .i64 0, .int .i64 0] 44)))
  refine (pick_any _ sb a cap code n HD.out.src (by omega) 40 (by omega)).mono ?_
  rintro e W1 ⟨r1, q1, rfl, p0, p1, hq1, S1, M1⟩
  have p1 := p1 (by omega)
  replace HB := Lib.hid (M1.blk (g := w.heap.size) (by omega) HB.out)
  replace HD := Lib.hid (HD.out.step S1 M1)
  clear S1 M1
  obtain ⟨rb, hrb, hrw⟩ : ∃ rb, rb = w.heap.size ∧ w.heap.size ≤ rb := ⟨_, rfl, Nat.le_refl _⟩
  rw [← hrb] at HB ⊢
  clear hrb
  have hrs : rb ≠ sb := by omega
  go_wp2_with fail
  have HT := rows_lit (cell := cellS) (T := 9) W1 #[.string ⟨#[98, 111, 119, 108]⟩, .string ⟨#[99, 104, 117, 116, 101]⟩, .string ⟨#[115, 112, 117, 114]⟩] [⟨#[98, 111, 119, 108]⟩, ⟨#[99, 104, 117, 116, 101]⟩, ⟨#[115, 112, 117, 114]⟩] (fun k hk => by rcases (show k = 0 ∨ k = 1 ∨ k = 2 by simp at hk; omega) with rfl | rfl | rfl <;> rfl) rfl
  have hx := (Ext.refl W1).alloc (.cells #[.string ⟨#[98, 111, 119, 108]⟩, .string ⟨#[99, 104, 117, 116, 101]⟩, .string ⟨#[115, 112, 117, 114]⟩] 9)
  refine (text_any _ sb a cap code (n + q1) (HD.out.src.ext hx) (by omega) (some ⟨W1.heap.size, 0, none⟩) 3 _ HT (by decide) (by decide) (fun p e => by cases e; have := HD.out.src.lt; show W1.heap.size ≠ sb; omega)).mono ?_
  rintro e W2 ⟨s1, q2, rfl, hs1, hq2, S2, M2⟩
  have hs1 := (show ∀ x ∈ ([⟨#[98, 111, 119, 108]⟩, ⟨#[99, 104, 117, 116, 101]⟩, ⟨#[115, 112, 117, 114]⟩] : List ByteArray), x.size ≤ 100 by decide) s1 hs1
  replace HB := Lib.hid (M2.blk (g := rb) hrs (HB.out.ext hx))
  replace HD := Lib.hid ((HD.out.ext hx).step S2 M2)
  clear S2 M2 HT hx
  have hz := HD.out.size
  have hxr : W2.heap.size ≠ rb := by have := HB.out.lt; omega
  have HI := Lib.hid (Ibox.new W2 ⟨9000 + r1, s1, ⟨#[]⟩, 0, 0, 0⟩)
  have hx := (Ext.refl W2).alloc (.cells #[.int .i64 (9000 + r1), .string s1, .string ⟨#[]⟩, .int .i64 0, .int .i64 0, .int .i64 0] 44)
  replace HB := Lib.hid (HB.out.ext hx)
  replace HD := Lib.hid (HD.out.ext hx)
  go_wp2_with fail
  obtain ⟨xb, hxb⟩ : ∃ xb, xb = W2.heap.size := ⟨_, rfl⟩
  have hxw : w.heap.size ≤ xb := by omega
  have hxs : xb ≠ sb := by omega
  rw [← hxb] at HI hxr
  have ew : W2.heap.size + 1 = (W2.alloc (.cells #[.int .i64 (9000 + r1), .string s1, .string ⟨#[]⟩, .int .i64 0, .int .i64 0, .int .i64 0] 44)).heap.size := by rw [size_new]
  rw [ew]
  obtain ⟨W3, hW3⟩ : ∃ W3, W3 = W2.alloc (.cells #[.int .i64 (9000 + r1), .string s1, .string ⟨#[]⟩, .int .i64 0, .int .i64 0, .int .i64 0] 44) := ⟨_, rfl⟩
  rw [← hW3] at HI HB HD ⊢
  first | rw [← hxb] | skip
  clear hW3 ew hx hxb
  have HT := rows_lit (cell := cellS) (T := 9) W3 #[.string ⟨#[100, 114, 105, 102, 116]⟩, .string ⟨#[114, 97, 105, 110]⟩, .string ⟨#[115, 107, 105, 101, 114]⟩] [⟨#[100, 114, 105, 102, 116]⟩, ⟨#[114, 97, 105, 110]⟩, ⟨#[115, 107, 105, 101, 114]⟩] (fun k hk => by rcases (show k = 0 ∨ k = 1 ∨ k = 2 by simp at hk; omega) with rfl | rfl | rfl <;> rfl) rfl
  have hx := (Ext.refl W3).alloc (.cells #[.string ⟨#[100, 114, 105, 102, 116]⟩, .string ⟨#[114, 97, 105, 110]⟩, .string ⟨#[115, 107, 105, 101, 114]⟩] 9)
  refine (text_any _ sb a cap code (n + q1 + q2) (HD.out.src.ext hx) (by omega) (some ⟨W3.heap.size, 0, none⟩) 3 _ HT (by decide) (by decide) (fun p e => by cases e; have := HD.out.src.lt; show W3.heap.size ≠ sb; omega)).mono ?_
  rintro e W4 ⟨s2, q3, rfl, hs2, hq3, S2, M2⟩
  replace hs2 := (show ∀ x ∈ ([⟨#[100, 114, 105, 102, 116]⟩, ⟨#[114, 97, 105, 110]⟩, ⟨#[115, 107, 105, 101, 114]⟩] : List ByteArray), x.size ≤ 100 by decide) s2 hs2
  replace HB := Lib.hid (M2.blk (g := rb) hrs (HB.out.ext hx))
  replace HI := Lib.hid ((HI.out.ext hx).moved M2 hxs)
  replace HD := Lib.hid ((HD.out.ext hx).step S2 M2)
  clear S2 M2 HT hx hz
  obtain ⟨gl, g0, g1, g2, g3, g4, g5⟩ := HI.out.all
  have gk := HI.out.blk.frozen 2
  replace HI := Lib.hid (HI.out.at1 ⟨9000 + r1, s1, s2, 0, 0, 0⟩ 2 (by decide) (.string s2) rfl (fun j hj hne => by rcases six hj with rfl | rfl | rfl | rfl | rfl | rfl <;> first | rfl | exact absurd rfl hne))
  replace HB := Lib.hid (HB.out.set xb 2 (.string s2))
  replace HD := Lib.hid (HD.out.set (o := 2) hxw (.string s2))
  obtain ⟨W5, hW5⟩ : ∃ W5, W5 = W4.setCell ⟨xb, 2, none⟩ (.string s2) := ⟨_, rfl⟩
  rw [← hW5] at HI HB HD
  go_wp2_with fail
  rw [← hW5]
  clear hW5 gl g0 g1 g2 g3 g4 g5 gk
  refine (pick_any W5 sb a cap code (n + q1 + q2 + q3) HD.out.src (by omega) 5 (by omega)).mono ?_
  rintro e W6 ⟨v4, k4, rfl, v4l, v4u, v4q, S2, M2⟩
  replace v4u := v4u (by omega)
  replace HB := Lib.hid (M2.blk (g := rb) hrs HB.out)
  replace HI := Lib.hid (HI.out.moved M2 hxs)
  replace HD := Lib.hid (HD.out.step S2 M2)
  clear S2 M2
  obtain ⟨gl, g0, g1, g2, g3, g4, g5⟩ := HI.out.all
  have gk := HI.out.blk.frozen 3
  replace HI := Lib.hid (HI.out.at1 ⟨9000 + r1, s1, s2, 1 + v4, 0, 0⟩ 3 (by decide) (.int .i64 (1 + v4)) rfl (fun j hj hne => by rcases six hj with rfl | rfl | rfl | rfl | rfl | rfl <;> first | rfl | exact absurd rfl hne))
  replace HB := Lib.hid (HB.out.set xb 3 (.int .i64 (1 + v4)))
  replace HD := Lib.hid (HD.out.set (o := 3) hxw (.int .i64 (1 + v4)))
  obtain ⟨W7, hW7⟩ : ∃ W7, W7 = W6.setCell ⟨xb, 3, none⟩ (.int .i64 (1 + v4)) := ⟨_, rfl⟩
  rw [← hW7] at HI HB HD
  go_wp2_with fail
  rw [← hW7]
  clear hW7 gl g0 g1 g2 g3 g4 g5 gk
  refine (pick_any W7 sb a cap code (n + q1 + q2 + q3 + k4) HD.out.src (by omega) 5 (by omega)).mono ?_
  rintro e W8 ⟨v5, k5, rfl, v5l, v5u, v5q, S2, M2⟩
  replace v5u := v5u (by omega)
  replace HB := Lib.hid (M2.blk (g := rb) hrs HB.out)
  replace HI := Lib.hid (HI.out.moved M2 hxs)
  replace HD := Lib.hid (HD.out.step S2 M2)
  clear S2 M2
  obtain ⟨gl, g0, g1, g2, g3, g4, g5⟩ := HI.out.all
  have gk := HI.out.blk.frozen 4
  replace HI := Lib.hid (HI.out.at1 ⟨9000 + r1, s1, s2, 1 + v4, v5, 0⟩ 4 (by decide) (.int .i64 v5) rfl (fun j hj hne => by rcases six hj with rfl | rfl | rfl | rfl | rfl | rfl <;> first | rfl | exact absurd rfl hne))
  replace HB := Lib.hid (HB.out.set xb 4 (.int .i64 v5))
  replace HD := Lib.hid (HD.out.set (o := 4) hxw (.int .i64 v5))
  obtain ⟨W9, hW9⟩ : ∃ W9, W9 = W8.setCell ⟨xb, 4, none⟩ (.int .i64 v5) := ⟨_, rfl⟩
  rw [← hW9] at HI HB HD
  go_wp2_with fail
  rw [← hW9]
  clear hW9 gl g0 g1 g2 g3 g4 g5 gk
  refine (pick_any W9 sb a cap code (n + q1 + q2 + q3 + k4 + k5) HD.out.src (by omega) (v5 + 1) (by omega)).mono ?_
  rintro e Wa ⟨v6, k6, rfl, v6l, v6u, v6q, S2, M2⟩
  replace v6u := v6u (by omega)
  replace HB := Lib.hid (M2.blk (g := rb) hrs HB.out)
  replace HI := Lib.hid (HI.out.moved M2 hxs)
  replace HD := Lib.hid (HD.out.step S2 M2)
  clear S2 M2
  have HB0 := HB.out
  have hrx : rb ≠ xb := Ne.symm hxr
  obtain ⟨gl, g0, g1, g2, g3, g4, g5⟩ := HI.out.all
  have gk := HI.out.blk.frozen 5
  replace HI := Lib.hid (HI.out.at1 ⟨9000 + r1, s1, s2, 1 + v4, v5, v6⟩ 5 (by decide) (.int .i64 v6) rfl (fun j hj hne => by rcases six hj with rfl | rfl | rfl | rfl | rfl | rfl <;> first | rfl | exact absurd rfl hne))
  replace HB := Lib.hid (HB.out.set xb 5 (.int .i64 v6))
  replace HD := Lib.hid (HD.out.set (o := 5) hxw (.int .i64 v6))
  obtain ⟨Wb, hWb⟩ : ∃ Wb, Wb = Wa.setCell ⟨xb, 5, none⟩ (.int .i64 v6) := ⟨_, rfl⟩
  rw [← hWb] at HI HB HD
  have HX : Hid (IncN ⟨9000 + r1, s1, s2, 1 + v4, v5, v6⟩) := ⟨by show _ ∧ _; dsimp only; omega, hs1, hs2, by dsimp only; omega, by dsimp only; omega, by dsimp only; omega⟩
  have rl0 := HB0.lt
  obtain ⟨u0, o0⟩ := HB0.cell (o := 0) (by decide)
  obtain ⟨u1, o1⟩ := HB0.cell (o := 1) (by decide)
  obtain ⟨u2, o2⟩ := HB0.cell (o := 2) (by decide)
  obtain ⟨u3, o3⟩ := HB0.cell (o := 3) (by decide)
  obtain ⟨u4, o4⟩ := HB0.cell (o := 4) (by decide)
  obtain ⟨u5, o5⟩ := HB0.cell (o := 5) (by decide)
  have n0 := HB0.frozen 0
  have n1 := HB0.frozen 1
  have n2 := HB0.frozen 2
  have n3 := HB0.frozen 3
  have n4 := HB0.frozen 4
  have n5 := HB0.frozen 5
  clear HB0
  have HQ := Lib.hid (Dr.set (o := 5) (Dr.set (o := 4) (Dr.set (o := 3) (Dr.set (o := 2) (Dr.set (o := 1) (Dr.set (o := 0) HD.out hrw (.int .i64 ((⟨9000 + r1, s1, s2, 1 + v4, v5, v6⟩ : Incident)).day)) hrw (.string ((⟨9000 + r1, s1, s2, 1 + v4, v5, v6⟩ : Incident)).place)) hrw (.string ((⟨9000 + r1, s1, s2, 1 + v4, v5, v6⟩ : Incident)).cause)) hrw (.int .i64 ((⟨9000 + r1, s1, s2, 1 + v4, v5, v6⟩ : Incident)).level)) hrw (.int .i64 ((⟨9000 + r1, s1, s2, 1 + v4, v5, v6⟩ : Incident)).caught)) hrw (.int .i64 ((⟨9000 + r1, s1, s2, 1 + v4, v5, v6⟩ : Incident)).buried))
  first | rw [hWb] at HQ | skip
  first | clear hWb | skip
  clear HD HI HB
  go_wp2_with fail
  refine bodyPost_ret (v := .agg #[.int .i64 ((⟨9000 + r1, s1, s2, 1 + v4, v5, v6⟩ : Incident)).day, .string ((⟨9000 + r1, s1, s2, 1 + v4, v5, v6⟩ : Incident)).place, .string ((⟨9000 + r1, s1, s2, 1 + v4, v5, v6⟩ : Incident)).cause, .int .i64 ((⟨9000 + r1, s1, s2, 1 + v4, v5, v6⟩ : Incident)).level, .int .i64 ((⟨9000 + r1, s1, s2, 1 + v4, v5, v6⟩ : Incident)).caught, .int .i64 ((⟨9000 + r1, s1, s2, 1 + v4, v5, v6⟩ : Incident)).buried]) (by simp [results, Try.results55, go_sem, o0, o1, o2, o3, o4, o5]) rfl ?_
  refine ⟨(⟨9000 + r1, s1, s2, 1 + v4, v5, v6⟩ : Incident), q1 + q2 + q3 + k4 + k5 + k6, rfl, HX.out, by omega, ?_, HQ.out.mv⟩
  rw [show n + (q1 + q2 + q3 + k4 + k5 + k6) = n + q1 + q2 + q3 + k4 + k5 + k6 by omega]
  exact HQ.out.src
set_option maxRecDepth 100000 in
set_option maxHeartbeats 8000000 in
theorem l28Bend_any (w : World) (sb : Nat) (a : Option Addr) (cap : Nat) (code : List Int) (n : Nat) (H : Src w sb a cap code n) (hn : n ≤ 800000000) (x : Incident) (hxi : IncN x) :
    Calls Try.prog 56 #[.pointer (some ⟨sb, 0, none⟩), .agg #[.int .i64 x.day, .string x.place, .string x.cause, .int .i64 x.level, .int .i64 x.caught, .int .i64 x.buried]] w fun e w' => ∃ (x : Incident) (k : Nat), e = .returned (.agg #[.int .i64 x.day, .string x.place, .string x.cause, .int .i64 x.level, .int .i64 x.caught, .int .i64 x.buried]) ∧ IncN x ∧ k ≤ 12 ∧ Src w' sb a cap code (n + k) ∧ Moved sb w w' := by
  have HD := Lib.hid (Dr.start H)
  have hsl := H.lt
  have hxn := Lib.hid hxi
  have hca := hxi.ca
  clear H hxi
  have hx1 := (Ext.refl w).alloc (.cells #[.int .i64 x.day, .string x.place, .string x.cause, .int .i64 x.level, .int .i64 x.caught, .int .i64 x.buried] 44)
  have HB := Blk.new (w.alloc (.cells #[.int .i64 x.day, .string x.place, .string x.cause, .int .i64 x.level, .int .i64 x.caught, .int .i64 x.buried] 44)) #[.int .i64 0, .string ⟨#[]⟩, .string ⟨#[]⟩, .int .i64 0, .int .i64 0, .int .i64 0] 44
  have hx2 := (Ext.refl (w.alloc (.cells #[.int .i64 x.day, .string x.place, .string x.cause, .int .i64 x.level, .int .i64 x.caught, .int .i64 x.buried] 44))).alloc (.cells #[.int .i64 0, .string ⟨#[]⟩, .string ⟨#[]⟩, .int .i64 0, .int .i64 0, .int .i64 0] 44)
  have HI := Lib.hid ((Ibox.new w x).ext hx2)
  rw [size_new] at HB
  replace HB := Lib.hid HB
  replace HD := Lib.hid ((HD.out.ext hx1).ext hx2)
  clear hx1 hx2
  go_enter Try.func56, Try.ntmps56
  go_wp2_with fail
  refine (pick_any _ sb a cap code n HD.out.src (by omega) 18 (by omega)).mono ?_
  rintro e W1 ⟨r1, q1, rfl, p0, p1, hq1, S1, M1⟩
  replace p1 := p1 (by omega)
  replace HB := Lib.hid (M1.blk (g := w.heap.size + 1) (by omega) HB.out)
  replace HI := Lib.hid (HI.out.moved M1 (by omega))
  replace HD := Lib.hid (HD.out.step S1 M1)
  clear S1 M1
  obtain ⟨rb, hrb⟩ : ∃ rb, rb = w.heap.size + 1 := ⟨_, rfl⟩
  rw [← hrb] at HB ⊢
  obtain ⟨xb, hxb⟩ : ∃ xb, xb = w.heap.size := ⟨_, rfl⟩
  rw [← hxb] at HI ⊢
  have hrw : w.heap.size ≤ rb := by omega
  have hxw : w.heap.size ≤ xb := by omega
  have hrs : rb ≠ sb := by omega
  have hxs : xb ≠ sb := by omega
  have hxr : xb ≠ rb := by omega
  have hrx : rb ≠ xb := Ne.symm hxr
  clear hrb hxb
  rcases (show r1 = 0 ∨ r1 = 1 ∨ r1 = 2 ∨ r1 = 3 ∨ r1 = 4 ∨ 5 ≤ r1 by omega) with hr | hr | hr | hr | hr | hr
  · subst hr
    go_wp2_with fail
    have HT := rows_lit (cell := cellJ) (T := 2) W1 #[.int .i64 (-1), .int .i64 0, .int .i64 36524, .int .i64 36525] [(-1), 0, 36524, 36525] (fun k hk => by rcases (show k = 0 ∨ k = 1 ∨ k = 2 ∨ k = 3 by simp at hk; omega) with rfl | rfl | rfl | rfl <;> rfl) rfl
    have hx := (Ext.refl W1).alloc (.cells #[.int .i64 (-1), .int .i64 0, .int .i64 36524, .int .i64 36525] 2)
    refine (among_any _ sb a cap code (n + q1) (HD.out.src.ext hx) (by omega) (some ⟨W1.heap.size, 0, none⟩) 4 _ HT (by simp) (by simp) (fun p e => by cases e; have := HD.out.src.lt; show W1.heap.size ≠ sb; omega)).mono ?_
    rintro e W2 ⟨s1, q2, rfl, hs1, hq2, S2, M2⟩
    have hs1 : -1 ≤ s1 ∧ s1 ≤ 40000 := by simp only [List.mem_cons, List.not_mem_nil, or_false] at hs1; omega
    replace HB := Lib.hid (M2.blk (g := rb) hrs (HB.out.ext hx))
    replace HI := Lib.hid ((HI.out.ext hx).moved M2 hxs)
    replace HD := Lib.hid ((HD.out.ext hx).step S2 M2)
    clear S2 M2 HT hx
    have HB0 := HB.out
    obtain ⟨gl, g0, g1, g2, g3, g4, g5⟩ := HI.out.all
    have gk := HI.out.blk.frozen 0
    replace HI := Lib.hid (HI.out.at1 ⟨s1, x.place, x.cause, x.level, x.caught, x.buried⟩ 0 (by decide) (.int .i64 s1) rfl (fun j hj hne => by rcases six hj with rfl | rfl | rfl | rfl | rfl | rfl <;> first | rfl | exact absurd rfl hne))
    replace HB := Lib.hid (HB.out.set xb 0 (.int .i64 s1))
    replace HD := Lib.hid (HD.out.set (o := 0) hxw (.int .i64 s1))
    obtain ⟨Wb, hWb⟩ : ∃ Wb, Wb = W2.setCell ⟨xb, 0, none⟩ (.int .i64 s1) := ⟨_, rfl⟩
    rw [← hWb] at HI HB HD
    have HX : Hid (IncN ⟨s1, x.place, x.cause, x.level, x.caught, x.buried⟩) := ⟨hs1, hxn.out.ps, hxn.out.cs, hxn.out.lv, hxn.out.ca, hxn.out.bu⟩
    have rl0 := HB0.lt
    obtain ⟨u0, o0⟩ := HB0.cell (o := 0) (by decide)
    obtain ⟨u1, o1⟩ := HB0.cell (o := 1) (by decide)
    obtain ⟨u2, o2⟩ := HB0.cell (o := 2) (by decide)
    obtain ⟨u3, o3⟩ := HB0.cell (o := 3) (by decide)
    obtain ⟨u4, o4⟩ := HB0.cell (o := 4) (by decide)
    obtain ⟨u5, o5⟩ := HB0.cell (o := 5) (by decide)
    have n0 := HB0.frozen 0
    have n1 := HB0.frozen 1
    have n2 := HB0.frozen 2
    have n3 := HB0.frozen 3
    have n4 := HB0.frozen 4
    have n5 := HB0.frozen 5
    clear HB0
    have HQ := Lib.hid (Dr.set (o := 5) (Dr.set (o := 4) (Dr.set (o := 3) (Dr.set (o := 2) (Dr.set (o := 1) (Dr.set (o := 0) HD.out hrw (.int .i64 ((⟨s1, x.place, x.cause, x.level, x.caught, x.buried⟩ : Incident)).day)) hrw (.string ((⟨s1, x.place, x.cause, x.level, x.caught, x.buried⟩ : Incident)).place)) hrw (.string ((⟨s1, x.place, x.cause, x.level, x.caught, x.buried⟩ : Incident)).cause)) hrw (.int .i64 ((⟨s1, x.place, x.cause, x.level, x.caught, x.buried⟩ : Incident)).level)) hrw (.int .i64 ((⟨s1, x.place, x.cause, x.level, x.caught, x.buried⟩ : Incident)).caught)) hrw (.int .i64 ((⟨s1, x.place, x.cause, x.level, x.caught, x.buried⟩ : Incident)).buried))
    first | rw [hWb] at HQ | skip
    first | clear hWb | skip
    clear HD HI HB
    go_wp2_with fail
    refine bodyPost_ret (v := .agg #[.int .i64 ((⟨s1, x.place, x.cause, x.level, x.caught, x.buried⟩ : Incident)).day, .string ((⟨s1, x.place, x.cause, x.level, x.caught, x.buried⟩ : Incident)).place, .string ((⟨s1, x.place, x.cause, x.level, x.caught, x.buried⟩ : Incident)).cause, .int .i64 ((⟨s1, x.place, x.cause, x.level, x.caught, x.buried⟩ : Incident)).level, .int .i64 ((⟨s1, x.place, x.cause, x.level, x.caught, x.buried⟩ : Incident)).caught, .int .i64 ((⟨s1, x.place, x.cause, x.level, x.caught, x.buried⟩ : Incident)).buried]) (by simp [results, Try.results56, go_sem, o0, o1, o2, o3, o4, o5]) rfl ?_
    refine ⟨(⟨s1, x.place, x.cause, x.level, x.caught, x.buried⟩ : Incident), q1 + q2, rfl, HX.out, by omega, ?_, HQ.out.mv⟩
    rw [show n + (q1 + q2) = n + q1 + q2 by omega]
    exact HQ.out.src
  · subst hr
    go_wp2_with fail
    have HT := rows_lit (cell := cellJ) (T := 2) W1 #[.int .i64 0, .int .i64 5, .int .i64 6] [0, 5, 6] (fun k hk => by rcases (show k = 0 ∨ k = 1 ∨ k = 2 by simp at hk; omega) with rfl | rfl | rfl <;> rfl) rfl
    have hx := (Ext.refl W1).alloc (.cells #[.int .i64 0, .int .i64 5, .int .i64 6] 2)
    refine (among_any _ sb a cap code (n + q1) (HD.out.src.ext hx) (by omega) (some ⟨W1.heap.size, 0, none⟩) 3 _ HT (by simp) (by simp) (fun p e => by cases e; have := HD.out.src.lt; show W1.heap.size ≠ sb; omega)).mono ?_
    rintro e W2 ⟨s1, q2, rfl, hs1, hq2, S2, M2⟩
    have hs1 : 0 ≤ s1 ∧ s1 ≤ 100 := by simp only [List.mem_cons, List.not_mem_nil, or_false] at hs1; omega
    replace HB := Lib.hid (M2.blk (g := rb) hrs (HB.out.ext hx))
    replace HI := Lib.hid ((HI.out.ext hx).moved M2 hxs)
    replace HD := Lib.hid ((HD.out.ext hx).step S2 M2)
    clear S2 M2 HT hx
    have HB0 := HB.out
    obtain ⟨gl, g0, g1, g2, g3, g4, g5⟩ := HI.out.all
    have gk := HI.out.blk.frozen 3
    replace HI := Lib.hid (HI.out.at1 ⟨x.day, x.place, x.cause, s1, x.caught, x.buried⟩ 3 (by decide) (.int .i64 s1) rfl (fun j hj hne => by rcases six hj with rfl | rfl | rfl | rfl | rfl | rfl <;> first | rfl | exact absurd rfl hne))
    replace HB := Lib.hid (HB.out.set xb 3 (.int .i64 s1))
    replace HD := Lib.hid (HD.out.set (o := 3) hxw (.int .i64 s1))
    obtain ⟨Wb, hWb⟩ : ∃ Wb, Wb = W2.setCell ⟨xb, 3, none⟩ (.int .i64 s1) := ⟨_, rfl⟩
    rw [← hWb] at HI HB HD
    have HX : Hid (IncN ⟨x.day, x.place, x.cause, s1, x.caught, x.buried⟩) := ⟨hxn.out.day, hxn.out.ps, hxn.out.cs, hs1, hxn.out.ca, hxn.out.bu⟩
    have rl0 := HB0.lt
    obtain ⟨u0, o0⟩ := HB0.cell (o := 0) (by decide)
    obtain ⟨u1, o1⟩ := HB0.cell (o := 1) (by decide)
    obtain ⟨u2, o2⟩ := HB0.cell (o := 2) (by decide)
    obtain ⟨u3, o3⟩ := HB0.cell (o := 3) (by decide)
    obtain ⟨u4, o4⟩ := HB0.cell (o := 4) (by decide)
    obtain ⟨u5, o5⟩ := HB0.cell (o := 5) (by decide)
    have n0 := HB0.frozen 0
    have n1 := HB0.frozen 1
    have n2 := HB0.frozen 2
    have n3 := HB0.frozen 3
    have n4 := HB0.frozen 4
    have n5 := HB0.frozen 5
    clear HB0
    have HQ := Lib.hid (Dr.set (o := 5) (Dr.set (o := 4) (Dr.set (o := 3) (Dr.set (o := 2) (Dr.set (o := 1) (Dr.set (o := 0) HD.out hrw (.int .i64 ((⟨x.day, x.place, x.cause, s1, x.caught, x.buried⟩ : Incident)).day)) hrw (.string ((⟨x.day, x.place, x.cause, s1, x.caught, x.buried⟩ : Incident)).place)) hrw (.string ((⟨x.day, x.place, x.cause, s1, x.caught, x.buried⟩ : Incident)).cause)) hrw (.int .i64 ((⟨x.day, x.place, x.cause, s1, x.caught, x.buried⟩ : Incident)).level)) hrw (.int .i64 ((⟨x.day, x.place, x.cause, s1, x.caught, x.buried⟩ : Incident)).caught)) hrw (.int .i64 ((⟨x.day, x.place, x.cause, s1, x.caught, x.buried⟩ : Incident)).buried))
    first | rw [hWb] at HQ | skip
    first | clear hWb | skip
    clear HD HI HB
    go_wp2_with fail
    refine bodyPost_ret (v := .agg #[.int .i64 ((⟨x.day, x.place, x.cause, s1, x.caught, x.buried⟩ : Incident)).day, .string ((⟨x.day, x.place, x.cause, s1, x.caught, x.buried⟩ : Incident)).place, .string ((⟨x.day, x.place, x.cause, s1, x.caught, x.buried⟩ : Incident)).cause, .int .i64 ((⟨x.day, x.place, x.cause, s1, x.caught, x.buried⟩ : Incident)).level, .int .i64 ((⟨x.day, x.place, x.cause, s1, x.caught, x.buried⟩ : Incident)).caught, .int .i64 ((⟨x.day, x.place, x.cause, s1, x.caught, x.buried⟩ : Incident)).buried]) (by simp [results, Try.results56, go_sem, o0, o1, o2, o3, o4, o5]) rfl ?_
    refine ⟨(⟨x.day, x.place, x.cause, s1, x.caught, x.buried⟩ : Incident), q1 + q2, rfl, HX.out, by omega, ?_, HQ.out.mv⟩
    rw [show n + (q1 + q2) = n + q1 + q2 by omega]
    exact HQ.out.src
  · subst hr
    go_wp2_with fail
    have HT := rows_lit (cell := cellJ) (T := 2) W1 #[.int .i64 (-1), .int .i64 20, .int .i64 21] [(-1), 20, 21] (fun k hk => by rcases (show k = 0 ∨ k = 1 ∨ k = 2 by simp at hk; omega) with rfl | rfl | rfl <;> rfl) rfl
    have hx := (Ext.refl W1).alloc (.cells #[.int .i64 (-1), .int .i64 20, .int .i64 21] 2)
    refine (among_any _ sb a cap code (n + q1) (HD.out.src.ext hx) (by omega) (some ⟨W1.heap.size, 0, none⟩) 3 _ HT (by simp) (by simp) (fun p e => by cases e; have := HD.out.src.lt; show W1.heap.size ≠ sb; omega)).mono ?_
    rintro e W2 ⟨s1, q2, rfl, hs1, hq2, S2, M2⟩
    have hs1 : -1 ≤ s1 ∧ s1 ≤ 100 := by simp only [List.mem_cons, List.not_mem_nil, or_false] at hs1; omega
    replace HB := Lib.hid (M2.blk (g := rb) hrs (HB.out.ext hx))
    replace HI := Lib.hid ((HI.out.ext hx).moved M2 hxs)
    replace HD := Lib.hid ((HD.out.ext hx).step S2 M2)
    clear S2 M2 HT hx
    have HB0 := HB.out
    obtain ⟨gl, g0, g1, g2, g3, g4, g5⟩ := HI.out.all
    have gk := HI.out.blk.frozen 4
    replace HI := Lib.hid (HI.out.at1 ⟨x.day, x.place, x.cause, x.level, s1, x.buried⟩ 4 (by decide) (.int .i64 s1) rfl (fun j hj hne => by rcases six hj with rfl | rfl | rfl | rfl | rfl | rfl <;> first | rfl | exact absurd rfl hne))
    replace HB := Lib.hid (HB.out.set xb 4 (.int .i64 s1))
    replace HD := Lib.hid (HD.out.set (o := 4) hxw (.int .i64 s1))
    obtain ⟨Wb, hWb⟩ : ∃ Wb, Wb = W2.setCell ⟨xb, 4, none⟩ (.int .i64 s1) := ⟨_, rfl⟩
    rw [← hWb] at HI HB HD
    have HX : Hid (IncN ⟨x.day, x.place, x.cause, x.level, s1, x.buried⟩) := ⟨hxn.out.day, hxn.out.ps, hxn.out.cs, hxn.out.lv, hs1, hxn.out.bu⟩
    have rl0 := HB0.lt
    obtain ⟨u0, o0⟩ := HB0.cell (o := 0) (by decide)
    obtain ⟨u1, o1⟩ := HB0.cell (o := 1) (by decide)
    obtain ⟨u2, o2⟩ := HB0.cell (o := 2) (by decide)
    obtain ⟨u3, o3⟩ := HB0.cell (o := 3) (by decide)
    obtain ⟨u4, o4⟩ := HB0.cell (o := 4) (by decide)
    obtain ⟨u5, o5⟩ := HB0.cell (o := 5) (by decide)
    have n0 := HB0.frozen 0
    have n1 := HB0.frozen 1
    have n2 := HB0.frozen 2
    have n3 := HB0.frozen 3
    have n4 := HB0.frozen 4
    have n5 := HB0.frozen 5
    clear HB0
    have HQ := Lib.hid (Dr.set (o := 5) (Dr.set (o := 4) (Dr.set (o := 3) (Dr.set (o := 2) (Dr.set (o := 1) (Dr.set (o := 0) HD.out hrw (.int .i64 ((⟨x.day, x.place, x.cause, x.level, s1, x.buried⟩ : Incident)).day)) hrw (.string ((⟨x.day, x.place, x.cause, x.level, s1, x.buried⟩ : Incident)).place)) hrw (.string ((⟨x.day, x.place, x.cause, x.level, s1, x.buried⟩ : Incident)).cause)) hrw (.int .i64 ((⟨x.day, x.place, x.cause, x.level, s1, x.buried⟩ : Incident)).level)) hrw (.int .i64 ((⟨x.day, x.place, x.cause, x.level, s1, x.buried⟩ : Incident)).caught)) hrw (.int .i64 ((⟨x.day, x.place, x.cause, x.level, s1, x.buried⟩ : Incident)).buried))
    first | rw [hWb] at HQ | skip
    first | clear hWb | skip
    clear HD HI HB
    go_wp2_with fail
    refine bodyPost_ret (v := .agg #[.int .i64 ((⟨x.day, x.place, x.cause, x.level, s1, x.buried⟩ : Incident)).day, .string ((⟨x.day, x.place, x.cause, x.level, s1, x.buried⟩ : Incident)).place, .string ((⟨x.day, x.place, x.cause, x.level, s1, x.buried⟩ : Incident)).cause, .int .i64 ((⟨x.day, x.place, x.cause, x.level, s1, x.buried⟩ : Incident)).level, .int .i64 ((⟨x.day, x.place, x.cause, x.level, s1, x.buried⟩ : Incident)).caught, .int .i64 ((⟨x.day, x.place, x.cause, x.level, s1, x.buried⟩ : Incident)).buried]) (by simp [results, Try.results56, go_sem, o0, o1, o2, o3, o4, o5]) rfl ?_
    refine ⟨(⟨x.day, x.place, x.cause, x.level, s1, x.buried⟩ : Incident), q1 + q2, rfl, HX.out, by omega, ?_, HQ.out.mv⟩
    rw [show n + (q1 + q2) = n + q1 + q2 by omega]
    exact HQ.out.src
  · subst hr
    obtain ⟨gl, g0, g1, g2, g3, g4, g5⟩ := HI.out.all
    go_wp2_with fail
    clear gl g0 g1 g2 g3 g4 g5
    have HT := rows_lit (cell := cellJ) (T := 2) W1 #[.int .i64 (-1), .int .i64 x.caught, .int .i64 (x.caught + 1)] [(-1), x.caught, (x.caught + 1)] (fun k hk => by rcases (show k = 0 ∨ k = 1 ∨ k = 2 by simp at hk; omega) with rfl | rfl | rfl <;> rfl) rfl
    have hx := (Ext.refl W1).alloc (.cells #[.int .i64 (-1), .int .i64 x.caught, .int .i64 (x.caught + 1)] 2)
    refine (among_any _ sb a cap code (n + q1) (HD.out.src.ext hx) (by omega) (some ⟨W1.heap.size, 0, none⟩) 3 _ HT (by simp) (by simp) (fun p e => by cases e; have := HD.out.src.lt; show W1.heap.size ≠ sb; omega)).mono ?_
    rintro e W2 ⟨s1, q2, rfl, hs1, hq2, S2, M2⟩
    have hs1 : -1 ≤ s1 ∧ s1 ≤ 200 := by simp only [List.mem_cons, List.not_mem_nil, or_false] at hs1; omega
    replace HB := Lib.hid (M2.blk (g := rb) hrs (HB.out.ext hx))
    replace HI := Lib.hid ((HI.out.ext hx).moved M2 hxs)
    replace HD := Lib.hid ((HD.out.ext hx).step S2 M2)
    clear S2 M2 HT hx
    have HB0 := HB.out
    obtain ⟨gl, g0, g1, g2, g3, g4, g5⟩ := HI.out.all
    have gk := HI.out.blk.frozen 5
    replace HI := Lib.hid (HI.out.at1 ⟨x.day, x.place, x.cause, x.level, x.caught, s1⟩ 5 (by decide) (.int .i64 s1) rfl (fun j hj hne => by rcases six hj with rfl | rfl | rfl | rfl | rfl | rfl <;> first | rfl | exact absurd rfl hne))
    replace HB := Lib.hid (HB.out.set xb 5 (.int .i64 s1))
    replace HD := Lib.hid (HD.out.set (o := 5) hxw (.int .i64 s1))
    obtain ⟨Wb, hWb⟩ : ∃ Wb, Wb = W2.setCell ⟨xb, 5, none⟩ (.int .i64 s1) := ⟨_, rfl⟩
    rw [← hWb] at HI HB HD
    have HX : Hid (IncN ⟨x.day, x.place, x.cause, x.level, x.caught, s1⟩) := ⟨hxn.out.day, hxn.out.ps, hxn.out.cs, hxn.out.lv, hxn.out.ca, hs1⟩
    have rl0 := HB0.lt
    obtain ⟨u0, o0⟩ := HB0.cell (o := 0) (by decide)
    obtain ⟨u1, o1⟩ := HB0.cell (o := 1) (by decide)
    obtain ⟨u2, o2⟩ := HB0.cell (o := 2) (by decide)
    obtain ⟨u3, o3⟩ := HB0.cell (o := 3) (by decide)
    obtain ⟨u4, o4⟩ := HB0.cell (o := 4) (by decide)
    obtain ⟨u5, o5⟩ := HB0.cell (o := 5) (by decide)
    have n0 := HB0.frozen 0
    have n1 := HB0.frozen 1
    have n2 := HB0.frozen 2
    have n3 := HB0.frozen 3
    have n4 := HB0.frozen 4
    have n5 := HB0.frozen 5
    clear HB0
    have HQ := Lib.hid (Dr.set (o := 5) (Dr.set (o := 4) (Dr.set (o := 3) (Dr.set (o := 2) (Dr.set (o := 1) (Dr.set (o := 0) HD.out hrw (.int .i64 ((⟨x.day, x.place, x.cause, x.level, x.caught, s1⟩ : Incident)).day)) hrw (.string ((⟨x.day, x.place, x.cause, x.level, x.caught, s1⟩ : Incident)).place)) hrw (.string ((⟨x.day, x.place, x.cause, x.level, x.caught, s1⟩ : Incident)).cause)) hrw (.int .i64 ((⟨x.day, x.place, x.cause, x.level, x.caught, s1⟩ : Incident)).level)) hrw (.int .i64 ((⟨x.day, x.place, x.cause, x.level, x.caught, s1⟩ : Incident)).caught)) hrw (.int .i64 ((⟨x.day, x.place, x.cause, x.level, x.caught, s1⟩ : Incident)).buried))
    first | rw [hWb] at HQ | skip
    first | clear hWb | skip
    clear HD HI HB
    go_wp2_with fail
    refine bodyPost_ret (v := .agg #[.int .i64 ((⟨x.day, x.place, x.cause, x.level, x.caught, s1⟩ : Incident)).day, .string ((⟨x.day, x.place, x.cause, x.level, x.caught, s1⟩ : Incident)).place, .string ((⟨x.day, x.place, x.cause, x.level, x.caught, s1⟩ : Incident)).cause, .int .i64 ((⟨x.day, x.place, x.cause, x.level, x.caught, s1⟩ : Incident)).level, .int .i64 ((⟨x.day, x.place, x.cause, x.level, x.caught, s1⟩ : Incident)).caught, .int .i64 ((⟨x.day, x.place, x.cause, x.level, x.caught, s1⟩ : Incident)).buried]) (by simp [results, Try.results56, go_sem, o0, o1, o2, o3, o4, o5]) rfl ?_
    refine ⟨(⟨x.day, x.place, x.cause, x.level, x.caught, s1⟩ : Incident), q1 + q2, rfl, HX.out, by omega, ?_, HQ.out.mv⟩
    rw [show n + (q1 + q2) = n + q1 + q2 by omega]
    exact HQ.out.src
  · subst hr
    go_wp2_with fail
    have HT := rows_lit (cell := cellS) (T := 9) W1 #[.string ⟨#[]⟩, .string ⟨#[80]⟩] [⟨#[]⟩, ⟨#[80]⟩] (fun k hk => by rcases (show k = 0 ∨ k = 1 by simp at hk; omega) with rfl | rfl <;> rfl) rfl
    have hx := (Ext.refl W1).alloc (.cells #[.string ⟨#[]⟩, .string ⟨#[80]⟩] 9)
    refine (text_any _ sb a cap code (n + q1) (HD.out.src.ext hx) (by omega) (some ⟨W1.heap.size, 0, none⟩) 2 _ HT (by simp) (by simp) (fun p e => by cases e; have := HD.out.src.lt; show W1.heap.size ≠ sb; omega)).mono ?_
    rintro e W2 ⟨s1, q2, rfl, hs1, hq2, S2, M2⟩
    have hs1 := (show ∀ x ∈ ([⟨#[]⟩, ⟨#[80]⟩] : List ByteArray), x.size ≤ 100 by decide) s1 hs1
    replace HB := Lib.hid (M2.blk (g := rb) hrs (HB.out.ext hx))
    replace HI := Lib.hid ((HI.out.ext hx).moved M2 hxs)
    replace HD := Lib.hid ((HD.out.ext hx).step S2 M2)
    clear S2 M2 HT hx
    have HB0 := HB.out
    obtain ⟨gl, g0, g1, g2, g3, g4, g5⟩ := HI.out.all
    have gk := HI.out.blk.frozen 1
    replace HI := Lib.hid (HI.out.at1 ⟨x.day, s1, x.cause, x.level, x.caught, x.buried⟩ 1 (by decide) (.string s1) rfl (fun j hj hne => by rcases six hj with rfl | rfl | rfl | rfl | rfl | rfl <;> first | rfl | exact absurd rfl hne))
    replace HB := Lib.hid (HB.out.set xb 1 (.string s1))
    replace HD := Lib.hid (HD.out.set (o := 1) hxw (.string s1))
    obtain ⟨Wb, hWb⟩ : ∃ Wb, Wb = W2.setCell ⟨xb, 1, none⟩ (.string s1) := ⟨_, rfl⟩
    rw [← hWb] at HI HB HD
    have HX : Hid (IncN ⟨x.day, s1, x.cause, x.level, x.caught, x.buried⟩) := ⟨hxn.out.day, hs1, hxn.out.cs, hxn.out.lv, hxn.out.ca, hxn.out.bu⟩
    have rl0 := HB0.lt
    obtain ⟨u0, o0⟩ := HB0.cell (o := 0) (by decide)
    obtain ⟨u1, o1⟩ := HB0.cell (o := 1) (by decide)
    obtain ⟨u2, o2⟩ := HB0.cell (o := 2) (by decide)
    obtain ⟨u3, o3⟩ := HB0.cell (o := 3) (by decide)
    obtain ⟨u4, o4⟩ := HB0.cell (o := 4) (by decide)
    obtain ⟨u5, o5⟩ := HB0.cell (o := 5) (by decide)
    have n0 := HB0.frozen 0
    have n1 := HB0.frozen 1
    have n2 := HB0.frozen 2
    have n3 := HB0.frozen 3
    have n4 := HB0.frozen 4
    have n5 := HB0.frozen 5
    clear HB0
    have HQ := Lib.hid (Dr.set (o := 5) (Dr.set (o := 4) (Dr.set (o := 3) (Dr.set (o := 2) (Dr.set (o := 1) (Dr.set (o := 0) HD.out hrw (.int .i64 ((⟨x.day, s1, x.cause, x.level, x.caught, x.buried⟩ : Incident)).day)) hrw (.string ((⟨x.day, s1, x.cause, x.level, x.caught, x.buried⟩ : Incident)).place)) hrw (.string ((⟨x.day, s1, x.cause, x.level, x.caught, x.buried⟩ : Incident)).cause)) hrw (.int .i64 ((⟨x.day, s1, x.cause, x.level, x.caught, x.buried⟩ : Incident)).level)) hrw (.int .i64 ((⟨x.day, s1, x.cause, x.level, x.caught, x.buried⟩ : Incident)).caught)) hrw (.int .i64 ((⟨x.day, s1, x.cause, x.level, x.caught, x.buried⟩ : Incident)).buried))
    first | rw [hWb] at HQ | skip
    first | clear hWb | skip
    clear HD HI HB
    go_wp2_with fail
    refine bodyPost_ret (v := .agg #[.int .i64 ((⟨x.day, s1, x.cause, x.level, x.caught, x.buried⟩ : Incident)).day, .string ((⟨x.day, s1, x.cause, x.level, x.caught, x.buried⟩ : Incident)).place, .string ((⟨x.day, s1, x.cause, x.level, x.caught, x.buried⟩ : Incident)).cause, .int .i64 ((⟨x.day, s1, x.cause, x.level, x.caught, x.buried⟩ : Incident)).level, .int .i64 ((⟨x.day, s1, x.cause, x.level, x.caught, x.buried⟩ : Incident)).caught, .int .i64 ((⟨x.day, s1, x.cause, x.level, x.caught, x.buried⟩ : Incident)).buried]) (by simp [results, Try.results56, go_sem, o0, o1, o2, o3, o4, o5]) rfl ?_
    refine ⟨(⟨x.day, s1, x.cause, x.level, x.caught, x.buried⟩ : Incident), q1 + q2, rfl, HX.out, by omega, ?_, HQ.out.mv⟩
    rw [show n + (q1 + q2) = n + q1 + q2 by omega]
    exact HQ.out.src
  · have HB0 := HB.out
    obtain ⟨gl, g0, g1, g2, g3, g4, g5⟩ := HI.out.all
    have HX := hxn
    have rl0 := HB0.lt
    obtain ⟨u0, o0⟩ := HB0.cell (o := 0) (by decide)
    obtain ⟨u1, o1⟩ := HB0.cell (o := 1) (by decide)
    obtain ⟨u2, o2⟩ := HB0.cell (o := 2) (by decide)
    obtain ⟨u3, o3⟩ := HB0.cell (o := 3) (by decide)
    obtain ⟨u4, o4⟩ := HB0.cell (o := 4) (by decide)
    obtain ⟨u5, o5⟩ := HB0.cell (o := 5) (by decide)
    have n0 := HB0.frozen 0
    have n1 := HB0.frozen 1
    have n2 := HB0.frozen 2
    have n3 := HB0.frozen 3
    have n4 := HB0.frozen 4
    have n5 := HB0.frozen 5
    clear HB0
    have HQ := Lib.hid (Dr.set (o := 5) (Dr.set (o := 4) (Dr.set (o := 3) (Dr.set (o := 2) (Dr.set (o := 1) (Dr.set (o := 0) HD.out hrw (.int .i64 (x).day)) hrw (.string (x).place)) hrw (.string (x).cause)) hrw (.int .i64 (x).level)) hrw (.int .i64 (x).caught)) hrw (.int .i64 (x).buried))
    first | rw [hWb] at HQ | skip
    first | clear hWb | skip
    clear HD HI HB
    go_wp2_with fail
    refine bodyPost_ret (v := .agg #[.int .i64 (x).day, .string (x).place, .string (x).cause, .int .i64 (x).level, .int .i64 (x).caught, .int .i64 (x).buried]) (by simp [results, Try.results56, go_sem, o0, o1, o2, o3, o4, o5]) rfl ?_
    refine ⟨x, q1, rfl, HX.out, by omega, ?_, HQ.out.mv⟩
    rw [show n + (q1) = n + q1 by omega]
    exact HQ.out.src
end Go.Proofs.Ytndkcgiadpdcjaa
