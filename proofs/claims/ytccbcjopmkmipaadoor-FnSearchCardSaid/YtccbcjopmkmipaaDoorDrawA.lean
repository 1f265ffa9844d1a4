/- The areas that the reference draws are valid. -/
import Derived.Test.YtccbcjopmkmipaaDoorSrc
import Derived.Test.YtccbcjopmkmipaaDoorWorth
import Derived.Test.YtccbcjopmkmipaaDoorLst
namespace Go.Proofs.YtccbcjopmkmipaaDoor
open Go.RowKit
theorem Moved.blk {sb : Nat} {w w' : World} (h : Moved sb w w') {g T n : Nat} (hg : g ≠ sb) (hB : Blk w g T n) : Blk w' g T n := by
  obtain ⟨cs, hc, e⟩ := hB
  exact ⟨cs, h.obj g _ hg hc, e⟩
theorem Moved.fresh {sb : Nat} {w w' : World} (h : Moved sb w w') {b o : Nat} (hb : w.heap.size ≤ b) (v : Value) : Moved sb w (w'.setCell ⟨b, o, none⟩ v) := by
  refine ⟨fun w0 h0 he => (h.ext w0 h0 he).setCell (p := ⟨b, o, none⟩) (Nat.le_trans he.size hb) v, by simpa using h.size, fun g x hg hx => ?_⟩
  have hlt : g < w.heap.size := by
    rcases Nat.lt_or_ge g w.heap.size with h1 | h1
    · exact h1
    · rw [Array.getElem?_eq_none h1] at hx; cases hx
  rw [heap_setCell_other w' ⟨b, o, none⟩ g _ (by show g ≠ b; omega)]
  exact h.obj g x hg hx
theorem Moved.more {sb : Nat} {w w' w'' : World} (h : Moved sb w w') (he : Ext w' w'') : Moved sb w w'' := h.trans (Moved.grow he)
theorem Src.other {w0 w : World} {sb : Nat} {a : Option Addr} {cap : Nat} {code : List Int} {n : Nat} (h : Src w sb a cap code n) (h0 : ByteAt w0 a code) {b o : Nat} (hb : w0.heap.size ≤ b) (hne : b ≠ sb) (v : Value) : Src (w.setCell ⟨b, o, none⟩ v) sb a cap code n := by
  refine ⟨h.blk.set _ _ _, ?_, ?_, ?_, ?_, h.range, h.few, h.apart⟩
  · rw [cell_other _ (by omega)]; exact h.c0
  · rw [cell_other _ (by omega)]; exact h.c1
  · obtain ⟨sd, h1, h2⟩ := h.c2
    exact ⟨sd, by rw [cell_other _ (by omega)]; exact h1, h2⟩
  · intro k hk
    obtain ⟨b1, o1, e1, hb1, -⟩ := h0 k hk
    obtain ⟨b2, o2, e2, hb2, hc2⟩ := h.bytes k hk
    rw [e1] at e2
    simp only [Option.some.injEq, Addr.mk.injEq, and_true] at e2
    obtain ⟨rfl, rfl⟩ := e2
    exact ⟨b1, o1, e1, by simpa using hb2, fun q hq => by rw [cell_other _ (by omega)]; exact hc2 q hq⟩
set_option maxRecDepth 100000 in
set_option maxHeartbeats 4000000 in
theorem l25DrawOne_any (w : World) (sb : Nat) (a : Option Addr) (cap : Nat) (code : List Int) (n : Nat) (H : Src w sb a cap code n) (hn : n ≤ 800000000) (name : ByteArray) :
    Calls Tryd.prog 33 #[.pointer (some ⟨sb, 0, none⟩), .string name] w fun e w' => ∃ (c m : Int) (k : Nat), e = .returned (.agg #[.string name, .int .i64 c, .int .i64 m]) ∧ 0 ≤ c ∧ c ≤ 190 ∧ 3 ≤ m ∧ m ≤ 32 ∧ k ≤ 4 ∧ Src w' sb a cap code (n + k) ∧ Moved sb w w' := by
  have HS := Lib.hid H
  have hlt := H.lt
  have hby := Lib.hid H.bytes
  clear H
  have hB := Lib.hid (Blk.new w #[.string ⟨#[]⟩, .int .i64 0, .int .i64 0] 37)
  go_enter Tryd.func33, Tryd.ntmps33
  go_wp2_with fail
  refine (pick_any _ sb a cap code n (HS.out.ext (by repeat (first | exact Ext.refl _ | refine Ext.lift ?_ _ | refine Ext.alloc ?_ _))) (by omega) 20 (by omega)).mono ?_
  rintro e W1 ⟨r1, k1, rfl, p0, p1, hk1, S1, M1⟩
  have p1 := p1 (by omega)
  have S1 := Lib.hid S1
  have hB1 := Lib.hid (M1.blk (g := w.heap.size) (by omega) hB.out)
  have M1 := Lib.hid ((Moved.grow ((Ext.refl w).alloc _)).trans M1)
  have hr1 := hB1.out.lt
  have hs1 := S1.out.lt
  clear HS hB
  go_wp2_with fail
  refine (pick_any _ sb a cap code (n + k1) (S1.out.ext (by repeat (first | with_reducible exact Ext.refl _ | with_reducible refine Ext.lift ?_ _ | with_reducible refine Ext.alloc ?_ _ | with_reducible refine Ext.setCell ?_ (by first | (simp; done) | (simp; omega) | omega) _ | with_reducible refine ext_setCells (by first | (simp; done) | (simp; omega) | omega) _ _ _ ?_))) (by omega) 30 (by omega)).mono ?_
  rintro e W2 ⟨r2, k2, rfl, p2, p3, hk2, S2, M2⟩
  have p3 := p3 (by omega)
  have S2 := Lib.hid S2
  have x0 := M2.cell (p := ⟨W1.heap.size, 0, none⟩) (v := .string name) (by show W1.heap.size ≠ sb; omega) (by go_simp)
  have x1 := M2.cell (p := ⟨W1.heap.size, 1, none⟩) (v := .int .i64 (10 * r1)) (by show W1.heap.size ≠ sb; omega) (by go_simp)
  have x2 := M2.cell (p := ⟨W1.heap.size, 2, none⟩) (v := .int .i64 0) (by show W1.heap.size ≠ sb; omega) (by go_simp)
  have hBx := M2.blk (g := W1.heap.size) (T := 37) (n := 3) (by omega) (by repeat (first | exact Blk.new _ _ _ | refine Blk.set ?_ _ _ _))
  have hB2 := M2.blk (g := w.heap.size) (T := 37) (n := 3) (by omega) (by repeat (first | exact hB1.out.ext ((Ext.refl _).alloc _) | refine Blk.set ?_ _ _ _))
  have M3 := Lib.hid ((M1.out.more ((Ext.refl _).alloc _)).trans M2)
  have hne1 : ¬ W1.heap.size = w.heap.size := by omega
  have hne2 : ¬ w.heap.size = W1.heap.size := by omega
  have fx := hBx.frozen 2
  have f0 := hB2.frozen 0
  have f1 := hB2.frozen 1
  have f2 := hB2.frozen 2
  have lx := hBx.lt
  have lr := hB2.lt
  have hBx := Lib.hid hBx
  have hB2 := Lib.hid hB2
  obtain ⟨u0, d0⟩ := hB2.out.cell (o := 0) (by decide)
  obtain ⟨u1, d1⟩ := hB2.out.cell (o := 1) (by decide)
  obtain ⟨u2, d2⟩ := hB2.out.cell (o := 2) (by decide)
  clear M2
  go_wp2_with fail
  exact bodyPost_ret (v := .agg #[.string name, .int .i64 (10 * r1), .int .i64 (3 + r2)]) (by simp [results, Tryd.results33, go_sem, d0, d1, d2]) rfl ⟨_, _, k1 + k2, rfl, by omega, by omega, by omega, by omega, by omega, by
    rw [← Nat.add_assoc]
    have q := S2.out
    repeat (first | exact q | refine Src.other ?_ hby.out (by first | exact Nat.le_refl _ | exact M1.out.size) (by omega) _), by
    have q := M3.out
    repeat (first | exact q | refine Moved.fresh ?_ (by first | exact Nat.le_refl _ | exact M1.out.size) _)⟩
theorem Lst.moved {α : Type} {T n : Nat} {cell : α → Nat → Value} {sb base : Nat} {w w' : World} {v : Value} {l : List α} (h : Lst T n cell w base v l) (hm : Moved sb w w') (hb : sb < base) : Lst T n cell w' base v l := by
  refine ⟨h.1, ?_⟩
  rcases h.2 with h2 | ⟨g, cap, cur, hv, hg, hh, r⟩
  · exact .inl h2
  · exact .inr ⟨g, cap, cur, hv, hg, hm.obj g _ (by omega) hh, r⟩
theorem Moved.grown {sb : Nat} {w w2 w3 : World} {row : Option Nat} (h : Moved sb w w2) (hg : w2.grownBy w3 row) (hr : ∀ k, row = some k → w.heap.size ≤ k) : Moved sb w w3 := by
  refine ⟨fun w0 h0 he => (h.ext w0 h0 he).grown hg (fun k hk => Nat.le_trans he.size (hr k hk)), Nat.le_trans h.size hg.size, fun g x hn hx => ?_⟩
  have hlt : g < w.heap.size := by
    rcases Nat.lt_or_ge g w.heap.size with h1 | h1
    · exact h1
    · rw [Array.getElem?_eq_none h1] at hx; cases hx
  rw [hg.block g (Nat.lt_of_lt_of_le hlt h.size) (fun e => by have := hr g e.symm; omega)]
  exact h.obj g x hn hx
theorem Src.grown {w w' : World} {sb : Nat} {a : Option Addr} {cap : Nat} {code : List Int} {n : Nat} {row : Option Nat} {base : Nat} {w0 : World} (h : Src w sb a cap code n) (hg : w.grownBy w' row) (hr : ∀ g, row = some g → base ≤ g) (hb : sb < base) (h0 : ByteAt w0 a code) (hw : w0.heap.size ≤ base) : Src w' sb a cap code n := by
  have hne : row ≠ some sb := fun e => by have := hr _ e; omega
  refine ⟨h.blk.grown hg hne, cell_grown h.c0 hg hne, cell_grown h.c1 hg hne, ?_, ?_, h.range, h.few, h.apart⟩
  · obtain ⟨sd, h1, h2⟩ := h.c2
    exact ⟨sd, cell_grown h1 hg hne, h2⟩
  · intro k hk
    obtain ⟨b1, o1, e1, hb1, -⟩ := h0 k hk
    obtain ⟨b2, o2, e2, hb2, hc2⟩ := h.bytes k hk
    rw [e1] at e2
    simp only [Option.some.injEq, Addr.mk.injEq, and_true] at e2
    obtain ⟨rfl, rfl⟩ := e2
    exact ⟨b1, o1, e1, Nat.lt_of_lt_of_le hb2 hg.size, fun q hq => cell_grown (hc2 q hq) hg (fun e => by have := hr _ e; omega)⟩
def nmA (i : Nat) : ByteArray := match i with
  | 0 => ⟨#[97, 97]⟩
  | 1 => ⟨#[97, 98]⟩
  | 2 => ⟨#[97, 99]⟩
  | 3 => ⟨#[97, 100]⟩
  | _ => ⟨#[97, 101]⟩
theorem nat5 {k : Nat} (h : k < 5) : k = 0 ∨ k = 1 ∨ k = 2 ∨ k = 3 ∨ k = 4 := by omega
theorem nm_lt {i k : Nat} (h : i < k) (hk : k < 5) : sLt (nmA i) (nmA k) = true := by
  rcases nat5 hk with rfl | rfl | rfl | rfl | rfl <;> rcases nat5 (Nat.lt_trans h hk) with rfl | rfl | rfl | rfl | rfl <;> first | omega | kernel_rfl
theorem nm_name {k : Nat} (hk : k < 5) : nameB (nmA k) = true := by
  rcases nat5 hk with rfl | rfl | rfl | rfl | rfl <;> kernel_rfl
/-- What is drawn of the first k names. -/
structure Drawn (l : List Area) (k : Nat) : Prop where
  len : l.length ≤ k
  each : ∀ j, j < l.length → areaB (nth l j) = true ∧ (nth l j).chance ≤ 190 ∧ ∃ i, i < k ∧ (nth l j).id = nmA i
  up : ∀ j, 0 < j → j < l.length → sLt (nth l (j - 1)).id (nth l j).id = true
  short : ∀ j, j < l.length → (nth l j).minutes ≤ 32
theorem Drawn.nil : Drawn [] 0 := ⟨Nat.le_refl _, fun _ h => absurd h (Nat.not_lt_zero _), fun _ _ h => absurd h (Nat.not_lt_zero _), fun _ h => absurd h (Nat.not_lt_zero _)⟩
theorem Drawn.more {l : List Area} {k : Nat} (h : Drawn l k) : Drawn l (k + 1) :=
  ⟨Nat.le_succ_of_le h.len, fun j hj => by obtain ⟨h1, h2, i, hi, e⟩ := h.each j hj; exact ⟨h1, h2, i, by omega, e⟩, h.up, h.short⟩
theorem nthA_pre {l : List Area} {x : Area} {j : Nat} (h : j < l.length) : nth (l ++ [x]) j = nth l j := by simp [nth, List.getElem?_append_left h]
theorem nthA_last {l : List Area} {x : Area} : nth (l ++ [x]) l.length = x := by simp [nth]
theorem Drawn.push {l : List Area} {k : Nat} (h : Drawn l k) (hk : k < 5) {c m : Int} (c0 : 0 ≤ c) (c1 : c ≤ 190) (m0 : 3 ≤ m) (m1 : m ≤ 32) : Drawn (l ++ [⟨nmA k, c, m⟩]) (k + 1) := by
  refine ⟨by rw [List.length_append]; simp only [List.length_cons, List.length_nil]; have := h.len; omega, fun j hj => ?_, fun j h0 hj => ?_, fun j hj => ?_⟩
  · rw [List.length_append] at hj; simp only [List.length_cons, List.length_nil] at hj
    rcases Nat.lt_or_ge j l.length with h1 | h1
    · rw [nthA_pre h1]
      obtain ⟨g1, g2, i, hi, e⟩ := h.each j h1
      exact ⟨g1, g2, i, by omega, e⟩
    · obtain rfl : j = l.length := by omega
      rw [nthA_last]
      refine ⟨?_, c1, k, Nat.lt_succ_self k, rfl⟩
      unfold areaB
      rw [nm_name hk, inB_iff.2 ⟨c0, by show c ≤ 1000; omega⟩, inB_iff.2 ⟨by show 1 ≤ m; omega, by show m ≤ 600; omega⟩]; rfl
  · rw [List.length_append] at hj; simp only [List.length_cons, List.length_nil] at hj
    rcases Nat.lt_or_ge j l.length with h1 | h1
    · rw [nthA_pre h1, nthA_pre (by omega)]; exact h.up j h0 h1
    · obtain rfl : j = l.length := by omega
      rw [nthA_last, nthA_pre (by omega)]
      obtain ⟨-, -, i, hi, e⟩ := h.each (l.length - 1) (by omega)
      rw [e]; exact nm_lt hi hk
  · rw [List.length_append] at hj; simp only [List.length_cons, List.length_nil] at hj
    rcases Nat.lt_or_ge j l.length with h1 | h1
    · rw [nthA_pre h1]; exact h.short j h1
    · obtain rfl : j = l.length := by omega
      rw [nthA_last]; exact m1
theorem Drawn.sum {l : List Area} {k : Nat} (h : Drawn l k) : ∀ {i : Nat}, i ≤ l.length → 0 ≤ sumTo l i ∧ sumTo l i ≤ 190 * i
  | 0, _ => by simp [sumTo]
  | i + 1, hi => by
    have := h.sum (i := i) (by omega)
    have h1 := h.each i (by omega)
    have := areaB_parts h1.1
    rw [sumTo_succ l i (by omega)]; omega
theorem Drawn.valid {l : List Area} (h : Drawn l 5) : validAreas l = true := by
  have h5 := h.len
  have hs := h.sum (Nat.le_refl _)
  rw [validAreas_end (fun j hj => ?_), decide_eq_true (by omega), decide_eq_true (by omega)]; rfl
  rcases Nat.eq_zero_or_pos j with h0 | h0
  · exact okAt_true0 (h.each j hj).1 h0
  · exact okAt_true1 (h.each j hj).1 (h.up j h0 hj)
theorem Drawn.small {l : List Area} {k : Nat} (h : Drawn l k) : ∀ j, j < l.length → (nth l j).Small := fun j hj => by
  obtain ⟨-, -, i, -, e⟩ := h.each j hj
  unfold Area.Small
  rw [e]
  have : (nmA i).size = 2 := by unfold nmA; split <;> rfl
  omega
end Go.Proofs.YtccbcjopmkmipaaDoor
