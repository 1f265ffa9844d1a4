/- Chapter 28: CalmDays of the program. -/
import Derived.Test.YtndkcgiadpdcjaaCalmB
namespace Go.Proofs.Ytndkcgiadpdcjaa
open Go.RowKit
/-- Three boxes: the best day, the greatest number, the start. -/
structure CD (w0 W : World) (g : Nat) (b m s : Int) : Prop where
  ext : Ext w0 W
  low : w0.heap.size ≤ g
  o0 : Objt W g 2 1 (fun _ => .int .i64 b)
  o1 : Objt W (g + 1) 2 1 (fun _ => .int .i64 m)
  o2 : Objt W (g + 2) 2 1 (fun _ => .int .i64 s)
theorem objt_set1 {W : World} {g T : Nat} {x y : Int} (h : Objt W g T 1 (fun _ => .int .i64 x)) : Objt (W.setCell ⟨g, 0, none⟩ (.int .i64 y)) g T 1 (fun _ => .int .i64 y) :=
  h.set 0 _ (by decide) rfl (fun j hj hne => absurd hj (by omega))
theorem objt_setN {W : World} {g b T n : Nat} {f : Nat → Value} (h : Objt W g T n f) (hb : b ≠ g) (u : Value) : Objt (W.setCell ⟨b, 0, none⟩ u) g T n f :=
  ⟨h.blk.set b 0 u, fun j hj => by rw [cell_other _ (by omega)]; exact h.cell j hj⟩
section
variable {w0 W W' : World} {g : Nat} {b m s : Int}
theorem CD.grow (h : CD w0 W g b m s) (he : Ext W W') : CD w0 W' g b m s := ⟨h.ext.trans he, h.low, h.o0.ext he, h.o1.ext he, h.o2.ext he⟩
theorem CD.setS (h : CD w0 W g b m s) (x : Int) : CD w0 (W.setCell ⟨g + 2, 0, none⟩ (.int .i64 x)) g b m x :=
  ⟨h.ext.setCell (p := ⟨g + 2, 0, none⟩) (by have := h.low; show w0.heap.size ≤ g + 2; omega) _, h.low, objt_setN h.o0 (by omega) _, objt_setN h.o1 (by omega) _, objt_set1 h.o2⟩
theorem CD.setM (h : CD w0 W g b m s) (x : Int) : CD w0 (W.setCell ⟨g + 1, 0, none⟩ (.int .i64 x)) g b x s :=
  ⟨h.ext.setCell (p := ⟨g + 1, 0, none⟩) (by have := h.low; show w0.heap.size ≤ g + 1; omega) _, h.low, objt_setN h.o0 (by omega) _, objt_set1 h.o1, objt_setN h.o2 (by omega) _⟩
theorem CD.setB (h : CD w0 W g b m s) (x : Int) : CD w0 (W.setCell ⟨g, 0, none⟩ (.int .i64 x)) g x m s :=
  ⟨h.ext.setCell (p := ⟨g, 0, none⟩) h.low _, h.low, objt_set1 h.o0, objt_setN h.o1 (by omega) _, objt_setN h.o2 (by omega) _⟩
end
set_option maxRecDepth 100000 in
set_option maxHeartbeats 4000000 in
theorem calmClo_any (w0 w : World) (g : Nat) (b m s e : Int) (h : CD w0 w g b m s) (h0 : 0 ≤ s) (h1 : s ≤ 100000) (h2 : 0 ≤ e) (h3 : e ≤ 100000) :
    Calls Try.prog 43 #[.int .i64 e, .pointer (some ⟨g + 2, 0, none⟩), .pointer (some ⟨g + 1, 0, none⟩), .pointer (some ⟨g, 0, none⟩)] w fun r w' => r = .returned (.tuple #[]) ∧ ∃ b' m', CD w0 w' g b' m' (e + 1) ∧ (b' = b ∧ m' = m ∨ b' = s ∧ m' = e - s ∧ m < e - s) := by
  have C := Lib.hid h
  clear h
  have hg0 := C.out.o0.blk.lt
  have hg1 := C.out.o1.blk.lt
  have hg2 := C.out.o2.blk.lt
  have c0 := C.out.o0.cell 0 (by decide)
  have c1 := C.out.o1.cell 0 (by decide)
  have c2 := C.out.o2.cell 0 (by decide)
  have f0 := C.out.o0.blk.frozen 0
  have f1 := C.out.o1.blk.frozen 0
  have f2 := C.out.o2.blk.frozen 0
  by_cases hgt : m < e - s
  · go_enter Try.func43, Try.ntmps43
    go_wp2_with fail
    have E := Lib.hid ((((C.out.grow ((Ext.refl w).drew)).setB s).setM (e - s)).setS (e + 1))
    go_region_law (fail)
    all_goals (go_wp2_with fail; (try simp only [Exit.inBlock, Exit.then]); first | refine bodyPost_ret (results_none rfl _ _ _) rfl ?_ | refine bodyPost_end (results_none rfl _ _ _) rfl ?_)
    all_goals exact ⟨rfl, s, e - s, E.out, .inr ⟨rfl, rfl, hgt⟩⟩
  · have C2 := Lib.hid (C.out.setS (e + 1))
    go_enter Try.func43, Try.ntmps43
    go_wp2_with fail
    (try simp only [Exit.inBlock, Exit.then])
    first | refine bodyPost_ret (results_none rfl _ _ _) rfl ?_ | refine bodyPost_end (results_none rfl _ _ _) rfl ?_
    exact ⟨rfl, b, m, C2.out, .inl ⟨rfl, rfl⟩⟩
end Go.Proofs.Ytndkcgiadpdcjaa
