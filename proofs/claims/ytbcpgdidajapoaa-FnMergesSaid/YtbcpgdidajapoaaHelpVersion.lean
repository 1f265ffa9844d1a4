/- The law's own helpers on the type Version, and how one reads. -/
import Derived.Test.YtbcpgdidajapoaaVersion
import Derived.Test.YtbcpgdidajapoaaHelpSetting
namespace Go.Proofs.Ytbcpgdidajapoaa
open Go.RowKit
set_option maxRecDepth 100000 in
set_option maxHeartbeats 2000000 in
theorem szVersion_any (x : Version) (left : Int) (w : World) (hs : x.Sz) (hin : x.In w) (h0 : 0 ≤ left) (h1 : left ≤ 1000000000000) :
    Calls Try.prog 23 #[.agg #[.int .i64 x.number, .int .i64 x.parent, .string x.memo, .slice x.addr x.state.length x.cap], .int .i64 left] w fun e w' => ∃ r : Int, e = .returned (.int .i64 r) ∧ Ext w w' ∧ -1 ≤ r ∧ r ≤ left ∧ (0 ≤ r → ((x.memo.size : Int) ≤ left) ∧ r + (x.state.length : Int) ≤ left ∧ ∀ k, k < x.state.length → (((nth x.state k).name.size : Int) ≤ left)) := by
  obtain ⟨s1, s2, s3, s4⟩ := hs
  have HS : Hid (SettingAt w x.addr x.state) := hin
  have HZ := Lib.hid s2
  clear hin s2
  by_cases hl : left - x.memo.size < 0
  · go_enter Try.func23, Try.ntmps23
    go_wp2_with fail
    go_ret
    exact ⟨-1, rfl, (by repeat (first | exact Ext.refl _ | refine Ext.lift ?_ _ | refine Ext.alloc ?_ _)), by omega, by omega, fun h => absurd h (by omega)⟩
  · go_enter Try.func23, Try.ntmps23
    go_wp2_with fail
    refine (szSettingS_any _ _ x.state _ _ (HS.out.ext (by repeat (first | exact Ext.refl _ | refine Ext.lift ?_ _ | refine Ext.alloc ?_ _))) HZ.out s3 (by omega) (by omega)).mono ?_
    rintro e w' ⟨r, rfl, ⟨y, rfl⟩, r0, r1, hr⟩
    have HR := Lib.hid hr
    clear hr
    by_cases hneg : r < 0
    · go_wp2_with fail
      go_ret
      exact ⟨-1, rfl, (by repeat (first | exact Ext.refl _ | refine Ext.lift ?_ _ | refine Ext.alloc ?_ _)), by omega, by omega, fun h => absurd h (by omega)⟩
    · go_wp2_with fail
      go_ret
      exact ⟨r, rfl, (by repeat (first | exact Ext.refl _ | refine Ext.lift ?_ _ | refine Ext.alloc ?_ _)), by omega, by omega, fun h => by
        obtain ⟨a, b⟩ := HR.out h
        exact ⟨by omega, by omega, fun k hk => by have := b k hk; omega⟩⟩
set_option maxRecDepth 100000 in
set_option maxHeartbeats 2000000 in
theorem toVersion_any (x : Version) (w : World) (hin : x.In w) (hn : x.state.length ≤ 1048576) :
    Calls Try.prog 31 #[.agg #[.int .i64 x.number, .int .i64 x.parent, .string x.memo, .slice x.addr x.state.length x.cap]] w fun e w' => ∃ g, e = .returned (.agg #[.int .i64 x.number, .int .i64 x.parent, .string x.memo, .slice (some ⟨g, 0, none⟩) x.state.length x.state.length]) ∧ w.heap.size ≤ g ∧ g < w'.heap.size ∧ SettingAt w' (some ⟨g, 0, none⟩) x.state ∧ Blk w' g 74 (x.state.length * 2) ∧ Ext w w' := by
  have HS : Hid (SettingAt w x.addr x.state) := hin
  clear hin
  go_enter Try.func31, Try.ntmps31
  go_wp2_with fail
  refine (toSettingS_any _ _ x.state _ (HS.out.ext (by repeat (first | exact Ext.refl _ | refine Ext.lift ?_ _ | refine Ext.alloc ?_ _ | refine Ext.setCell ?_ (by simp) _))) hn).mono ?_
  rintro e w' ⟨g, rfl, g0, g1, A, B, y, rfl⟩
  obtain ⟨W, hW⟩ : ∃ W, W = (((w.alloc (.cells #[.int .i64 x.number, .int .i64 x.parent, .string x.memo, .slice x.addr x.state.length x.cap] 51)).alloc (.cells #[.int .i64 0, .int .i64 0, .string ⟨#[]⟩, .slice none 0 0] 58)).alloc (.cells #[.int .i64 x.number, .int .i64 x.parent, .string x.memo, .slice none 0 0] 58)) := ⟨_, rfl⟩
  rw [← hW] at A B g0 g1 ⊢
  have hs : W.heap.size = w.heap.size + 3 := by rw [hW]; simp only [size_new]
  have b1 : Blk (lift W y) (w.heap.size + 1) 58 4 := by
    rw [hW]
    have := ((Blk.new (w.alloc (.cells #[.int .i64 x.number, .int .i64 x.parent, .string x.memo, .slice x.addr x.state.length x.cap] 51)) #[.int .i64 0, .int .i64 0, .string ⟨#[]⟩, .slice none 0 0] 58).ext (((Ext.refl _).alloc (.cells #[.int .i64 x.number, .int .i64 x.parent, .string x.memo, .slice none 0 0] 58)).lift y))
    rwa [size_new] at this
  have b2 : Blk (lift W y) (w.heap.size + 1 + 1) 58 4 := by
    rw [hW]
    have := ((Blk.new ((w.alloc (.cells #[.int .i64 x.number, .int .i64 x.parent, .string x.memo, .slice x.addr x.state.length x.cap] 51)).alloc (.cells #[.int .i64 0, .int .i64 0, .string ⟨#[]⟩, .slice none 0 0] 58)) #[.int .i64 x.number, .int .i64 x.parent, .string x.memo, .slice none 0 0] 58).ext ((Ext.refl _).lift y))
    rwa [size_new, size_new] at this
  have k0 : (lift W y).cell? ⟨w.heap.size + 1 + 1, 0, none⟩ = some (.int .i64 x.number) := by
    refine ((Ext.refl W).lift y).cell ?_
    rw [hW, ← size_new w (.cells #[.int .i64 x.number, .int .i64 x.parent, .string x.memo, .slice x.addr x.state.length x.cap] 51), ← size_new (w.alloc (.cells #[.int .i64 x.number, .int .i64 x.parent, .string x.memo, .slice x.addr x.state.length x.cap] 51)) (.cells #[.int .i64 0, .int .i64 0, .string ⟨#[]⟩, .slice none 0 0] 58), cell_new]; rfl
  have k1 : (lift W y).cell? ⟨w.heap.size + 1 + 1, 1, none⟩ = some (.int .i64 x.parent) := by
    refine ((Ext.refl W).lift y).cell ?_
    rw [hW, ← size_new w (.cells #[.int .i64 x.number, .int .i64 x.parent, .string x.memo, .slice x.addr x.state.length x.cap] 51), ← size_new (w.alloc (.cells #[.int .i64 x.number, .int .i64 x.parent, .string x.memo, .slice x.addr x.state.length x.cap] 51)) (.cells #[.int .i64 0, .int .i64 0, .string ⟨#[]⟩, .slice none 0 0] 58), cell_new]; rfl
  have k2 : (lift W y).cell? ⟨w.heap.size + 1 + 1, 2, none⟩ = some (.string x.memo) := by
    refine ((Ext.refl W).lift y).cell ?_
    rw [hW, ← size_new w (.cells #[.int .i64 x.number, .int .i64 x.parent, .string x.memo, .slice x.addr x.state.length x.cap] 51), ← size_new (w.alloc (.cells #[.int .i64 x.number, .int .i64 x.parent, .string x.memo, .slice x.addr x.state.length x.cap] 51)) (.cells #[.int .i64 0, .int .i64 0, .string ⟨#[]⟩, .slice none 0 0] 58), cell_new]; rfl
  have k3 : (lift W y).cell? ⟨w.heap.size + 1 + 1, 3, none⟩ = some (.slice none 0 0) := by
    refine ((Ext.refl W).lift y).cell ?_
    rw [hW, ← size_new w (.cells #[.int .i64 x.number, .int .i64 x.parent, .string x.memo, .slice x.addr x.state.length x.cap] 51), ← size_new (w.alloc (.cells #[.int .i64 x.number, .int .i64 x.parent, .string x.memo, .slice x.addr x.state.length x.cap] 51)) (.cells #[.int .i64 0, .int .i64 0, .string ⟨#[]⟩, .slice none 0 0] 58), cell_new]; rfl
  have f3 := b2.frozen 3
  have g0' := b1.frozen 0
  obtain ⟨u0, o0⟩ := b1.cell (o := 0) (by omega)
  have g1' := b1.frozen 1
  obtain ⟨u1, o1⟩ := b1.cell (o := 1) (by omega)
  have g2' := b1.frozen 2
  obtain ⟨u2, o2⟩ := b1.cell (o := 2) (by omega)
  have g3' := b1.frozen 3
  obtain ⟨u3, o3⟩ := b1.cell (o := 3) (by omega)
  have hg : w.heap.size + 3 ≤ g := by omega
  have hgl := g1
  have T1 : Ext w (lift W y) := by rw [hW]; exact (by repeat (first | exact Ext.refl _ | refine Ext.lift ?_ _ | refine Ext.alloc ?_ _))
  obtain ⟨X, hX⟩ : ∃ X, X = lift W y := ⟨_, rfl⟩
  rw [← hX] at A B b1 b2 k0 k1 k2 k3 f3 g0' g1' g2' g3' o0 o1 o2 o3 T1 hgl ⊢
  have hXs : w.heap.size + 1 + 1 < X.heap.size := b2.lt
  clear hW hX
  have hc : Chg (some ⟨w.heap.size + 1, 0, none⟩) (X.setCell ⟨w.heap.size + 1 + 1, 3, none⟩ (.slice (some ⟨g, 0, none⟩) x.state.length x.state.length)) ((X.setCell ⟨w.heap.size + 1 + 1, 3, none⟩ (.slice (some ⟨g, 0, none⟩) x.state.length x.state.length)).setCells (w.heap.size + 1) 0 [.int .i64 x.number, .int .i64 x.parent, .string x.memo, .slice (some ⟨g, 0, none⟩) x.state.length x.state.length]) := ((((Chg.refl _ _).setc 0 _).setc 1 _).setc 2 _).setc 3 _
  have A2 : SettingAt ((X.setCell ⟨w.heap.size + 1 + 1, 3, none⟩ (.slice (some ⟨g, 0, none⟩) x.state.length x.state.length)).setCells (w.heap.size + 1) 0 [.int .i64 x.number, .int .i64 x.parent, .string x.memo, .slice (some ⟨g, 0, none⟩) x.state.length x.state.length]) (some ⟨g, 0, none⟩) x.state :=
    (A.chg (Chg.set X (w.heap.size + 1 + 1) 0 3 _) (fun g1 o s g2 o2 s2 e1 e2 => by simp only [Option.some.injEq, Addr.mk.injEq] at e1 e2; omega)).chg hc (fun g1 o s g2 o2 s2 e1 e2 => by simp only [Option.some.injEq, Addr.mk.injEq] at e1 e2; omega)
  have B2 : Blk ((X.setCell ⟨w.heap.size + 1 + 1, 3, none⟩ (.slice (some ⟨g, 0, none⟩) x.state.length x.state.length)).setCells (w.heap.size + 1) 0 [.int .i64 x.number, .int .i64 x.parent, .string x.memo, .slice (some ⟨g, 0, none⟩) x.state.length x.state.length]) g 74 (x.state.length * 2) := (B.set _ _ _).setCells _ _ _
  have T2 : Ext w ((X.setCell ⟨w.heap.size + 1 + 1, 3, none⟩ (.slice (some ⟨g, 0, none⟩) x.state.length x.state.length)).setCells (w.heap.size + 1) 0 [.int .i64 x.number, .int .i64 x.parent, .string x.memo, .slice (some ⟨g, 0, none⟩) x.state.length x.state.length]) :=
    ext_setCells (g := w.heap.size + 1) (by omega) _ _ _ (T1.setCell (p := ⟨w.heap.size + 1 + 1, 3, none⟩) (by show _ ≤ w.heap.size + 1 + 1; omega) _)
  have R2 : ∀ j, (h : j < 4) → ((X.setCell ⟨w.heap.size + 1 + 1, 3, none⟩ (.slice (some ⟨g, 0, none⟩) x.state.length x.state.length)).setCells (w.heap.size + 1) 0 [.int .i64 x.number, .int .i64 x.parent, .string x.memo, .slice (some ⟨g, 0, none⟩) x.state.length x.state.length]).cell? ⟨w.heap.size + 1, 0 + j, none⟩ = some ([.int .i64 x.number, .int .i64 x.parent, .string x.memo, .slice (some ⟨g, 0, none⟩) x.state.length x.state.length][j]) := fun j h =>
    World.cell?_setCells_in (w.heap.size + 1) [.int .i64 x.number, .int .i64 x.parent, .string x.memo, .slice (some ⟨g, 0, none⟩) x.state.length x.state.length] 0 (X.setCell ⟨w.heap.size + 1 + 1, 3, none⟩ (.slice (some ⟨g, 0, none⟩) x.state.length x.state.length)) (fun j' hj' => by obtain ⟨u, hu⟩ := (b1.set (w.heap.size + 1 + 1) 3 (.slice (some ⟨g, 0, none⟩) x.state.length x.state.length)).cell (o := 0 + j') (by simp at hj'; omega); rw [hu]; rfl) j h
  have r0 := Lib.hid (R2 0 (by omega))
  have r1 := Lib.hid (R2 1 (by omega))
  have r2 := Lib.hid (R2 2 (by omega))
  have r3 := Lib.hid (R2 3 (by omega))
  clear R2
  have hF : Hid (SettingAt _ (some ⟨g, 0, none⟩) x.state ∧ Blk _ g 74 (x.state.length * 2) ∧ Ext w _) := ⟨A2, B2, T2⟩
  clear A B b1 b2 T1 hc A2 B2 T2 HS
  go_wp2_with fail
  refine bodyPost_ret (v := .agg #[.int .i64 x.number, .int .i64 x.parent, .string x.memo, .slice (some ⟨g, 0, none⟩) x.state.length x.state.length]) (by
    have r0 := r0.out
    have r1 := r1.out
    have r2 := r2.out
    have r3 := r3.out
    simp only [World.setCells, Nat.zero_add, Nat.reduceAdd, List.getElem_cons_zero, List.getElem_cons_succ, Nat.add_zero] at r0 r1 r2 r3
    simp [results, Try.results31, go_sem, r0, r1, r2, r3]) rfl ⟨g, rfl, by omega, hF.out.2.1.lt, hF.out.1, hF.out.2.1, hF.out.2.2⟩
set_option maxRecDepth 100000 in
set_option maxHeartbeats 2000000 in
theorem eqVersion_same (x y : Version) (w : World) (h : x.Same y) (hx : x.In w) (hy : y.In w) (hn : x.state.length ≤ 9223372036854775807) :
    Gives Try.prog 37 #[.agg #[.int .i64 x.number, .int .i64 x.parent, .string x.memo, .slice x.addr x.state.length x.cap], .agg #[.int .i64 y.number, .int .i64 y.parent, .string y.memo, .slice y.addr y.state.length y.cap]] w (.bool true) := by
  unfold Gives
  obtain ⟨n, p, m, a, c, s⟩ := x
  obtain ⟨n2, p2, m2, a2, c2, s2⟩ := y
  obtain ⟨h1, h2, h3, h4⟩ := h
  dsimp only at h1 h2 h3 h4 hn
  subst h1 h2 h3 h4
  have HX : Hid (SettingAt w a s) := hx
  have HY : Hid (SettingAt w a2 s) := hy
  have hs : sEq m m = true := sEq_iff.2 rfl
  clear hx hy
  go_enter Try.func37, Try.ntmps37
  go_wp2_with fail
  refine (eqSettingS_same _ _ _ _ s _ (HX.out.ext (by repeat (first | exact Ext.refl _ | refine Ext.lift ?_ _ | refine Ext.alloc ?_ _))) (HY.out.ext (by repeat (first | exact Ext.refl _ | refine Ext.lift ?_ _ | refine Ext.alloc ?_ _))) hn).mono ?_
  rintro e w' ⟨rfl, z, rfl⟩
  go_wp2_with fail
  go_ret
  exact ⟨rfl, (by repeat (first | exact Ext.refl _ | refine Ext.lift ?_ _ | refine Ext.alloc ?_ _))⟩
open Go.ChangeShapes Go.WideShapes Go.ChangeAt
open Go.ChangeMaps (open_string shut_string)
set_option maxRecDepth 100000 in
theorem Version.el {H : Type} {enc : TypeId × Value → H} {W : World} {base : Nat} {spare : Nat → Bool} {held : Bool} {n : Nat} {cs : List Value} {x : DataW H × List MemPlace} (h : DataW.trod enc Try.prog W base spare held n 51 cs = some x) :
    ∃ y : Version, (y.Sz ∧ y.In W) ∧ ∀ j, j < 4 → cs[j]? = some (y.cell j) := by
  obtain ⟨xs, m, _, rfl, hl, hx, hf⟩ := DataW.trod_struct Try.underlying51 h
  rw [show Try.prog.cellsOf 51 = 4 by kernel_rfl] at hl
  match cs, hl with
  | [c0, c1, c2, c3], _ =>
  match xs, hx with
  | [y0, y1, y2, y3], _ =>
  have kint : Try.prog.cellsOf 2 = 1 := by kernel_rfl
  have kstr : Try.prog.cellsOf 9 = 1 := by kernel_rfl
  have ksl : Try.prog.cellsOf 49 = 1 := by kernel_rfl
  have f0 : DataW.trod enc Try.prog W base spare held m 2 (List.take (Try.prog.cellsOf 2) (List.drop 0 [c0, c1, c2, c3])) = some y0 := hf 0 _ rfl
  simp only [kint, List.drop_zero, List.take_succ_cons, List.take_zero] at f0
  obtain ⟨v0, e0, _, z0⟩ := DataW.trod_int Try.underlying2 f0
  have f1 : DataW.trod enc Try.prog W base spare held m 2 (List.take (Try.prog.cellsOf 2) (List.drop 1 [c0, c1, c2, c3])) = some y1 := hf 1 _ rfl
  simp only [kint, List.drop_zero, List.drop_succ_cons, List.take_succ_cons, List.take_zero] at f1
  obtain ⟨v1, e1, _, z1⟩ := DataW.trod_int Try.underlying2 f1
  have f2 : DataW.trod enc Try.prog W base spare held m 9 (List.take (Try.prog.cellsOf 9) (List.drop 2 [c0, c1, c2, c3])) = some y2 := hf 2 _ rfl
  simp only [kstr, List.drop_zero, List.drop_succ_cons, List.take_succ_cons, List.take_zero] at f2
  obtain ⟨v2, e2, _, z2⟩ := DataW.trod_string Try.underlying9 f2
  have f3 : DataW.trod enc Try.prog W base spare held m 49 (List.take (Try.prog.cellsOf 49) (List.drop 3 [c0, c1, c2, c3])) = some y3 := hf 3 _ rfl
  simp only [ksl, List.drop_zero, List.drop_succ_cons, List.take_succ_cons, List.take_zero] at f3
  obtain ⟨a3, cap3, l3, e3, hl3, hc3, H3, Q3⟩ := open_rows Setting.cell (fun y => y.Sz ∧ y.Wf) Try.underlying49 (by kernel_rfl : Try.prog.cellsOf 105 = 2) (by decide) (fun _ _ _ => Setting.el) f3
  simp only [List.cons.injEq, and_true] at e0 e1 e2 e3
  subst e0 e1 e2 e3
  refine ⟨⟨v0, v1, v2, a3, cap3, l3⟩, ⟨⟨?_, fun k hk => (Q3 k hk).1, ?_, hl3⟩, H3⟩, fun j hj => by rcases (show j = 0 ∨ j = 1 ∨ j = 2 ∨ j = 3 by omega) with rfl | rfl | rfl | rfl <;> rfl⟩
  · have := z2; unfold maxLen at this; exact this
  · show l3.length ≤ _; omega
set_option maxRecDepth 100000 in
theorem Version.op {H : Type} {enc : TypeId × Value → H} {W : World} {r : Reach} {b0 base : Nat} {spare : Nat → Bool} {held : Bool} {v : Value} {d : DataW H} {p : List MemPlace} (hv : Value.okWide Try.prog W r b0 51 v) (h : DataW.Trod enc Try.prog W base spare held 51 v d p) :
    ∃ y : Version, v = y.val ∧ y.Sz ∧ y.In W := by
  obtain ⟨cs, rfl, hsz⟩ := okWide_struct Try.underlying51 hv
  rw [show Try.prog.cellsOf 51 = 4 by kernel_rfl] at hsz
  obtain ⟨fuel, hf⟩ := h
  obtain ⟨y, hq, hc⟩ := Version.el hf
  exact ⟨y, by rw [agg_eq y.cell hsz hc]; rfl, hq⟩
end Go.Proofs.Ytbcpgdidajapoaa
