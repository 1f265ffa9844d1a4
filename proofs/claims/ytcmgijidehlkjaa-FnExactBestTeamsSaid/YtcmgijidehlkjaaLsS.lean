/- Chapter 25: the reference's searches for the best order and the best teams. -/
import Derived.Test.YtcmgijidehlkjaaLsI
import Derived.Test.YtcmgijidehlkjaaWorth
import Derived.Laws.AppendOwnNone
namespace Go.Proofs.Ytcmgijidehlkjaa
open Go.RowKit
theorem Lst.nilcap {α : Type} {n T : Nat} {cell : α → Nat → Value} {w : World} {base : Nat} {m cap : Nat} {l : List α} (h : Lst T n cell w base (.slice none m cap) l) : m = 0 ∧ cap = 0 := by
  rcases h.2 with ⟨h1, -⟩ | ⟨g, c, cur, h1, -⟩
  · simp only [Value.slice.injEq, true_and] at h1; exact h1
  · simp at h1
set_option maxRecDepth 100000 in
set_option maxHeartbeats 1000000 in
theorem l00Own_any (a : Option Addr) (cap : Nat) (l : List Int) (w : World) (H : IntAt w a l) (hnil : a = none → cap = 0) (hlen : l.length ≤ 1048576) :
    Calls Try.prog 34 #[.slice a l.length cap] w (fun e w' => ∃ a' cap', e = .returned (.slice a' l.length cap') ∧ l.length ≤ cap' ∧ Own w' w.heap.size 2 1 a' l.length ∧ IntAt w' a' l ∧ Ext w w' ∧ (a' = none → cap' = 0)) := by
  have HL : Hid (Lst 2 1 cellI (w.alloc (.cells #[] 2)) w.heap.size (.slice (some ⟨w.heap.size, 0, none⟩) 0 0) ([] : List Int)) := Lst.new w _ (Nat.le_refl _)
  have hE := Lib.hid ((Ext.refl w).alloc (.cells #[] 2))
  have hb : Hid (w.heap.size ≤ (w.alloc (.cells #[] 2)).heap.size) := by show _ ≤ _; rw [size_new]; omega
  cases a with
  | none =>
    have h0 : l.length = 0 := by
      rcases Nat.eq_zero_or_pos l.length with h | h
      · exact h
      · obtain ⟨b, off, h, _⟩ := H 0 h; cases h
    obtain rfl : l = [] := List.length_eq_zero_iff.1 h0
    obtain rfl : cap = 0 := hnil rfl
    have hO : Hid ((w.alloc (.cells #[] 2)).ownsRow w.heap.size 2 1 (.slice (some ⟨w.heap.size, 0, none⟩) 0 0) 0 []) := HL.out
    obtain ⟨i, z, h2, -⟩ := elInt.inf
    have hI := Lib.hid h2
    clear h2 HL H hnil
    go_enter Try.func34, Try.ntmps34
    go_wp2_with (at_builtin; refine wpList_append_own_none rfl _ _ _ rfl w.heap.size _ _ 1 elInt.und hI.out _ 0 [] rfl hO.out rfl ?_)
    go_ret
    exact ⟨some ⟨w.heap.size, 0, none⟩, 0, rfl, Nat.le_refl _, .inl rfl, RowsAt.nil, hE.out, fun h => by cases h⟩
  | some ad =>
    have HR := Lib.hid (H.ext hE.out)
    have C1 : Hid (([] : List Int).length + l.length ≤ 9223372036854775807) := by show _ ≤ _; simp; omega
    have C2 : Hid ((([] : List Int).length + l.length) * 8 ≤ 140737488355328) := by show _ ≤ _; simp; omega
    clear H
    go_enter Try.func34, Try.ntmps34
    go_wp2_with (at_builtin; refine wpList_pushL elInt oneInt rfl _ _ rfl w.heap.size _ [] rfl HL.out ad l.length cap l rfl rfl HR.out C1.out C2.out hb.out ?_; intro v' w1 HL1 hs1 _)
    rw [List.nil_append] at HL1
    obtain ⟨a', cap', rfl, hc', hm', R1, O1⟩ := HL1.shape
    have hnc : Hid (a' = none → cap' = 0) := fun e => by subst e; exact HL1.nilcap.2
    have hX : Hid (Ext w w1) := hs1.ext hE.out (Nat.le_refl _)
    have R2 := Lib.hid R1
    have O2 := Lib.hid O1
    clear HL1 hs1 R1 O1
    go_wp2_with fail
    go_ret
    exact ⟨a', cap', rfl, hc', O2.out, R2.out, hX.out, hnc.out⟩
/-- The cells of the reference's search. -/
def objT (a : Option Addr) (n cap : Nat) (start many : Int) (v vb : Value) (most nodes bud : Int) : Nat → Value
  | 0 => .slice a n cap
  | 1 => .int .i64 start
  | 2 => .int .i64 many
  | 3 => v
  | 4 => vb
  | 5 => .int .i64 most
  | 6 => .int .i64 nodes
  | _ => .int .i64 bud
structure LS (w0 w : World) (a : Option Addr) (n cap : Nat) (start many bud : Int) (g : Nat) (s : Sr) (ord : List Int) (av : Option Addr) (cv : Nat) (ab : Option Addr) (cb : Nat) : Prop where
  srch : Srch 55 2 8 w0 w g (objT a n cap start many (.slice av ord.length cv) (.slice ab s.best.length cb) s.most (bud - s.left) bud) (.slice av ord.length cv) ord ab s.best
  capv : ord.length ≤ cv
  capb : s.best.length ≤ cb
  nilb : ab = none → cb = 0
  lo : -1 ≤ s.left
  hi : s.left ≤ bud
section
variable {w0 w w' : World} {a : Option Addr} {n cap : Nat} {start many bud : Int} {g : Nat} {s : Sr} {ord : List Int} {av : Option Addr} {cv : Nat} {ab : Option Addr} {cb : Nat}
theorem LS.cells (h : LS w0 w a n cap start many bud g s ord av cv ab cb) :
    g < w.heap.size ∧ w.cell? ⟨g, 0, none⟩ = some (.slice a n cap) ∧ w.cell? ⟨g, 1, none⟩ = some (.int .i64 start) ∧ w.cell? ⟨g, 2, none⟩ = some (.int .i64 many) ∧ w.cell? ⟨g, 3, none⟩ = some (.slice av ord.length cv) ∧ w.cell? ⟨g, 4, none⟩ = some (.slice ab s.best.length cb) ∧ w.cell? ⟨g, 5, none⟩ = some (.int .i64 s.most) ∧ w.cell? ⟨g, 6, none⟩ = some (.int .i64 (bud - s.left)) ∧ w.cell? ⟨g, 7, none⟩ = some (.int .i64 bud) :=
  have o := h.srch.obj
  ⟨o.blk.lt, o.cell 0 (by decide), o.cell 1 (by decide), o.cell 2 (by decide), o.cell 3 (by decide), o.cell 4 (by decide), o.cell 5 (by decide), o.cell 6 (by decide), o.cell 7 (by decide)⟩
theorem LS.frozen (h : LS w0 w a n cap start many bud g s ord av cv ab cb) (o : Nat) : w.frozen? ⟨g, o, none⟩ = false := h.srch.obj.blk.frozen o
theorem LS.grow (h : LS w0 w a n cap start many bud g s ord av cv ab cb) (he : Ext w w') : LS w0 w' a n cap start many bud g s ord av cv ab cb :=
  ⟨h.srch.grow he, h.capv, h.capb, h.nilb, h.lo, h.hi⟩
theorem LS.row (h : LS w0 w a n cap start many bud g s ord av cv ab cb) : IntAt w av ord := by
  obtain ⟨a', c', e, -, -, h, -⟩ := h.srch.lst.shape
  simp only [Value.slice.injEq, true_and] at e
  rw [e.1]; exact h
theorem LS.nilcap (h : LS w0 w a n cap start many bud g s ord av cv ab cb) (e : av = none) : cv = 0 := by
  subst e; exact h.srch.lst.nilcap.2
theorem LS.best1 (h : LS w0 w a n cap start many bud g s ord av cv ab cb) (he : Ext w w') {ab' : Option Addr} {cb' : Nat} (ho : Own w' w.heap.size 2 1 ab' ord.length) (hr : IntAt w' ab' ord) (hc : ord.length ≤ cb') (hn : ab' = none → cb' = 0) (m : Int) :
    LS w0 ((w'.setCell ⟨g, 4, none⟩ (.slice ab' ord.length cb')).setCell ⟨g, 5, none⟩ (.int .i64 m)) a n cap start many bud g ⟨ord, m, s.left⟩ ord av cv ab' cb' :=
  ⟨((h.srch.newBest he ho hr).set (f' := objT a n cap start many (.slice av ord.length cv) (.slice ab' ord.length cb') s.most (bud - s.left) bud) 4 _ (by decide) rfl (fun j hj hne => by rcases (show j = 0 ∨ j = 1 ∨ j = 2 ∨ j = 3 ∨ j = 4 ∨ j = 5 ∨ j = 6 ∨ j = 7 by omega) with rfl | rfl | rfl | rfl | rfl | rfl | rfl | rfl <;> first | rfl | exact absurd rfl hne)).set 5 _ (by decide) rfl (fun j hj hne => by rcases (show j = 0 ∨ j = 1 ∨ j = 2 ∨ j = 3 ∨ j = 4 ∨ j = 5 ∨ j = 6 ∨ j = 7 by omega) with rfl | rfl | rfl | rfl | rfl | rfl | rfl | rfl <;> first | rfl | exact absurd rfl hne), h.capv, hc, hn, h.lo, h.hi⟩
theorem LS.pushed (h : LS w0 w a n cap start many bud g s ord av cv ab cb) {O : List Int} {av' : Option Addr} {cv' : Nat} (hL : Lst 2 1 cellI w' (g + 1) (.slice av' O.length cv') O) (hg : w.grownBy w' (Value.slice av ord.length cv).ownBlock) (hat : (Value.slice av' O.length cv').ownBlock = (Value.slice av ord.length cv).ownBlock ∨ (Value.slice av' O.length cv').ownBlock = some w.heap.size) (hc : O.length ≤ cv') :
    LS w0 (w'.setCell ⟨g, 3, none⟩ (.slice av' O.length cv')) a n cap start many bud g s O av' cv' ab cb :=
  ⟨(h.srch.newOrd hL hg hat).set 3 _ (by decide) rfl (fun j hj hne => by rcases (show j = 0 ∨ j = 1 ∨ j = 2 ∨ j = 3 ∨ j = 4 ∨ j = 5 ∨ j = 6 ∨ j = 7 by omega) with rfl | rfl | rfl | rfl | rfl | rfl | rfl | rfl <;> first | rfl | exact absurd rfl hne), hc, h.capb, h.nilb, h.lo, h.hi⟩
theorem LS.mid (h : LS w0 w a n cap start many bud g s ord av cv ab cb) (hg : w.grownBy w' (Value.slice av ord.length cv).ownBlock) : g < w'.heap.size ∧ w'.cell? ⟨g, 3, none⟩ = some (.slice av ord.length cv) ∧ w'.frozen? ⟨g, 3, none⟩ = false :=
  have o := h.srch.obj.grown hg (h.srch.lst.row_ne (Nat.lt_succ_self g))
  ⟨o.blk.lt, o.cell 3 (by decide), o.blk.frozen 3⟩
theorem LS.cut {x : Int} {O : List Int} (h : LS w0 w a n cap start many bud g s O av cv ab cb) (hO : O = ord ++ [x]) :
    LS w0 (w.setCell ⟨g, 3, none⟩ (.slice av ord.length cv)) a n cap start many bud g s ord av cv ab cb := by
  subst hO
  have e : (ord ++ [x]).length = ord.length + 1 := by simp
  have h1 := h.srch
  have h2 := h.capv
  rw [e] at h1 h2
  exact ⟨(h1.pop rfl).set 3 _ (by decide) rfl (fun j hj hne => by rcases (show j = 0 ∨ j = 1 ∨ j = 2 ∨ j = 3 ∨ j = 4 ∨ j = 5 ∨ j = 6 ∨ j = 7 by omega) with rfl | rfl | rfl | rfl | rfl | rfl | rfl | rfl <;> first | rfl | exact absurd rfl hne), by omega, h.capb, h.nilb, h.lo, h.hi⟩
theorem LS.spend (h : LS w0 w a n cap start many bud g s ord av cv ab cb) {x : Int} (h1 : -1 ≤ x) (h2 : x ≤ bud) (nd : Int) (hn : nd = bud - x) :
    LS w0 (w.setCell ⟨g, 6, none⟩ (.int .i64 nd)) a n cap start many bud g { s with left := x } ord av cv ab cb :=
  ⟨h.srch.set 6 _ (by decide) (by rw [hn]; rfl) (fun j hj hne => by rcases (show j = 0 ∨ j = 1 ∨ j = 2 ∨ j = 3 ∨ j = 4 ∨ j = 5 ∨ j = 6 ∨ j = 7 by omega) with rfl | rfl | rfl | rfl | rfl | rfl | rfl | rfl <;> first | rfl | exact absurd rfl hne), h.capv, h.capb, h.nilb, h1, h2⟩
end
set_option maxRecDepth 100000 in
set_option maxHeartbeats 8000000 in
theorem order_leaf (worth : List Int → Int) (l : List Area) (many : Nat) (start bud : Int) (a : Option Addr) (cap : Nat) (hbud : bud ≤ 20000) (w0 : World) (hn8 : l.length ≤ 8)
    (hwf : ∀ (W : World) (av : Option Addr) (cv : Nat) (ord : List Int), Ext w0 W → IntAt W av ord → ord.length = l.length → InMany many ord → Gives Try.prog 25 #[.slice a l.length cap, .slice av ord.length cv, .int .i64 start] W (.int .i64 (worth ord)))
    (g : Nat) (ord : List Int) (hO : InMany many ord) (hlen : ord.length = l.length) (s : Sr) (W : World) (av : Option Addr) (cv : Nat) (ab : Option Addr) (cb : Nat) (hV : LS w0 W a l.length cap start 0 bud g s ord av cv ab cb) (hl : 0 ≤ s.left) :
    Calls Try.prog 33 #[.pointer (some ⟨g, 0, none⟩)] W fun e w' => e = .returned (.bool (decide ((visL true worth many 0 ord s).left < 0))) ∧ Ext w0 w' ∧ (0 ≤ (visL true worth many 0 ord s).left → ∃ av' cv' ab' cb', LS w0 w' a l.length cap start 0 bud g (visL true worth many 0 ord s) ord av' cv' ab' cb') := by
  have V0 := Lib.hid hV
  have hhi := hV.hi
  obtain ⟨nd, hnd⟩ : ∃ nd, nd = bud - s.left := ⟨_, rfl⟩
  have hn0 : 0 ≤ nd := by omega
  have hn1 : nd ≤ 20000 := by omega
  have V1 := Lib.hid (hV.spend (x := s.left - 1) (by omega) (by omega) (nd + 1) (by omega))
  have fz6 := hV.frozen 6
  obtain ⟨hgl, c0, c1, c2, c3, c4, c5, c6, c7⟩ := V0.out.cells
  rw [← hnd] at c6
  have hndh := Lib.hid hnd
  clear hnd
  have HG : Hid (∀ x, Gives Try.prog 25 #[.slice a l.length cap, .slice av ord.length cv, .int .i64 start] (lift (W.setCell ⟨g, 6, none⟩ (.int .i64 (nd + 1))) x) (.int .i64 (worth ord))) := fun x =>
    hwf _ av cv ord (V1.out.srch.ext.lift x) (V1.out.row.ext ((Ext.refl _).lift x)) hlen hO
  have hq : ((ord.length : Int) == (l.length : Int)) = true := by rw [hlen]; simp
  have hle : ord.length ≤ 8 := by omega
  clear hV hwf hO hlen
  rcases Int.lt_or_le 0 s.left with hl0 | hl0
  · have hu0 := Lib.hid (visL_z (diff := true) (worth := worth) (many := many) (ord := ord) (s := s) (by omega))
    have hd0 : decide (bud < nd + 1) = false := decide_eq_false (by have := hndh.out; omega)
    go_enter Try.func33, Try.ntmps33
    go_wp2_with fail
    generalize W.setCell ⟨g, 6, none⟩ (.int .i64 (nd + 1)) = W1 at *
    clear V0 hgl c0 c1 c2 c3 c4 c5 c6 c7 fz6
    obtain ⟨hgl, c0, c1, c2, c3, c4, c5, c6, c7⟩ := V1.out.cells
    rw [show bud - ({ s with left := s.left - 1 } : Sr).left = nd + 1 by show bud - (s.left - 1) = _; have := hndh.out; omega] at c6
    refine region_quiet (by kernel_rfl) (by kernel_rfl) ?_
    repeat (any_goals (first | go_big_quiet_step ((fail)) | quiet_step ((fail))))
    refine wpQuiet_nil ?_
    intro _ hw'
    obtain ⟨y, hw''⟩ := hw'
    subst hw''
    clear hd0
    go_wp2_with fail
    replace V1 := Lib.hid (V1.out.grow ((Ext.refl _).lift y))
    have HG2 : Hid (∀ x, Gives Try.prog 25 #[.slice a l.length cap, .slice av ord.length cv, .int .i64 start] (lift (lift W1 y) x) (.int .i64 (worth ord))) := fun x => by
      have := HG.out ⟨y.blocks ++ x.blocks, x.drawn⟩
      have e : lift (lift W1 y) x = lift W1 ⟨y.blocks ++ x.blocks, x.drawn⟩ := by simp [lift, Array.append_assoc]
      rw [e]; exact this
    clear HG
    generalize lift W1 y = W2 at *
    clear hgl c0 c1 c2 c3 c4 c5 c6 c7
    obtain ⟨hgl, c0, c1, c2, c3, c4, c5, c6, c7⟩ := V1.out.cells
    refine region_quiet (by kernel_rfl) (by kernel_rfl) ?_
    repeat (any_goals (first | go_big_quiet_step ((fail)) | quiet_step ((fail))))
    refine wpQuiet_nil ?_
    intro _ hw'
    obtain ⟨y, hw''⟩ := hw'
    subst hw''
    go_wp2_with fail
    replace V1 := Lib.hid (V1.out.grow ((Ext.refl _).lift y))
    have HG3 : Hid (∀ x, Gives Try.prog 25 #[.slice a l.length cap, .slice av ord.length cv, .int .i64 start] (lift (lift W2 y) x) (.int .i64 (worth ord))) := fun x => by
      have := HG2.out ⟨y.blocks ++ x.blocks, x.drawn⟩
      have e : lift (lift W2 y) x = lift W2 ⟨y.blocks ++ x.blocks, x.drawn⟩ := by simp [lift, Array.append_assoc]
      rw [e]; exact this
    clear HG2
    generalize lift W2 y = W3 at *
    clear hgl c0 c1 c2 c3 c4 c5 c6 c7
    obtain ⟨hgl, c0, c1, c2, c3, c4, c5, c6, c7⟩ := V1.out.cells
    refine region_quiet (by kernel_rfl) (by kernel_rfl) ?_
    repeat (any_goals (first | go_big_quiet_step ((exact Gives.quiet (HG3.out _))) | quiet_step ((exact Gives.quiet (HG3.out _)))))
    refine wpQuiet_nil ?_
    intro _ hw'
    obtain ⟨y, hw''⟩ := hw'
    subst hw''
    replace V1 := Lib.hid (V1.out.grow ((Ext.refl _).lift y))
    clear HG3
    generalize lift W3 y = W4 at *
    clear hgl c0 c1 c2 c3 c4 c5 c6 c7
    obtain ⟨hgl, c0, c1, c2, c3, c4, c5, c6, c7⟩ := V1.out.cells
    by_cases hgt : s.most < worth ord
    · have hu : Hid (visL true worth many 0 ord s = ⟨ord, worth ord, s.left - 1⟩) := hu0.out.trans (updL_t hgt)
      have HC : Hid (Calls Try.prog 34 #[.slice av ord.length cv] W4 (fun e w' => ∃ a' cap', e = .returned (.slice a' ord.length cap') ∧ ord.length ≤ cap' ∧ Own w' W4.heap.size 2 1 a' ord.length ∧ IntAt w' a' ord ∧ Ext W4 w' ∧ (a' = none → cap' = 0))) := l00Own_any av cv ord W4 V1.out.row (fun e => V1.out.nilcap e) (by omega)
      go_wp2_with fail
      refine HC.out.mono ?_
      rintro e w2 ⟨ab2, cb2, rfl, hcb2, HO2, HR2, E2, hnb⟩
      have V3 := Lib.hid (V1.out.best1 E2 HO2 HR2 hcb2 hnb (worth ord))
      have fz4 := (V1.out.grow E2).frozen 4
      have fz5 := (V1.out.grow E2).frozen 5
      obtain ⟨hgl2, d0, d1, d2, d3, d4, d5, d6, d7⟩ := (V1.out.grow E2).cells
      clear V1 HC HO2 HR2 hnb hgl c0 c1 c2 c3 c4 c5 c6 c7
      go_wp2_with fail
      go_ret
      refine ⟨(by rw [hu.out, decide_eq_false (show ¬ s.left - 1 < 0 by omega)]; try rfl), V3.out.srch.ext, fun _ => ⟨av, cv, ab2, cb2, ?_⟩⟩
      rw [hu.out]
      exact V3.out
    · have hu : Hid (visL true worth many 0 ord s = { s with left := s.left - 1 }) := hu0.out.trans (updL_f hgt)
      go_wp2_with fail
      go_ret
      refine ⟨(by rw [hu.out, decide_eq_false (show ¬ s.left - 1 < 0 by omega)]; try rfl), V1.out.srch.ext, fun _ => ⟨av, cv, ab, cb, ?_⟩⟩
      rw [hu.out]
      exact V1.out
  · have hu : Hid (visL true worth many 0 ord s = { s with left := s.left - 1 }) := by show _ = _; rw [visL_0 (by omega), show s.left - 1 = -1 by omega]
    have hd0 : decide (bud < nd + 1) = true := decide_eq_true (by have := hndh.out; omega)
    clear HG
    go_enter Try.func33, Try.ntmps33
    go_wp2_with fail
    generalize W.setCell ⟨g, 6, none⟩ (.int .i64 (nd + 1)) = W1 at *
    clear V0 hgl c0 c1 c2 c3 c4 c5 c6 c7 fz6
    obtain ⟨hgl, c0, c1, c2, c3, c4, c5, c6, c7⟩ := V1.out.cells
    rw [show bud - ({ s with left := s.left - 1 } : Sr).left = nd + 1 by show bud - (s.left - 1) = _; have := hndh.out; omega] at c6
    refine region_quiet (by kernel_rfl) (by kernel_rfl) ?_
    repeat (any_goals (first | go_big_quiet_step ((fail)) | quiet_step ((fail))))
    refine wpQuiet_nil ?_
    intro _ hw'
    obtain ⟨y, hw''⟩ := hw'
    subst hw''
    go_wp2_with fail
    go_ret
    refine ⟨(by rw [hu.out, decide_eq_true (show s.left - 1 < 0 by omega)]; try rfl), V1.out.srch.ext.lift _, fun h => absurd h (by rw [hu.out]; show ¬ 0 ≤ s.left - 1; omega)⟩
set_option maxRecDepth 100000 in
set_option maxHeartbeats 8000000 in
theorem order_node (worth : List Int → Int) (l : List Area) (many : Nat) (start bud : Int) (a : Option Addr) (cap : Nat) (hbud : bud ≤ 20000) (w0 : World) (hn8 : l.length ≤ 8) (hm8 : many ≤ 8) (hmany : many = l.length) (g : Nat) (ord : List Int) (d : Nat) (hlen : ord.length + (d + 1) = l.length)
    (hrec : ∀ (k : Nat) (s : Sr) (W : World) (av : Option Addr) (cv : Nat) (ab : Option Addr) (cb : Nat), k < many → LS w0 W a l.length cap start 0 bud g s (ord ++ [(k : Int)]) av cv ab cb → 0 ≤ s.left →
      Calls Try.prog 33 #[.pointer (some ⟨g, 0, none⟩)] W fun e w' => e = .returned (.bool (decide ((visL true worth many d (ord ++ [(k : Int)]) s).left < 0))) ∧ Ext w0 w' ∧ (0 ≤ (visL true worth many d (ord ++ [(k : Int)]) s).left → ∃ av' cv' ab' cb', LS w0 w' a l.length cap start 0 bud g (visL true worth many d (ord ++ [(k : Int)]) s) (ord ++ [(k : Int)]) av' cv' ab' cb'))
    (s : Sr) (W : World) (av : Option Addr) (cv : Nat) (ab : Option Addr) (cb : Nat) (hV : LS w0 W a l.length cap start 0 bud g s ord av cv ab cb) (hl : 0 ≤ s.left) :
    Calls Try.prog 33 #[.pointer (some ⟨g, 0, none⟩)] W fun e w' => e = .returned (.bool (decide ((visL true worth many (d + 1) ord s).left < 0))) ∧ Ext w0 w' ∧ (0 ≤ (visL true worth many (d + 1) ord s).left → ∃ av' cv' ab' cb', LS w0 w' a l.length cap start 0 bud g (visL true worth many (d + 1) ord s) ord av' cv' ab' cb') := by
  have V0 := Lib.hid hV
  have hhi := hV.hi
  obtain ⟨nd, hnd⟩ : ∃ nd, nd = bud - s.left := ⟨_, rfl⟩
  have hn0 : 0 ≤ nd := by omega
  have hn1 : nd ≤ 20000 := by omega
  have V1 := Lib.hid (hV.spend (x := s.left - 1) (by omega) (by omega) (nd + 1) (by omega))
  have fz6 := hV.frozen 6
  obtain ⟨hgl, c0, c1, c2, c3, c4, c5, c6, c7⟩ := V0.out.cells
  rw [← hnd] at c6
  have hndh := Lib.hid hnd
  clear hnd
  obtain ⟨rec, hrc⟩ : ∃ rec, rec = visL true worth many d := ⟨_, rfl⟩
  rw [← hrc] at hrec
  have HR := Lib.hid hrec
  have hrch := Lib.hid hrc
  clear hV hrec hrc
  replace hlen : ord.length < l.length := by omega
  have hmh := Lib.hid hmany
  clear hmany
  rcases Int.lt_or_le 0 s.left with hl0 | hl0
  · have hu0 := Lib.hid (visL_s (diff := true) (worth := worth) (many := many) (ord := ord) (s := s) (d := d) (by omega))
    have hd0 : decide (bud < nd + 1) = false := decide_eq_false (by have := hndh.out; omega)
    have hq : ((ord.length : Int) == (l.length : Int)) = false := by rw [beq_eq_false_iff_ne]; omega
    go_enter Try.func33, Try.ntmps33
    go_wp2_with fail
    generalize W.setCell ⟨g, 6, none⟩ (.int .i64 (nd + 1)) = W1 at *
    clear V0 hgl c0 c1 c2 c3 c4 c5 c6 c7 fz6
    obtain ⟨hgl, c0, c1, c2, c3, c4, c5, c6, c7⟩ := V1.out.cells
    rw [show bud - ({ s with left := s.left - 1 } : Sr).left = nd + 1 by show bud - (s.left - 1) = _; have := hndh.out; omega] at c6
    refine region_quiet (by kernel_rfl) (by kernel_rfl) ?_
    repeat (any_goals (first | go_big_quiet_step ((fail)) | quiet_step ((fail))))
    refine wpQuiet_nil ?_
    intro _ hw'
    obtain ⟨y, hw''⟩ := hw'
    subst hw''
    clear hd0
    go_wp2_with fail
    replace V1 := Lib.hid (V1.out.grow ((Ext.refl _).lift y))
    generalize lift W1 y = W2 at *
    clear hgl c0 c1 c2 c3 c4 c5 c6 c7
    obtain ⟨hgl, c0, c1, c2, c3, c4, c5, c6, c7⟩ := V1.out.cells
    refine region_quiet (by kernel_rfl) (by kernel_rfl) ?_
    repeat (any_goals (first | go_big_quiet_step ((fail)) | quiet_step ((fail))))
    refine wpQuiet_nil ?_
    intro _ hw'
    obtain ⟨y, hw''⟩ := hw'
    subst hw''
    have V3 := Lib.hid (V1.out.grow ((Ext.refl _).lift y))
    clear V1
    generalize lift W2 y = W3 at *
    clear hgl c0 c1 c2 c3 c4 c5 c6 c7 hq
    obtain ⟨s1, hs1⟩ : ∃ s1 : Sr, s1 = { s with left := s.left - 1 } := ⟨_, rfl⟩
    have hl1 : 0 ≤ s1.left := by rw [hs1]; show 0 ≤ s.left - 1; omega
    have hu1 : Hid (visL true worth many (d + 1) ord s = loopL true rec ord s1 many) := by show _ = _; rw [hu0.out, hrch.out, hs1]
    rw [← hs1] at V3
    clear hs1 hu0 hrch
    replace hlen : ord.length ≤ 8 := by omega
    go_wp2_with fail
    go_loopw [4] (fun i wr => ∃ (k : Nat) (s' : Sr) (av : Option Addr) (cv : Nat) (ab : Option Addr) (cb : Nat), k ≤ many ∧ i = .int .i64 k ∧ Hid (loopL true rec ord s1 k = s') ∧ Hid (LS w0 wr a l.length cap start 0 bud g s' ord av cv ab cb) ∧ 0 ≤ s'.left) (fun i _ => many - (intOf i).toNat)
    case atStart => exact ⟨0, s1, av, cv, ab, cb, Nat.zero_le _, rfl, rfl, V3.out, hl1⟩
    case round =>
      clear V3
      obtain ⟨k, s', av', cv', ab', cb', hk, rfl, hs', V, hl'⟩ := hrel
      obtain ⟨hgl, c0, c1, c2, c3, c4, c5, c6, c7⟩ := V.out.cells
      by_cases hlt : k < many
      · first | (have hlt2 : k < l.length := by have := hmh.out; omega) | skip
        have HC : Hid (Calls Try.prog 53 #[.slice av' ord.length cv', .int .i64 k] wr fun e w' => e = .returned (.bool (hasB ord k)) ∧ w' = wr) := l00Has_any av' cv' ord k wr V.out.row (by omega)
        cases hh : hasB ord (k : Int)
        · rw [hh] at HC
          have hdh : Hid ((true && hasB ord (k : Int)) = false) := by show _ = _; rw [hh]; rfl
          clear hh
          go_wp2_with fail
          refine HC.out.mono ?_
          rintro e w' ⟨rfl, hw⟩
          rw [hw]
          clear HC hw
          obtain ⟨O, hO⟩ : ∃ O : List Int, O = ord ++ [(k : Int)] := ⟨_, rfl⟩
          have hOl : Hid (O.length = ord.length + 1) := by show _ = _; rw [hO]; simp
          have hO9 : O.length ≤ 9 := by rw [hOl.out]; omega
          have HO := Lib.hid hO
          have fz3 := V.out.frozen 3
          have hnx : Hid (loopL true rec ord s1 (k + 1) = rec (ord ++ [(k : Int)]) s') := by
            show stepL _ _ _ (loopL true rec ord s1 k) k = _; rw [hs'.out]; exact stepL_go hl' hdh.out
          have V1 := Lib.hid (V.out.grow ((Ext.refl _).alloc (.cells #[.int .i64 k] 2)))
          have HR1 : Hid (IntAt (wr.alloc (.cells #[.int .i64 k] 2)) (some ⟨wr.heap.size, 0, none⟩) [(k : Int)]) := rows_int _ _ rfl
          clear hO
          go_wp2_with (at_builtin; refine wpList_pushAt elInt oneInt rfl _ _ rfl (g + 1) _ ord (by rfl) V1.out.srch.lst _ 1 1 [(k : Int)] rfl (by rfl) HR1.out (by have := hOl.out; omega) (by omega) (by rw [size_new]; omega) ?_; intro v' w3 HL hg3 hat3; rw [← HO.out] at HL; obtain ⟨av2, cv2, rfl, hcv2, -, -, -⟩ := HL.shape; have V4 := Lib.hid (V1.out.pushed HL hg3 hat3 hcv2); obtain ⟨e0, e1, e2⟩ := V1.out.mid hg3; clear V1 HR1 HL hg3 hat3 hgl c0 c1 c2 c3 c4 c5 c6 c7 fz3)
          have HR6 : Hid (Calls Try.prog 33 #[.pointer (some ⟨g, 0, none⟩)] (w3.setCell ⟨g, 3, none⟩ (.slice av2 O.length cv2)) fun e w' => e = .returned (.bool (decide ((rec (ord ++ [(k : Int)]) s').left < 0))) ∧ Ext w0 w' ∧ (0 ≤ (rec (ord ++ [(k : Int)]) s').left → ∃ av' cv' ab' cb', LS w0 w' a l.length cap start 0 bud g (rec (ord ++ [(k : Int)]) s') (ord ++ [(k : Int)]) av' cv' ab' cb')) :=
            HR.out k s' _ av2 cv2 ab' cb' hlt (by rw [← HO.out]; exact V4.out) hl'
          clear e0 e1 e2
          refine HR6.out.mono ?_
          rintro e w13 ⟨rfl, T7, hV7⟩
          rw [← HO.out] at hV7 hnx
          obtain ⟨s7, hs7⟩ : ∃ s7, s7 = rec O s' := ⟨_, rfl⟩
          have e7 : rec (ord ++ [(k : Int)]) s' = s7 := by rw [hs7, ← HO.out]
          rw [e7]
          rw [← hs7] at hV7 hnx
          have hV7h := Lib.hid hV7
          clear hV7 hs7 e7 V4 HR6
          rcases Int.lt_or_le s7.left 0 with hl7 | hl7
          · rw [decide_eq_true hl7]
            go_wp2_with fail
            go_ret
            have hz : Hid (loopL true rec ord s1 many = s7) := by show _ = _; rw [loopL_stop (k := k + 1) (by rw [hnx.out]; exact hl7) many (by omega), hnx.out]
            refine ⟨(by rw [hu1.out, hz.out, decide_eq_true hl7]; try rfl), T7, fun h => absurd h (by rw [hu1.out, hz.out]; omega)⟩
          · rw [decide_eq_false (by omega)]
            obtain ⟨av7, cv7, ab7, cb7, hV8⟩ := hV7h.out hl7
            have V7 := Lib.hid hV8
            clear hV8 hV7h
            go_wp2_with fail
            try clear hgl c0 c1 c2 c3 c4 c5 c6 c7
            obtain ⟨hgl, c0, c1, c2, c3, c4, c5, c6, c7⟩ := V7.out.cells
            rw [hOl.out] at c3
            refine Grow.region_tail 14 [0, 1, 2, 3, 4, 5, 6, 7, 8, 9, 10, 11, 12, 13] [] (by kernel_rfl) (by kernel_rfl) ?_
            simp only [Grow.pick, Grow.pickB, List.getElem?_cons_succ, List.getElem?_cons_zero, List.drop_succ_cons, List.drop_zero]
            repeat
              refine Grow.heads_step (fun K' hK => ⟨rfl, ?_⟩)
              apply Exists.intro
              apply And.intro
              · intro w' hw'
                obtain ⟨x', rfl⟩ := hw'
                go_simp
                first | done | rfl | (rw [if_neg (by omega)]; done) | (rw [if_neg (by omega)]; rfl)
              go_simp
              refine hK _ ?_
              clear hK K'
            refine Grow.heads_step (fun K' hK => ⟨rfl, .slice av7 ord.length cv7, ?_, ?_⟩)
            · intro w' hw'
              obtain ⟨x', rfl⟩ := hw'
              go_simp
              rw [wrap_len hlen, if_pos ⟨by omega, by have := V7.out.capv; rw [hOl.out] at this; omega⟩, Int.toNat_natCast]
            refine hK _ ?_
            clear hK K'
            repeat
              refine Grow.heads_step (fun K' hK => ⟨rfl, ?_⟩)
              apply Exists.intro
              apply And.intro
              · intro w' hw'
                obtain ⟨x', rfl⟩ := hw'
                go_simp
                first | done | rfl | (rw [if_neg (by omega)]; done) | (rw [if_neg (by omega)]; rfl)
              go_simp
              refine hK _ ?_
              clear hK K'
            refine Grow.heads_nil ?_
            intro w20 e20
            refine Grow.seq_nil ?_
            have V9 := Lib.hid ((V7.out.grow e20).cut HO.out)
            have fz3 := (V7.out.grow e20).frozen 3
            clear hgl c0 c1 c2 c3 c4 c5 c6 c7
            obtain ⟨hgl, c0, c1, c2, c3, c4, c5, c6, c7⟩ := (V7.out.grow e20).cells
            clear e20
            go_wp2_with fail
            go_roundw
            case rel => exact ⟨k + 1, s7, av7, cv7, ab7, cb7, by omega, by go_num, hnx.out, V9.out, hl7⟩
            case measure => simp [intOf]; omega
        · rw [hh] at HC
          have hnx : Hid (loopL true rec ord s1 (k + 1) = s') := by show stepL _ _ _ (loopL true rec ord s1 k) k = _; rw [hs'.out]; exact stepL_has hl' (by rw [hh]; rfl)
          clear hh
          go_wp2_with (go_at_call 53; refine HC.out.mono ?_; rintro e w' ⟨rfl, hw⟩; subst hw)
          go_roundw
          case rel => exact ⟨k + 1, s', av', cv', ab', cb', by omega, by go_num, hnx.out, V.out, hl'⟩
          case measure => simp [intOf]; omega
      · obtain rfl : k = many := by omega
        first | (have hlt2 : ¬ k < l.length := by have := hmh.out; omega) | skip
        go_wp2_with fail
        go_ret
        refine ⟨(by rw [hu1.out, hs'.out, decide_eq_false (by omega)]; try rfl), V.out.srch.ext, fun _ => ⟨av', cv', ab', cb', by rw [hu1.out, hs'.out]; exact V.out⟩⟩
  · have hu : Hid (visL true worth many (d + 1) ord s = { s with left := s.left - 1 }) := by show _ = _; rw [visL_0 (by omega), show s.left - 1 = -1 by omega]
    have hd0 : decide (bud < nd + 1) = true := decide_eq_true (by have := hndh.out; omega)
    go_enter Try.func33, Try.ntmps33
    go_wp2_with fail
    generalize W.setCell ⟨g, 6, none⟩ (.int .i64 (nd + 1)) = W1 at *
    clear V0 hgl c0 c1 c2 c3 c4 c5 c6 c7 fz6
    obtain ⟨hgl, c0, c1, c2, c3, c4, c5, c6, c7⟩ := V1.out.cells
    rw [show bud - ({ s with left := s.left - 1 } : Sr).left = nd + 1 by show bud - (s.left - 1) = _; have := hndh.out; omega] at c6
    refine region_quiet (by kernel_rfl) (by kernel_rfl) ?_
    repeat (any_goals (first | go_big_quiet_step ((fail)) | quiet_step ((fail))))
    refine wpQuiet_nil ?_
    intro _ hw'
    obtain ⟨y, hw''⟩ := hw'
    subst hw''
    go_wp2_with fail
    go_ret
    refine ⟨(by rw [hu.out, decide_eq_true (show s.left - 1 < 0 by omega)]; try rfl), V1.out.srch.ext.lift _, fun h => absurd h (by rw [hu.out]; show ¬ 0 ≤ s.left - 1; omega)⟩
theorem order_any (worth : List Int → Int) (l : List Area) (many : Nat) (start bud : Int) (a : Option Addr) (cap : Nat) (hbud : bud ≤ 20000) (w0 : World) (hn8 : l.length ≤ 8) (hm8 : many ≤ 8) (hmany : many = l.length)
    (hwf : ∀ (W : World) (av : Option Addr) (cv : Nat) (ord : List Int), Ext w0 W → IntAt W av ord → ord.length = l.length → InMany many ord → Gives Try.prog 25 #[.slice a l.length cap, .slice av ord.length cv, .int .i64 start] W (.int .i64 (worth ord))) (g : Nat) :
    ∀ (d : Nat) (ord : List Int), InMany many ord → ord.length + d = l.length → ∀ (s : Sr) (W : World) (av : Option Addr) (cv : Nat) (ab : Option Addr) (cb : Nat), LS w0 W a l.length cap start 0 bud g s ord av cv ab cb → 0 ≤ s.left →
      Calls Try.prog 33 #[.pointer (some ⟨g, 0, none⟩)] W fun e w' => e = .returned (.bool (decide ((visL true worth many d ord s).left < 0))) ∧ Ext w0 w' ∧ (0 ≤ (visL true worth many d ord s).left → ∃ av' cv' ab' cb', LS w0 w' a l.length cap start 0 bud g (visL true worth many d ord s) ord av' cv' ab' cb')
  | 0, ord, hO, hd, s, W, av, cv, ab, cb, hV, hl => order_leaf worth l many start bud a cap hbud w0 hn8 hwf g ord hO (by omega) s W av cv ab cb hV hl
  | d + 1, ord, hO, hd, s, W, av, cv, ab, cb, hV, hl =>
    order_node worth l many start bud a cap hbud w0 hn8 hm8 hmany g ord d hd (fun k s W av cv ab cb hk hV hl =>
      order_any worth l many start bud a cap hbud w0 hn8 hm8 hmany hwf g d (ord ++ [(k : Int)]) (hO.push hk) (by rw [List.length_append]; simp only [List.length_cons, List.length_nil]; omega) s W av cv ab cb hV hl) s W av cv ab cb hV hl
set_option maxRecDepth 100000 in
set_option maxHeartbeats 8000000 in
theorem team_leaf (worth : List Int → Int) (l : List Area) (many : Nat) (start bud : Int) (a : Option Addr) (cap : Nat) (hbud : bud ≤ 20000) (w0 : World) (hn8 : l.length ≤ 8)
    (hwf : ∀ (W : World) (av : Option Addr) (cv : Nat) (ord : List Int), Ext w0 W → IntAt W av ord → ord.length = l.length → InMany many ord → Gives Try.prog 56 #[.slice a l.length cap, .slice av ord.length cv, .int .i64 start] W (.int .i64 (worth ord)))
    (g : Nat) (ord : List Int) (hO : InMany many ord) (hlen : ord.length = l.length) (s : Sr) (W : World) (av : Option Addr) (cv : Nat) (ab : Option Addr) (cb : Nat) (hV : LS w0 W a l.length cap start (many : Int) bud g s ord av cv ab cb) (hl : 0 ≤ s.left) :
    Calls Try.prog 42 #[.pointer (some ⟨g, 0, none⟩)] W fun e w' => e = .returned (.bool (decide ((visL false worth many 0 ord s).left < 0))) ∧ Ext w0 w' ∧ (0 ≤ (visL false worth many 0 ord s).left → ∃ av' cv' ab' cb', LS w0 w' a l.length cap start (many : Int) bud g (visL false worth many 0 ord s) ord av' cv' ab' cb') := by
  have V0 := Lib.hid hV
  have hhi := hV.hi
  obtain ⟨nd, hnd⟩ : ∃ nd, nd = bud - s.left := ⟨_, rfl⟩
  have hn0 : 0 ≤ nd := by omega
  have hn1 : nd ≤ 20000 := by omega
  have V1 := Lib.hid (hV.spend (x := s.left - 1) (by omega) (by omega) (nd + 1) (by omega))
  have fz6 := hV.frozen 6
  obtain ⟨hgl, c0, c1, c2, c3, c4, c5, c6, c7⟩ := V0.out.cells
  rw [← hnd] at c6
  have hndh := Lib.hid hnd
  clear hnd
  have HG : Hid (∀ x, Gives Try.prog 56 #[.slice a l.length cap, .slice av ord.length cv, .int .i64 start] (lift (W.setCell ⟨g, 6, none⟩ (.int .i64 (nd + 1))) x) (.int .i64 (worth ord))) := fun x =>
    hwf _ av cv ord (V1.out.srch.ext.lift x) (V1.out.row.ext ((Ext.refl _).lift x)) hlen hO
  have hq : ((ord.length : Int) == (l.length : Int)) = true := by rw [hlen]; simp
  have hle : ord.length ≤ 8 := by omega
  clear hV hwf hO hlen
  rcases Int.lt_or_le 0 s.left with hl0 | hl0
  · have hu0 := Lib.hid (visL_z (diff := false) (worth := worth) (many := many) (ord := ord) (s := s) (by omega))
    have hd0 : decide (bud < nd + 1) = false := decide_eq_false (by have := hndh.out; omega)
    go_enter Try.func42, Try.ntmps42
    go_wp2_with fail
    generalize W.setCell ⟨g, 6, none⟩ (.int .i64 (nd + 1)) = W1 at *
    clear V0 hgl c0 c1 c2 c3 c4 c5 c6 c7 fz6
    obtain ⟨hgl, c0, c1, c2, c3, c4, c5, c6, c7⟩ := V1.out.cells
    rw [show bud - ({ s with left := s.left - 1 } : Sr).left = nd + 1 by show bud - (s.left - 1) = _; have := hndh.out; omega] at c6
    refine region_quiet (by kernel_rfl) (by kernel_rfl) ?_
    repeat (any_goals (first | go_big_quiet_step ((fail)) | quiet_step ((fail))))
    refine wpQuiet_nil ?_
    intro _ hw'
    obtain ⟨y, hw''⟩ := hw'
    subst hw''
    clear hd0
    go_wp2_with fail
    replace V1 := Lib.hid (V1.out.grow ((Ext.refl _).lift y))
    have HG2 : Hid (∀ x, Gives Try.prog 56 #[.slice a l.length cap, .slice av ord.length cv, .int .i64 start] (lift (lift W1 y) x) (.int .i64 (worth ord))) := fun x => by
      have := HG.out ⟨y.blocks ++ x.blocks, x.drawn⟩
      have e : lift (lift W1 y) x = lift W1 ⟨y.blocks ++ x.blocks, x.drawn⟩ := by simp [lift, Array.append_assoc]
      rw [e]; exact this
    clear HG
    generalize lift W1 y = W2 at *
    clear hgl c0 c1 c2 c3 c4 c5 c6 c7
    obtain ⟨hgl, c0, c1, c2, c3, c4, c5, c6, c7⟩ := V1.out.cells
    refine region_quiet (by kernel_rfl) (by kernel_rfl) ?_
    repeat (any_goals (first | go_big_quiet_step ((fail)) | quiet_step ((fail))))
    refine wpQuiet_nil ?_
    intro _ hw'
    obtain ⟨y, hw''⟩ := hw'
    subst hw''
    go_wp2_with fail
    replace V1 := Lib.hid (V1.out.grow ((Ext.refl _).lift y))
    have HG3 : Hid (∀ x, Gives Try.prog 56 #[.slice a l.length cap, .slice av ord.length cv, .int .i64 start] (lift (lift W2 y) x) (.int .i64 (worth ord))) := fun x => by
      have := HG2.out ⟨y.blocks ++ x.blocks, x.drawn⟩
      have e : lift (lift W2 y) x = lift W2 ⟨y.blocks ++ x.blocks, x.drawn⟩ := by simp [lift, Array.append_assoc]
      rw [e]; exact this
    clear HG2
    generalize lift W2 y = W3 at *
    clear hgl c0 c1 c2 c3 c4 c5 c6 c7
    obtain ⟨hgl, c0, c1, c2, c3, c4, c5, c6, c7⟩ := V1.out.cells
    refine region_quiet (by kernel_rfl) (by kernel_rfl) ?_
    repeat (any_goals (first | go_big_quiet_step ((exact Gives.quiet (HG3.out _))) | quiet_step ((exact Gives.quiet (HG3.out _)))))
    refine wpQuiet_nil ?_
    intro _ hw'
    obtain ⟨y, hw''⟩ := hw'
    subst hw''
    replace V1 := Lib.hid (V1.out.grow ((Ext.refl _).lift y))
    clear HG3
    generalize lift W3 y = W4 at *
    clear hgl c0 c1 c2 c3 c4 c5 c6 c7
    obtain ⟨hgl, c0, c1, c2, c3, c4, c5, c6, c7⟩ := V1.out.cells
    by_cases hgt : s.most < worth ord
    · have hu : Hid (visL false worth many 0 ord s = ⟨ord, worth ord, s.left - 1⟩) := hu0.out.trans (updL_t hgt)
      have HC : Hid (Calls Try.prog 34 #[.slice av ord.length cv] W4 (fun e w' => ∃ a' cap', e = .returned (.slice a' ord.length cap') ∧ ord.length ≤ cap' ∧ Own w' W4.heap.size 2 1 a' ord.length ∧ IntAt w' a' ord ∧ Ext W4 w' ∧ (a' = none → cap' = 0))) := l00Own_any av cv ord W4 V1.out.row (fun e => V1.out.nilcap e) (by omega)
      go_wp2_with fail
      refine HC.out.mono ?_
      rintro e w2 ⟨ab2, cb2, rfl, hcb2, HO2, HR2, E2, hnb⟩
      have V3 := Lib.hid (V1.out.best1 E2 HO2 HR2 hcb2 hnb (worth ord))
      have fz4 := (V1.out.grow E2).frozen 4
      have fz5 := (V1.out.grow E2).frozen 5
      obtain ⟨hgl2, d0, d1, d2, d3, d4, d5, d6, d7⟩ := (V1.out.grow E2).cells
      clear V1 HC HO2 HR2 hnb hgl c0 c1 c2 c3 c4 c5 c6 c7
      go_wp2_with fail
      go_ret
      refine ⟨(by rw [hu.out, decide_eq_false (show ¬ s.left - 1 < 0 by omega)]; try rfl), V3.out.srch.ext, fun _ => ⟨av, cv, ab2, cb2, ?_⟩⟩
      rw [hu.out]
      exact V3.out
    · have hu : Hid (visL false worth many 0 ord s = { s with left := s.left - 1 }) := hu0.out.trans (updL_f hgt)
      go_wp2_with fail
      go_ret
      refine ⟨(by rw [hu.out, decide_eq_false (show ¬ s.left - 1 < 0 by omega)]; try rfl), V1.out.srch.ext, fun _ => ⟨av, cv, ab, cb, ?_⟩⟩
      rw [hu.out]
      exact V1.out
  · have hu : Hid (visL false worth many 0 ord s = { s with left := s.left - 1 }) := by show _ = _; rw [visL_0 (by omega), show s.left - 1 = -1 by omega]
    have hd0 : decide (bud < nd + 1) = true := decide_eq_true (by have := hndh.out; omega)
    clear HG
    go_enter Try.func42, Try.ntmps42
    go_wp2_with fail
    generalize W.setCell ⟨g, 6, none⟩ (.int .i64 (nd + 1)) = W1 at *
    clear V0 hgl c0 c1 c2 c3 c4 c5 c6 c7 fz6
    obtain ⟨hgl, c0, c1, c2, c3, c4, c5, c6, c7⟩ := V1.out.cells
    rw [show bud - ({ s with left := s.left - 1 } : Sr).left = nd + 1 by show bud - (s.left - 1) = _; have := hndh.out; omega] at c6
    refine region_quiet (by kernel_rfl) (by kernel_rfl) ?_
    repeat (any_goals (first | go_big_quiet_step ((fail)) | quiet_step ((fail))))
    refine wpQuiet_nil ?_
    intro _ hw'
    obtain ⟨y, hw''⟩ := hw'
    subst hw''
    go_wp2_with fail
    go_ret
    refine ⟨(by rw [hu.out, decide_eq_true (show s.left - 1 < 0 by omega)]; try rfl), V1.out.srch.ext.lift _, fun h => absurd h (by rw [hu.out]; show ¬ 0 ≤ s.left - 1; omega)⟩
set_option maxRecDepth 100000 in
set_option maxHeartbeats 8000000 in
theorem team_node (worth : List Int → Int) (l : List Area) (many : Nat) (start bud : Int) (a : Option Addr) (cap : Nat) (hbud : bud ≤ 20000) (w0 : World) (hn8 : l.length ≤ 8) (hm8 : many ≤ 8) (hmany : True) (g : Nat) (ord : List Int) (d : Nat) (hlen : ord.length + (d + 1) = l.length)
    (hrec : ∀ (k : Nat) (s : Sr) (W : World) (av : Option Addr) (cv : Nat) (ab : Option Addr) (cb : Nat), k < many → LS w0 W a l.length cap start (many : Int) bud g s (ord ++ [(k : Int)]) av cv ab cb → 0 ≤ s.left →
      Calls Try.prog 42 #[.pointer (some ⟨g, 0, none⟩)] W fun e w' => e = .returned (.bool (decide ((visL false worth many d (ord ++ [(k : Int)]) s).left < 0))) ∧ Ext w0 w' ∧ (0 ≤ (visL false worth many d (ord ++ [(k : Int)]) s).left → ∃ av' cv' ab' cb', LS w0 w' a l.length cap start (many : Int) bud g (visL false worth many d (ord ++ [(k : Int)]) s) (ord ++ [(k : Int)]) av' cv' ab' cb'))
    (s : Sr) (W : World) (av : Option Addr) (cv : Nat) (ab : Option Addr) (cb : Nat) (hV : LS w0 W a l.length cap start (many : Int) bud g s ord av cv ab cb) (hl : 0 ≤ s.left) :
    Calls Try.prog 42 #[.pointer (some ⟨g, 0, none⟩)] W fun e w' => e = .returned (.bool (decide ((visL false worth many (d + 1) ord s).left < 0))) ∧ Ext w0 w' ∧ (0 ≤ (visL false worth many (d + 1) ord s).left → ∃ av' cv' ab' cb', LS w0 w' a l.length cap start (many : Int) bud g (visL false worth many (d + 1) ord s) ord av' cv' ab' cb') := by
  have V0 := Lib.hid hV
  have hhi := hV.hi
  obtain ⟨nd, hnd⟩ : ∃ nd, nd = bud - s.left := ⟨_, rfl⟩
  have hn0 : 0 ≤ nd := by omega
  have hn1 : nd ≤ 20000 := by omega
  have V1 := Lib.hid (hV.spend (x := s.left - 1) (by omega) (by omega) (nd + 1) (by omega))
  have fz6 := hV.frozen 6
  obtain ⟨hgl, c0, c1, c2, c3, c4, c5, c6, c7⟩ := V0.out.cells
  rw [← hnd] at c6
  have hndh := Lib.hid hnd
  clear hnd
  obtain ⟨rec, hrc⟩ : ∃ rec, rec = visL false worth many d := ⟨_, rfl⟩
  rw [← hrc] at hrec
  have HR := Lib.hid hrec
  have hrch := Lib.hid hrc
  clear hV hrec hrc
  replace hlen : ord.length < l.length := by omega
  have hmh := Lib.hid hmany
  clear hmany
  rcases Int.lt_or_le 0 s.left with hl0 | hl0
  · have hu0 := Lib.hid (visL_s (diff := false) (worth := worth) (many := many) (ord := ord) (s := s) (d := d) (by omega))
    have hd0 : decide (bud < nd + 1) = false := decide_eq_false (by have := hndh.out; omega)
    have hq : ((ord.length : Int) == (l.length : Int)) = false := by rw [beq_eq_false_iff_ne]; omega
    go_enter Try.func42, Try.ntmps42
    go_wp2_with fail
    generalize W.setCell ⟨g, 6, none⟩ (.int .i64 (nd + 1)) = W1 at *
    clear V0 hgl c0 c1 c2 c3 c4 c5 c6 c7 fz6
    obtain ⟨hgl, c0, c1, c2, c3, c4, c5, c6, c7⟩ := V1.out.cells
    rw [show bud - ({ s with left := s.left - 1 } : Sr).left = nd + 1 by show bud - (s.left - 1) = _; have := hndh.out; omega] at c6
    refine region_quiet (by kernel_rfl) (by kernel_rfl) ?_
    repeat (any_goals (first | go_big_quiet_step ((fail)) | quiet_step ((fail))))
    refine wpQuiet_nil ?_
    intro _ hw'
    obtain ⟨y, hw''⟩ := hw'
    subst hw''
    clear hd0
    go_wp2_with fail
    replace V1 := Lib.hid (V1.out.grow ((Ext.refl _).lift y))
    generalize lift W1 y = W2 at *
    clear hgl c0 c1 c2 c3 c4 c5 c6 c7
    obtain ⟨hgl, c0, c1, c2, c3, c4, c5, c6, c7⟩ := V1.out.cells
    refine region_quiet (by kernel_rfl) (by kernel_rfl) ?_
    repeat (any_goals (first | go_big_quiet_step ((fail)) | quiet_step ((fail))))
    refine wpQuiet_nil ?_
    intro _ hw'
    obtain ⟨y, hw''⟩ := hw'
    subst hw''
    have V3 := Lib.hid (V1.out.grow ((Ext.refl _).lift y))
    clear V1
    generalize lift W2 y = W3 at *
    clear hgl c0 c1 c2 c3 c4 c5 c6 c7 hq
    obtain ⟨s1, hs1⟩ : ∃ s1 : Sr, s1 = { s with left := s.left - 1 } := ⟨_, rfl⟩
    have hl1 : 0 ≤ s1.left := by rw [hs1]; show 0 ≤ s.left - 1; omega
    have hu1 : Hid (visL false worth many (d + 1) ord s = loopL false rec ord s1 many) := by show _ = _; rw [hu0.out, hrch.out, hs1]
    rw [← hs1] at V3
    clear hs1 hu0 hrch
    replace hlen : ord.length ≤ 8 := by omega
    go_wp2_with fail
    go_loopw [4] (fun i wr => ∃ (k : Nat) (s' : Sr) (av : Option Addr) (cv : Nat) (ab : Option Addr) (cb : Nat), k ≤ many ∧ i = .int .i64 k ∧ Hid (loopL false rec ord s1 k = s') ∧ Hid (LS w0 wr a l.length cap start (many : Int) bud g s' ord av cv ab cb) ∧ 0 ≤ s'.left) (fun i _ => many - (intOf i).toNat)
    case atStart => exact ⟨0, s1, av, cv, ab, cb, Nat.zero_le _, rfl, rfl, V3.out, hl1⟩
    case round =>
      clear V3
      obtain ⟨k, s', av', cv', ab', cb', hk, rfl, hs', V, hl'⟩ := hrel
      obtain ⟨hgl, c0, c1, c2, c3, c4, c5, c6, c7⟩ := V.out.cells
      by_cases hlt : k < many
      · first | (have hlt2 : k < l.length := by have := hmh.out; omega) | skip
        have hdh : Hid ((false && hasB ord (k : Int)) = false) := rfl
        obtain ⟨O, hO⟩ : ∃ O : List Int, O = ord ++ [(k : Int)] := ⟨_, rfl⟩
        have hOl : Hid (O.length = ord.length + 1) := by show _ = _; rw [hO]; simp
        have hO9 : O.length ≤ 9 := by rw [hOl.out]; omega
        have HO := Lib.hid hO
        have fz3 := V.out.frozen 3
        have hnx : Hid (loopL false rec ord s1 (k + 1) = rec (ord ++ [(k : Int)]) s') := by
          show stepL _ _ _ (loopL false rec ord s1 k) k = _; rw [hs'.out]; exact stepL_go hl' hdh.out
        have V1 := Lib.hid (V.out.grow ((Ext.refl _).alloc (.cells #[.int .i64 k] 2)))
        have HR1 : Hid (IntAt (wr.alloc (.cells #[.int .i64 k] 2)) (some ⟨wr.heap.size, 0, none⟩) [(k : Int)]) := rows_int _ _ rfl
        clear hO
        go_wp2_with (at_builtin; refine wpList_pushAt elInt oneInt rfl _ _ rfl (g + 1) _ ord (by rfl) V1.out.srch.lst _ 1 1 [(k : Int)] rfl (by rfl) HR1.out (by have := hOl.out; omega) (by omega) (by rw [size_new]; omega) ?_; intro v' w3 HL hg3 hat3; rw [← HO.out] at HL; obtain ⟨av2, cv2, rfl, hcv2, -, -, -⟩ := HL.shape; have V4 := Lib.hid (V1.out.pushed HL hg3 hat3 hcv2); obtain ⟨e0, e1, e2⟩ := V1.out.mid hg3; clear V1 HR1 HL hg3 hat3 hgl c0 c1 c2 c3 c4 c5 c6 c7 fz3)
        have HR6 : Hid (Calls Try.prog 42 #[.pointer (some ⟨g, 0, none⟩)] (w3.setCell ⟨g, 3, none⟩ (.slice av2 O.length cv2)) fun e w' => e = .returned (.bool (decide ((rec (ord ++ [(k : Int)]) s').left < 0))) ∧ Ext w0 w' ∧ (0 ≤ (rec (ord ++ [(k : Int)]) s').left → ∃ av' cv' ab' cb', LS w0 w' a l.length cap start (many : Int) bud g (rec (ord ++ [(k : Int)]) s') (ord ++ [(k : Int)]) av' cv' ab' cb')) :=
          HR.out k s' _ av2 cv2 ab' cb' hlt (by rw [← HO.out]; exact V4.out) hl'
        clear e0 e1 e2
        refine HR6.out.mono ?_
        rintro e w13 ⟨rfl, T7, hV7⟩
        rw [← HO.out] at hV7 hnx
        obtain ⟨s7, hs7⟩ : ∃ s7, s7 = rec O s' := ⟨_, rfl⟩
        have e7 : rec (ord ++ [(k : Int)]) s' = s7 := by rw [hs7, ← HO.out]
        rw [e7]
        rw [← hs7] at hV7 hnx
        have hV7h := Lib.hid hV7
        clear hV7 hs7 e7 V4 HR6
        rcases Int.lt_or_le s7.left 0 with hl7 | hl7
        · rw [decide_eq_true hl7]
          go_wp2_with fail
          go_ret
          have hz : Hid (loopL false rec ord s1 many = s7) := by show _ = _; rw [loopL_stop (k := k + 1) (by rw [hnx.out]; exact hl7) many (by omega), hnx.out]
          refine ⟨(by rw [hu1.out, hz.out, decide_eq_true hl7]; try rfl), T7, fun h => absurd h (by rw [hu1.out, hz.out]; omega)⟩
        · rw [decide_eq_false (by omega)]
          obtain ⟨av7, cv7, ab7, cb7, hV8⟩ := hV7h.out hl7
          have V7 := Lib.hid hV8
          clear hV8 hV7h
          go_wp2_with fail
          try clear hgl c0 c1 c2 c3 c4 c5 c6 c7
          obtain ⟨hgl, c0, c1, c2, c3, c4, c5, c6, c7⟩ := V7.out.cells
          rw [hOl.out] at c3
          refine Grow.region_tail 14 [0, 1, 2, 3, 4, 5, 6, 7, 8, 9, 10, 11, 12, 13] [] (by kernel_rfl) (by kernel_rfl) ?_
          simp only [Grow.pick, Grow.pickB, List.getElem?_cons_succ, List.getElem?_cons_zero, List.drop_succ_cons, List.drop_zero]
          repeat
            refine Grow.heads_step (fun K' hK => ⟨rfl, ?_⟩)
            apply Exists.intro
            apply And.intro
            · intro w' hw'
              obtain ⟨x', rfl⟩ := hw'
              go_simp
              first | done | rfl | (rw [if_neg (by omega)]; done) | (rw [if_neg (by omega)]; rfl)
            go_simp
            refine hK _ ?_
            clear hK K'
          refine Grow.heads_step (fun K' hK => ⟨rfl, .slice av7 ord.length cv7, ?_, ?_⟩)
          · intro w' hw'
            obtain ⟨x', rfl⟩ := hw'
            go_simp
            rw [wrap_len hlen, if_pos ⟨by omega, by have := V7.out.capv; rw [hOl.out] at this; omega⟩, Int.toNat_natCast]
          refine hK _ ?_
          clear hK K'
          repeat
            refine Grow.heads_step (fun K' hK => ⟨rfl, ?_⟩)
            apply Exists.intro
            apply And.intro
            · intro w' hw'
              obtain ⟨x', rfl⟩ := hw'
              go_simp
              first | done | rfl | (rw [if_neg (by omega)]; done) | (rw [if_neg (by omega)]; rfl)
            go_simp
            refine hK _ ?_
            clear hK K'
          refine Grow.heads_nil ?_
          intro w20 e20
          refine Grow.seq_nil ?_
          have V9 := Lib.hid ((V7.out.grow e20).cut HO.out)
          have fz3 := (V7.out.grow e20).frozen 3
          clear hgl c0 c1 c2 c3 c4 c5 c6 c7
          obtain ⟨hgl, c0, c1, c2, c3, c4, c5, c6, c7⟩ := (V7.out.grow e20).cells
          clear e20
          go_wp2_with fail
          go_roundw
          case rel => exact ⟨k + 1, s7, av7, cv7, ab7, cb7, by omega, by go_num, hnx.out, V9.out, hl7⟩
          case measure => simp [intOf]; omega
      · obtain rfl : k = many := by omega
        first | (have hlt2 : ¬ k < l.length := by have := hmh.out; omega) | skip
        go_wp2_with fail
        go_ret
        refine ⟨(by rw [hu1.out, hs'.out, decide_eq_false (by omega)]; try rfl), V.out.srch.ext, fun _ => ⟨av', cv', ab', cb', by rw [hu1.out, hs'.out]; exact V.out⟩⟩
  · have hu : Hid (visL false worth many (d + 1) ord s = { s with left := s.left - 1 }) := by show _ = _; rw [visL_0 (by omega), show s.left - 1 = -1 by omega]
    have hd0 : decide (bud < nd + 1) = true := decide_eq_true (by have := hndh.out; omega)
    go_enter Try.func42, Try.ntmps42
    go_wp2_with fail
    generalize W.setCell ⟨g, 6, none⟩ (.int .i64 (nd + 1)) = W1 at *
    clear V0 hgl c0 c1 c2 c3 c4 c5 c6 c7 fz6
    obtain ⟨hgl, c0, c1, c2, c3, c4, c5, c6, c7⟩ := V1.out.cells
    rw [show bud - ({ s with left := s.left - 1 } : Sr).left = nd + 1 by show bud - (s.left - 1) = _; have := hndh.out; omega] at c6
    refine region_quiet (by kernel_rfl) (by kernel_rfl) ?_
    repeat (any_goals (first | go_big_quiet_step ((fail)) | quiet_step ((fail))))
    refine wpQuiet_nil ?_
    intro _ hw'
    obtain ⟨y, hw''⟩ := hw'
    subst hw''
    go_wp2_with fail
    go_ret
    refine ⟨(by rw [hu.out, decide_eq_true (show s.left - 1 < 0 by omega)]; try rfl), V1.out.srch.ext.lift _, fun h => absurd h (by rw [hu.out]; show ¬ 0 ≤ s.left - 1; omega)⟩
theorem team_any (worth : List Int → Int) (l : List Area) (many : Nat) (start bud : Int) (a : Option Addr) (cap : Nat) (hbud : bud ≤ 20000) (w0 : World) (hn8 : l.length ≤ 8) (hm8 : many ≤ 8) (hmany : True)
    (hwf : ∀ (W : World) (av : Option Addr) (cv : Nat) (ord : List Int), Ext w0 W → IntAt W av ord → ord.length = l.length → InMany many ord → Gives Try.prog 56 #[.slice a l.length cap, .slice av ord.length cv, .int .i64 start] W (.int .i64 (worth ord))) (g : Nat) :
    ∀ (d : Nat) (ord : List Int), InMany many ord → ord.length + d = l.length → ∀ (s : Sr) (W : World) (av : Option Addr) (cv : Nat) (ab : Option Addr) (cb : Nat), LS w0 W a l.length cap start (many : Int) bud g s ord av cv ab cb → 0 ≤ s.left →
      Calls Try.prog 42 #[.pointer (some ⟨g, 0, none⟩)] W fun e w' => e = .returned (.bool (decide ((visL false worth many d ord s).left < 0))) ∧ Ext w0 w' ∧ (0 ≤ (visL false worth many d ord s).left → ∃ av' cv' ab' cb', LS w0 w' a l.length cap start (many : Int) bud g (visL false worth many d ord s) ord av' cv' ab' cb')
  | 0, ord, hO, hd, s, W, av, cv, ab, cb, hV, hl => team_leaf worth l many start bud a cap hbud w0 hn8 hwf g ord hO (by omega) s W av cv ab cb hV hl
  | d + 1, ord, hO, hd, s, W, av, cv, ab, cb, hV, hl =>
    team_node worth l many start bud a cap hbud w0 hn8 hm8 hmany g ord d hd (fun k s W av cv ab cb hk hV hl =>
      team_any worth l many start bud a cap hbud w0 hn8 hm8 hmany hwf g d (ord ++ [(k : Int)]) (hO.push hk) (by rw [List.length_append]; simp only [List.length_cons, List.length_nil]; omega) s W av cv ab cb hV hl) s W av cv ab cb hV hl
end Go.Proofs.Ytcmgijidehlkjaa
