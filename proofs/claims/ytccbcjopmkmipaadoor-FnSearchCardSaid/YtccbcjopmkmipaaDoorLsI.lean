/- Chapter 25: the program's search for the list of numbers with the greatest worth. -/
import Derived.Test.YtccbcjopmkmipaaDoorLs
namespace Go.Proofs.YtccbcjopmkmipaaDoor
open Go.RowKit
theorem elInt : El Tryd.prog 27 2 1 8 := El.mk' Tryd.underlying27 (by kernel_rfl) (by decide)
theorem oneInt : ∀ (x : Int) (j : Nat), j < 1 → (cellI x j).oneCell' = true := fun _ _ _ => rfl
set_option maxRecDepth 100000 in
set_option maxHeartbeats 1000000 in
theorem CloneInt_any (a : Option Addr) (cap : Nat) (l : List Int) (w : World) (H : IntAt w a l) (hlen : l.length ≤ 1048576) :
    Calls Tryd.prog 35 #[.slice a l.length cap] w (OutL 2 1 (fun (x : Int) (_ : Nat) => Value.int .i64 x) w l) := by
  cases a with
  | none =>
    have h0 : l.length = 0 := by
      rcases Nat.eq_zero_or_pos l.length with h | h
      · exact h
      · obtain ⟨b, off, h, _⟩ := H 0 h; cases h
    obtain rfl : l = [] := List.length_eq_zero_iff.1 h0
    have q0 : ∀ W, (binOp .eql 27 (.slice none 0 cap) (.slice none 0 0)).run Tryd.prog W = .ok (.bool true) W := fun W => Lib.run_eql_slice_nil W _ _ none 0 cap 0 0 Tryd.underlying27
    go_enter Tryd.func35, Tryd.ntmps35
    go_wp2_with fail
    go_ret
    exact ⟨none, 0, rfl, Nat.le_refl _, .inl rfl, RowsAt.nil, Ext.refl _⟩
  | some ad =>
    have HL : Hid (Lst 2 1 (fun (x : Int) (_ : Nat) => Value.int .i64 x) (w.alloc (.cells #[] 2)) w.heap.size (.slice (some ⟨w.heap.size, 0, none⟩) 0 0) ([] : List Int)) := Lst.new w _ (Nat.le_refl _)
    have hE := Lib.hid ((Ext.refl w).alloc (.cells #[] 2))
    have HR := Lib.hid (H.ext hE.out)
    have hb : Hid (w.heap.size ≤ (w.alloc (.cells #[] 2)).heap.size) := by show _ ≤ _; rw [size_new]; omega
    have C1 : Hid (([] : List Int).length + l.length ≤ 9223372036854775807) := by show _ ≤ _; simp; omega
    have C2 : Hid ((([] : List Int).length + l.length) * 8 ≤ 140737488355328) := by show _ ≤ _; simp; omega
    clear H
    have q0 : ∀ W, (binOp .eql 27 (.slice (some ad) l.length cap) (.slice none 0 0)).run Tryd.prog W = .ok (.bool false) W := fun W => Lib.run_eql_slice_nil W _ _ (some ad) l.length cap 0 0 Tryd.underlying27
    go_enter Tryd.func35, Tryd.ntmps35
    go_wp2_with (at_builtin; refine wpList_pushL elInt oneInt rfl _ _ rfl w.heap.size _ [] rfl HL.out ad l.length cap l rfl rfl HR.out C1.out C2.out hb.out ?_; intro v' w1 HL1 hs1 _)
    rw [List.nil_append] at HL1
    obtain ⟨a', cap', rfl, hc', hm', R1, O1⟩ := HL1.shape
    have hX : Hid (Ext w w1) := hs1.ext hE.out (Nat.le_refl _)
    have R2 := Lib.hid R1
    have O2 := Lib.hid O1
    clear HL1 hs1 R1 O1
    go_wp2_with fail
    go_ret
    exact ⟨a', cap', rfl, hc', O2.out, R2.out, hX.out⟩
/-- The cells of the program's search. -/
def objL (many n : Nat) (diff : Bool) (fv v vb : Value) (left most : Int) : Nat → Value
  | 0 => .int .i64 (many : Int)
  | 1 => .int .i64 (n : Int)
  | 2 => .bool diff
  | 3 => .int .i64 left
  | 4 => fv
  | 5 => v
  | 6 => vb
  | _ => .int .i64 most
structure LI (w0 w : World) (many n : Nat) (diff : Bool) (fv : Value) (g : Nat) (s : Sr) (ord : List Int) (av : Option Addr) (cv : Nat) (ab : Option Addr) (cb : Nat) : Prop where
  srch : Srch 48 2 8 w0 w g (objL many n diff fv (.slice av ord.length cv) (.slice ab s.best.length cb) s.left s.most) (.slice av ord.length cv) ord ab s.best
  capv : ord.length ≤ cv
  capb : s.best.length ≤ cb
  lo : -1 ≤ s.left
  hi : s.left ≤ 20000
section
variable {w0 w w' : World} {many n : Nat} {diff : Bool} {fv : Value} {g : Nat} {s : Sr} {ord : List Int} {av : Option Addr} {cv : Nat} {ab : Option Addr} {cb : Nat}
theorem LI.cells (h : LI w0 w many n diff fv g s ord av cv ab cb) :
    g < w.heap.size ∧ w.cell? ⟨g, 0, none⟩ = some (.int .i64 (many : Int)) ∧ w.cell? ⟨g, 1, none⟩ = some (.int .i64 (n : Int)) ∧ w.cell? ⟨g, 2, none⟩ = some (.bool diff) ∧ w.cell? ⟨g, 3, none⟩ = some (.int .i64 s.left) ∧ w.cell? ⟨g, 4, none⟩ = some fv ∧ w.cell? ⟨g, 5, none⟩ = some (.slice av ord.length cv) ∧ w.cell? ⟨g, 6, none⟩ = some (.slice ab s.best.length cb) ∧ w.cell? ⟨g, 7, none⟩ = some (.int .i64 s.most) :=
  have o := h.srch.obj
  ⟨o.blk.lt, o.cell 0 (by decide), o.cell 1 (by decide), o.cell 2 (by decide), o.cell 3 (by decide), o.cell 4 (by decide), o.cell 5 (by decide), o.cell 6 (by decide), o.cell 7 (by decide)⟩
theorem LI.frozen (h : LI w0 w many n diff fv g s ord av cv ab cb) (o : Nat) : w.frozen? ⟨g, o, none⟩ = false := h.srch.obj.blk.frozen o
theorem LI.grow (h : LI w0 w many n diff fv g s ord av cv ab cb) (he : Ext w w') : LI w0 w' many n diff fv g s ord av cv ab cb :=
  ⟨h.srch.grow he, h.capv, h.capb, h.lo, h.hi⟩
theorem LI.row (h : LI w0 w many n diff fv g s ord av cv ab cb) : IntAt w av ord := by
  obtain ⟨a', c', e, -, -, h, -⟩ := h.srch.lst.shape
  simp only [Value.slice.injEq, true_and] at e
  rw [e.1]; exact h
theorem LI.better (h : LI w0 w many n diff fv g s ord av cv ab cb) (he : Ext w w') {ab' : Option Addr} {cb' : Nat} (ho : Own w' w.heap.size 2 1 ab' ord.length) (hr : IntAt w' ab' ord) (hc : ord.length ≤ cb') (m : Int) :
    LI w0 ((w'.setCell ⟨g, 6, none⟩ (.slice ab' ord.length cb')).setCell ⟨g, 7, none⟩ (.int .i64 m)) many n diff fv g ⟨ord, m, s.left⟩ ord av cv ab' cb' :=
  ⟨((h.srch.newBest he ho hr).set (f' := objL many n diff fv (.slice av ord.length cv) (.slice ab' ord.length cb') s.left s.most) 6 _ (by decide) rfl (fun j hj hne => by rcases (show j = 0 ∨ j = 1 ∨ j = 2 ∨ j = 3 ∨ j = 4 ∨ j = 5 ∨ j = 6 ∨ j = 7 by omega) with rfl | rfl | rfl | rfl | rfl | rfl | rfl | rfl <;> first | rfl | exact absurd rfl hne)).set 7 _ (by decide) rfl (fun j hj hne => by rcases (show j = 0 ∨ j = 1 ∨ j = 2 ∨ j = 3 ∨ j = 4 ∨ j = 5 ∨ j = 6 ∨ j = 7 by omega) with rfl | rfl | rfl | rfl | rfl | rfl | rfl | rfl <;> first | rfl | exact absurd rfl hne), h.capv, hc, h.lo, h.hi⟩
theorem LI.pushed (h : LI w0 w many n diff fv g s ord av cv ab cb) {O : List Int} {av' : Option Addr} {cv' : Nat} (hL : Lst 2 1 cellI w' (g + 1) (.slice av' O.length cv') O) (hg : w.grownBy w' (Value.slice av ord.length cv).ownBlock) (hat : (Value.slice av' O.length cv').ownBlock = (Value.slice av ord.length cv).ownBlock ∨ (Value.slice av' O.length cv').ownBlock = some w.heap.size) (hc : O.length ≤ cv') :
    LI w0 (w'.setCell ⟨g, 5, none⟩ (.slice av' O.length cv')) many n diff fv g s O av' cv' ab cb :=
  ⟨(h.srch.newOrd hL hg hat).set 5 _ (by decide) rfl (fun j hj hne => by rcases (show j = 0 ∨ j = 1 ∨ j = 2 ∨ j = 3 ∨ j = 4 ∨ j = 5 ∨ j = 6 ∨ j = 7 by omega) with rfl | rfl | rfl | rfl | rfl | rfl | rfl | rfl <;> first | rfl | exact absurd rfl hne), hc, h.capb, h.lo, h.hi⟩
theorem LI.mid (h : LI w0 w many n diff fv g s ord av cv ab cb) (hg : w.grownBy w' (Value.slice av ord.length cv).ownBlock) : g < w'.heap.size ∧ w'.cell? ⟨g, 5, none⟩ = some (.slice av ord.length cv) ∧ w'.frozen? ⟨g, 5, none⟩ = false :=
  have o := h.srch.obj.grown hg (h.srch.lst.row_ne (Nat.lt_succ_self g))
  ⟨o.blk.lt, o.cell 5 (by decide), o.blk.frozen 5⟩
theorem LI.cut {x : Int} {O : List Int} (h : LI w0 w many n diff fv g s O av cv ab cb) (hO : O = ord ++ [x]) :
    LI w0 (w.setCell ⟨g, 5, none⟩ (.slice av ord.length cv)) many n diff fv g s ord av cv ab cb := by
  subst hO
  have e : (ord ++ [x]).length = ord.length + 1 := by simp
  have h1 := h.srch
  have h2 := h.capv
  rw [e] at h1 h2
  exact ⟨(h1.pop rfl).set 5 _ (by decide) rfl (fun j hj hne => by rcases (show j = 0 ∨ j = 1 ∨ j = 2 ∨ j = 3 ∨ j = 4 ∨ j = 5 ∨ j = 6 ∨ j = 7 by omega) with rfl | rfl | rfl | rfl | rfl | rfl | rfl | rfl <;> first | rfl | exact absurd rfl hne), by omega, h.capb, h.lo, h.hi⟩
theorem LI.spend (h : LI w0 w many n diff fv g s ord av cv ab cb) {x : Int} (h1 : -1 ≤ x) (h2 : x ≤ 20000) :
    LI w0 (w.setCell ⟨g, 3, none⟩ (.int .i64 x)) many n diff fv g { s with left := x } ord av cv ab cb :=
  ⟨h.srch.set 3 _ (by decide) rfl (fun j hj hne => by rcases (show j = 0 ∨ j = 1 ∨ j = 2 ∨ j = 3 ∨ j = 4 ∨ j = 5 ∨ j = 6 ∨ j = 7 by omega) with rfl | rfl | rfl | rfl | rfl | rfl | rfl | rfl <;> first | rfl | exact absurd rfl hne), h.capv, h.capb, h1, h2⟩
end
theorem wrap_len {n : Nat} (h : n ≤ 8) : IntKind.i64.wrap (n : Int) = n := by rw [IntKind.wrap_i64]; omega
set_option maxRecDepth 100000 in
set_option maxHeartbeats 8000000 in
theorem visitL_leaf (worth : List Int → Int) (many n : Nat) (diff : Bool) (F : FuncId) (vs : Array Value) (eg : Enters Tryd.prog F) (w0 : World) (hn8 : n ≤ 8)
    (hwf : ∀ (W : World) (av : Option Addr) (cv : Nat) (ord : List Int), Ext w0 W → IntAt W av ord → ord.length = n → InMany many ord → Gives Tryd.prog F (#[.slice av ord.length cv] ++ vs) W (.int .i64 (worth ord)))
    (g : Nat) (ord : List Int) (hO : InMany many ord) (hlen : ord.length = n) (s : Sr) (W : World) (av : Option Addr) (cv : Nat) (ab : Option Addr) (cb : Nat) (hV : LI w0 W many n diff (.func (.func F) #[] vs) g s ord av cv ab cb) (hl : 0 ≤ s.left) :
    Calls Tryd.prog 23 #[.pointer (some ⟨g, 0, none⟩)] W fun e w' => e = .returned (.tuple #[]) ∧ ∃ av' cv' ab' cb', LI w0 w' many n diff (.func (.func F) #[] vs) g (visL diff worth many 0 ord s) ord av' cv' ab' cb' := by
  have V0 := Lib.hid hV
  have hhi := hV.hi
  have V1 := Lib.hid (hV.spend (x := s.left - 1) (by omega) (by omega))
  have fz3 := hV.frozen 3
  have HG : Hid (∀ x, Gives Tryd.prog F (#[.slice av ord.length cv] ++ vs) (lift (W.setCell ⟨g, 3, none⟩ (.int .i64 (s.left - 1))) x) (.int .i64 (worth ord))) := fun x =>
    hwf _ av cv ord (V1.out.srch.ext.lift x) (V1.out.row.ext ((Ext.refl _).lift x)) hlen hO
  have hq : ((ord.length : Int) == (n : Int)) = true := by rw [hlen]; simp
  have hle : ord.length ≤ 8 := by omega
  clear hV hwf hO hlen
  unfold Enters at eg
  obtain ⟨hgl, c0, c1, c2, c3, c4, c5, c6, c7⟩ := V0.out.cells
  rcases Int.lt_or_le 0 s.left with hl0 | hl0
  · have hu0 := Lib.hid (visL_z (diff := diff) (worth := worth) (many := many) (ord := ord) (s := s) (by omega))
    have hd0 : decide (s.left - 1 < 0) = false := decide_eq_false (by omega)
    go_enter Tryd.func23, Tryd.ntmps23
    go_wp2_with fail
    generalize W.setCell ⟨g, 3, none⟩ (.int .i64 (s.left - 1)) = W1 at *
    clear V0 hgl c0 c1 c2 c3 c4 c5 c6 c7 fz3
    obtain ⟨hgl, c0, c1, c2, c3, c4, c5, c6, c7⟩ := V1.out.cells
    refine region_quiet (by kernel_rfl) (by kernel_rfl) ?_
    repeat (any_goals (first | go_big_quiet_step ((fail)) | quiet_step ((fail))))
    refine wpQuiet_nil ?_
    intro _ hw'
    obtain ⟨y, hw''⟩ := hw'
    subst hw''
    go_wp2_with fail
    replace V1 := Lib.hid (V1.out.grow ((Ext.refl _).lift y))
    have HG2 : Hid (∀ x, Gives Tryd.prog F (#[.slice av ord.length cv] ++ vs) (lift (lift W1 y) x) (.int .i64 (worth ord))) := fun x => by
      have := HG.out ⟨y.blocks ++ x.blocks, x.drawn⟩
      have e : lift (lift W1 y) x = lift W1 ⟨y.blocks ++ x.blocks, x.drawn⟩ := by simp [lift, Array.append_assoc]
      rw [e]; exact this
    clear HG
    generalize lift W1 y = W2 at *
    clear hgl c0 c1 c2 c3 c4 c5 c6 c7
    obtain ⟨hgl, c0, c1, c2, c3, c4, c5, c6, c7⟩ := V1.out.cells
    refine region_quiet (by kernel_rfl) (by kernel_rfl) ?_
    repeat (any_goals (first | go_big_quiet_step ((exact Gives.quiet (HG2.out _))) | quiet_step ((exact Gives.quiet (HG2.out _)))))
    refine wpQuiet_nil ?_
    intro _ hw'
    obtain ⟨y, hw''⟩ := hw'
    subst hw''
    replace V1 := Lib.hid (V1.out.grow ((Ext.refl _).lift y))
    clear HG2
    generalize lift W2 y = W3 at *
    clear hgl c0 c1 c2 c3 c4 c5 c6 c7
    obtain ⟨hgl, c0, c1, c2, c3, c4, c5, c6, c7⟩ := V1.out.cells
    by_cases hgt : s.most < worth ord
    · have hu : Hid (visL diff worth many 0 ord s = ⟨ord, worth ord, s.left - 1⟩) := hu0.out.trans (updL_t hgt)
      have HC : Hid (Calls Tryd.prog 35 #[.slice av ord.length cv] W3 (OutL 2 1 cellI W3 ord)) := CloneInt_any av cv ord W3 V1.out.row (by omega)
      go_wp2_with fail
      refine HC.out.mono ?_
      rintro e w2 ⟨ab2, cb2, rfl, hcb2, HO2, HR2, E2⟩
      have V3 := Lib.hid (V1.out.better E2 HO2 HR2 hcb2 (worth ord))
      have fz6 := (V1.out.grow E2).frozen 6
      have fz7 := (V1.out.grow E2).frozen 7
      obtain ⟨hgl2, d0, d1, d2, d3, d4, d5, d6, d7⟩ := (V1.out.grow E2).cells
      clear V1 HC HO2 HR2 hgl c0 c1 c2 c3 c4 c5 c6 c7
      go_wp2_with fail
      (try simp only [Exit.inBlock, Exit.then])
      first | refine bodyPost_ret (results_none rfl _ _ _) rfl ?_ | refine bodyPost_end (results_none rfl _ _ _) rfl ?_
      refine ⟨rfl, av, cv, ab2, cb2, ?_⟩
      rw [hu.out]
      exact V3.out
    · have hu : Hid (visL diff worth many 0 ord s = { s with left := s.left - 1 }) := hu0.out.trans (updL_f hgt)
      go_wp2_with fail
      (try simp only [Exit.inBlock, Exit.then])
      first | refine bodyPost_ret (results_none rfl _ _ _) rfl ?_ | refine bodyPost_end (results_none rfl _ _ _) rfl ?_
      refine ⟨rfl, av, cv, ab, cb, ?_⟩
      rw [hu.out]
      exact V1.out
  · have hu : Hid (visL diff worth many 0 ord s = { s with left := s.left - 1 }) := by show _ = _; rw [visL_0 (by omega), show s.left - 1 = -1 by omega]
    have hd0 : decide (s.left - 1 < 0) = true := decide_eq_true (by omega)
    clear HG
    go_enter Tryd.func23, Tryd.ntmps23
    go_wp2_with fail
    (try simp only [Exit.inBlock, Exit.then])
    first | refine bodyPost_ret (results_none rfl _ _ _) rfl ?_ | refine bodyPost_end (results_none rfl _ _ _) rfl ?_
    refine ⟨rfl, av, cv, ab, cb, ?_⟩
    rw [hu.out]
    exact V1.out
set_option maxRecDepth 100000 in
set_option maxHeartbeats 8000000 in
theorem visitL_node (worth : List Int → Int) (many n : Nat) (diff : Bool) (fv : Value) (w0 : World) (hn8 : n ≤ 8) (hm8 : many ≤ 8) (g : Nat) (ord : List Int) (d : Nat) (hlen : ord.length + (d + 1) = n)
    (hrec : ∀ (k : Nat) (s : Sr) (W : World) (av : Option Addr) (cv : Nat) (ab : Option Addr) (cb : Nat), k < many → LI w0 W many n diff fv g s (ord ++ [(k : Int)]) av cv ab cb → 0 ≤ s.left →
      Calls Tryd.prog 23 #[.pointer (some ⟨g, 0, none⟩)] W fun e w' => e = .returned (.tuple #[]) ∧ ∃ av' cv' ab' cb', LI w0 w' many n diff fv g (visL diff worth many d (ord ++ [(k : Int)]) s) (ord ++ [(k : Int)]) av' cv' ab' cb')
    (s : Sr) (W : World) (av : Option Addr) (cv : Nat) (ab : Option Addr) (cb : Nat) (hV : LI w0 W many n diff fv g s ord av cv ab cb) (hl : 0 ≤ s.left) :
    Calls Tryd.prog 23 #[.pointer (some ⟨g, 0, none⟩)] W fun e w' => e = .returned (.tuple #[]) ∧ ∃ av' cv' ab' cb', LI w0 w' many n diff fv g (visL diff worth many (d + 1) ord s) ord av' cv' ab' cb' := by
  have V0 := Lib.hid hV
  have hhi := hV.hi
  have V1 := Lib.hid (hV.spend (x := s.left - 1) (by omega) (by omega))
  have fz3 := hV.frozen 3
  obtain ⟨rec, hrc⟩ : ∃ rec, rec = visL diff worth many d := ⟨_, rfl⟩
  rw [← hrc] at hrec
  have HR := Lib.hid hrec
  have hrch := Lib.hid hrc
  clear hV hrec hrc
  replace hlen : ord.length < n := by omega
  obtain ⟨hgl, c0, c1, c2, c3, c4, c5, c6, c7⟩ := V0.out.cells
  rcases Int.lt_or_le 0 s.left with hl0 | hl0
  · have hu0 := Lib.hid (visL_s (diff := diff) (worth := worth) (many := many) (ord := ord) (s := s) (d := d) (by omega))
    have hq : ((ord.length : Int) == (n : Int)) = false := by rw [beq_eq_false_iff_ne]; omega
    have hd0 : decide (s.left - 1 < 0) = false := decide_eq_false (by omega)
    go_enter Tryd.func23, Tryd.ntmps23
    go_wp2_with fail
    generalize W.setCell ⟨g, 3, none⟩ (.int .i64 (s.left - 1)) = W1 at *
    clear V0 hgl c0 c1 c2 c3 c4 c5 c6 c7 fz3
    obtain ⟨hgl, c0, c1, c2, c3, c4, c5, c6, c7⟩ := V1.out.cells
    refine region_quiet (by kernel_rfl) (by kernel_rfl) ?_
    repeat (any_goals (first | go_big_quiet_step ((fail)) | quiet_step ((fail))))
    refine wpQuiet_nil ?_
    intro _ hw'
    obtain ⟨y, hw''⟩ := hw'
    subst hw''
    have V3 := Lib.hid (V1.out.grow ((Ext.refl _).lift y))
    clear V1
    generalize lift W1 y = W2 at *
    clear hgl c0 c1 c2 c3 c4 c5 c6 c7 hq
    obtain ⟨hgl, c0, c1, c2, c3, c4, c5, c6, c7⟩ := V3.out.cells
    obtain ⟨s1, hs1⟩ : ∃ s1 : Sr, s1 = { s with left := s.left - 1 } := ⟨_, rfl⟩
    have hl1 : 0 ≤ s1.left := by rw [hs1]; show 0 ≤ s.left - 1; omega
    have hu1 : Hid (visL diff worth many (d + 1) ord s = loopL diff rec ord s1 many) := by show _ = _; rw [hu0.out, hrch.out, hs1]
    rw [← hs1] at V3
    clear hs1 hu0 hrch
    replace hlen : ord.length ≤ 8 := by omega
    go_wp2_with fail
    go_loopw [57] (fun i wr => ∃ (k : Nat) (s' : Sr) (av : Option Addr) (cv : Nat) (ab : Option Addr) (cb : Nat), k ≤ many ∧ i = .int .i64 k ∧ Hid (loopL diff rec ord s1 k = s') ∧ Hid (LI w0 wr many n diff fv g s' ord av cv ab cb) ∧ 0 ≤ s'.left) (fun i _ => many - (intOf i).toNat)
    case atStart => exact ⟨0, s1, av, cv, ab, cb, Nat.zero_le _, rfl, rfl, V3.out, hl1⟩
    case round =>
      clear V3 hgl c0 c1 c2 c3 c4 c5 c6 c7
      obtain ⟨k, s', av', cv', ab', cb', hk, rfl, hs', V, hl'⟩ := hrel
      obtain ⟨hgl, c0, c1, c2, c3, c4, c5, c6, c7⟩ := V.out.cells
      by_cases hlt : k < many
      · have HC : Hid (Calls Tryd.prog 36 #[.slice av' ord.length cv', .int .i64 k] wr fun e w' => e = .returned (.bool (hasB ord k)) ∧ w' = wr) := Contains_any av' cv' ord k wr V.out.row (by omega)
        cases diff
        · have hdh : Hid ((false && hasB ord (k : Int)) = false) := rfl
          clear HC
          obtain ⟨O, hO⟩ : ∃ O : List Int, O = ord ++ [(k : Int)] := ⟨_, rfl⟩
          have hOl : Hid (O.length = ord.length + 1) := by show _ = _; rw [hO]; simp
          have hO9 : O.length ≤ 9 := by rw [hOl.out]; omega
          have HO := Lib.hid hO
          have fz5 := V.out.frozen 5
          have hnx : Hid (loopL false rec ord s1 (k + 1) = rec (ord ++ [(k : Int)]) s') := by
            show stepL _ _ _ (loopL false rec ord s1 k) k = _; rw [hs'.out]; exact stepL_go hl' hdh.out
          have V1 := Lib.hid (V.out.grow ((Ext.refl _).alloc (.cells #[.int .i64 k] 2)))
          have HR1 : Hid (IntAt (wr.alloc (.cells #[.int .i64 k] 2)) (some ⟨wr.heap.size, 0, none⟩) [(k : Int)]) := rows_int _ _ rfl
          clear hO
          go_wp2_with (first
            | fail
            | (at_builtin; refine wpList_pushAt elInt oneInt rfl _ _ rfl (g + 1) _ ord (by rfl) V1.out.srch.lst _ 1 1 [(k : Int)] rfl (by rfl) HR1.out (by have := hOl.out; omega) (by omega) (by rw [size_new]; omega) ?_; intro v' w3 HL hg3 hat3; rw [← HO.out] at HL; obtain ⟨av2, cv2, rfl, hcv2, -, -, -⟩ := HL.shape; have V4 := Lib.hid (V1.out.pushed HL hg3 hat3 hcv2); obtain ⟨e0, e1, e2⟩ := V1.out.mid hg3; clear V1 HR1 HL hg3 hat3 hgl c0 c1 c2 c3 c4 c5 c6 c7 fz5))
          have HR6 : Hid (Calls Tryd.prog 23 #[.pointer (some ⟨g, 0, none⟩)] (w3.setCell ⟨g, 5, none⟩ (.slice av2 O.length cv2)) fun e w' => e = .returned (.tuple #[]) ∧ ∃ av' cv' ab' cb', LI w0 w' many n false fv g (rec (ord ++ [(k : Int)]) s') (ord ++ [(k : Int)]) av' cv' ab' cb') :=
            HR.out k s' _ av2 cv2 ab' cb' hlt (by rw [← HO.out]; exact V4.out) hl'
          clear e0 e1 e2
          refine HR6.out.mono ?_
          rintro e w13 ⟨rfl, av7, cv7, ab7, cb7, hV7⟩
          rw [← HO.out] at hV7 hnx
          obtain ⟨s7, hs7⟩ : ∃ s7, s7 = rec O s' := ⟨_, rfl⟩
          rw [← hs7] at hV7 hnx
          have V7 := Lib.hid hV7
          clear hV7 hs7 V4 HR6
          go_wp2_with fail
          have hlo7 := V7.out.lo
          have hhi7 := V7.out.hi
          rcases Int.lt_or_le s7.left 0 with hl7 | hl7
          · try clear hgl c0 c1 c2 c3 c4 c5 c6 c7
            obtain ⟨hgl, c0, c1, c2, c3, c4, c5, c6, c7⟩ := V7.out.cells
            rw [hOl.out] at c5
            refine Grow.region_tail 14 [0, 1, 2, 3, 4, 5, 6, 7, 8, 9, 10, 11, 12, 13] [] (by kernel_rfl) (by kernel_rfl) ?_
            simp only [Grow.pick, Grow.pickB, List.getElem?_cons_succ, List.getElem?_cons_zero, List.drop_succ_cons, List.drop_zero]
            repeat
              refine Grow.heads_step (fun K' hK => ⟨rfl, ?_⟩)
              apply Exists.intro
              apply And.intro
              · intro w' hw'
                obtain ⟨x', rfl⟩ := hw'
                go_simp
                first | done | rfl | (rw [if_neg (by omega)]; done) | (rw [if_neg (by omega)]; rfl) | (rw [if_pos (by omega)]; done) | (rw [if_pos (by omega)]; rfl)
              go_simp
              refine hK _ ?_
              clear hK K'
            refine Grow.heads_step (fun K' hK => ⟨rfl, .slice av7 ord.length cv7, ?_, ?_⟩)
            · intro w' hw'
              obtain ⟨x', rfl⟩ := hw'
              go_simp
              rw [wrap_len hlen, if_pos ⟨by omega, by have := V7.out.capv; rw [hOl.out] at this; omega⟩, Int.toNat_natCast]
            refine hK _ ?_
            clear hK K'
            repeat
              refine Grow.heads_step (fun K' hK => ⟨rfl, ?_⟩)
              apply Exists.intro
              apply And.intro
              · intro w' hw'
                obtain ⟨x', rfl⟩ := hw'
                go_simp
                first | done | rfl | (rw [if_neg (by omega)]; done) | (rw [if_neg (by omega)]; rfl) | (rw [if_pos (by omega)]; done) | (rw [if_pos (by omega)]; rfl)
              go_simp
              refine hK _ ?_
              clear hK K'
            refine Grow.heads_nil ?_
            intro w20 e20
            refine Grow.seq_nil ?_
            have V9 := Lib.hid ((V7.out.grow e20).cut HO.out)
            have fz5 := (V7.out.grow e20).frozen 5
            clear hgl c0 c1 c2 c3 c4 c5 c6 c7
            obtain ⟨hgl, c0, c1, c2, c3, c4, c5, c6, c7⟩ := (V7.out.grow e20).cells
            clear e20
            have hd7 : decide (s7.left < 0) = true := decide_eq_true hl7
            go_wp2_with fail
            (try simp only [Exit.inBlock, Exit.then])
            first | refine bodyPost_ret (results_none rfl _ _ _) rfl ?_ | refine bodyPost_end (results_none rfl _ _ _) rfl ?_
            refine ⟨rfl, av7, cv7, ab7, cb7, ?_⟩
            rw [hu1.out, loopL_stop (k := k + 1) (by rw [hnx.out]; exact hl7) many (by omega), hnx.out]
            exact V9.out
          · try clear hgl c0 c1 c2 c3 c4 c5 c6 c7
            obtain ⟨hgl, c0, c1, c2, c3, c4, c5, c6, c7⟩ := V7.out.cells
            rw [hOl.out] at c5
            refine Grow.region_tail 14 [0, 1, 2, 3, 4, 5, 6, 7, 8, 9, 10, 11, 12, 13] [] (by kernel_rfl) (by kernel_rfl) ?_
            simp only [Grow.pick, Grow.pickB, List.getElem?_cons_succ, List.getElem?_cons_zero, List.drop_succ_cons, List.drop_zero]
            repeat
              refine Grow.heads_step (fun K' hK => ⟨rfl, ?_⟩)
              apply Exists.intro
              apply And.intro
              · intro w' hw'
                obtain ⟨x', rfl⟩ := hw'
                go_simp
                first | done | rfl | (rw [if_neg (by omega)]; done) | (rw [if_neg (by omega)]; rfl) | (rw [if_pos (by omega)]; done) | (rw [if_pos (by omega)]; rfl)
              go_simp
              refine hK _ ?_
              clear hK K'
            refine Grow.heads_step (fun K' hK => ⟨rfl, .slice av7 ord.length cv7, ?_, ?_⟩)
            · intro w' hw'
              obtain ⟨x', rfl⟩ := hw'
              go_simp
              rw [wrap_len hlen, if_pos ⟨by omega, by have := V7.out.capv; rw [hOl.out] at this; omega⟩, Int.toNat_natCast]
            refine hK _ ?_
            clear hK K'
            repeat
              refine Grow.heads_step (fun K' hK => ⟨rfl, ?_⟩)
              apply Exists.intro
              apply And.intro
              · intro w' hw'
                obtain ⟨x', rfl⟩ := hw'
                go_simp
                first | done | rfl | (rw [if_neg (by omega)]; done) | (rw [if_neg (by omega)]; rfl) | (rw [if_pos (by omega)]; done) | (rw [if_pos (by omega)]; rfl)
              go_simp
              refine hK _ ?_
              clear hK K'
            refine Grow.heads_nil ?_
            intro w20 e20
            refine Grow.seq_nil ?_
            have V9 := Lib.hid ((V7.out.grow e20).cut HO.out)
            have fz5 := (V7.out.grow e20).frozen 5
            clear hgl c0 c1 c2 c3 c4 c5 c6 c7
            obtain ⟨hgl, c0, c1, c2, c3, c4, c5, c6, c7⟩ := (V7.out.grow e20).cells
            clear e20
            have hd7 : decide (s7.left < 0) = false := decide_eq_false (by omega)
            go_wp2_with fail
            go_roundw
            case rel => exact ⟨k + 1, s7, av7, cv7, ab7, cb7, by omega, by go_num, hnx.out, V9.out, hl7⟩
            case measure => simp [intOf]; omega
        · cases hh : hasB ord (k : Int)
          · rw [hh] at HC
            have hdh : Hid ((true && hasB ord (k : Int)) = false) := by show _ = _; rw [hh]; rfl
            clear hh
            obtain ⟨O, hO⟩ : ∃ O : List Int, O = ord ++ [(k : Int)] := ⟨_, rfl⟩
            have hOl : Hid (O.length = ord.length + 1) := by show _ = _; rw [hO]; simp
            have hO9 : O.length ≤ 9 := by rw [hOl.out]; omega
            have HO := Lib.hid hO
            have fz5 := V.out.frozen 5
            have hnx : Hid (loopL true rec ord s1 (k + 1) = rec (ord ++ [(k : Int)]) s') := by
              show stepL _ _ _ (loopL true rec ord s1 k) k = _; rw [hs'.out]; exact stepL_go hl' hdh.out
            have V1 := Lib.hid (V.out.grow ((Ext.refl _).alloc (.cells #[.int .i64 k] 2)))
            have HR1 : Hid (IntAt (wr.alloc (.cells #[.int .i64 k] 2)) (some ⟨wr.heap.size, 0, none⟩) [(k : Int)]) := rows_int _ _ rfl
            clear hO
            go_wp2_with (first
              | (go_at_call 36; refine HC.out.mono ?_; rintro e w' ⟨rfl, hw⟩; subst hw)
              | (at_builtin; refine wpList_pushAt elInt oneInt rfl _ _ rfl (g + 1) _ ord (by rfl) V1.out.srch.lst _ 1 1 [(k : Int)] rfl (by rfl) HR1.out (by have := hOl.out; omega) (by omega) (by rw [size_new]; omega) ?_; intro v' w3 HL hg3 hat3; rw [← HO.out] at HL; obtain ⟨av2, cv2, rfl, hcv2, -, -, -⟩ := HL.shape; have V4 := Lib.hid (V1.out.pushed HL hg3 hat3 hcv2); obtain ⟨e0, e1, e2⟩ := V1.out.mid hg3; clear V1 HR1 HL hg3 hat3 hgl c0 c1 c2 c3 c4 c5 c6 c7 fz5))
            have HR6 : Hid (Calls Tryd.prog 23 #[.pointer (some ⟨g, 0, none⟩)] (w3.setCell ⟨g, 5, none⟩ (.slice av2 O.length cv2)) fun e w' => e = .returned (.tuple #[]) ∧ ∃ av' cv' ab' cb', LI w0 w' many n true fv g (rec (ord ++ [(k : Int)]) s') (ord ++ [(k : Int)]) av' cv' ab' cb') :=
              HR.out k s' _ av2 cv2 ab' cb' hlt (by rw [← HO.out]; exact V4.out) hl'
            clear e0 e1 e2
            refine HR6.out.mono ?_
            rintro e w13 ⟨rfl, av7, cv7, ab7, cb7, hV7⟩
            rw [← HO.out] at hV7 hnx
            obtain ⟨s7, hs7⟩ : ∃ s7, s7 = rec O s' := ⟨_, rfl⟩
            rw [← hs7] at hV7 hnx
            have V7 := Lib.hid hV7
            clear hV7 hs7 V4 HR6
            go_wp2_with fail
            have hlo7 := V7.out.lo
            have hhi7 := V7.out.hi
            rcases Int.lt_or_le s7.left 0 with hl7 | hl7
            · try clear hgl c0 c1 c2 c3 c4 c5 c6 c7
              obtain ⟨hgl, c0, c1, c2, c3, c4, c5, c6, c7⟩ := V7.out.cells
              rw [hOl.out] at c5
              refine Grow.region_tail 14 [0, 1, 2, 3, 4, 5, 6, 7, 8, 9, 10, 11, 12, 13] [] (by kernel_rfl) (by kernel_rfl) ?_
              simp only [Grow.pick, Grow.pickB, List.getElem?_cons_succ, List.getElem?_cons_zero, List.drop_succ_cons, List.drop_zero]
              repeat
                refine Grow.heads_step (fun K' hK => ⟨rfl, ?_⟩)
                apply Exists.intro
                apply And.intro
                · intro w' hw'
                  obtain ⟨x', rfl⟩ := hw'
                  go_simp
                  first | done | rfl | (rw [if_neg (by omega)]; done) | (rw [if_neg (by omega)]; rfl) | (rw [if_pos (by omega)]; done) | (rw [if_pos (by omega)]; rfl)
                go_simp
                refine hK _ ?_
                clear hK K'
              refine Grow.heads_step (fun K' hK => ⟨rfl, .slice av7 ord.length cv7, ?_, ?_⟩)
              · intro w' hw'
                obtain ⟨x', rfl⟩ := hw'
                go_simp
                rw [wrap_len hlen, if_pos ⟨by omega, by have := V7.out.capv; rw [hOl.out] at this; omega⟩, Int.toNat_natCast]
              refine hK _ ?_
              clear hK K'
              repeat
                refine Grow.heads_step (fun K' hK => ⟨rfl, ?_⟩)
                apply Exists.intro
                apply And.intro
                · intro w' hw'
                  obtain ⟨x', rfl⟩ := hw'
                  go_simp
                  first | done | rfl | (rw [if_neg (by omega)]; done) | (rw [if_neg (by omega)]; rfl) | (rw [if_pos (by omega)]; done) | (rw [if_pos (by omega)]; rfl)
                go_simp
                refine hK _ ?_
                clear hK K'
              refine Grow.heads_nil ?_
              intro w20 e20
              refine Grow.seq_nil ?_
              have V9 := Lib.hid ((V7.out.grow e20).cut HO.out)
              have fz5 := (V7.out.grow e20).frozen 5
              clear hgl c0 c1 c2 c3 c4 c5 c6 c7
              obtain ⟨hgl, c0, c1, c2, c3, c4, c5, c6, c7⟩ := (V7.out.grow e20).cells
              clear e20
              have hd7 : decide (s7.left < 0) = true := decide_eq_true hl7
              go_wp2_with fail
              (try simp only [Exit.inBlock, Exit.then])
              first | refine bodyPost_ret (results_none rfl _ _ _) rfl ?_ | refine bodyPost_end (results_none rfl _ _ _) rfl ?_
              refine ⟨rfl, av7, cv7, ab7, cb7, ?_⟩
              rw [hu1.out, loopL_stop (k := k + 1) (by rw [hnx.out]; exact hl7) many (by omega), hnx.out]
              exact V9.out
            · try clear hgl c0 c1 c2 c3 c4 c5 c6 c7
              obtain ⟨hgl, c0, c1, c2, c3, c4, c5, c6, c7⟩ := V7.out.cells
              rw [hOl.out] at c5
              refine Grow.region_tail 14 [0, 1, 2, 3, 4, 5, 6, 7, 8, 9, 10, 11, 12, 13] [] (by kernel_rfl) (by kernel_rfl) ?_
              simp only [Grow.pick, Grow.pickB, List.getElem?_cons_succ, List.getElem?_cons_zero, List.drop_succ_cons, List.drop_zero]
              repeat
                refine Grow.heads_step (fun K' hK => ⟨rfl, ?_⟩)
                apply Exists.intro
                apply And.intro
                · intro w' hw'
                  obtain ⟨x', rfl⟩ := hw'
                  go_simp
                  first | done | rfl | (rw [if_neg (by omega)]; done) | (rw [if_neg (by omega)]; rfl) | (rw [if_pos (by omega)]; done) | (rw [if_pos (by omega)]; rfl)
                go_simp
                refine hK _ ?_
                clear hK K'
              refine Grow.heads_step (fun K' hK => ⟨rfl, .slice av7 ord.length cv7, ?_, ?_⟩)
              · intro w' hw'
                obtain ⟨x', rfl⟩ := hw'
                go_simp
                rw [wrap_len hlen, if_pos ⟨by omega, by have := V7.out.capv; rw [hOl.out] at this; omega⟩, Int.toNat_natCast]
              refine hK _ ?_
              clear hK K'
              repeat
                refine Grow.heads_step (fun K' hK => ⟨rfl, ?_⟩)
                apply Exists.intro
                apply And.intro
                · intro w' hw'
                  obtain ⟨x', rfl⟩ := hw'
                  go_simp
                  first | done | rfl | (rw [if_neg (by omega)]; done) | (rw [if_neg (by omega)]; rfl) | (rw [if_pos (by omega)]; done) | (rw [if_pos (by omega)]; rfl)
                go_simp
                refine hK _ ?_
                clear hK K'
              refine Grow.heads_nil ?_
              intro w20 e20
              refine Grow.seq_nil ?_
              have V9 := Lib.hid ((V7.out.grow e20).cut HO.out)
              have fz5 := (V7.out.grow e20).frozen 5
              clear hgl c0 c1 c2 c3 c4 c5 c6 c7
              obtain ⟨hgl, c0, c1, c2, c3, c4, c5, c6, c7⟩ := (V7.out.grow e20).cells
              clear e20
              have hd7 : decide (s7.left < 0) = false := decide_eq_false (by omega)
              go_wp2_with fail
              go_roundw
              case rel => exact ⟨k + 1, s7, av7, cv7, ab7, cb7, by omega, by go_num, hnx.out, V9.out, hl7⟩
              case measure => simp [intOf]; omega
          · rw [hh] at HC
            have hnx : Hid (loopL true rec ord s1 (k + 1) = s') := by show stepL _ _ _ (loopL true rec ord s1 k) k = _; rw [hs'.out]; exact stepL_has hl' (by rw [hh]; rfl)
            clear hh
            go_wp2_with (go_at_call 36; refine HC.out.mono ?_; rintro e w' ⟨rfl, hw⟩; subst hw)
            go_roundw
            case rel => exact ⟨k + 1, s', av', cv', ab', cb', by omega, by go_num, hnx.out, V.out, hl'⟩
            case measure => simp [intOf]; omega
      · obtain rfl : k = many := by omega
        go_wp2_with fail
        (try simp only [Exit.inBlock, Exit.then])
        first | refine bodyPost_ret (results_none rfl _ _ _) rfl ?_ | refine bodyPost_end (results_none rfl _ _ _) rfl ?_
        exact ⟨rfl, av', cv', ab', cb', by rw [hu1.out, hs'.out]; exact V.out⟩
  · have hu : Hid (visL diff worth many (d + 1) ord s = { s with left := s.left - 1 }) := by show _ = _; rw [visL_0 (by omega), show s.left - 1 = -1 by omega]
    have hd0 : decide (s.left - 1 < 0) = true := decide_eq_true (by omega)
    go_enter Tryd.func23, Tryd.ntmps23
    go_wp2_with fail
    (try simp only [Exit.inBlock, Exit.then])
    first | refine bodyPost_ret (results_none rfl _ _ _) rfl ?_ | refine bodyPost_end (results_none rfl _ _ _) rfl ?_
    refine ⟨rfl, av, cv, ab, cb, ?_⟩
    rw [hu.out]
    exact V1.out
theorem visitL_any (worth : List Int → Int) (many n : Nat) (diff : Bool) (F : FuncId) (vs : Array Value) (eg : Enters Tryd.prog F) (w0 : World) (hn8 : n ≤ 8) (hm8 : many ≤ 8)
    (hwf : ∀ (W : World) (av : Option Addr) (cv : Nat) (ord : List Int), Ext w0 W → IntAt W av ord → ord.length = n → InMany many ord → Gives Tryd.prog F (#[.slice av ord.length cv] ++ vs) W (.int .i64 (worth ord))) (g : Nat) :
    ∀ (d : Nat) (ord : List Int), InMany many ord → ord.length + d = n → ∀ (s : Sr) (W : World) (av : Option Addr) (cv : Nat) (ab : Option Addr) (cb : Nat), LI w0 W many n diff (.func (.func F) #[] vs) g s ord av cv ab cb → 0 ≤ s.left →
      Calls Tryd.prog 23 #[.pointer (some ⟨g, 0, none⟩)] W fun e w' => e = .returned (.tuple #[]) ∧ ∃ av' cv' ab' cb', LI w0 w' many n diff (.func (.func F) #[] vs) g (visL diff worth many d ord s) ord av' cv' ab' cb'
  | 0, ord, hO, hd, s, W, av, cv, ab, cb, hV, hl => visitL_leaf worth many n diff F vs eg w0 hn8 hwf g ord hO (by omega) s W av cv ab cb hV hl
  | d + 1, ord, hO, hd, s, W, av, cv, ab, cb, hV, hl =>
    visitL_node worth many n diff (.func (.func F) #[] vs) w0 hn8 hm8 g ord d hd (fun k s W av cv ab cb hk hV hl =>
      visitL_any worth many n diff F vs eg w0 hn8 hm8 hwf g d (ord ++ [(k : Int)]) (hO.push hk) (by rw [List.length_append]; simp only [List.length_cons, List.length_nil]; omega) s W av cv ab cb hV hl) s W av cv ab cb hV hl
end Go.Proofs.YtccbcjopmkmipaaDoor
