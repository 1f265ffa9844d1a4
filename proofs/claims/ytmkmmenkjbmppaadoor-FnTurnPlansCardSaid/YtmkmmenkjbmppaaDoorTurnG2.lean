/- Turns given to people: the first way. -/
import Derived.Test.YtmkmmenkjbmppaaDoorTurnG
namespace Go.Proofs.YtmkmmenkjbmppaaDoor
open Go.RowKit Go.Maps
theorem step_callW {P : Program} {ops : Array Oper} {o : Oper} {a : Act} {w : World} {K : Act → World → Prop} {Q : Exit → Act → World → Prop} {X : Prop} (hw : Region.wanted o (yielded ops a.tmps) = true) (f : FuncId) (args : Array Value) (hrun : (execOp a.eval o).run P w = .ok (.enter f args) w)
    (hc : Calls P f args w fun e w' => ∃ v, e = .returned v ∧ K (a.put o.dst v) w') : if Region.wanted o (yielded ops a.tmps) = true then Oper.wp P o a w K Q else X := by
  rw [if_pos hw]
  unfold Oper.wp
  rw [hrun]
  exact hc.mono fun e w' ⟨v, he, hk⟩ => by subst he; exact hk
theorem step_pushAtW {α : Type} [Inhabited α] {n T : Nat} {cell : α → Nat → Value} {P : Program} {ops : Array Oper} {o : Oper} {a : Act} {w : World} {K : Act → World → Prop} {Q : Exit → Act → World → Prop} {X : Prop} {t bytes : Nat} (E : El P t T n bytes) (hcell : ∀ x j, j < n → (cell x j).oneCell' = true) (hw : Region.wanted o (yielded ops a.tmps) = true) (s x : Operand)
    (ho : o.op = .call { callee := .builtin .append, args := #[s, x], argTypes := #[t, t] }) (base : Nat) (v : Value) (l : List α) (hs : a.eval s = v) (hown : Lst T n cell w base v l)
    (ad : Addr) (m c : Nat) (l2 : List α) (hm : l2.length = m) (hx : a.eval x = .slice (some ad) m c) (hR : RowsAt n cell w (some ad) l2)
    (h63 : l.length + m ≤ 9223372036854775807) (hbytes : (l.length + m) * bytes ≤ 140737488355328) (hbase : base ≤ w.heap.size)
    (h : ∀ v' w', Lst T n cell w' base v' (l ++ l2) → w.grownBy w' v.ownBlock → (v'.ownBlock = v.ownBlock ∨ v'.ownBlock = some w.heap.size) → K (a.put o.dst v') w') : if Region.wanted o (yielded ops a.tmps) = true then Oper.wp P o a w K Q else X := by
  rw [if_pos hw]
  subst hm
  obtain ⟨i, z, h2, h3, h4, h5, h6⟩ := E.inf
  obtain ⟨v', w', hr, g2, g3, -, g5⟩ := run_append_own_at (P := P) w base t o.type T i z n bytes E.und h2 h3 h4 h5 h6 E.pos v l.length (flat n cell l) hown ad l2.length c (flat n cell l2) (flat_length l2) (fun k u hu => by
    have hk : k < l2.length * n := by
      have := (List.getElem?_eq_some_iff.1 hu).1
      rwa [flat_length] at this
    obtain ⟨i, j, hi, hj, rfl⟩ := split_index hk
    rw [flat_get l2 i hi j hj] at hu
    obtain ⟨b, off, e, hb, hc⟩ := hR i hi
    simp only [Option.some.injEq] at e
    subst e
    rw [← hu, addr_add, ← Nat.add_assoc]; exact hc j hj) (fun u hu => by obtain ⟨y, j, _, hj, rfl⟩ := flat_mem hu; exact hcell y j hj) (by unfold maxLen; omega) hbytes hbase
  unfold Oper.wp execOp
  simp only [ho, resolve, invoke, builtin, Sem.run_bind, Sem.run_pure, Result.andThen_ok, List.map_toArray, List.map_cons, List.map_nil, hs, hx, hr]
  refine h v' w' ?_ g3 g5
  unfold Lst
  rw [List.length_append, flat_append]; exact g2
set_option maxRecDepth 100000 in
set_option maxHeartbeats 16000000 in
theorem giveClo_any {w0 : World} {aa : Option Addr} {A : List (List Int)} {vs : List Sl} {ac P T N mb : Nat} (X : TurnX w0 aa A vs P T N mb) (f : Nat) (g : List Int) (hgf : g.length + (f + 1) = T) (hg1 : OneP P g) (k : Nat) (hk : k < P) (W : World) (tb gb : Nat) (ga : Option Addr) (gc m : Nat) (hB : TBox W tb P T N aa A.length ac mb) (yg : W.cell? ⟨gb, 0, none⟩ = some (.slice ga g.length gc)) (hR : IntAt W ga g) (hc : g.length ≤ gc) (he0 : Ext w0 W) (hM : MapT A P N T mb m W) (hm : m + 9 ^ f ≤ 1000000000000000000) :
    Calls Tryd.prog 19 #[.int .i64 (k : Int), .pointer (some ⟨tb, 0, none⟩), .pointer (some ⟨gb, 0, none⟩)] W fun e W' => e = .returned (.bool (mayT A N g (k : Int) && decide (0 < cntT A P N f (g ++ [(k : Int)])))) ∧ MapT A P N T mb (m + 9 ^ f) W' ∧ Moved mb W W' := by
  have hT12 := X.t12
  have hP8 := X.p8
  have hg12 : g.length ≤ 12 := by omega
  obtain ⟨y0, y1, y2, y3, y4⟩ := hB
  have hyl := block_lt y0
  have hygl := block_lt yg
  have HMay := Lib.hid fun (W' : World) (he : Ext W W') => may_any W' P T N aa A vs ac (some mb) ga gc g N rfl (RowsAt.ext hR he) (X.abs.ext (he0.trans he)) X.inn hc hg12 X.n0 X.n12 k (by rw [X.alen]; exact hk)
  have HCl := Lib.hid fun (W' : World) (he : Ext W W') => CloneL_any ga gc g W' (RowsAt.ext hR he) (by omega)
  have HRl := Lib.hid fun (W' : World) (j : Nat) (hj : j = W'.heap.size) => (show IntAt (W'.alloc (.cells #[.int .i64 (k : Int)] 2)) (some ⟨j, 0, none⟩) [(k : Int)] by subst hj; exact rows_new (n := 1) (cell := cellI) (T := 2) W' #[.int .i64 (k : Int)] (k : Int) (fun i hi => by rw [show i = 0 from Nat.lt_one_iff.1 hi]; rfl))
  obtain ⟨c1, hc1⟩ : ∃ c1, c1 = cntT A P N f (g ++ [(k : Int)]) := ⟨_, rfl⟩
  have hcb : c1 ≤ 68719476736 := by rw [hc1]; exact Nat.le_trans (cntT_le A P N f _) (pow_bd hP8 (by omega))
  have HIH := Lib.hid fun (w7 : World) (a7 : Option Addr) (c7 : Nat) (h7 : IntAt w7 a7 (g ++ [(k : Int)])) (hc7 : g.length + 1 ≤ c7) (he7 : Ext W w7) => (show Calls Tryd.prog 17 #[.agg #[.int .i64 (P : Int), .int .i64 (T : Int), .int .i64 (N : Int), .slice aa A.length ac, .map (some mb)], .slice a7 (g.length + 1) c7] w7 fun e W' => e = .returned (.int .i64 ((c1 : Nat) : Int)) ∧ MapT A P N T mb (m + 9 ^ f) W' ∧ Moved mb w7 W' by
    have h := count_any (ac := ac) X f (g ++ [(k : Int)]) w7 a7 c7 m (by rw [List.length_append]; simp only [List.length_cons, List.length_nil]; omega) (hg1.push hk) h7 (by rw [List.length_append]; exact hc7) (he0.trans he7) (hM.ext he7) hm
    rw [← hc1, show (g ++ [(k : Int)]).length = g.length + 1 by simp] at h
    exact h)
  have hM := Lib.hid hM
  rw [← hc1]
  clear hc1 hR he0 hgf
  cases hmay : mayT A N g (k : Int)
  · rw [hmay] at HMay
    have HQ := Lib.hid fun x => HMay.out (lift W x) ((Ext.refl W).lift x)
    clear HCl HRl HIH HMay
    go_enter Tryd.func19, Tryd.ntmps19
    go_wp2_with fail
    refine region_quiet (by kernel_rfl) (by kernel_rfl) ?_
    repeat (any_goals (first | go_big_quiet_step ((exact Gives.quiet (HQ.out _))) | quiet_step ((exact Gives.quiet (HQ.out _)))))
    refine wpQuiet_nil ?_
    intro _ hw'
    obtain ⟨y, hw''⟩ := hw'
    subst hw''
    go_wp2_with fail
    go_ret
    exact ⟨rfl, (hM.out.ext ((Ext.refl W).lift y)).more (Nat.le_add_right _ _), Moved.grow ((Ext.refl W).lift y)⟩
  · rw [hmay] at HMay
    go_enter Tryd.func19, Tryd.ntmps19
    go_wp2_with fail
    go_region_law (first
      | (refine step_callW (by first | rfl | (simp [Region.wanted]; done) | (simp [Region.wanted, yielded]; done) | (go_simp; done)) 17 #[.agg #[.int .i64 (P : Int), .int .i64 (T : Int), .int .i64 (N : Int), .slice aa A.length ac, .map (some mb)], .slice a7 (g.length + 1) c7] (by first | rfl | (go_simp; done) | (go_simp; rfl)) ?_; refine (HIH.out _ a7 c7 (RowsAt.ext hR7.out (by repeat (first | with_reducible exact Ext.refl _ | with_reducible refine Ext.lift ?_ _ | with_reducible refine Ext.alloc ?_ _ | with_reducible refine Ext.drew ?_))) hc7 (by repeat (first | with_reducible exact E57.out | with_reducible refine Ext.lift ?_ _ | with_reducible refine Ext.alloc ?_ _ | with_reducible refine Ext.drew ?_))).mono ?_; rintro e W8 ⟨rfl, hM8, hMv8⟩; refine ⟨_, rfl, ?_⟩; have hM8 := Lib.hid hM8; have hMv8 := Lib.hid (Moved.trans (Moved.grow (by repeat (first | with_reducible exact E57.out | with_reducible refine Ext.lift ?_ _ | with_reducible refine Ext.alloc ?_ _ | with_reducible refine Ext.drew ?_))) hMv8))
      | (refine step_pushAtW elInt oneInt (by first | rfl | (simp [Region.wanted]; done) | (simp [Region.wanted, yielded]; done) | (go_simp; done)) _ _ rfl W.heap.size _ g (by rfl) (hCLh.out.ext (by repeat (first | with_reducible exact Ext.refl _ | with_reducible refine Ext.lift ?_ _ | with_reducible refine Ext.alloc ?_ _ | with_reducible refine Ext.drew ?_))) _ 1 1 [(k : Int)] rfl (by rfl) (by first | exact hl6.out | exact RowsAt.ext hl6.out (by repeat (first | with_reducible exact Ext.refl _ | with_reducible refine Ext.lift ?_ _ | with_reducible refine Ext.alloc ?_ _ | with_reducible refine Ext.drew ?_)) | exact HRl.out _ _ (by first | rfl | (simp [drew_heap]; done) | (simp [drew_heap]; omega)) | exact RowsAt.ext (HRl.out _ _ (by first | rfl | (simp [drew_heap]; done) | (simp [drew_heap]; omega))) (by repeat (first | with_reducible exact Ext.refl _ | with_reducible refine Ext.lift ?_ _ | with_reducible refine Ext.alloc ?_ _ | with_reducible refine Ext.drew ?_))) (by omega) (by omega) (by first | exact (Ext.size (by repeat (first | with_reducible exact E56.out | with_reducible refine Ext.lift ?_ _ | with_reducible refine Ext.alloc ?_ _ | with_reducible refine Ext.drew ?_))) | omega | (simp [drew_heap]; omega)) ?_; intro v7 w7 HL7 hg7 _; obtain ⟨a7, c7, e7, hc7, -, hR7, -⟩ := HL7.shape; rw [show (g ++ [(k : Int)]).length = g.length + 1 by simp] at e7 hc7; subst e7; have hR7 := Lib.hid hR7; have E57 : Hid (Ext W w7) := Ext.grown (by repeat (first | with_reducible exact E56.out | with_reducible refine Ext.lift ?_ _ | with_reducible refine Ext.alloc ?_ _ | with_reducible refine Ext.drew ?_)) hg7 (fun q hq => ownBlock_le hCLh.out q hq); have z0 := E57.out.cell y0; have z1 := E57.out.cell y1; have z2 := E57.out.cell y2; have z3 := E57.out.cell y3; have z4 := E57.out.cell y4; have zg := E57.out.cell yg; have zl := Nat.lt_of_lt_of_le hyl E57.out.size; have zgl := Nat.lt_of_lt_of_le hygl E57.out.size; clear HL7 hg7)
      | (refine step_callW (by first | rfl | (simp [Region.wanted]; done) | (simp [Region.wanted, yielded]; done) | (go_simp; done)) 21 #[.slice ga g.length gc] (by first | rfl | (go_simp; done) | (go_simp; rfl)) ?_; refine (HCl.out _ (by repeat (first | with_reducible exact E01.out | with_reducible refine Ext.lift ?_ _ | with_reducible refine Ext.alloc ?_ _ | with_reducible refine Ext.drew ?_))).mono ?_; rintro e W6 ⟨cv, rfl, hCL, E6⟩; refine ⟨_, rfl, ?_⟩; have E56 : Hid (Ext W W6) := Ext.trans (by repeat (first | with_reducible exact E01.out | with_reducible refine Ext.lift ?_ _ | with_reducible refine Ext.alloc ?_ _ | with_reducible refine Ext.drew ?_)) E6; have hCLh : Hid (Lst 2 1 cellI W6 W.heap.size cv g) := Lst.lower0 hCL (by first | exact Nat.le_refl _ | exact Ext.size (by repeat (first | with_reducible exact E01.out | with_reducible refine Ext.lift ?_ _ | with_reducible refine Ext.alloc ?_ _ | with_reducible refine Ext.drew ?_))); have v0 := E56.out.cell y0; have v1 := E56.out.cell y1; have v2 := E56.out.cell y2; have v3 := E56.out.cell y3; have v4 := E56.out.cell y4; have vg := E56.out.cell yg; have vl := Nat.lt_of_lt_of_le hyl E56.out.size; have vgl := Nat.lt_of_lt_of_le hygl E56.out.size; (try have hl6 := Lib.hid (RowsAt.ext (HRl.out W1 W1.heap.size rfl) E6)); clear hCL E6)
      | (refine step_callW (by first | rfl | (simp [Region.wanted]; done) | (simp [Region.wanted, yielded]; done) | (go_simp; done)) 20 #[.agg #[.int .i64 (P : Int), .int .i64 (T : Int), .int .i64 (N : Int), .slice aa A.length ac, .map (some mb)], .slice ga g.length gc, .int .i64 (k : Int)] (by first | rfl | (go_simp; done) | (go_simp; rfl)) ?_; refine (HMay.out _ (by repeat (first | with_reducible exact Ext.refl _ | with_reducible refine Ext.lift ?_ _ | with_reducible refine Ext.alloc ?_ _ | with_reducible refine Ext.drew ?_))).mono ?_; rintro e W1 ⟨rfl, E1⟩; refine ⟨_, rfl, ?_⟩; have E01 : Hid (Ext W W1) := Ext.trans (by repeat (first | with_reducible exact Ext.refl _ | with_reducible refine Ext.lift ?_ _ | with_reducible refine Ext.alloc ?_ _ | with_reducible refine Ext.drew ?_)) E1; have u0 := E01.out.cell y0; have u1 := E01.out.cell y1; have u2 := E01.out.cell y2; have u3 := E01.out.cell y3; have u4 := E01.out.cell y4; have ug := E01.out.cell yg; have ul := Nat.lt_of_lt_of_le hyl E01.out.size; have ugl := Nat.lt_of_lt_of_le hygl E01.out.size; clear E1))
    all_goals
      go_wp2_with fail
      go_ret
      first
        | exact ⟨rfl, hM8.out, hMv8.out⟩
        | exact ⟨by simp, hM8.out, hMv8.out⟩
end Go.Proofs.YtmkmmenkjbmppaaDoor
