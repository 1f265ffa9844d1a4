/- The reference's l27Own and l27Add: a history in memory of its own, with a further version. -/
import Derived.Test.YtbcpgdidajapoaaCommit
namespace Go.Proofs.Ytbcpgdidajapoaa
open Go.RowKit
theorem step_pushAt {α : Type} [Inhabited α] {n T : Nat} {cell : α → Nat → Value} {P : Program} {ops : Array Oper} {o : Oper} {a : Act} {w : World} {K : Act → World → Prop} {Q : Exit → Act → World → Prop} {X : Prop} {t bytes : Nat} (E : El P t T n bytes) (hcell : ∀ x j, j < n → (cell x j).oneCell' = true) (hgd : o.guard = none) (s x : Operand)
    (ho : o.op = .call { callee := .builtin .append, args := #[s, x], argTypes := #[t, t] }) (base : Nat) (v : Value) (l : List α) (hs : a.eval s = v) (hown : Lst T n cell w base v l)
    (ad : Addr) (m c : Nat) (l2 : List α) (hm : l2.length = m) (hx : a.eval x = .slice (some ad) m c) (hR : RowsAt n cell w (some ad) l2)
    (h63 : l.length + m ≤ 9223372036854775807) (hbytes : (l.length + m) * bytes ≤ 140737488355328) (hbase : base ≤ w.heap.size)
    (h : ∀ v' w', Lst T n cell w' base v' (l ++ l2) → w.grownBy w' v.ownBlock → (v'.ownBlock = v.ownBlock ∨ v'.ownBlock = some w.heap.size) → K (a.put o.dst v') w') : if Region.wanted o (yielded ops a.tmps) = true then Oper.wp P o a w K Q else X := by
  have hw : Region.wanted o (yielded ops a.tmps) = true := by simp [Region.wanted, hgd]
  rw [if_pos hw]
  subst hm
  obtain ⟨i, z, h2, h3, h4, h5, h6⟩ := E.inf
  obtain ⟨v', w', hr, g2, g3, -, g5⟩ := run_append_own_at (P := P) w base t o.type T i z n bytes E.und h2 h3 h4 h5 h6 E.pos v l.length (flat n cell l) hown ad l2.length c (flat n cell l2) (flat_length l2) (fun k u hu => by
    have hk : k < l2.length * n := by
      have := (List.getElem?_eq_some_iff.1 hu).1
      rwa [flat_length] at this
    obtain ⟨i, j, hi, hj, rfl⟩ := split_index hk
    rw [flat_get l2 i hi j hj] at hu
    obtain ⟨b, off, e, hb, hc⟩ := hR i hi
    simp only [Option.some.injEq] at e
    subst e
    rw [← hu, addr_add, ← Nat.add_assoc]; exact hc j hj) (fun u hu => by obtain ⟨y, j, _, hj, rfl⟩ := flat_mem hu; exact hcell y j hj) (by unfold maxLen; omega) hbytes hbase
  unfold Oper.wp execOp
  simp only [ho, resolve, invoke, builtin, Sem.run_bind, Sem.run_pure, Result.andThen_ok, List.map_toArray, List.map_cons, List.map_nil, hs, hx, hr]
  refine h v' w' ?_ g3 g5
  unfold Lst
  rw [List.length_append, flat_append]; exact g2
theorem step_call {P : Program} {ops : Array Oper} {o : Oper} {a : Act} {w : World} {K : Act → World → Prop} {Q : Exit → Act → World → Prop} {X : Prop} (hgd : o.guard = none) (f : FuncId) (args : Array Value) (hrun : (execOp a.eval o).run P w = .ok (.enter f args) w)
    (hc : Calls P f args w fun e w' => ∃ v, e = .returned v ∧ K (a.put o.dst v) w') : if Region.wanted o (yielded ops a.tmps) = true then Oper.wp P o a w K Q else X := by
  have hw : Region.wanted o (yielded ops a.tmps) = true := by simp [Region.wanted, hgd]
  rw [if_pos hw]
  unfold Oper.wp
  rw [hrun]
  exact hc.mono fun e w' ⟨v, he, hk⟩ => by subst he; exact hk
set_option maxRecDepth 100000 in
set_option maxHeartbeats 4000000 in
theorem l27Own_any (w : World) (a : Option Addr) (cap : Nat) (l : List Version) (H : VersAt w a l) (hl : l.length ≤ 32) (hin : ∀ k, k < l.length → (nth l k).state.length ≤ 1000) :
    Calls Try.prog 58 #[.slice a l.length cap] w fun e w' => ∃ v l2, e = .returned v ∧ strips l2 = strips l ∧ VGrow w' w.heap.size v l2 ∧ Ext w w' := by
  have VA := Lib.hid H
  have hLin := Lib.hid hin
  clear H hin
  go_enter Try.func58, Try.ntmps58
  go_wp2_with fail
  go_loopw [3, 4] (fun o i wr => ∃ (j : Nat) (acc : List Version), j ≤ l.length ∧ i = .int .i64 j ∧ acc.length = j ∧ Hid (strips acc = (strips l).take j) ∧ Hid (VGrow wr w.heap.size o acc) ∧ Ext w wr) (fun _ i _ => l.length - (intOf i).toNat)
  case atStart => exact ⟨0, [], Nat.zero_le _, rfl, rfl, rfl, VGrow.none0 (Lst.new w w.heap.size (Nat.le_refl _)), (by repeat (first | exact Ext.refl _ | refine Ext.lift ?_ _ | refine Ext.alloc ?_ _))⟩
  case round =>
    obtain ⟨j, acc, hj, rfl, hal, hst, HG, he⟩ := hrel
    have hbw := he.size
    by_cases hlt : j < l.length
    · obtain ⟨b, off, rfl⟩ := VA.out.row.base hlt
      obtain ⟨hb, c0, c1, c2, c3⟩ := Version.at (VA.out.row.ext he) j hlt
      obtain ⟨W, hW⟩ : ∃ W, W = wr.alloc (.cells #[.int .i64 (nth l j).number, .int .i64 (nth l j).parent, .string (nth l j).memo, .slice (nth l j).addr (nth l j).state.length (nth l j).cap] 58) := ⟨_, rfl⟩
      have hWE : Ext wr W := by rw [hW]; exact (Ext.refl wr).alloc _
      have x0 : W.cell? ⟨wr.heap.size, 0, none⟩ = some (.int .i64 (nth l j).number) := by rw [hW, cell_new]; rfl
      have x1 : W.cell? ⟨wr.heap.size, 1, none⟩ = some (.int .i64 (nth l j).parent) := by rw [hW, cell_new]; rfl
      have x2 : W.cell? ⟨wr.heap.size, 2, none⟩ = some (.string (nth l j).memo) := by rw [hW, cell_new]; rfl
      have x3 : W.cell? ⟨wr.heap.size, 3, none⟩ = some (.slice (nth l j).addr (nth l j).state.length (nth l j).cap) := by rw [hW, cell_new]; rfl
      have hxl : wr.heap.size < W.heap.size := by rw [hW, size_new]; omega
      have hxs : W.heap.size = wr.heap.size + 1 := by rw [hW, size_new]
      have hBl : Hid (Blk W wr.heap.size 58 4) := by show Blk _ _ _ _; rw [hW]; exact Blk.new _ _ _
      have hil := hLin.out j hlt
      have HN : Hid (Lst 74 2 Setting.cell (W.alloc (.cells #[] 74)) W.heap.size (.slice (some ⟨W.heap.size, 0, none⟩) 0 0) ([] : List Setting)) := Lst.new W W.heap.size (Nat.le_refl _)
      have HS : Hid (SettingAt (W.alloc (.cells #[] 74)) (nth l j).addr (nth l j).state) := RowsAt.ext (VA.out.inn j hlt) ((he.trans hWE).alloc _)
      have hzN : W.heap.size ≤ (W.alloc (.cells #[] 74)).heap.size := by rw [size_new]; omega
      have hW' := Lib.hid hW
      try dsimp only
      repeat (first | (at_builtin; refine Hid.out ?_) | go_values | go_skip | go_guarded | go_step | go_upon | go_back)
      refine Lib.hid ?_
      rw [← hW]
      rw [← hxs]
      refine wpList_pushA elSetting oneSetting rfl _ _ rfl W.heap.size _ [] (by rfl) HN.out _ (nth l j).state.length _ (nth l j).state rfl (by rfl) HS.out (by simp; omega) (by simp; omega) hzN ?_
      intro v3 W2 HL3 hs3
      rw [List.nil_append] at HL3
      have E3 : Ext W W2 := hs3 W ((Ext.refl W).alloc _) (Nat.le_refl _)
      clear hW hW' c0 c1 c2 c3 hb HN HS hzN hs3 hxs
      obtain ⟨sa3, sc3, rfl, hsc3, hsm3, hR3, hO3⟩ := HL3.shape
      have y0 := E3.cell x0
      have y1 := E3.cell x1
      have y2 := E3.cell x2
      have y3 := E3.cell x3
      have yl := Nat.lt_of_lt_of_le hxl E3.size
      have f3 := (hBl.out.ext E3).frozen 3
      have hC1 : Hid (Chg (some ⟨wr.heap.size, 0, none⟩) W2 (W2.setCell ⟨wr.heap.size, 3, none⟩ (.slice sa3 (nth l j).state.length sc3))) := (Chg.refl _ _).setc _ _
      have hne : Hid (∀ g o s, ownA (nth l j).state.length sa3 = some ⟨g, o, s⟩ → ∀ g' o' s', (some ⟨wr.heap.size, 0, none⟩ : Option Addr) = some ⟨g', o', s'⟩ → g ≠ g') := fun g o s e g' o' s' e' => by
        have := (hO3.block e).1
        simp only [Option.some.injEq, Addr.mk.injEq] at e'
        omega
      have hO4 : Hid (Own ((W2.setCell ⟨wr.heap.size, 3, none⟩ (.slice sa3 (nth l j).state.length sc3)).alloc (.cells #[.int .i64 (nth l j).number, .int .i64 (nth l j).parent, .string (nth l j).memo, .slice sa3 (nth l j).state.length sc3] 58)) wr.heap.size 74 2 sa3 (nth l j).state.length) := ((hO3.chg hC1.out hne.out).ext ((Ext.refl _).alloc _)).low (Nat.le_of_lt hxl)
      have hR4 : Hid (SettingAt ((W2.setCell ⟨wr.heap.size, 3, none⟩ (.slice sa3 (nth l j).state.length sc3)).alloc (.cells #[.int .i64 (nth l j).number, .int .i64 (nth l j).parent, .string (nth l j).memo, .slice sa3 (nth l j).state.length sc3] 58)) sa3 (nth l j).state) := RowsAt.ext (RowsAt.chgO hR3 hC1.out hne.out) ((Ext.refl _).alloc _)
      have hE4 : Hid (Ext wr ((W2.setCell ⟨wr.heap.size, 3, none⟩ (.slice sa3 (nth l j).state.length sc3)).alloc (.cells #[.int .i64 (nth l j).number, .int .i64 (nth l j).parent, .string (nth l j).memo, .slice sa3 (nth l j).state.length sc3] 58))) := ((hWE.trans E3).setCell (p := ⟨wr.heap.size, 3, none⟩) (Nat.le_refl _) _).alloc _
      have L4 := Lib.hid (HG.out.lst.ext hE4.out)
      obtain ⟨x', hx'⟩ : ∃ x' : Version, x' = ⟨(nth l j).number, (nth l j).parent, (nth l j).memo, sa3, sc3, (nth l j).state⟩ := ⟨_, rfl⟩
      have hx := Lib.hid hx'
      clear hx'
      have hszS : Hid ((W2.setCell ⟨wr.heap.size, 3, none⟩ (.slice sa3 (nth l j).state.length sc3)).heap.size = W2.heap.size) := by show _ = _; simp
      have hRw : Hid (RowsAt 4 Version.cell ((W2.setCell ⟨wr.heap.size, 3, none⟩ (.slice sa3 (nth l j).state.length sc3)).alloc (.cells #[.int .i64 (nth l j).number, .int .i64 (nth l j).parent, .string (nth l j).memo, .slice sa3 (nth l j).state.length sc3] 58)) (some ⟨W2.heap.size, 0, none⟩) [x']) := by
        have h9 := rows_new (n := 4) (cell := Version.cell) (T := 58) (W2.setCell ⟨wr.heap.size, 3, none⟩ (.slice sa3 (nth l j).state.length sc3)) #[.int .i64 (nth l j).number, .int .i64 (nth l j).parent, .string (nth l j).memo, .slice sa3 (nth l j).state.length sc3] x' (fun q hq => by
          rw [hx.out]
          rcases (show q = 0 ∨ q = 1 ∨ q = 2 ∨ q = 3 by omega) with rfl | rfl | rfl | rfl <;> rfl)
        rw [hszS.out] at h9
        exact h9
      clear hC1 hne hO3 hR3 HL3 E3 hBl hWE x0 x1 x2 x3 hxl
      try dsimp only
      repeat (first | (at_builtin; refine Hid.out ?_) | go_values | go_skip | go_guarded | go_step | go_upon | go_back)
      refine Lib.hid ?_
      refine wpList_pushAt elVersion oneVersion rfl _ _ rfl _ _ acc (by rfl) L4.out _ 1 1 [x'] rfl (by rfl) hRw.out (by omega) (by omega) (by have := hE4.out.size; omega) ?_
      intro v5 w5 HL5 hg5 hat5
      have G5 := Lib.hid (HG.out.push hbw hE4.out (by rw [hx.out]; exact hO4.out) (by rw [hx.out]; exact hR4.out) (by rw [hx.out]; exact hsc3) HL5 hg5 hat5)
      have hst5 : Hid (strips (acc ++ [x']) = (strips l).take (j + 1)) := by show _ = _; rw [strips_append, hst.out, strips_take hlt, hx.out]; rfl
      have hac5 : (acc ++ [x']).length = j + 1 := by rw [List.length_append, hal]; rfl
      have E5 : Hid (Ext w w5) := (he.trans hE4.out).grown hg5 (fun q hq => L4.out.ge q hq)
      clear HL5 hg5 hat5 HG L4 hRw hO4 hR4 hE4 he
      go_wp2_with fail
      go_roundw
      case rel => exact ⟨j + 1, acc ++ [x'], by omega, by go_num, hac5, hst5.out, G5.out, E5.out⟩
      case measure => simp [intOf]; omega
    · obtain rfl : j = l.length := by omega
      go_wp2_with fail
      go_ret
      exact ⟨_, acc, rfl, by rw [hst.out, List.take_of_length_le (by rw [strips_len]; exact Nat.le_refl _)], HG.out, he⟩
end Go.Proofs.Ytbcpgdidajapoaa
