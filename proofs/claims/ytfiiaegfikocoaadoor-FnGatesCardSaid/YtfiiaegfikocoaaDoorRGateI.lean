/- A gate read back: what the program hands back. -/
import Derived.Test.YtfiiaegfikocoaaDoorRGate
namespace Go.Proofs.YtfiiaegfikocoaaDoor
open Go.RowKit
set_option maxRecDepth 100000 in
set_option maxHeartbeats 40000000 in
theorem implReadGate_any (s : ByteArray) (w : World) (hs : s.size ≤ 1048576) (ht : RTab w) :
    Gives Tryd.prog 11 #[.string s] w (.tuple #[.agg #[.string (resGate s).id, .int .i64 (resGate s).shut, .int .i64 (resGate s).opn, .int .i64 (resGate s).hold, .bool (resGate s).shuts, .int .i64 (resGate s).calm], .bool (okGate s)]) := by
  unfold Gives
  have HT := Lib.hid ht
  have HS := Lib.hid fun (W : World) (he : Ext w W) => Split_any s 32 W hs (HT.out.ext he)
  obtain ⟨Q, hQ⟩ : ∃ Q, Q = cutsB 32 s := ⟨_, rfl⟩
  have hQp : Hid (∀ k, k < Q.length → (nth Q k).size ≤ 1048576) := fun k hk => by have := piece_size (c := 32) (s := s) (p := nth Q k) (by rw [← hQ]; exact nth_mem hk); omega
  have hno : Hid (((Q.length ≠ 3 ∧ Q.length ≠ 4) ∨ numsOk (nth Q 1) 3 = false) → resGate s = ⟨⟨#[]⟩, 0, 0, 0, false, 0⟩ ∧ okGate s = false) := fun h => readGate_none (readGate_no (by rw [← hQ]; exact h))
  have hno4 : Hid (Q.length = 4 → numB (nth Q 3) = false → resGate s = ⟨⟨#[]⟩, 0, 0, 0, false, 0⟩ ∧ okGate s = false) := fun h1 h => readGate_none (readGate_no4 (by rw [← hQ]; exact h1) (.inl (by rw [← hQ]; exact h)))
  have hy3 : Hid (3 ≤ Q.length → Q.length ≠ 4 → numsOk (nth Q 1) 3 = true → readGate s = if gateS (gateOf (nth Q 0) (numsL (nth Q 1) 3) false 0) = s then some (gateOf (nth Q 0) (numsL (nth Q 1) 3) false 0) else none) := fun h1 h2 h3 => by
    rw [numsL_yes h3, hQ]; exact readGate_p3 (by rw [← hQ]; exact h1) (by rw [← hQ]; exact h2) (by rw [← hQ]; exact h3)
  have hy4 : Hid (Q.length = 4 → numsOk (nth Q 1) 3 = true → numB (nth Q 3) = true → readGate s = if gateS (gateOf (nth Q 0) (numsL (nth Q 1) 3) true (numV (nth Q 3))) = s then some (gateOf (nth Q 0) (numsL (nth Q 1) 3) true (numV (nth Q 3))) else none) := fun h1 h2 h3 => by
    rw [numsL_yes h2, hQ]; exact readGate_p4 (by rw [← hQ]; exact h1) (by rw [← hQ]; exact h2) (by rw [← hQ]; exact h3)
  rw [← hQ] at HS
  clear hQ ht
  go_enter Tryd.func11, Tryd.ntmps11
  go_wp2_with fail
  refine (HS.out _ (by repeat (first | exact Ext.refl _ | refine Ext.lift ?_ _ | refine Ext.alloc ?_ _))).mono ?_
  rintro e W ⟨a, cap, rfl, R, y0, rfl⟩
  have R0 := Lib.hid R
  clear R HS
  rcases (show Q.length < 3 ∨ Q.length = 4 ∨ (3 ≤ Q.length ∧ Q.length ≠ 4) by omega) with h2 | h2 | ⟨h2, h4⟩
  · have hv := Lib.hid (hno.out (.inl (by omega)))
    go_wp2_with fail
    exact bodyPost_ret (v := .tuple #[.agg #[.string ⟨#[]⟩, .int .i64 0, .int .i64 0, .int .i64 0, .bool false, .int .i64 0], .bool false]) (by simp [results, Tryd.results11, go_sem]) rfl ⟨by rw [hv.out.1, hv.out.2], (by repeat (first | with_reducible exact Ext.refl _ | with_reducible refine Ext.lift ?_ _ | with_reducible refine Ext.alloc ?_ _ | with_reducible refine Ext.setCell ?_ (by first | (simp; done) | (simp; omega) | omega) _ | with_reducible refine ext_setCells (by first | (simp; done) | (simp; omega) | omega) _ _ _ ?_))⟩
  · have h2' : ((Q.length : Int) == 4) = true := by rw [h2]; rfl
    have h23 : ¬ Q.length < 3 := by omega
    have hq : 1 < Q.length := by omega
    have hq0 : 0 < Q.length := by omega
    have hq3 : 3 < Q.length := by omega
    have h2h := Lib.hid h2
    obtain ⟨x, hx⟩ : ∃ x, x = gateOf (nth Q 0) (numsL (nth Q 1) 3) true (numV (nth Q 3)) := ⟨_, rfl⟩
    rw [← hx] at hy4
    have HX4 : Hid (x.shuts = true) := by show _ = _; rw [hx]; rfl
    have hz3 := hQp.out 3 (by omega)
    have HN := Lib.hid fun (W : World) (he : Ext w W) => ReadDecimal_any (nth Q 3) W hz3 (HT.out.ext he)
    rw [show numV (nth Q 3) = x.calm by rw [hx]; rfl] at HN
    have hz0 := hQp.out 0 (by omega)
    have hz1 := hQp.out 1 (by omega)
    have hxs : x.id.size ≤ 1048576 := by rw [hx]; exact hz0
    have HX := Lib.hid fun (W : World) (he : Ext w W) => implGateText x W (by omega) (HT.out.tab.ext he)
    have HR := Lib.hid fun (W : World) (he : Ext w W) => readNumbers_3 (nth Q 1) W hz1 (HT.out.ext he)
    have hlen := Lib.hid (numsL_len (nth Q 1) 3)
    obtain ⟨b, off, rfl⟩ := R0.out.base hq
    obtain ⟨hb, c1⟩ := StrAt.at R0.out 1 hq
    obtain ⟨-, c0⟩ := StrAt.at R0.out 0 (by omega)
    rw [Nat.add_zero] at c0
    simp at hb
    rw [show nth Q 0 = x.id by rw [hx]; rfl] at c0
    have n0 := Lib.hid (show nth (numsL (nth Q 1) 3) 0 = x.shut by rw [hx]; rfl)
    have n1 := Lib.hid (show nth (numsL (nth Q 1) 3) 1 = x.opn by rw [hx]; rfl)
    have n2 := Lib.hid (show nth (numsL (nth Q 1) 3) 2 = x.hold by rw [hx]; rfl)
    obtain ⟨-, c3⟩ := StrAt.at R0.out 3 hq3
    clear hx h2
    go_wp2_with fail
    refine (HR.out _ (by repeat (first | exact Ext.refl _ | refine Ext.lift ?_ _ | refine Ext.alloc ?_ _))).mono ?_
    rintro e W2 ⟨a2, cap2, rfl, R2, y2, rfl⟩
    have R3 := Lib.hid R2
    clear R2 HR c1
    have hl : 2 < (numsL (nth Q 1) 3).length := by rw [hlen.out]; decide
    obtain ⟨b2, off2, rfl⟩ := R3.out.base hl
    obtain ⟨hb2, d0⟩ := IntAt.at R3.out 0 (by omega)
    rw [n0.out] at d0
    obtain ⟨hb2, d1⟩ := IntAt.at R3.out 1 (by omega)
    rw [n1.out] at d1
    obtain ⟨hb2, d2⟩ := IntAt.at R3.out 2 (by omega)
    rw [n2.out] at d2
    rw [Nat.add_zero] at d0
    simp at hb2
    clear hl
    go_wp2_with fail
    refine Grow.region_tail 14 [0, 1, 2, 3, 4, 5, 6, 7, 8, 9, 10, 11, 12] [(false, 13)] (by kernel_rfl) (by kernel_rfl) ?_
    simp only [Grow.pick, Grow.pickB, List.getElem?_cons_succ, List.getElem?_cons_zero, List.drop_succ_cons, List.drop_zero]
    repeat
      refine Grow.heads_step (fun K' hK => ⟨rfl, ?_⟩)
      apply Exists.intro
      apply And.intro
      · intro w' hw'
        obtain ⟨x', rfl⟩ := hw'
        go_simp
        first | done | rfl | (rw [if_neg (by omega)]; done) | (rw [if_neg (by omega)]; rfl) | (rw [if_pos (by omega)]; done) | (rw [if_pos (by omega)]; rfl)
      go_simp
      refine hK _ ?_
      clear hK K'
    refine Grow.heads_nil ?_
    intro w5 e5
    obtain ⟨y5, rfl⟩ := e5
    refine Grow.seq_step (fun K' hK => ⟨rfl, ?_⟩)
    go_simp
    try rw [if_neg (by omega)]
    simp only [Grow.upon]
    refine ⟨(Ext.refl _).alloc _, fun w6 e6 => hK _ _ ?_⟩
    clear hK K'
    obtain ⟨y6, rfl⟩ := e6
    refine Grow.seq_nil ?_
    clear c0 d0 d1 d2 hb2
    have hb3 : b < w.heap.size + 1 + y0.blocks.size + y2.blocks.size := by omega
    have hb4 : b < w.heap.size + 1 + y0.blocks.size + y2.blocks.size + y5.blocks.size := by omega
    have hb5 : b < w.heap.size + 1 + y0.blocks.size + y2.blocks.size + y5.blocks.size + 1 := by omega
    cases h : numsOk (nth Q 1) 3
    · have hv := Lib.hid (hno.out (.inr h))
      clear h
      repeat (first | ((go_at_call 22; refine (HN.out _ (by repeat (first | with_reducible exact Ext.refl _ | with_reducible refine Ext.lift ?_ _ | with_reducible refine Ext.alloc ?_ _ | with_reducible refine Ext.setCell ?_ (by first | (simp; done) | (simp; omega) | omega) _ | with_reducible refine ext_setCells (by first | (simp; done) | (simp; omega) | omega) _ _ _ ?_))).mono ?_; rintro e w' ⟨rfl, z, rfl⟩); try dsimp only) | go_values | go_skip | go_guarded | go_step | go_upon | go_back)
      exact bodyPost_ret (v := .tuple #[.agg #[.string ⟨#[]⟩, .int .i64 0, .int .i64 0, .int .i64 0, .bool false, .int .i64 0], .bool false]) (by simp [results, Tryd.results11, go_sem]) rfl ⟨by rw [hv.out.1, hv.out.2], (by repeat (first | with_reducible exact Ext.refl _ | with_reducible refine Ext.lift ?_ _ | with_reducible refine Ext.alloc ?_ _ | with_reducible refine Ext.setCell ?_ (by first | (simp; done) | (simp; omega) | omega) _ | with_reducible refine ext_setCells (by first | (simp; done) | (simp; omega) | omega) _ _ _ ?_))⟩
    · cases hn : numB (nth Q 3)
      · have hv := Lib.hid (hno4.out h2h.out hn)
        rw [hn] at HN
        clear h
        repeat (first | ((go_at_call 22; refine (HN.out _ (by repeat (first | with_reducible exact Ext.refl _ | with_reducible refine Ext.lift ?_ _ | with_reducible refine Ext.alloc ?_ _ | with_reducible refine Ext.setCell ?_ (by first | (simp; done) | (simp; omega) | omega) _ | with_reducible refine ext_setCells (by first | (simp; done) | (simp; omega) | omega) _ _ _ ?_))).mono ?_; rintro e w' ⟨rfl, z, rfl⟩); try dsimp only) | go_values | go_skip | go_guarded | go_step | go_upon | go_back)
        exact bodyPost_ret (v := .tuple #[.agg #[.string ⟨#[]⟩, .int .i64 0, .int .i64 0, .int .i64 0, .bool false, .int .i64 0], .bool false]) (by simp [results, Tryd.results11, go_sem]) rfl ⟨by rw [hv.out.1, hv.out.2], (by repeat (first | with_reducible exact Ext.refl _ | with_reducible refine Ext.lift ?_ _ | with_reducible refine Ext.alloc ?_ _ | with_reducible refine Ext.setCell ?_ (by first | (simp; done) | (simp; omega) | omega) _ | with_reducible refine ext_setCells (by first | (simp; done) | (simp; omega) | omega) _ _ _ ?_))⟩
      · rw [hn] at HN
        have hxs4 := HX4.out
        rw [hxs4] at HX
        cases h2 : sEq (gateS x) s
        · have hv := Lib.hid (readGate_none (s := s) (by rw [hy4.out h2h.out h hn, if_neg (sEq_not.1 h2)]))
          clear h hn
          generalize gateS x = tx at *
          repeat (first | go_values | go_skip | go_guarded | go_step | go_upon | go_back)
          refine (HN.out _ (by repeat (first | with_reducible exact Ext.refl _ | with_reducible refine Ext.lift ?_ _ | with_reducible refine Ext.alloc ?_ _ | with_reducible refine Ext.setCell ?_ (by first | (simp; done) | (simp; omega) | omega) _ | with_reducible refine ext_setCells (by first | (simp; done) | (simp; omega) | omega) _ _ _ ?_))).mono ?_
          rintro e w' ⟨rfl, z, rfl⟩
          obtain ⟨W3, hW3⟩ : ∃ W3, W3 = (lift ((((((((lift ((lift (lift (lift (w.alloc (.cells #[.string ⟨#[]⟩, .int .i64 0, .int .i64 0, .int .i64 0, .bool false, .int .i64 0] 31)) y0) y2) y5).alloc (.cells #[.string ⟨#[]⟩, .int .i64 0, .int .i64 0, .int .i64 0, .bool false, .int .i64 0] 31)) y6).setCell ⟨w.heap.size + 1 + y0.blocks.size + y2.blocks.size + y5.blocks.size, 0, none⟩ (.string x.id)).setCell ⟨w.heap.size + 1 + y0.blocks.size + y2.blocks.size + y5.blocks.size, 1, none⟩ (.int .i64 x.shut)).setCell ⟨w.heap.size + 1 + y0.blocks.size + y2.blocks.size + y5.blocks.size, 2, none⟩ (.int .i64 x.opn)).setCell ⟨w.heap.size + 1 + y0.blocks.size + y2.blocks.size + y5.blocks.size, 3, none⟩ (.int .i64 x.hold)).setCell ⟨w.heap.size + 1 + y0.blocks.size + y2.blocks.size + y5.blocks.size, 4, none⟩ (.bool false)).setCell ⟨w.heap.size + 1 + y0.blocks.size + y2.blocks.size + y5.blocks.size, 5, none⟩ (.int .i64 0)).setCell ⟨w.heap.size + 1 + y0.blocks.size + y2.blocks.size + y5.blocks.size, 4, none⟩ (.bool true)) z) := ⟨_, rfl⟩
          have q4 : (((((((lift ((lift (lift (lift (w.alloc (.cells #[.string ⟨#[]⟩, .int .i64 0, .int .i64 0, .int .i64 0, .bool false, .int .i64 0] 31)) y0) y2) y5).alloc (.cells #[.string ⟨#[]⟩, .int .i64 0, .int .i64 0, .int .i64 0, .bool false, .int .i64 0] 31)) y6).setCell ⟨w.heap.size + 1 + y0.blocks.size + y2.blocks.size + y5.blocks.size, 0, none⟩ (.string x.id)).setCell ⟨w.heap.size + 1 + y0.blocks.size + y2.blocks.size + y5.blocks.size, 1, none⟩ (.int .i64 x.shut)).setCell ⟨w.heap.size + 1 + y0.blocks.size + y2.blocks.size + y5.blocks.size, 2, none⟩ (.int .i64 x.opn)).setCell ⟨w.heap.size + 1 + y0.blocks.size + y2.blocks.size + y5.blocks.size, 3, none⟩ (.int .i64 x.hold)).setCell ⟨w.heap.size + 1 + y0.blocks.size + y2.blocks.size + y5.blocks.size, 4, none⟩ (.bool false)).setCell ⟨w.heap.size + 1 + y0.blocks.size + y2.blocks.size + y5.blocks.size, 5, none⟩ (.int .i64 0)).cell? ⟨w.heap.size + 1 + y0.blocks.size + y2.blocks.size + y5.blocks.size, 4, none⟩ = some (.bool false) := by go_simp
          rw [← hW3]
          have T3 : Ext w W3 := by rw [hW3]; exact (by repeat (first | with_reducible exact Ext.refl _ | with_reducible refine Ext.lift ?_ _ | with_reducible refine Ext.alloc ?_ _ | with_reducible refine Ext.setCell ?_ (by first | (simp; done) | (simp; omega) | omega) _ | with_reducible refine ext_setCells (by first | (simp; done) | (simp; omega) | omega) _ _ _ ?_))
          have k0 : W3.cell? ⟨w.heap.size + 1 + y0.blocks.size + y2.blocks.size + y5.blocks.size, 0, none⟩ = some (.string x.id) := by rw [hW3]; go_simp
          have k1 : W3.cell? ⟨w.heap.size + 1 + y0.blocks.size + y2.blocks.size + y5.blocks.size, 1, none⟩ = some (.int .i64 x.shut) := by rw [hW3]; go_simp
          have k2 : W3.cell? ⟨w.heap.size + 1 + y0.blocks.size + y2.blocks.size + y5.blocks.size, 2, none⟩ = some (.int .i64 x.opn) := by rw [hW3]; go_simp
          have k3 : W3.cell? ⟨w.heap.size + 1 + y0.blocks.size + y2.blocks.size + y5.blocks.size, 3, none⟩ = some (.int .i64 x.hold) := by rw [hW3]; go_simp
          have k4 : W3.cell? ⟨w.heap.size + 1 + y0.blocks.size + y2.blocks.size + y5.blocks.size, 4, none⟩ = some (.bool true) := by rw [hW3, lift_cell _ _ _ _ (by first | (simp; done) | (simp; omega))]; exact World.cell?_setCell_same' _ _ _ (by rw [q4]; rfl)
          have k5 : W3.cell? ⟨w.heap.size + 1 + y0.blocks.size + y2.blocks.size + y5.blocks.size, 5, none⟩ = some (.int .i64 0) := by rw [hW3]; go_simp
          have kf : ∀ j, W3.frozen? ⟨w.heap.size + 1 + y0.blocks.size + y2.blocks.size + y5.blocks.size, j, none⟩ = false := by intro j; rw [hW3]; go_simp
          have r0 : W3.cell? ⟨w.heap.size, 0, none⟩ = some (.string ⟨#[]⟩) := by rw [hW3]; go_simp
          have r1 : W3.cell? ⟨w.heap.size, 1, none⟩ = some (.int .i64 0) := by rw [hW3]; go_simp
          have r2 : W3.cell? ⟨w.heap.size, 2, none⟩ = some (.int .i64 0) := by rw [hW3]; go_simp
          have r3 : W3.cell? ⟨w.heap.size, 3, none⟩ = some (.int .i64 0) := by rw [hW3]; go_simp
          have r4 : W3.cell? ⟨w.heap.size, 4, none⟩ = some (.bool false) := by rw [hW3]; go_simp
          have r5 : W3.cell? ⟨w.heap.size, 5, none⟩ = some (.int .i64 0) := by rw [hW3]; go_simp
          have rf : ∀ j, W3.frozen? ⟨w.heap.size, j, none⟩ = false := by intro j; rw [hW3]; go_simp
          have s0 : w.heap.size < W3.heap.size := by rw [hW3]; first | (simp; done) | (simp; omega)
          have sB : w.heap.size + 1 + y0.blocks.size + y2.blocks.size + y5.blocks.size < W3.heap.size := by rw [hW3]; first | (simp; done) | (simp; omega)
          clear hW3 q4
          dsimp only
          repeat (first | ((go_at_call 12; refine (HX.out _ (by repeat (first | with_reducible exact T3 | with_reducible refine Ext.lift ?_ _ | with_reducible refine Ext.alloc ?_ _ | with_reducible refine Ext.setCell ?_ (by first | (simp; done) | (simp; omega) | omega) _ | with_reducible refine ext_setCells (by first | (simp; done) | (simp; omega) | omega) _ _ _ ?_))).mono ?_; rintro e w' ⟨rfl, z2, rfl⟩); try dsimp only) | go_values | go_skip | go_guarded | go_step | go_upon | go_back)
          exact bodyPost_ret (v := .tuple #[.agg #[.string ⟨#[]⟩, .int .i64 0, .int .i64 0, .int .i64 0, .bool false, .int .i64 0], .bool false]) (by simp [results, Tryd.results11, go_sem, s0, r0, r1, r2, r3, r4, r5]) rfl ⟨by rw [hv.out.1, hv.out.2], (by repeat (first | with_reducible exact T3 | with_reducible refine Ext.lift ?_ _ | with_reducible refine Ext.alloc ?_ _ | with_reducible refine Ext.setCell ?_ (by first | (simp; done) | (simp; omega) | omega) _ | with_reducible refine ext_setCells (by first | (simp; done) | (simp; omega) | omega) _ _ _ ?_))⟩
        · have hv := Lib.hid (readGate_some (s := s) (x := x) (by rw [hy4.out h2h.out h hn, if_pos (sEq_iff.1 h2)]))
          clear h hn
          generalize gateS x = tx at *
          repeat (first | go_values | go_skip | go_guarded | go_step | go_upon | go_back)
          refine (HN.out _ (by repeat (first | with_reducible exact Ext.refl _ | with_reducible refine Ext.lift ?_ _ | with_reducible refine Ext.alloc ?_ _ | with_reducible refine Ext.setCell ?_ (by first | (simp; done) | (simp; omega) | omega) _ | with_reducible refine ext_setCells (by first | (simp; done) | (simp; omega) | omega) _ _ _ ?_))).mono ?_
          rintro e w' ⟨rfl, z, rfl⟩
          obtain ⟨W3, hW3⟩ : ∃ W3, W3 = (lift ((((((((lift ((lift (lift (lift (w.alloc (.cells #[.string ⟨#[]⟩, .int .i64 0, .int .i64 0, .int .i64 0, .bool false, .int .i64 0] 31)) y0) y2) y5).alloc (.cells #[.string ⟨#[]⟩, .int .i64 0, .int .i64 0, .int .i64 0, .bool false, .int .i64 0] 31)) y6).setCell ⟨w.heap.size + 1 + y0.blocks.size + y2.blocks.size + y5.blocks.size, 0, none⟩ (.string x.id)).setCell ⟨w.heap.size + 1 + y0.blocks.size + y2.blocks.size + y5.blocks.size, 1, none⟩ (.int .i64 x.shut)).setCell ⟨w.heap.size + 1 + y0.blocks.size + y2.blocks.size + y5.blocks.size, 2, none⟩ (.int .i64 x.opn)).setCell ⟨w.heap.size + 1 + y0.blocks.size + y2.blocks.size + y5.blocks.size, 3, none⟩ (.int .i64 x.hold)).setCell ⟨w.heap.size + 1 + y0.blocks.size + y2.blocks.size + y5.blocks.size, 4, none⟩ (.bool false)).setCell ⟨w.heap.size + 1 + y0.blocks.size + y2.blocks.size + y5.blocks.size, 5, none⟩ (.int .i64 0)).setCell ⟨w.heap.size + 1 + y0.blocks.size + y2.blocks.size + y5.blocks.size, 4, none⟩ (.bool true)) z) := ⟨_, rfl⟩
          have q4 : (((((((lift ((lift (lift (lift (w.alloc (.cells #[.string ⟨#[]⟩, .int .i64 0, .int .i64 0, .int .i64 0, .bool false, .int .i64 0] 31)) y0) y2) y5).alloc (.cells #[.string ⟨#[]⟩, .int .i64 0, .int .i64 0, .int .i64 0, .bool false, .int .i64 0] 31)) y6).setCell ⟨w.heap.size + 1 + y0.blocks.size + y2.blocks.size + y5.blocks.size, 0, none⟩ (.string x.id)).setCell ⟨w.heap.size + 1 + y0.blocks.size + y2.blocks.size + y5.blocks.size, 1, none⟩ (.int .i64 x.shut)).setCell ⟨w.heap.size + 1 + y0.blocks.size + y2.blocks.size + y5.blocks.size, 2, none⟩ (.int .i64 x.opn)).setCell ⟨w.heap.size + 1 + y0.blocks.size + y2.blocks.size + y5.blocks.size, 3, none⟩ (.int .i64 x.hold)).setCell ⟨w.heap.size + 1 + y0.blocks.size + y2.blocks.size + y5.blocks.size, 4, none⟩ (.bool false)).setCell ⟨w.heap.size + 1 + y0.blocks.size + y2.blocks.size + y5.blocks.size, 5, none⟩ (.int .i64 0)).cell? ⟨w.heap.size + 1 + y0.blocks.size + y2.blocks.size + y5.blocks.size, 4, none⟩ = some (.bool false) := by go_simp
          rw [← hW3]
          have T3 : Ext w W3 := by rw [hW3]; exact (by repeat (first | with_reducible exact Ext.refl _ | with_reducible refine Ext.lift ?_ _ | with_reducible refine Ext.alloc ?_ _ | with_reducible refine Ext.setCell ?_ (by first | (simp; done) | (simp; omega) | omega) _ | with_reducible refine ext_setCells (by first | (simp; done) | (simp; omega) | omega) _ _ _ ?_))
          have k0 : W3.cell? ⟨w.heap.size + 1 + y0.blocks.size + y2.blocks.size + y5.blocks.size, 0, none⟩ = some (.string x.id) := by rw [hW3]; go_simp
          have k1 : W3.cell? ⟨w.heap.size + 1 + y0.blocks.size + y2.blocks.size + y5.blocks.size, 1, none⟩ = some (.int .i64 x.shut) := by rw [hW3]; go_simp
          have k2 : W3.cell? ⟨w.heap.size + 1 + y0.blocks.size + y2.blocks.size + y5.blocks.size, 2, none⟩ = some (.int .i64 x.opn) := by rw [hW3]; go_simp
          have k3 : W3.cell? ⟨w.heap.size + 1 + y0.blocks.size + y2.blocks.size + y5.blocks.size, 3, none⟩ = some (.int .i64 x.hold) := by rw [hW3]; go_simp
          have k4 : W3.cell? ⟨w.heap.size + 1 + y0.blocks.size + y2.blocks.size + y5.blocks.size, 4, none⟩ = some (.bool true) := by rw [hW3, lift_cell _ _ _ _ (by first | (simp; done) | (simp; omega))]; exact World.cell?_setCell_same' _ _ _ (by rw [q4]; rfl)
          have k5 : W3.cell? ⟨w.heap.size + 1 + y0.blocks.size + y2.blocks.size + y5.blocks.size, 5, none⟩ = some (.int .i64 0) := by rw [hW3]; go_simp
          have kf : ∀ j, W3.frozen? ⟨w.heap.size + 1 + y0.blocks.size + y2.blocks.size + y5.blocks.size, j, none⟩ = false := by intro j; rw [hW3]; go_simp
          have r0 : W3.cell? ⟨w.heap.size, 0, none⟩ = some (.string ⟨#[]⟩) := by rw [hW3]; go_simp
          have r1 : W3.cell? ⟨w.heap.size, 1, none⟩ = some (.int .i64 0) := by rw [hW3]; go_simp
          have r2 : W3.cell? ⟨w.heap.size, 2, none⟩ = some (.int .i64 0) := by rw [hW3]; go_simp
          have r3 : W3.cell? ⟨w.heap.size, 3, none⟩ = some (.int .i64 0) := by rw [hW3]; go_simp
          have r4 : W3.cell? ⟨w.heap.size, 4, none⟩ = some (.bool false) := by rw [hW3]; go_simp
          have r5 : W3.cell? ⟨w.heap.size, 5, none⟩ = some (.int .i64 0) := by rw [hW3]; go_simp
          have rf : ∀ j, W3.frozen? ⟨w.heap.size, j, none⟩ = false := by intro j; rw [hW3]; go_simp
          have s0 : w.heap.size < W3.heap.size := by rw [hW3]; first | (simp; done) | (simp; omega)
          have sB : w.heap.size + 1 + y0.blocks.size + y2.blocks.size + y5.blocks.size < W3.heap.size := by rw [hW3]; first | (simp; done) | (simp; omega)
          clear hW3 q4
          dsimp only
          repeat (first | ((go_at_call 12; refine (HX.out _ (by repeat (first | with_reducible exact T3 | with_reducible refine Ext.lift ?_ _ | with_reducible refine Ext.alloc ?_ _ | with_reducible refine Ext.setCell ?_ (by first | (simp; done) | (simp; omega) | omega) _ | with_reducible refine ext_setCells (by first | (simp; done) | (simp; omega) | omega) _ _ _ ?_))).mono ?_; rintro e w' ⟨rfl, z2, rfl⟩); try dsimp only) | go_values | go_skip | go_guarded | go_step | go_upon | go_back)
          exact bodyPost_ret (v := .tuple #[.agg #[.string x.id, .int .i64 x.shut, .int .i64 x.opn, .int .i64 x.hold, .bool true, .int .i64 x.calm], .bool true]) (by simp [results, Tryd.results11, go_sem, s0, r0, r1, r2, r3, r4, r5]) rfl ⟨by rw [hv.out.1, hv.out.2, HX4.out], (by repeat (first | with_reducible exact T3 | with_reducible refine Ext.lift ?_ _ | with_reducible refine Ext.alloc ?_ _ | with_reducible refine Ext.setCell ?_ (by first | (simp; done) | (simp; omega) | omega) _ | with_reducible refine ext_setCells (by first | (simp; done) | (simp; omega) | omega) _ _ _ ?_))⟩
  · have h2' : ((Q.length : Int) == 4) = false := by rw [beq_eq_false_iff_ne]; omega
    have h23 : ¬ Q.length < 3 := by omega
    have hq : 1 < Q.length := by omega
    have hq0 : 0 < Q.length := by omega
    have h2h := Lib.hid h2
    have h4h := Lib.hid h4
    obtain ⟨x, hx⟩ : ∃ x, x = gateOf (nth Q 0) (numsL (nth Q 1) 3) false 0 := ⟨_, rfl⟩
    rw [← hx] at hy3
    have HX4 : Hid (x.shuts = false) := by show _ = _; rw [hx]; rfl
    have HC4 : Hid (x.calm = 0) := by show _ = _; rw [hx]; rfl
    have hz0 := hQp.out 0 (by omega)
    have hz1 := hQp.out 1 (by omega)
    have hxs : x.id.size ≤ 1048576 := by rw [hx]; exact hz0
    have HX := Lib.hid fun (W : World) (he : Ext w W) => implGateText x W (by omega) (HT.out.tab.ext he)
    have HR := Lib.hid fun (W : World) (he : Ext w W) => readNumbers_3 (nth Q 1) W hz1 (HT.out.ext he)
    have hlen := Lib.hid (numsL_len (nth Q 1) 3)
    obtain ⟨b, off, rfl⟩ := R0.out.base hq
    obtain ⟨hb, c1⟩ := StrAt.at R0.out 1 hq
    obtain ⟨-, c0⟩ := StrAt.at R0.out 0 (by omega)
    rw [Nat.add_zero] at c0
    simp at hb
    rw [show nth Q 0 = x.id by rw [hx]; rfl] at c0
    have n0 := Lib.hid (show nth (numsL (nth Q 1) 3) 0 = x.shut by rw [hx]; rfl)
    have n1 := Lib.hid (show nth (numsL (nth Q 1) 3) 1 = x.opn by rw [hx]; rfl)
    have n2 := Lib.hid (show nth (numsL (nth Q 1) 3) 2 = x.hold by rw [hx]; rfl)
    clear hx h2 h4
    rw [HX4.out, HC4.out] at HX
    go_wp2_with fail
    refine (HR.out _ (by repeat (first | exact Ext.refl _ | refine Ext.lift ?_ _ | refine Ext.alloc ?_ _))).mono ?_
    rintro e W2 ⟨a2, cap2, rfl, R2, y2, rfl⟩
    have R3 := Lib.hid R2
    clear R2 HR c1
    have hl : 2 < (numsL (nth Q 1) 3).length := by rw [hlen.out]; decide
    obtain ⟨b2, off2, rfl⟩ := R3.out.base hl
    obtain ⟨hb2, d0⟩ := IntAt.at R3.out 0 (by omega)
    rw [n0.out] at d0
    obtain ⟨hb2, d1⟩ := IntAt.at R3.out 1 (by omega)
    rw [n1.out] at d1
    obtain ⟨hb2, d2⟩ := IntAt.at R3.out 2 (by omega)
    rw [n2.out] at d2
    rw [Nat.add_zero] at d0
    simp at hb2
    clear hl
    go_wp2_with fail
    refine Grow.region_tail 14 [0, 1, 2, 3, 4, 5, 6, 7, 8, 9, 10, 11, 12] [(false, 13)] (by kernel_rfl) (by kernel_rfl) ?_
    simp only [Grow.pick, Grow.pickB, List.getElem?_cons_succ, List.getElem?_cons_zero, List.drop_succ_cons, List.drop_zero]
    repeat
      refine Grow.heads_step (fun K' hK => ⟨rfl, ?_⟩)
      apply Exists.intro
      apply And.intro
      · intro w' hw'
        obtain ⟨x', rfl⟩ := hw'
        go_simp
        first | done | rfl | (rw [if_neg (by omega)]; done) | (rw [if_neg (by omega)]; rfl) | (rw [if_pos (by omega)]; done) | (rw [if_pos (by omega)]; rfl)
      go_simp
      refine hK _ ?_
      clear hK K'
    refine Grow.heads_nil ?_
    intro w5 e5
    obtain ⟨y5, rfl⟩ := e5
    refine Grow.seq_step (fun K' hK => ⟨rfl, ?_⟩)
    go_simp
    try rw [if_neg (by omega)]
    simp only [Grow.upon]
    refine ⟨(Ext.refl _).alloc _, fun w6 e6 => hK _ _ ?_⟩
    clear hK K'
    obtain ⟨y6, rfl⟩ := e6
    refine Grow.seq_nil ?_
    clear c0 d0 d1 d2 hb2
    cases h : numsOk (nth Q 1) 3
    · have hv := Lib.hid (hno.out (.inr h))
      clear h
      go_wp2_with fail
      exact bodyPost_ret (v := .tuple #[.agg #[.string ⟨#[]⟩, .int .i64 0, .int .i64 0, .int .i64 0, .bool false, .int .i64 0], .bool false]) (by simp [results, Tryd.results11, go_sem]) rfl ⟨by rw [hv.out.1, hv.out.2], (by repeat (first | with_reducible exact Ext.refl _ | with_reducible refine Ext.lift ?_ _ | with_reducible refine Ext.alloc ?_ _ | with_reducible refine Ext.setCell ?_ (by first | (simp; done) | (simp; omega) | omega) _ | with_reducible refine ext_setCells (by first | (simp; done) | (simp; omega) | omega) _ _ _ ?_))⟩
    · cases h2 : sEq (gateS x) s
      · have hv := Lib.hid (readGate_none (s := s) (by rw [hy3.out h2h.out h4h.out h, if_neg (sEq_not.1 h2)]))
        clear h
        generalize gateS x = tx at *
        repeat (first | ((go_at_call 12; refine (HX.out _ (by repeat (first | with_reducible exact Ext.refl _ | with_reducible refine Ext.lift ?_ _ | with_reducible refine Ext.alloc ?_ _ | with_reducible refine Ext.setCell ?_ (by first | (simp; done) | (simp; omega) | omega) _ | with_reducible refine ext_setCells (by first | (simp; done) | (simp; omega) | omega) _ _ _ ?_))).mono ?_; rintro e w' ⟨rfl, z, rfl⟩); try dsimp only) | go_values | go_skip | go_guarded | go_step | go_upon | go_back)
        exact bodyPost_ret (v := .tuple #[.agg #[.string ⟨#[]⟩, .int .i64 0, .int .i64 0, .int .i64 0, .bool false, .int .i64 0], .bool false]) (by simp [results, Tryd.results11, go_sem]) rfl ⟨by rw [hv.out.1, hv.out.2], (by repeat (first | with_reducible exact Ext.refl _ | with_reducible refine Ext.lift ?_ _ | with_reducible refine Ext.alloc ?_ _ | with_reducible refine Ext.setCell ?_ (by first | (simp; done) | (simp; omega) | omega) _ | with_reducible refine ext_setCells (by first | (simp; done) | (simp; omega) | omega) _ _ _ ?_))⟩
      · have hv := Lib.hid (readGate_some (s := s) (x := x) (by rw [hy3.out h2h.out h4h.out h, if_pos (sEq_iff.1 h2)]))
        clear h
        generalize gateS x = tx at *
        repeat (first | ((go_at_call 12; refine (HX.out _ (by repeat (first | with_reducible exact Ext.refl _ | with_reducible refine Ext.lift ?_ _ | with_reducible refine Ext.alloc ?_ _ | with_reducible refine Ext.setCell ?_ (by first | (simp; done) | (simp; omega) | omega) _ | with_reducible refine ext_setCells (by first | (simp; done) | (simp; omega) | omega) _ _ _ ?_))).mono ?_; rintro e w' ⟨rfl, z, rfl⟩); try dsimp only) | go_values | go_skip | go_guarded | go_step | go_upon | go_back)
        exact bodyPost_ret (v := .tuple #[.agg #[.string x.id, .int .i64 x.shut, .int .i64 x.opn, .int .i64 x.hold, .bool false, .int .i64 0], .bool true]) (by simp [results, Tryd.results11, go_sem]) rfl ⟨by rw [hv.out.1, hv.out.2, HX4.out, HC4.out], (by repeat (first | with_reducible exact Ext.refl _ | with_reducible refine Ext.lift ?_ _ | with_reducible refine Ext.alloc ?_ _ | with_reducible refine Ext.setCell ?_ (by first | (simp; done) | (simp; omega) | omega) _ | with_reducible refine ext_setCells (by first | (simp; done) | (simp; omega) | omega) _ _ _ ?_))⟩
end Go.Proofs.YtfiiaegfikocoaaDoor
