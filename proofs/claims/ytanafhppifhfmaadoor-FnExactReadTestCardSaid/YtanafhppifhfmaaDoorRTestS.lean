/- A test read back: what the reference hands back. -/
import Derived.Test.YtanafhppifhfmaaDoorRTest
namespace Go.Proofs.YtanafhppifhfmaaDoor
open Go.RowKit
set_option maxRecDepth 100000 in
set_option maxHeartbeats 8000000 in
theorem l08Read_any (s : ByteArray) (w : World) (hs : s.size ≤ 1048576) :
    Gives Tryd.prog 73 #[.string s] w (.tuple #[.agg #[.int .i64 (resTest s).kind, .int .i64 (resTest s).score, .int .i64 (resTest s).quality, .int .i64 (resTest s).depth, .int .i64 (resTest s).hour], .bool (okTest s)]) := by
  unfold Gives
  have HS := Lib.hid fun (W : World) => l01Split_any s 32 32 W rfl hs
  obtain ⟨Q, hQ⟩ : ∃ Q, Q = cutsB 32 s := ⟨_, rfl⟩
  have hQp : Hid (∀ k, k < Q.length → (nth Q k).size ≤ 1048576) := fun k hk => by have := piece_size (c := 32) (s := s) (p := nth Q k) (by rw [← hQ]; exact nth_mem hk); omega
  have hno : Hid ((Q.length ≠ 2 ∨ numsOk (nth Q 1) 4 = false ∨ testB (testOf (nth Q 0) (listV (nth Q 1))) = false) → resTest s = ⟨0, 0, 0, 0, 0⟩ ∧ okTest s = false) := fun h => readTest_none (by
    unfold readTest readG
    rw [if_neg]
    rintro ⟨h0, h3⟩
    obtain ⟨h1, h2⟩ := twoB_iff.1 h0
    rw [← hQ] at h1 h2 h3
    rcases h with h | h | h
    · exact h h1
    · rw [h2] at h; cases h
    · rw [h3] at h; cases h)
  have hyes : Hid (Q.length = 2 → numsOk (nth Q 1) 4 = true → testB (testOf (nth Q 0) (listV (nth Q 1))) = true → resTest s = testOf (nth Q 0) (listV (nth Q 1)) ∧ okTest s = true) := fun h1 h2 h3 => readTest_some (by
    unfold readTest readG
    rw [if_pos ⟨twoB_iff.2 ⟨by rw [← hQ]; exact h1, by rw [← hQ]; exact h2⟩, by rw [← hQ]; exact h3⟩, ← hQ])
  rw [← hQ] at HS
  clear hQ
  go_enter Tryd.func73, Tryd.ntmps73
  go_wp2_with fail
  refine (HS.out _).mono ?_
  rintro e W ⟨a, cap, rfl, -, -, R, y0, rfl⟩
  have R0 := Lib.hid R
  clear R HS
  by_cases h2 : Q.length = 2
  case neg =>
    have hv := Lib.hid (hno.out (.inl h2))
    have h2' : ((Q.length : Int) != 2) = true := by rw [bne_iff_ne]; omega
    clear h2
    go_wp2_with fail
    exact bodyPost_ret (v := .tuple #[.agg #[.int .i64 0, .int .i64 0, .int .i64 0, .int .i64 0, .int .i64 0], .bool false]) (by simp [results, Tryd.results73, go_sem]) rfl ⟨by rw [hv.out.1, hv.out.2], (by repeat (first | with_reducible exact Ext.refl _ | with_reducible refine Ext.lift ?_ _ | with_reducible refine Ext.alloc ?_ _ | with_reducible refine Ext.setCell ?_ (by first | (simp; done) | (simp; omega) | omega) _ | with_reducible refine ext_setCells (by first | (simp; done) | (simp; omega) | omega) _ _ _ ?_))⟩
  have h2' : ((Q.length : Int) != 2) = false := by rw [h2]; rfl
  have hq : 1 < Q.length := by omega
  have hq0 : 0 < Q.length := by omega
  have h2h := Lib.hid h2
  have hz0 := hQp.out 0 (by omega)
  have hz1 := hQp.out 1 (by omega)
  clear h2
  obtain ⟨b, off, rfl⟩ := R0.out.base hq
  obtain ⟨hb, c1⟩ := StrAt.at R0.out 1 hq
  obtain ⟨-, c0⟩ := StrAt.at R0.out 0 (by omega)
  rw [Nat.add_zero] at c0
  simp at hb
  have HL := Lib.hid fun W' => specReadList_any (nth Q 1) W' hz1
  cases h1 : listB (nth Q 1)
  · have hv := Lib.hid (hno.out (.inr (.inl (numsOk_b h1))))
    rw [h1] at HL
    go_wp2_with fail
    refine (HL.out _).mono ?_
    rintro e W2 ⟨a2, cap2, rfl, -, -, y2, rfl⟩
    go_wp2_with fail
    exact bodyPost_ret (v := .tuple #[.agg #[.int .i64 0, .int .i64 0, .int .i64 0, .int .i64 0, .int .i64 0], .bool false]) (by simp [results, Tryd.results73, go_sem]) rfl ⟨by rw [hv.out.1, hv.out.2], (by repeat (first | with_reducible exact Ext.refl _ | with_reducible refine Ext.lift ?_ _ | with_reducible refine Ext.alloc ?_ _ | with_reducible refine Ext.setCell ?_ (by first | (simp; done) | (simp; omega) | omega) _ | with_reducible refine ext_setCells (by first | (simp; done) | (simp; omega) | omega) _ _ _ ?_))⟩
  rw [h1] at HL
  go_wp2_with fail
  refine (HL.out _).mono ?_
  rintro e W2 ⟨a2, cap2, rfl, -, R2, y2, rfl⟩
  have R3 := Lib.hid R2
  clear R2 HL c1
  by_cases h3 : (listV (nth Q 1)).length = 4
  case neg =>
    have hv := Lib.hid (hno.out (.inr (.inl (numsOk_n h3))))
    have h3' : (((listV (nth Q 1)).length : Int) != 4) = true := by rw [bne_iff_ne]; omega
    clear h3
    go_wp2_with fail
    exact bodyPost_ret (v := .tuple #[.agg #[.int .i64 0, .int .i64 0, .int .i64 0, .int .i64 0, .int .i64 0], .bool false]) (by simp [results, Tryd.results73, go_sem]) rfl ⟨by rw [hv.out.1, hv.out.2], (by repeat (first | with_reducible exact Ext.refl _ | with_reducible refine Ext.lift ?_ _ | with_reducible refine Ext.alloc ?_ _ | with_reducible refine Ext.setCell ?_ (by first | (simp; done) | (simp; omega) | omega) _ | with_reducible refine ext_setCells (by first | (simp; done) | (simp; omega) | omega) _ _ _ ?_))⟩
  have h3' : (((listV (nth Q 1)).length : Int) != 4) = false := by rw [h3]; rfl
  have hok := Lib.hid (numsOk_y (m := 4) h1 h3)
  have hl : 3 < (listV (nth Q 1)).length := by omega
  have hl0 : 0 < (listV (nth Q 1)).length := by omega
  have hl1 : 1 < (listV (nth Q 1)).length := by omega
  have hl2 : 2 < (listV (nth Q 1)).length := by omega
  have hm1 : (1 : Int) < ((listV (nth Q 1)).length : Int) := by omega
  have hm2 : (2 : Int) < ((listV (nth Q 1)).length : Int) := by omega
  have hm3 : (3 : Int) < ((listV (nth Q 1)).length : Int) := by omega
  obtain ⟨x, hx⟩ : ∃ x, x = testOf (nth Q 0) (listV (nth Q 1)) := ⟨_, rfl⟩
  rw [← hx] at hno hyes
  obtain ⟨ID, hID⟩ : ∃ ID, ID = nth Q 0 := ⟨_, rfl⟩
  have hkd : Hid (kindTo ID 4 = x.kind) := by show _ = _; rw [hx, hID]; rfl
  rw [← hID] at c0
  obtain ⟨b2, off2, rfl⟩ := R3.out.base hl
  obtain ⟨hb2, d0⟩ := IntAt.at (R3.out) 0 (by omega)
  obtain ⟨hb2, d1⟩ := IntAt.at (R3.out) 1 (by omega)
  obtain ⟨hb2, d2⟩ := IntAt.at (R3.out) 2 (by omega)
  obtain ⟨hb2, d3⟩ := IntAt.at (R3.out) 3 (by omega)
  rw [Nat.add_zero] at d0
  simp at hb2
  rw [show nth (listV (nth Q 1)) 0 = x.score by rw [hx]; rfl] at d0
  rw [show nth (listV (nth Q 1)) 1 = x.quality by rw [hx]; rfl] at d1
  rw [show nth (listV (nth Q 1)) 2 = x.depth by rw [hx]; rfl] at d2
  rw [show nth (listV (nth Q 1)) 3 = x.hour by rw [hx]; rfl] at d3
  clear hx h3 hID
  go_wp2_with fail
  refine Grow.region_tail 14 [0, 1, 2, 3, 4, 5, 6, 7, 8, 9, 10, 11, 12] [(false, 13)] (by kernel_rfl) (by kernel_rfl) ?_
  simp only [Grow.pick, Grow.pickB, List.getElem?_cons_succ, List.getElem?_cons_zero, List.drop_succ_cons, List.drop_zero]
  repeat
    refine Grow.heads_step (fun K' hK => ⟨rfl, ?_⟩)
    apply Exists.intro
    apply And.intro
    · intro w' hw'
      obtain ⟨x', rfl⟩ := hw'
      go_simp
      first | done | rfl | (rw [if_neg (by omega)]; done) | (rw [if_neg (by omega)]; rfl)
    go_simp
    refine hK _ ?_
    clear hK K'
  refine Grow.heads_nil ?_
  intro w5 e5
  obtain ⟨y5, rfl⟩ := e5
  refine Grow.seq_step (fun K' hK => ⟨rfl, ?_⟩)
  go_simp
  try rw [if_neg (by omega)]
  simp only [Grow.upon]
  refine ⟨(Ext.refl _).alloc _, fun w6 e6 => hK _ _ ?_⟩
  clear hK K'
  obtain ⟨y6, rfl⟩ := e6
  refine Grow.seq_nil ?_
  clear d0 d1 d2 d3 hb2 R3 R0
  have cB : b < w.heap.size + 1 + y0.blocks.size + y2.blocks.size + y5.blocks.size := by omega
  obtain ⟨W6, hW6⟩ : ∃ W6, W6 = lift ((lift (lift (lift (w.alloc (.cells #[.int .i64 0, .int .i64 0, .int .i64 0, .int .i64 0, .int .i64 0] 64)) y0) y2) y5).alloc (.cells #[.int .i64 0, .int .i64 0, .int .i64 0, .int .i64 0, .int .i64 0] 64)) y6 := ⟨_, rfl⟩
  have T6 : Ext w W6 := by rw [hW6]; exact (by repeat (first | with_reducible exact Ext.refl _ | with_reducible refine Ext.lift ?_ _ | with_reducible refine Ext.alloc ?_ _ | with_reducible refine Ext.setCell ?_ (by first | (simp; done) | (simp; omega) | omega) _ | with_reducible refine ext_setCells (by first | (simp; done) | (simp; omega) | omega) _ _ _ ?_))
  have P6 : Ext (lift (lift (lift (w.alloc (.cells #[.int .i64 0, .int .i64 0, .int .i64 0, .int .i64 0, .int .i64 0] 64)) y0) y2) y5) W6 := by rw [hW6]; exact ((Ext.refl _).alloc _).lift _
  have qB : Blk W6 (w.heap.size + 1 + y0.blocks.size + y2.blocks.size + y5.blocks.size) 64 5 := by
    have h9 := (Blk.new (lift (lift (lift (w.alloc (.cells #[.int .i64 0, .int .i64 0, .int .i64 0, .int .i64 0, .int .i64 0] 64)) y0) y2) y5) #[.int .i64 0, .int .i64 0, .int .i64 0, .int .i64 0, .int .i64 0] 64).ext ((Ext.refl _).lift y6)
    rw [← hW6] at h9
    simpa using h9
  have rB : Blk W6 w.heap.size 64 5 := by
    have h9 := (Blk.new w #[.int .i64 0, .int .i64 0, .int .i64 0, .int .i64 0, .int .i64 0] 64).ext (w' := W6) (by rw [hW6]; exact (by repeat (first | with_reducible exact Ext.refl _ | with_reducible refine Ext.lift ?_ _ | with_reducible refine Ext.alloc ?_ _ | with_reducible refine Ext.setCell ?_ (by first | (simp; done) | (simp; omega) | omega) _ | with_reducible refine ext_setCells (by first | (simp; done) | (simp; omega) | omega) _ _ _ ?_)))
    exact h9
  have q0 : W6.cell? ⟨w.heap.size + 1 + y0.blocks.size + y2.blocks.size + y5.blocks.size, 0, none⟩ = some (.int .i64 0) := by rw [hW6]; go_simp
  have q1 : W6.cell? ⟨w.heap.size + 1 + y0.blocks.size + y2.blocks.size + y5.blocks.size, 1, none⟩ = some (.int .i64 0) := by rw [hW6]; go_simp
  have q2 : W6.cell? ⟨w.heap.size + 1 + y0.blocks.size + y2.blocks.size + y5.blocks.size, 2, none⟩ = some (.int .i64 0) := by rw [hW6]; go_simp
  have q3 : W6.cell? ⟨w.heap.size + 1 + y0.blocks.size + y2.blocks.size + y5.blocks.size, 3, none⟩ = some (.int .i64 0) := by rw [hW6]; go_simp
  have q4 : W6.cell? ⟨w.heap.size + 1 + y0.blocks.size + y2.blocks.size + y5.blocks.size, 4, none⟩ = some (.int .i64 0) := by rw [hW6]; go_simp
  have r0 : W6.cell? ⟨w.heap.size, 0, none⟩ = some (.int .i64 0) := by rw [hW6]; go_simp
  have r1 : W6.cell? ⟨w.heap.size, 1, none⟩ = some (.int .i64 0) := by rw [hW6]; go_simp
  have r2 : W6.cell? ⟨w.heap.size, 2, none⟩ = some (.int .i64 0) := by rw [hW6]; go_simp
  have r3 : W6.cell? ⟨w.heap.size, 3, none⟩ = some (.int .i64 0) := by rw [hW6]; go_simp
  have r4 : W6.cell? ⟨w.heap.size, 4, none⟩ = some (.int .i64 0) := by rw [hW6]; go_simp
  have qf : ∀ j, W6.frozen? ⟨w.heap.size + 1 + y0.blocks.size + y2.blocks.size + y5.blocks.size, j, none⟩ = false := fun j => qB.frozen j
  have ql := qB.lt
  rw [← hW6]
  obtain ⟨G, hG⟩ : ∃ G, G = w.heap.size + 1 + y0.blocks.size + y2.blocks.size + y5.blocks.size := ⟨_, rfl⟩
  rw [← hG] at qB q0 q1 q2 q3 q4 qf ql ⊢
  have gw : w.heap.size < G := by omega
  have gh : Hid (Chg (some ⟨G, 0, none⟩) W6 W6) := Chg.refl _ _
  have gB : ∀ q, q < w.heap.size + 1 + y0.blocks.size + y2.blocks.size + y5.blocks.size → q ≠ G := fun q hq => by omega
  clear hW6 hG
  have c6 : W6.cell? ⟨b, off, none⟩ = some (.string ID) := P6.cell (by go_simp)
  have bG : b ≠ G := gB b cB
  clear c0 P6
  go_wp2_with fail
  go_loopw [8] (fun i wr => ∃ k : Nat, 1 ≤ k ∧ k ≤ 4 ∧ i = .int .i64 k ∧ Hid (Objt wr G 64 5 (tcell (kindTo ID k) x)) ∧ Hid (Chg (some ⟨G, 0, none⟩) W6 wr)) (fun i _ => 4 - (intOf i).toNat)
  case atStart => exact ⟨1, Nat.le_refl _, by decide, rfl, ⟨by repeat (first | exact qB | refine Blk.set ?_ _ _ _), fun j hj => by
                                                             rcases (show j = 0 ∨ j = 1 ∨ j = 2 ∨ j = 3 ∨ j = 4 by omega) with rfl | rfl | rfl | rfl | rfl
                                                             all_goals (first | (show World.cell? _ _ = some (.int .i64 _); go_simp; done) | (rw [kindTo_0]; show World.cell? _ _ = some (.int .i64 _); go_simp; done))⟩, by repeat (first | exact gh.out | refine Chg.setc ?_ _ _)⟩
  case round =>
    obtain ⟨k, h1, h4, rfl, HOb, HCh⟩ := hrel
    by_cases hlt : k ≤ 3
    · have c7 : wr.cell? ⟨b, off, none⟩ = some (.string ID) := HCh.out.cell (fun g o s e => by simp only [Option.some.injEq, Addr.mk.injEq] at e; omega) c6
      have b7 := block_lt c7
      cases hq : sEq (kindS (k : Int)) ID
      · have hk2 := Lib.hid (kindTo_no hq)
        go_wp2_with fail
        refine region_quiet (by kernel_rfl) (by kernel_rfl) ?_
        repeat (any_goals (first | go_big_quiet_step ((exact Gives.quiet (l08Name_any _ _))) | quiet_step ((exact Gives.quiet (l08Name_any _ _)))))
        refine wpQuiet_nil ?_
        intro _ hw'
        obtain ⟨y, hw''⟩ := hw'
        subst hw''
        go_wp2_with fail
        go_roundw
        case rel => exact ⟨k + 1, by omega, by omega, by go_num, by rw [hk2.out]; exact HOb.out.ext ((Ext.refl _).lift _), HCh.out.lift _⟩
        case measure => simp [intOf]; omega
      · have hk2 := Lib.hid (kindTo_yes hq)
        have ol := HOb.out.blk.lt
        have o0 := HOb.out.cell 0 (by decide)
        have of := HOb.out.blk.frozen 0
        simp only [tcell] at o0
        go_wp2_with fail
        refine region_quiet (by kernel_rfl) (by kernel_rfl) ?_
        repeat (any_goals (first | go_big_quiet_step ((exact Gives.quiet (l08Name_any _ _))) | quiet_step ((exact Gives.quiet (l08Name_any _ _)))))
        refine wpQuiet_nil ?_
        intro _ hw'
        obtain ⟨y, hw''⟩ := hw'
        subst hw''
        go_wp2_with fail
        go_roundw
        case rel => exact ⟨k + 1, by omega, by omega, by go_num, by rw [hk2.out]; exact (HOb.out.ext ((Ext.refl _).lift _)).set 0 _ (by decide) rfl (fun j hj hne => by rcases (show j = 0 ∨ j = 1 ∨ j = 2 ∨ j = 3 ∨ j = 4 by omega) with rfl | rfl | rfl | rfl | rfl <;> first | rfl | exact absurd rfl hne), (HCh.out.lift _).setc _ _⟩
        case measure => simp [intOf]; omega
    · have P6 := T6
      obtain rfl : k = 4 := by omega
      have T3 : Ext w wr := T6.chg HCh.out (fun g o s e => by simp only [Option.some.injEq, Addr.mk.injEq] at e; omega)
      have ol := HOb.out.blk.lt
      have o0 := HOb.out.cell 0 (by decide)
      have o1 := HOb.out.cell 1 (by decide)
      have o2 := HOb.out.cell 2 (by decide)
      have o3 := HOb.out.cell 3 (by decide)
      have o4 := HOb.out.cell 4 (by decide)
      rw [hkd.out] at o0
      simp only [tcell] at o0 o1 o2 o3 o4
      have hne : ∀ g o s, (some ⟨G, 0, none⟩ : Option Addr) = some ⟨g, o, s⟩ → w.heap.size ≠ g := fun g o s e => by simp only [Option.some.injEq, Addr.mk.injEq] at e; omega
      have s0 := HCh.out.cell hne r0
      have s1 := HCh.out.cell hne r1
      have s2 := HCh.out.cell hne r2
      have s3 := HCh.out.cell hne r3
      have s4 := HCh.out.cell hne r4
      have sB := chg_block HCh.out rB (by omega)
      have sf : ∀ j, wr.frozen? ⟨w.heap.size, j, none⟩ = false := fun j => sB.frozen j
      have sl := sB.lt
      clear hne sB HOb HCh qB rB q0 q1 q2 q3 q4 r0 r1 r2 r3 r4 qf ql gh T6 P6
      clear c6 bG hb cB
      cases h : testB x
      · have hv := Lib.hid (hno.out (.inr (.inr h)))
        repeat (first | ((go_at_call 114; refine (l08One_any _ _ x _ (by go_simp) (by go_simp) (by go_simp) (by go_simp) (by go_simp)).mono ?_; rintro e w' ⟨rfl, z, rfl⟩; rw [h]); try dsimp only) | go_values | go_skip | go_guarded | go_step | go_upon | go_back)
        exact bodyPost_ret (v := .tuple #[.agg #[.int .i64 0, .int .i64 0, .int .i64 0, .int .i64 0, .int .i64 0], .bool false]) (by simp [results, Tryd.results73, go_sem, sl, s0, s1, s2, s3, s4]) rfl ⟨by rw [hv.out.1, hv.out.2], (by repeat (first | with_reducible exact T3 | with_reducible refine Ext.lift ?_ _ | with_reducible refine Ext.alloc ?_ _ | with_reducible refine Ext.setCell ?_ (by first | (simp; done) | (simp; omega) | omega) _ | with_reducible refine ext_setCells (by first | (simp; done) | (simp; omega) | omega) _ _ _ ?_))⟩
      · have hv := Lib.hid (hyes.out h2h.out hok.out h)
        repeat (first | ((go_at_call 114; refine (l08One_any _ _ x _ (by go_simp) (by go_simp) (by go_simp) (by go_simp) (by go_simp)).mono ?_; rintro e w' ⟨rfl, z, rfl⟩; rw [h]); try dsimp only) | go_values | go_skip | go_guarded | go_step | go_upon | go_back)
        exact bodyPost_ret (v := .tuple #[.agg #[.int .i64 x.kind, .int .i64 x.score, .int .i64 x.quality, .int .i64 x.depth, .int .i64 x.hour], .bool true]) (by simp [results, Tryd.results73, go_sem, sl, s0, s1, s2, s3, s4]) rfl ⟨by rw [hv.out.1, hv.out.2], (by repeat (first | with_reducible exact T3 | with_reducible refine Ext.lift ?_ _ | with_reducible refine Ext.alloc ?_ _ | with_reducible refine Ext.setCell ?_ (by first | (simp; done) | (simp; omega) | omega) _ | with_reducible refine ext_setCells (by first | (simp; done) | (simp; omega) | omega) _ _ _ ?_))⟩
set_option maxRecDepth 100000 in
set_option maxHeartbeats 4000000 in
theorem specReadTest_any (s : ByteArray) (w : World) (hs : s.size ≤ 1048576) :
    Gives Tryd.prog 37 #[.string s] w (.tuple #[.agg #[.int .i64 (resTest s).kind, .int .i64 (resTest s).score, .int .i64 (resTest s).quality, .int .i64 (resTest s).depth, .int .i64 (resTest s).hour], .bool (okTest s)]) := by
  unfold Gives
  go_enter Tryd.func37, Tryd.ntmps37
  go_wp2_with (go_at_call 73; refine (l08Read_any s _ hs).mono ?_; rintro e w' ⟨rfl, y, rfl⟩)
  exact bodyPost_ret (v := .tuple #[.agg #[.int .i64 (resTest s).kind, .int .i64 (resTest s).score, .int .i64 (resTest s).quality, .int .i64 (resTest s).depth, .int .i64 (resTest s).hour], .bool (okTest s)]) (by simp [results, Tryd.results37, go_sem]) rfl ⟨rfl, (by repeat (first | with_reducible exact Ext.refl _ | with_reducible refine Ext.lift ?_ _ | with_reducible refine Ext.alloc ?_ _ | with_reducible refine Ext.setCell ?_ (by first | (simp; done) | (simp; omega) | omega) _ | with_reducible refine ext_setCells (by first | (simp; done) | (simp; omega) | omega) _ _ _ ?_))⟩
end Go.Proofs.YtanafhppifhfmaaDoor
