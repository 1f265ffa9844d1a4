/- A test read back: what the program's and the reference's functions hand back. -/
import Derived.Test.YtanafhppifhfmaaDoorRWith
import Derived.Test.YtanafhppifhfmaaDoorTestText
import Derived.Test.YtanafhppifhfmaaDoorSrch
namespace Go.Proofs.YtanafhppifhfmaaDoor
open Go.RowKit
/-- The last kind below k with a name. -/
def kindTo (id : ByteArray) : Nat → Int
  | 0 => 0
  | k + 1 => if sEq (kindS k) id = true then (k : Int) else kindTo id k
def kindOf (id : ByteArray) : Int := kindTo id 4
theorem kindTo_0 (id : ByteArray) : kindTo id 1 = 0 := by
  show (if sEq (kindS 0) id = true then ((0 : Nat) : Int) else 0) = 0
  split <;> rfl
theorem kindTo_yes {id : ByteArray} {k : Nat} (h : sEq (kindS k) id = true) : kindTo id (k + 1) = k := if_pos h
theorem kindTo_no {id : ByteArray} {k : Nat} (h : sEq (kindS k) id = false) : kindTo id (k + 1) = kindTo id k := if_neg (by rw [h]; decide)
theorem kindTo_name (id : ByteArray) : ∀ k, 1 ≤ kindTo id k → kindS (kindTo id k) = id
  | 0, h => absurd (show (1 : Int) ≤ 0 from h) (by decide)
  | k + 1, h => by
    cases h1 : sEq (kindS k) id
    · rw [kindTo_no h1] at h ⊢; exact kindTo_name id k h
    · rw [kindTo_yes h1]; exact sEq_iff.1 h1
theorem kindS_no32 (k : Int) : (32 : UInt8) ∉ (kindS k).data.toList := by
  unfold kindS; split
  · decide
  · split
    · decide
    · split <;> decide
def testOf (id : ByteArray) (L : List Int) : Test := ⟨kindOf id, nth L 0, nth L 1, nth L 2, nth L 3⟩
def readTest (s : ByteArray) : Option Test := readG testOf testB 4 s
def resTest (s : ByteArray) : Test := (readTest s).getD ⟨0, 0, 0, 0, 0⟩
def okTest (s : ByteArray) : Bool := (readTest s).isSome
theorem readTest_some {s : ByteArray} {x : Test} (h : readTest s = some x) : resTest s = x ∧ okTest s = true := by unfold resTest okTest; rw [h]; exact ⟨rfl, rfl⟩
theorem readTest_none {s : ByteArray} (h : readTest s = none) : resTest s = ⟨0, 0, 0, 0, 0⟩ ∧ okTest s = false := by unfold resTest okTest; rw [h]; exact ⟨rfl, rfl⟩
theorem testOf_name {id : ByteArray} {L : List Int} (h : testB (testOf id L) = true) : kindS (kindOf id) = id := kindTo_name id 4 (testB_bd h).2.2.2.1.1
theorem readTest_yes {s : ByteArray} (h : numsOk (restB s) 4 = true) : readTest s = if testS (testOf (headB s) (listV (restB s))) = s then some (testOf (headB s) (listV (restB s))) else none :=
  readG_yes h (fun id L hv => by rw [← testOf_name hv]; exact kindS_no32 _)
    (fun id L hl hv => by
      unfold testS; rw [if_pos hv]
      show withS (kindS (kindOf id)) [nth L 0, nth L 1, nth L 2, nth L 3] = withS id L
      rw [← list4 hl, testOf_name hv])
    (fun x hx => by unfold testS; rw [if_neg (by rw [hx]; decide)])
/-- The cells of a test whose kind is not told yet. -/
def tcell (kd : Int) (x : Test) : Nat → Value
  | 0 => .int .i64 kd
  | 1 => .int .i64 x.score
  | 2 => .int .i64 x.quality
  | 3 => .int .i64 x.depth
  | _ => .int .i64 x.hour
theorem chg_block {w w' : World} {G b T n : Nat} (h : Chg (some ⟨G, 0, none⟩) w w') (hB : Blk w b T n) (hne : b ≠ G) : Blk w' b T n := by
  have hl := hB.lt
  obtain ⟨cs, h1, e⟩ := hB
  exact ⟨cs, by rw [h.block b hl (fun g o s e => by simp only [Option.some.injEq, Addr.mk.injEq] at e; omega)]; exact h1, e⟩
set_option maxRecDepth 100000 in
set_option maxHeartbeats 8000000 in
theorem implReadTest_any (s : ByteArray) (w : World) (hs : s.size ≤ 1048576) (ht : RTab w) :
    Gives Tryd.prog 38 #[.string s] w (.tuple #[.agg #[.int .i64 (resTest s).kind, .int .i64 (resTest s).score, .int .i64 (resTest s).quality, .int .i64 (resTest s).depth, .int .i64 (resTest s).hour], .bool (okTest s)]) := by
  unfold Gives
  have HT := Lib.hid ht
  have HR := Lib.hid fun (W : World) (he : Ext w W) => readWithId_4 s W hs (HT.out.ext he)
  have hlen := Lib.hid (numsL_len (restB s) 4)
  have hno : Hid (numsOk (restB s) 4 = false → resTest s = ⟨0, 0, 0, 0, 0⟩ ∧ okTest s = false) := fun h => readTest_none (readG_no h)
  obtain ⟨x, hx⟩ : ∃ x, x = testOf (withId s 4) (numsL (restB s) 4) := ⟨_, rfl⟩
  have hyes : Hid (numsOk (restB s) 4 = true → readTest s = if testS x = s then some x else none) := fun h => by
    rw [hx, numsL_yes h, withId_yes h]; exact readTest_yes h
  have HX := Lib.hid fun (W : World) (he : Ext w W) => implTestText x W (HT.out.tab.ext he)
  have n0 := Lib.hid (show nth (numsL (restB s) 4) 0 = x.score by rw [hx]; rfl)
  have n1 := Lib.hid (show nth (numsL (restB s) 4) 1 = x.quality by rw [hx]; rfl)
  have n2 := Lib.hid (show nth (numsL (restB s) 4) 2 = x.depth by rw [hx]; rfl)
  have n3 := Lib.hid (show nth (numsL (restB s) 4) 3 = x.hour by rw [hx]; rfl)
  obtain ⟨ID, hID⟩ : ∃ ID, ID = withId s 4 := ⟨_, rfl⟩
  have hkd : Hid (kindTo ID 4 = x.kind) := by show _ = _; rw [hx, hID]; rfl
  rw [← hID] at HR
  clear hx ht hID
  go_enter Tryd.func38, Tryd.ntmps38
  go_wp2_with fail
  refine (HR.out _ (by repeat (first | exact Ext.refl _ | refine Ext.lift ?_ _ | refine Ext.alloc ?_ _))).mono ?_
  rintro e W2 ⟨a2, cap2, rfl, R2, y2, rfl⟩
  have R3 := Lib.hid R2
  clear R2 HR
  have hl : 3 < (numsL (restB s) 4).length := by rw [hlen.out]; decide
  obtain ⟨b2, off2, rfl⟩ := R3.out.base hl
  obtain ⟨hb2, d0⟩ := IntAt.at R3.out 0 (by omega)
  rw [n0.out] at d0
  obtain ⟨hb2, d1⟩ := IntAt.at R3.out 1 (by omega)
  rw [n1.out] at d1
  obtain ⟨hb2, d2⟩ := IntAt.at R3.out 2 (by omega)
  rw [n2.out] at d2
  obtain ⟨hb2, d3⟩ := IntAt.at R3.out 3 (by omega)
  rw [n3.out] at d3
  rw [Nat.add_zero] at d0
  simp at hb2
  clear hl
  go_wp2_with fail
  refine Grow.region_tail 14 [0, 1, 2, 3, 4, 5, 6, 7, 8, 9, 10, 11, 12] [(false, 13)] (by kernel_rfl) (by kernel_rfl) ?_
  simp only [Grow.pick, Grow.pickB, List.getElem?_cons_succ, List.getElem?_cons_zero, List.drop_succ_cons, List.drop_zero]
  repeat
    refine Grow.heads_step (fun K' hK => ⟨rfl, ?_⟩)
    apply Exists.intro
    apply And.intro
    · intro w' hw'
      obtain ⟨x', rfl⟩ := hw'
      go_simp
      first | done | rfl | (rw [if_neg (by omega)]; done) | (rw [if_neg (by omega)]; rfl)
    go_simp
    refine hK _ ?_
    clear hK K'
  refine Grow.heads_nil ?_
  intro w5 e5
  obtain ⟨y5, rfl⟩ := e5
  refine Grow.seq_step (fun K' hK => ⟨rfl, ?_⟩)
  go_simp
  try rw [if_neg (by omega)]
  simp only [Grow.upon]
  refine ⟨(Ext.refl _).alloc _, fun w6 e6 => hK _ _ ?_⟩
  clear hK K'
  obtain ⟨y6, rfl⟩ := e6
  refine Grow.seq_nil ?_
  clear d0 d1 d2 d3 hb2 R3 n0 n1 n2 n3 hlen
  obtain ⟨W6, hW6⟩ : ∃ W6, W6 = lift ((lift (lift (w.alloc (.cells #[.int .i64 0, .int .i64 0, .int .i64 0, .int .i64 0, .int .i64 0] 64)) y2) y5).alloc (.cells #[.int .i64 0, .int .i64 0, .int .i64 0, .int .i64 0, .int .i64 0] 64)) y6 := ⟨_, rfl⟩
  have T6 : Ext w W6 := by rw [hW6]; exact (by repeat (first | with_reducible exact Ext.refl _ | with_reducible refine Ext.lift ?_ _ | with_reducible refine Ext.alloc ?_ _ | with_reducible refine Ext.setCell ?_ (by first | (simp; done) | (simp; omega) | omega) _ | with_reducible refine ext_setCells (by first | (simp; done) | (simp; omega) | omega) _ _ _ ?_))
  have P6 : Ext (lift (lift (w.alloc (.cells #[.int .i64 0, .int .i64 0, .int .i64 0, .int .i64 0, .int .i64 0] 64)) y2) y5) W6 := by rw [hW6]; exact ((Ext.refl _).alloc _).lift _
  have qB : Blk W6 (w.heap.size + 1 + y2.blocks.size + y5.blocks.size) 64 5 := by
    have h9 := (Blk.new (lift (lift (w.alloc (.cells #[.int .i64 0, .int .i64 0, .int .i64 0, .int .i64 0, .int .i64 0] 64)) y2) y5) #[.int .i64 0, .int .i64 0, .int .i64 0, .int .i64 0, .int .i64 0] 64).ext ((Ext.refl _).lift y6)
    rw [← hW6] at h9
    simpa using h9
  have rB : Blk W6 w.heap.size 64 5 := by
    have h9 := (Blk.new w #[.int .i64 0, .int .i64 0, .int .i64 0, .int .i64 0, .int .i64 0] 64).ext (w' := W6) (by rw [hW6]; exact (by repeat (first | with_reducible exact Ext.refl _ | with_reducible refine Ext.lift ?_ _ | with_reducible refine Ext.alloc ?_ _ | with_reducible refine Ext.setCell ?_ (by first | (simp; done) | (simp; omega) | omega) _ | with_reducible refine ext_setCells (by first | (simp; done) | (simp; omega) | omega) _ _ _ ?_)))
    exact h9
  have q0 : W6.cell? ⟨w.heap.size + 1 + y2.blocks.size + y5.blocks.size, 0, none⟩ = some (.int .i64 0) := by rw [hW6]; go_simp
  have q1 : W6.cell? ⟨w.heap.size + 1 + y2.blocks.size + y5.blocks.size, 1, none⟩ = some (.int .i64 0) := by rw [hW6]; go_simp
  have q2 : W6.cell? ⟨w.heap.size + 1 + y2.blocks.size + y5.blocks.size, 2, none⟩ = some (.int .i64 0) := by rw [hW6]; go_simp
  have q3 : W6.cell? ⟨w.heap.size + 1 + y2.blocks.size + y5.blocks.size, 3, none⟩ = some (.int .i64 0) := by rw [hW6]; go_simp
  have q4 : W6.cell? ⟨w.heap.size + 1 + y2.blocks.size + y5.blocks.size, 4, none⟩ = some (.int .i64 0) := by rw [hW6]; go_simp
  have r0 : W6.cell? ⟨w.heap.size, 0, none⟩ = some (.int .i64 0) := by rw [hW6]; go_simp
  have r1 : W6.cell? ⟨w.heap.size, 1, none⟩ = some (.int .i64 0) := by rw [hW6]; go_simp
  have r2 : W6.cell? ⟨w.heap.size, 2, none⟩ = some (.int .i64 0) := by rw [hW6]; go_simp
  have r3 : W6.cell? ⟨w.heap.size, 3, none⟩ = some (.int .i64 0) := by rw [hW6]; go_simp
  have r4 : W6.cell? ⟨w.heap.size, 4, none⟩ = some (.int .i64 0) := by rw [hW6]; go_simp
  have qf : ∀ j, W6.frozen? ⟨w.heap.size + 1 + y2.blocks.size + y5.blocks.size, j, none⟩ = false := fun j => qB.frozen j
  have ql := qB.lt
  rw [← hW6]
  obtain ⟨G, hG⟩ : ∃ G, G = w.heap.size + 1 + y2.blocks.size + y5.blocks.size := ⟨_, rfl⟩
  rw [← hG] at qB q0 q1 q2 q3 q4 qf ql ⊢
  have gw : w.heap.size < G := by omega
  have gh : Hid (Chg (some ⟨G, 0, none⟩) W6 W6) := Chg.refl _ _
  clear hW6 hG
  go_wp2_with fail
  go_loopw [8] (fun i wr => ∃ k : Nat, 1 ≤ k ∧ k ≤ 4 ∧ i = .int .i64 k ∧ Hid (Objt wr G 64 5 (tcell (kindTo ID k) x)) ∧ Hid (Chg (some ⟨G, 0, none⟩) W6 wr)) (fun i _ => 4 - (intOf i).toNat)
  case atStart => exact ⟨1, Nat.le_refl _, by decide, rfl, ⟨by repeat (first | exact qB | refine Blk.set ?_ _ _ _), fun j hj => by
                                                             rcases (show j = 0 ∨ j = 1 ∨ j = 2 ∨ j = 3 ∨ j = 4 by omega) with rfl | rfl | rfl | rfl | rfl
                                                             all_goals (first | (show World.cell? _ _ = some (.int .i64 _); go_simp; done) | (rw [kindTo_0]; show World.cell? _ _ = some (.int .i64 _); go_simp; done))⟩, by repeat (first | exact gh.out | refine Chg.setc ?_ _ _)⟩
  case round =>
    obtain ⟨k, h1, h4, rfl, HOb, HCh⟩ := hrel
    by_cases hlt : k ≤ 3
    · cases hq : sEq (kindS (k : Int)) ID
      · have hk2 := Lib.hid (kindTo_no hq)
        go_wp2_with (go_at_call 74; refine (TestName_any _ _).mono ?_; rintro e w' ⟨rfl, y, rfl⟩)
        go_roundw
        case rel => exact ⟨k + 1, by omega, by omega, by go_num, by rw [hk2.out]; exact HOb.out.ext ((Ext.refl _).lift _), HCh.out.lift _⟩
        case measure => simp [intOf]; omega
      · have hk2 := Lib.hid (kindTo_yes hq)
        have ol := HOb.out.blk.lt
        have o0 := HOb.out.cell 0 (by decide)
        have of := HOb.out.blk.frozen 0
        simp only [tcell] at o0
        go_wp2_with (go_at_call 74; refine (TestName_any _ _).mono ?_; rintro e w' ⟨rfl, y, rfl⟩)
        go_roundw
        case rel => exact ⟨k + 1, by omega, by omega, by go_num, by rw [hk2.out]; exact (HOb.out.ext ((Ext.refl _).lift _)).set 0 _ (by decide) rfl (fun j hj hne => by rcases (show j = 0 ∨ j = 1 ∨ j = 2 ∨ j = 3 ∨ j = 4 by omega) with rfl | rfl | rfl | rfl | rfl <;> first | rfl | exact absurd rfl hne), (HCh.out.lift _).setc _ _⟩
        case measure => simp [intOf]; omega
    · obtain rfl : k = 4 := by omega
      have T3 : Ext w wr := T6.chg HCh.out (fun g o s e => by simp only [Option.some.injEq, Addr.mk.injEq] at e; omega)
      have ol := HOb.out.blk.lt
      have o0 := HOb.out.cell 0 (by decide)
      have o1 := HOb.out.cell 1 (by decide)
      have o2 := HOb.out.cell 2 (by decide)
      have o3 := HOb.out.cell 3 (by decide)
      have o4 := HOb.out.cell 4 (by decide)
      rw [hkd.out] at o0
      simp only [tcell] at o0 o1 o2 o3 o4
      have hne : ∀ g o s, (some ⟨G, 0, none⟩ : Option Addr) = some ⟨g, o, s⟩ → w.heap.size ≠ g := fun g o s e => by simp only [Option.some.injEq, Addr.mk.injEq] at e; omega
      have s0 := HCh.out.cell hne r0
      have s1 := HCh.out.cell hne r1
      have s2 := HCh.out.cell hne r2
      have s3 := HCh.out.cell hne r3
      have s4 := HCh.out.cell hne r4
      have sB := chg_block HCh.out rB (by omega)
      have sf : ∀ j, wr.frozen? ⟨w.heap.size, j, none⟩ = false := fun j => sB.frozen j
      have sl := sB.lt
      clear hne sB HOb HCh qB rB q0 q1 q2 q3 q4 r0 r1 r2 r3 r4 qf ql gh T6 P6
      cases h : numsOk (restB s) 4
      · have hv := Lib.hid (hno.out h)
        clear h
        go_wp2_with fail
        exact bodyPost_ret (v := .tuple #[.agg #[.int .i64 0, .int .i64 0, .int .i64 0, .int .i64 0, .int .i64 0], .bool false]) (by simp [results, Tryd.results38, go_sem, sl, s0, s1, s2, s3, s4]) rfl ⟨by rw [hv.out.1, hv.out.2], (by repeat (first | with_reducible exact T3 | with_reducible refine Ext.lift ?_ _ | with_reducible refine Ext.alloc ?_ _ | with_reducible refine Ext.setCell ?_ (by first | (simp; done) | (simp; omega) | omega) _ | with_reducible refine ext_setCells (by first | (simp; done) | (simp; omega) | omega) _ _ _ ?_))⟩
      · cases h2 : sEq (testS x) s
        · have hv := Lib.hid (readTest_none (s := s) (by rw [hyes.out h, if_neg (sEq_not.1 h2)]))
          clear h
          generalize testS x = tx at *
          repeat (first | ((go_at_call 75; refine (HX.out _ (by repeat (first | with_reducible exact T3 | with_reducible refine Ext.lift ?_ _ | with_reducible refine Ext.alloc ?_ _ | with_reducible refine Ext.setCell ?_ (by first | (simp; done) | (simp; omega) | omega) _ | with_reducible refine ext_setCells (by first | (simp; done) | (simp; omega) | omega) _ _ _ ?_))).mono ?_; rintro e w' ⟨rfl, z, rfl⟩); try dsimp only) | go_values | go_skip | go_guarded | go_step | go_upon | go_back)
          exact bodyPost_ret (v := .tuple #[.agg #[.int .i64 0, .int .i64 0, .int .i64 0, .int .i64 0, .int .i64 0], .bool false]) (by simp [results, Tryd.results38, go_sem, sl, s0, s1, s2, s3, s4]) rfl ⟨by rw [hv.out.1, hv.out.2], (by repeat (first | with_reducible exact T3 | with_reducible refine Ext.lift ?_ _ | with_reducible refine Ext.alloc ?_ _ | with_reducible refine Ext.setCell ?_ (by first | (simp; done) | (simp; omega) | omega) _ | with_reducible refine ext_setCells (by first | (simp; done) | (simp; omega) | omega) _ _ _ ?_))⟩
        · have hv := Lib.hid (readTest_some (s := s) (x := x) (by rw [hyes.out h, if_pos (sEq_iff.1 h2)]))
          clear h
          generalize testS x = tx at *
          repeat (first | ((go_at_call 75; refine (HX.out _ (by repeat (first | with_reducible exact T3 | with_reducible refine Ext.lift ?_ _ | with_reducible refine Ext.alloc ?_ _ | with_reducible refine Ext.setCell ?_ (by first | (simp; done) | (simp; omega) | omega) _ | with_reducible refine ext_setCells (by first | (simp; done) | (simp; omega) | omega) _ _ _ ?_))).mono ?_; rintro e w' ⟨rfl, z, rfl⟩); try dsimp only) | go_values | go_skip | go_guarded | go_step | go_upon | go_back)
          exact bodyPost_ret (v := .tuple #[.agg #[.int .i64 x.kind, .int .i64 x.score, .int .i64 x.quality, .int .i64 x.depth, .int .i64 x.hour], .bool true]) (by simp [results, Tryd.results38, go_sem, sl, s0, s1, s2, s3, s4]) rfl ⟨by rw [hv.out.1, hv.out.2], (by repeat (first | with_reducible exact T3 | with_reducible refine Ext.lift ?_ _ | with_reducible refine Ext.alloc ?_ _ | with_reducible refine Ext.setCell ?_ (by first | (simp; done) | (simp; omega) | omega) _ | with_reducible refine ext_setCells (by first | (simp; done) | (simp; omega) | omega) _ _ _ ?_))⟩
end Go.Proofs.YtanafhppifhfmaaDoor
