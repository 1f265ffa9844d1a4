/- Chapter 25: what teams are worth, by the program and by the reference. -/
import Derived.Test.YtccbcjopmkmipaaTeamsP
import Derived.Test.YtccbcjopmkmipaaLsS
namespace Go.Proofs.Ytccbcjopmkmipaa
open Go.RowKit
/-- The areas are valid ones, and each has one of four teams. -/
structure TeamsOk (l : List Area) (ts : List Int) : Prop where
  area : ∀ k, k < l.length → areaB (nth l k) = true
  team : ∀ k, k < ts.length → 0 ≤ nth ts k ∧ nth ts k < 4
  len : ts.length = l.length
theorem TeamsOk.tE_bd {l : List Area} {ts : List Int} (h : TeamsOk l ts) (t : Int) : ∀ {k : Nat}, k ≤ ts.length → 0 ≤ tE l ts t k ∧ tE l ts t k ≤ 600 * k
  | 0, _ => by simp [tE]
  | k + 1, hk => by
    have ih := h.tE_bd t (k := k) (by omega)
    have := areaB_parts (h.area k (by have := h.len; omega))
    by_cases h1 : nth ts k = t
    · rw [tE_y h1]; omega
    · rw [tE_n h1]; omega
theorem TeamsOk.term_bd {l : List Area} {ts : List Int} (h : TeamsOk l ts) {s : Int} (hs : 0 ≤ s) {k : Nat} (hk : k < ts.length) (t : Int) : 0 ≤ (nth l k).chance * surv (s + tE l ts t (k + 1)) ∧ (nth l k).chance * surv (s + tE l ts t (k + 1)) ≤ 1000000 := by
  have h1 := areaB_parts (h.area k (by have := h.len; omega))
  have h2 := surv_bd (m := s + tE l ts t (k + 1)) (by have := h.tE_bd t (k := k + 1) (by omega); omega)
  have := mul_bd h1.2.1 h1.2.2.1 h2.1 h2.2
  omega
theorem TeamsOk.tW_bd {l : List Area} {ts : List Int} (h : TeamsOk l ts) {s : Int} (hs : 0 ≤ s) : ∀ {k : Nat}, k ≤ ts.length → 0 ≤ tW l ts s k ∧ tW l ts s k ≤ 1000000 * k
  | 0, _ => by simp [tW]
  | k + 1, hk => by
    have := h.tW_bd hs (k := k) (by omega)
    have := h.term_bd hs (k := k) (by omega) (nth ts k)
    show 0 ≤ tW l ts s k + _ ∧ tW l ts s k + _ ≤ _
    omega
def ecell (l : List Area) (ts : List Int) (k : Nat) (j : Nat) : Value := .int .i64 (tE l ts (j : Int) k)
set_option maxRecDepth 100000 in
set_option maxHeartbeats 8000000 in
theorem teamsWorth_any (a : Option Addr) (cap : Nat) (l : List Area) (a2 : Option Addr) (cap2 : Nat) (ts : List Int) (s : Int) (w : World) (H : AreaAt w a l) (H2 : IntAt w a2 ts) (hok : TeamsOk l ts)
    (hs : 0 ≤ s) (hs2 : s ≤ 1000) (hl8 : l.length ≤ 8) :
    Gives Try.prog 18 #[.slice a l.length cap, .slice a2 ts.length cap2, .int .i64 s] w (.int .i64 (tW l ts s ts.length)) := by
  unfold Gives
  have HO := Lib.hid hok
  have hlen := hok.len
  have hl9 : ts.length ≤ 8 := by omega
  have hlh := Lib.hid hlen
  have HH := Lib.hid H
  clear hok hlen
  go_enter Try.func18, Try.ntmps18
  go_wp2_with fail
  go_loopw [8, 13] (fun wo i wr => ∃ k : Nat, k ≤ ts.length ∧ i = .int .i64 k ∧ wo = .int .i64 (tW l ts s k) ∧ Hid (Objt wr w.heap.size 53 4 (ecell l ts k)) ∧ Ext w wr) (fun _ i _ => ts.length - (intOf i).toNat)
  case atStart => exact ⟨0, Nat.zero_le _, rfl, rfl, Objt.new w #[.int .i64 0, .int .i64 0, .int .i64 0, .int .i64 0] _ (fun j hj => by
    have hj8 : j < 4 := hj
    rcases (show j = 0 ∨ j = 1 ∨ j = 2 ∨ j = 3 by omega) with rfl | rfl | rfl | rfl <;> rfl), (Ext.refl w).alloc _⟩
  case round =>
    obtain ⟨k, hk, rfl, rfl, OB, he⟩ := hrel
    obtain ⟨v0, v1⟩ := HO.out.tW_bd hs (k := k) hk
    by_cases hlt : k < ts.length
    · have hml : k < l.length := by have := hlh.out; omega
      obtain ⟨b2, off2, rfl⟩ := H2.base hlt
      obtain ⟨hb2, d0⟩ := IntAt.at (H2.ext he) k hlt
      obtain ⟨i0, i1⟩ := HO.out.team k hlt
      obtain ⟨b, off, rfl⟩ := H.base hml
      obtain ⟨hb, c0, c1, c2⟩ := Area.at (H.ext he) k hml
      obtain ⟨-, -, -, m0, m1⟩ := areaB_parts (HO.out.area k hml)
      have og := OB.out.blk.lt
      have o0 : wr.cell? ⟨w.heap.size, 0, none⟩ = some (.int .i64 (tE l ts 0 k)) := OB.out.cell 0 (by decide)
      have o1 : wr.cell? ⟨w.heap.size, 1, none⟩ = some (.int .i64 (tE l ts 1 k)) := OB.out.cell 1 (by decide)
      have o2 : wr.cell? ⟨w.heap.size, 2, none⟩ = some (.int .i64 (tE l ts 2 k)) := OB.out.cell 2 (by decide)
      have o3 : wr.cell? ⟨w.heap.size, 3, none⟩ = some (.int .i64 (tE l ts 3 k)) := OB.out.cell 3 (by decide)
      clear H H2
      rcases (show nth ts k = 0 ∨ nth ts k = 1 ∨ nth ts k = 2 ∨ nth ts k = 3 by omega) with hm0 | hm0 | hm0 | hm0
      · clear i0 i1
        have hm : nth ts k = 0 := by omega
        rw [hm] at d0
        have hE : Hid (tE l ts 0 (k + 1) = tE l ts 0 k + (nth l k).minutes) := tE_y hm
        have hW : Hid (tW l ts s (k + 1) = tW l ts s k + (nth l k).chance * surv (s + (tE l ts 0 k + (nth l k).minutes))) := by show _ = _; rw [← hE.out]; show tW l ts s k + _ * surv (s + tE l ts (nth ts k) (k + 1)) = _; rw [hm]
        have t9 := HO.out.term_bd hs hlt 0
        rw [hE.out] at t9
        obtain ⟨t0, t1⟩ := t9
        obtain ⟨e0, e1⟩ := HO.out.tE_bd 0 (k := k) hk
        have hOth : ∀ j : Nat, (j : Int) ≠ 0 → ecell l ts (k + 1) j = ecell l ts k j := fun j hj => by unfold ecell; rw [tE_n (by rw [hm]; omega)]
        have hOh := Lib.hid hOth
        clear hOth hm
        go_wp2_with fail
        refine Grow.region_tail 10 [0, 1, 2, 3, 4, 5, 6, 7, 8, 9] [] (by kernel_rfl) (by kernel_rfl) ?_
        simp only [Grow.pick, Grow.pickB, List.getElem?_cons_succ, List.getElem?_cons_zero, List.drop_succ_cons, List.drop_zero]
        repeat
          refine Grow.heads_step (fun K' hK => ⟨rfl, ?_⟩)
          apply Exists.intro
          apply And.intro
          · intro w' hw'
            obtain ⟨x', rfl⟩ := hw'
            go_simp
            first | done | rfl | (rw [if_neg (by omega)]; done) | (rw [if_neg (by omega)]; rfl) | (rw [if_pos (by omega)]; done) | (rw [if_pos (by omega)]; rfl)
          go_simp
          refine hK _ ?_
          clear hK K'
        refine Grow.heads_nil ?_
        intro w5 e5
        refine Grow.seq_nil ?_
        have OB1 : Hid (Objt (w5.setCell ⟨w.heap.size, 0, none⟩ (.int .i64 (tE l ts 0 k + (nth l k).minutes))) w.heap.size 53 4 (ecell l ts (k + 1))) := (OB.out.ext e5).set 0 _ (by decide) (by unfold ecell; exact congrArg _ hE.out) (fun j _ hj => hOh.out j (by omega))
        have T2 : Hid (Ext w (w5.setCell ⟨w.heap.size, 0, none⟩ (.int .i64 (tE l ts 0 k + (nth l k).minutes)))) := (he.trans e5).setCell (p := ⟨w.heap.size, 0, none⟩) (Nat.le_refl _) _
        have g5 := (OB.out.ext e5).blk.lt
        have f5 := (OB.out.ext e5).blk.frozen 0
        have q5 := (OB.out.ext e5).cell 0 (by decide)
        clear c0 c1 c2 hb o0 o1 o2 o3 og
        repeat (first | go_values | go_skip | go_guarded | go_step | go_upon | go_back)
        generalize w5.setCell ⟨w.heap.size, 0, none⟩ (.int .i64 (tE l ts 0 k + (nth l k).minutes)) = W6 at *
        obtain ⟨hb, c0, c1, c2⟩ := Area.at (HH.out.ext T2.out) k hml
        have og := OB1.out.blk.lt
        have o5 := OB1.out.cell 0 (by decide)
        rw [show ecell l ts (k + 1) 0 = .int .i64 (tE l ts 0 k + (nth l k).minutes) by unfold ecell; exact congrArg _ hE.out] at o5
        clear g5 f5 q5 d0 hb2 OB e5 he
        refine region_quiet (by kernel_rfl) (by kernel_rfl) ?_
        repeat (any_goals (first | go_big_quiet_step ((exact Gives.quiet (survivalAt_any _ _ (by omega) (by omega)))) | quiet_step ((exact Gives.quiet (survivalAt_any _ _ (by omega) (by omega))))))
        refine wpQuiet_nil ?_
        intro _ hw'
        obtain ⟨y, hw''⟩ := hw'
        subst hw''
        go_wp2
        go_roundw
        case rel => exact ⟨k + 1, by omega, by go_num, by rw [hW.out], OB1.out.ext ((Ext.refl _).lift y), T2.out.lift y⟩
        case measure => simp [intOf]; omega
      · clear i0 i1
        have hm : nth ts k = 1 := by omega
        rw [hm] at d0
        have hE : Hid (tE l ts 1 (k + 1) = tE l ts 1 k + (nth l k).minutes) := tE_y hm
        have hW : Hid (tW l ts s (k + 1) = tW l ts s k + (nth l k).chance * surv (s + (tE l ts 1 k + (nth l k).minutes))) := by show _ = _; rw [← hE.out]; show tW l ts s k + _ * surv (s + tE l ts (nth ts k) (k + 1)) = _; rw [hm]
        have t9 := HO.out.term_bd hs hlt 1
        rw [hE.out] at t9
        obtain ⟨t0, t1⟩ := t9
        obtain ⟨e0, e1⟩ := HO.out.tE_bd 1 (k := k) hk
        have hOth : ∀ j : Nat, (j : Int) ≠ 1 → ecell l ts (k + 1) j = ecell l ts k j := fun j hj => by unfold ecell; rw [tE_n (by rw [hm]; omega)]
        have hOh := Lib.hid hOth
        clear hOth hm
        go_wp2_with fail
        refine Grow.region_tail 10 [0, 1, 2, 3, 4, 5, 6, 7, 8, 9] [] (by kernel_rfl) (by kernel_rfl) ?_
        simp only [Grow.pick, Grow.pickB, List.getElem?_cons_succ, List.getElem?_cons_zero, List.drop_succ_cons, List.drop_zero]
        repeat
          refine Grow.heads_step (fun K' hK => ⟨rfl, ?_⟩)
          apply Exists.intro
          apply And.intro
          · intro w' hw'
            obtain ⟨x', rfl⟩ := hw'
            go_simp
            first | done | rfl | (rw [if_neg (by omega)]; done) | (rw [if_neg (by omega)]; rfl) | (rw [if_pos (by omega)]; done) | (rw [if_pos (by omega)]; rfl)
          go_simp
          refine hK _ ?_
          clear hK K'
        refine Grow.heads_nil ?_
        intro w5 e5
        refine Grow.seq_nil ?_
        have OB1 : Hid (Objt (w5.setCell ⟨w.heap.size, 1, none⟩ (.int .i64 (tE l ts 1 k + (nth l k).minutes))) w.heap.size 53 4 (ecell l ts (k + 1))) := (OB.out.ext e5).set 1 _ (by decide) (by unfold ecell; exact congrArg _ hE.out) (fun j _ hj => hOh.out j (by omega))
        have T2 : Hid (Ext w (w5.setCell ⟨w.heap.size, 1, none⟩ (.int .i64 (tE l ts 1 k + (nth l k).minutes)))) := (he.trans e5).setCell (p := ⟨w.heap.size, 1, none⟩) (Nat.le_refl _) _
        have g5 := (OB.out.ext e5).blk.lt
        have f5 := (OB.out.ext e5).blk.frozen 1
        have q5 := (OB.out.ext e5).cell 1 (by decide)
        clear c0 c1 c2 hb o0 o1 o2 o3 og
        repeat (first | go_values | go_skip | go_guarded | go_step | go_upon | go_back)
        generalize w5.setCell ⟨w.heap.size, 1, none⟩ (.int .i64 (tE l ts 1 k + (nth l k).minutes)) = W6 at *
        obtain ⟨hb, c0, c1, c2⟩ := Area.at (HH.out.ext T2.out) k hml
        have og := OB1.out.blk.lt
        have o5 := OB1.out.cell 1 (by decide)
        rw [show ecell l ts (k + 1) 1 = .int .i64 (tE l ts 1 k + (nth l k).minutes) by unfold ecell; exact congrArg _ hE.out] at o5
        clear g5 f5 q5 d0 hb2 OB e5 he
        refine region_quiet (by kernel_rfl) (by kernel_rfl) ?_
        repeat (any_goals (first | go_big_quiet_step ((exact Gives.quiet (survivalAt_any _ _ (by omega) (by omega)))) | quiet_step ((exact Gives.quiet (survivalAt_any _ _ (by omega) (by omega))))))
        refine wpQuiet_nil ?_
        intro _ hw'
        obtain ⟨y, hw''⟩ := hw'
        subst hw''
        go_wp2
        go_roundw
        case rel => exact ⟨k + 1, by omega, by go_num, by rw [hW.out], OB1.out.ext ((Ext.refl _).lift y), T2.out.lift y⟩
        case measure => simp [intOf]; omega
      · clear i0 i1
        have hm : nth ts k = 2 := by omega
        rw [hm] at d0
        have hE : Hid (tE l ts 2 (k + 1) = tE l ts 2 k + (nth l k).minutes) := tE_y hm
        have hW : Hid (tW l ts s (k + 1) = tW l ts s k + (nth l k).chance * surv (s + (tE l ts 2 k + (nth l k).minutes))) := by show _ = _; rw [← hE.out]; show tW l ts s k + _ * surv (s + tE l ts (nth ts k) (k + 1)) = _; rw [hm]
        have t9 := HO.out.term_bd hs hlt 2
        rw [hE.out] at t9
        obtain ⟨t0, t1⟩ := t9
        obtain ⟨e0, e1⟩ := HO.out.tE_bd 2 (k := k) hk
        have hOth : ∀ j : Nat, (j : Int) ≠ 2 → ecell l ts (k + 1) j = ecell l ts k j := fun j hj => by unfold ecell; rw [tE_n (by rw [hm]; omega)]
        have hOh := Lib.hid hOth
        clear hOth hm
        go_wp2_with fail
        refine Grow.region_tail 10 [0, 1, 2, 3, 4, 5, 6, 7, 8, 9] [] (by kernel_rfl) (by kernel_rfl) ?_
        simp only [Grow.pick, Grow.pickB, List.getElem?_cons_succ, List.getElem?_cons_zero, List.drop_succ_cons, List.drop_zero]
        repeat
          refine Grow.heads_step (fun K' hK => ⟨rfl, ?_⟩)
          apply Exists.intro
          apply And.intro
          · intro w' hw'
            obtain ⟨x', rfl⟩ := hw'
            go_simp
            first | done | rfl | (rw [if_neg (by omega)]; done) | (rw [if_neg (by omega)]; rfl) | (rw [if_pos (by omega)]; done) | (rw [if_pos (by omega)]; rfl)
          go_simp
          refine hK _ ?_
          clear hK K'
        refine Grow.heads_nil ?_
        intro w5 e5
        refine Grow.seq_nil ?_
        have OB1 : Hid (Objt (w5.setCell ⟨w.heap.size, 2, none⟩ (.int .i64 (tE l ts 2 k + (nth l k).minutes))) w.heap.size 53 4 (ecell l ts (k + 1))) := (OB.out.ext e5).set 2 _ (by decide) (by unfold ecell; exact congrArg _ hE.out) (fun j _ hj => hOh.out j (by omega))
        have T2 : Hid (Ext w (w5.setCell ⟨w.heap.size, 2, none⟩ (.int .i64 (tE l ts 2 k + (nth l k).minutes)))) := (he.trans e5).setCell (p := ⟨w.heap.size, 2, none⟩) (Nat.le_refl _) _
        have g5 := (OB.out.ext e5).blk.lt
        have f5 := (OB.out.ext e5).blk.frozen 2
        have q5 := (OB.out.ext e5).cell 2 (by decide)
        clear c0 c1 c2 hb o0 o1 o2 o3 og
        repeat (first | go_values | go_skip | go_guarded | go_step | go_upon | go_back)
        generalize w5.setCell ⟨w.heap.size, 2, none⟩ (.int .i64 (tE l ts 2 k + (nth l k).minutes)) = W6 at *
        obtain ⟨hb, c0, c1, c2⟩ := Area.at (HH.out.ext T2.out) k hml
        have og := OB1.out.blk.lt
        have o5 := OB1.out.cell 2 (by decide)
        rw [show ecell l ts (k + 1) 2 = .int .i64 (tE l ts 2 k + (nth l k).minutes) by unfold ecell; exact congrArg _ hE.out] at o5
        clear g5 f5 q5 d0 hb2 OB e5 he
        refine region_quiet (by kernel_rfl) (by kernel_rfl) ?_
        repeat (any_goals (first | go_big_quiet_step ((exact Gives.quiet (survivalAt_any _ _ (by omega) (by omega)))) | quiet_step ((exact Gives.quiet (survivalAt_any _ _ (by omega) (by omega))))))
        refine wpQuiet_nil ?_
        intro _ hw'
        obtain ⟨y, hw''⟩ := hw'
        subst hw''
        go_wp2
        go_roundw
        case rel => exact ⟨k + 1, by omega, by go_num, by rw [hW.out], OB1.out.ext ((Ext.refl _).lift y), T2.out.lift y⟩
        case measure => simp [intOf]; omega
      · clear i0 i1
        have hm : nth ts k = 3 := by omega
        rw [hm] at d0
        have hE : Hid (tE l ts 3 (k + 1) = tE l ts 3 k + (nth l k).minutes) := tE_y hm
        have hW : Hid (tW l ts s (k + 1) = tW l ts s k + (nth l k).chance * surv (s + (tE l ts 3 k + (nth l k).minutes))) := by show _ = _; rw [← hE.out]; show tW l ts s k + _ * surv (s + tE l ts (nth ts k) (k + 1)) = _; rw [hm]
        have t9 := HO.out.term_bd hs hlt 3
        rw [hE.out] at t9
        obtain ⟨t0, t1⟩ := t9
        obtain ⟨e0, e1⟩ := HO.out.tE_bd 3 (k := k) hk
        have hOth : ∀ j : Nat, (j : Int) ≠ 3 → ecell l ts (k + 1) j = ecell l ts k j := fun j hj => by unfold ecell; rw [tE_n (by rw [hm]; omega)]
        have hOh := Lib.hid hOth
        clear hOth hm
        go_wp2_with fail
        refine Grow.region_tail 10 [0, 1, 2, 3, 4, 5, 6, 7, 8, 9] [] (by kernel_rfl) (by kernel_rfl) ?_
        simp only [Grow.pick, Grow.pickB, List.getElem?_cons_succ, List.getElem?_cons_zero, List.drop_succ_cons, List.drop_zero]
        repeat
          refine Grow.heads_step (fun K' hK => ⟨rfl, ?_⟩)
          apply Exists.intro
          apply And.intro
          · intro w' hw'
            obtain ⟨x', rfl⟩ := hw'
            go_simp
            first | done | rfl | (rw [if_neg (by omega)]; done) | (rw [if_neg (by omega)]; rfl) | (rw [if_pos (by omega)]; done) | (rw [if_pos (by omega)]; rfl)
          go_simp
          refine hK _ ?_
          clear hK K'
        refine Grow.heads_nil ?_
        intro w5 e5
        refine Grow.seq_nil ?_
        have OB1 : Hid (Objt (w5.setCell ⟨w.heap.size, 3, none⟩ (.int .i64 (tE l ts 3 k + (nth l k).minutes))) w.heap.size 53 4 (ecell l ts (k + 1))) := (OB.out.ext e5).set 3 _ (by decide) (by unfold ecell; exact congrArg _ hE.out) (fun j _ hj => hOh.out j (by omega))
        have T2 : Hid (Ext w (w5.setCell ⟨w.heap.size, 3, none⟩ (.int .i64 (tE l ts 3 k + (nth l k).minutes)))) := (he.trans e5).setCell (p := ⟨w.heap.size, 3, none⟩) (Nat.le_refl _) _
        have g5 := (OB.out.ext e5).blk.lt
        have f5 := (OB.out.ext e5).blk.frozen 3
        have q5 := (OB.out.ext e5).cell 3 (by decide)
        clear c0 c1 c2 hb o0 o1 o2 o3 og
        repeat (first | go_values | go_skip | go_guarded | go_step | go_upon | go_back)
        generalize w5.setCell ⟨w.heap.size, 3, none⟩ (.int .i64 (tE l ts 3 k + (nth l k).minutes)) = W6 at *
        obtain ⟨hb, c0, c1, c2⟩ := Area.at (HH.out.ext T2.out) k hml
        have og := OB1.out.blk.lt
        have o5 := OB1.out.cell 3 (by decide)
        rw [show ecell l ts (k + 1) 3 = .int .i64 (tE l ts 3 k + (nth l k).minutes) by unfold ecell; exact congrArg _ hE.out] at o5
        clear g5 f5 q5 d0 hb2 OB e5 he
        refine region_quiet (by kernel_rfl) (by kernel_rfl) ?_
        repeat (any_goals (first | go_big_quiet_step ((exact Gives.quiet (survivalAt_any _ _ (by omega) (by omega)))) | quiet_step ((exact Gives.quiet (survivalAt_any _ _ (by omega) (by omega))))))
        refine wpQuiet_nil ?_
        intro _ hw'
        obtain ⟨y, hw''⟩ := hw'
        subst hw''
        go_wp2
        go_roundw
        case rel => exact ⟨k + 1, by omega, by go_num, by rw [hW.out], OB1.out.ext ((Ext.refl _).lift y), T2.out.lift y⟩
        case measure => simp [intOf]; omega
    · obtain rfl : k = ts.length := by omega
      clear H H2 hlt
      go_wp2
      go_ret
      exact ⟨rfl, he⟩
/-- The sum of the first teams. -/
def sumT (l : List Area) (ts : List Int) (s : Int) : Nat → Int
  | 0 => 0
  | t + 1 => sumT l ts s t + tWt l ts s t ts.length
theorem sumT_4 {l : List Area} {ts : List Int} {s : Int} (h : TeamsOk l ts) : sumT l ts s 4 = tW l ts s ts.length := by
  rw [← teams_eq (fun i hi => h.team i hi)]
  show 0 + tWt l ts s 0 _ + tWt l ts s 1 _ + tWt l ts s 2 _ + tWt l ts s 3 _ = _
  omega
theorem ordT_len (ts : List Int) (t : Int) : ∀ k, (ordT ts t k).length ≤ k
  | 0 => Nat.le_refl _
  | k + 1 => by
    have := ordT_len ts t k
    by_cases h : nth ts k = t
    · rw [ordT_y h, List.length_append]; simp; omega
    · rw [ordT_n h]; omega
theorem ordT_in (ts : List Int) (t : Int) (n : Nat) : ∀ k, k ≤ n → InMany n (ordT ts t k)
  | 0, _ => InMany.nil n
  | k + 1, hk => by
    by_cases h : nth ts k = t
    · rw [ordT_y h]; exact (ordT_in ts t n k (by omega)).push (by omega)
    · rw [ordT_n h]; exact ordT_in ts t n k (by omega)
theorem TeamsOk.worth {l : List Area} {ts : List Int} (h : TeamsOk l ts) (t : Int) : WorthOk l (ordT ts t ts.length) := ⟨h.area, by
  have := ordT_in ts t l.length ts.length (by have := h.len; omega)
  exact this⟩
theorem TeamsOk.sumT_bd {l : List Area} {ts : List Int} (h : TeamsOk l ts) {s : Int} (hs : 0 ≤ s) (hl8 : ts.length ≤ 8) : ∀ t, 0 ≤ sumT l ts s t ∧ sumT l ts s t ≤ 8000000 * t
  | 0 => by simp [sumT]
  | t + 1 => by
    have ih := h.sumT_bd hs hl8 t
    have := (h.worth t).worth_bd hs (k := (ordT ts t ts.length).length) (Nat.le_refl _)
    have := ordT_len ts t ts.length
    show 0 ≤ sumT l ts s t + tWt l ts s t ts.length ∧ sumT l ts s t + tWt l ts s t ts.length ≤ _
    unfold tWt
    omega
set_option maxRecDepth 100000 in
set_option maxHeartbeats 8000000 in
theorem l25Teams_any (a : Option Addr) (cap : Nat) (l : List Area) (a2 : Option Addr) (cap2 : Nat) (ts : List Int) (s : Int) (w : World) (H : AreaAt w a l) (H2 : IntAt w a2 ts) (hok : TeamsOk l ts)
    (hs : 0 ≤ s) (hs2 : s ≤ 1000) (hl8 : l.length ≤ 8) :
    Gives Try.prog 23 #[.slice a l.length cap, .slice a2 ts.length cap2, .int .i64 s] w (.int .i64 (tW l ts s ts.length)) := by
  unfold Gives
  have HO := Lib.hid hok
  have hl9 : ts.length ≤ 8 := by have := hok.len; omega
  have HH := Lib.hid H
  have hfin := Lib.hid (sumT_4 (s := s) hok)
  clear hok H
  go_enter Try.func23, Try.ntmps23
  go_wp2_with fail
  go_loopw [7, 8] (fun su i wr => ∃ t : Nat, t ≤ 4 ∧ i = .int .i64 t ∧ su = .int .i64 (sumT l ts s t) ∧ Ext w wr) (fun _ i _ => 4 - (intOf i).toNat)
  case atStart => exact ⟨0, by decide, rfl, rfl, Ext.refl w⟩
  case round =>
    obtain ⟨t, ht, rfl, rfl, he⟩ := hrel
    obtain ⟨s0, s1⟩ := HO.out.sumT_bd hs hl9 t
    obtain ⟨wo, hwo⟩ : ∃ wo, wo = wr := ⟨_, rfl⟩
    subst hwo
    have hEh := Lib.hid he
    clear he
    by_cases hlt : t < 4
    · have hd : decide ((t : Int) < 4) = true := decide_eq_true (by omega)
      go_wp2_with fail
      go_loopw [9, 10] (fun o i wq => ∃ k : Nat, k ≤ ts.length ∧ i = .int .i64 k ∧ Hid (Lst 2 1 cellI wq wo.heap.size o (ordT ts t k)) ∧ Ext wo wq) (fun _ i _ => ts.length - (intOf i).toNat)
      case atStart => exact ⟨0, Nat.zero_le _, rfl, Lst.new wo wo.heap.size (Nat.le_refl _), (Ext.refl _).alloc _⟩
      case round =>
        obtain ⟨k, hk, rfl, HL, he2⟩ := hrel
        by_cases hlk : k < ts.length
        · obtain ⟨b2, off2, rfl⟩ := H2.base hlk
          obtain ⟨hb2, d0⟩ := IntAt.at (H2.ext (hEh.out.trans he2)) k hlk
          cases hq : (nth ts k == (t : Int))
          · have hnx := Lib.hid (ordT_n (ts := ts) (t := (t : Int)) (k := k) (by simpa using hq))
            go_wp2_with fail
            go_roundw
            case rel => exact ⟨k + 1, by omega, by go_num, by rw [hnx.out]; exact HL.out, he2⟩
            case measure => simp [intOf]; omega
          · have hnx := Lib.hid (ordT_y (ts := ts) (t := (t : Int)) (k := k) (by simpa using hq))
            have L3 := Lib.hid (HL.out.ext ((Ext.refl _).alloc (.cells #[.int .i64 k] 2)))
            have hkl := ordT_len ts t k
            have hz := he2.size
            have HR1 : Hid (IntAt (wr.alloc (.cells #[.int .i64 k] 2)) (some ⟨wr.heap.size, 0, none⟩) [(k : Int)]) := rows_int _ _ rfl
            go_wp2_with (at_builtin; refine wpList_pushL elInt oneInt rfl _ _ rfl wo.heap.size _ (ordT ts t k) (by rfl) L3.out _ 1 1 [(k : Int)] rfl (by rfl) HR1.out (by omega) (by omega) (by rw [size_new]; omega) ?_; intro v' w3 HL3 hs3 _)
            have HL4 := Lib.hid HL3
            have hE4 := Lib.hid (hs3.ext (he2.alloc _) (Nat.le_refl _))
            clear HL3 hs3 HR1 L3
            go_wp2_with fail
            go_roundw
            case rel => exact ⟨k + 1, by omega, by go_num, by rw [hnx.out]; exact HL4.out, hE4.out⟩
            case measure => simp [intOf]; omega
        · obtain rfl : k = ts.length := by omega
          obtain ⟨a', cap', rfl, hc', hm', R1, -⟩ := HL.out.shape
          have hlo := ordT_len ts t ts.length
          have HW := Lib.hid (l25Worth_any a cap l a' cap' (ordT ts t ts.length) s wr (HH.out.ext (hEh.out.trans he2)) R1 (HO.out.worth t) hs (by omega) (by omega))
          obtain ⟨b0, b1⟩ := (HO.out.worth t).worth_bd hs (k := (ordT ts t ts.length).length) (Nat.le_refl _)
          have hS : Hid (sumT l ts s (t + 1) = sumT l ts s t + worthAt l (ordT ts t ts.length) s (ordT ts t ts.length).length) := rfl
          have hE5 := Lib.hid (hEh.out.trans he2)
          clear R1 HL hEh he2
          generalize worthAt l (ordT ts t ts.length) s (ordT ts t ts.length).length = W9 at *
          go_wp2_with fail
          refine HW.out.mono ?_
          rintro e w' ⟨rfl, y, rfl⟩
          go_wp2_with fail
          go_roundw
          case rel => exact ⟨t + 1, by omega, by go_num, by rw [hS.out], hE5.out.lift y⟩
          case measure => simp [intOf]; omega
    · obtain rfl : t = 4 := by omega
      go_wp2_with fail
      go_ret
      exact ⟨ret_int hfin.out, hEh.out⟩
end Go.Proofs.Ytccbcjopmkmipaa
