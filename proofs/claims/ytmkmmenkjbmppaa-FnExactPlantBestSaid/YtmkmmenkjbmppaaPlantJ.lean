/- Chapter 10: the program's search for the best stands to be planted: its visits, and PlantBest. -/
import Derived.Test.YtmkmmenkjbmppaaPlantI
namespace Go.Proofs.Ytmkmmenkjbmppaa
open Go.RowKit
set_option maxRecDepth 100000 in
set_option maxHeartbeats 4000000 in
theorem visitP_leaf (a : Option Addr) (n cap : Nat) (ca : Option Addr) (cc : Nat) (snow least : Int) (w0 : World) (hn : n ≤ 16) (g : Nat) (money many : Int) (hm0 : 0 ≤ many) (hm1 : many ≤ n) (set : List Int) (hset : set.length ≤ n)
    (s : Ps) (W : World) (b : Int) (hb : 0 ≤ b) (av : Option Addr) (cv : Nat) (ab : Option Addr) (cb : Nat) (hV : VP w0 W a n cap ca cc snow least g b s set av cv ab cb) :
    Calls Try.prog 26 #[.pointer (some ⟨g, 0, none⟩), .int .i64 (n : Int), .int .i64 money, .int .i64 many] W (VisI w0 a n cap ca cc snow least g (updP many set s) set W (.slice av set.length cv) 0) := by
  have V0 := Lib.hid hV
  have hok : Hid (PsOk n ⟨set, many, s.left⟩) := ⟨by show -1 ≤ many; omega, hm1, hset, hV.ok.left0, hV.ok.left1⟩
  have hbl := hV.ok.len
  have HC := Lib.hid fun (x : Growth) => Gives.same (CompareS_any av ab cv cb set s.best (lift W x) (hV.row.ext ((Ext.refl W).lift x)) (hV.srch.row.ext ((Ext.refl W).lift x)) (by omega) (by omega))
  have hlex := Lib.hid (cmpL_lex set s.best)
  clear hV
  obtain ⟨hgl, c0, c1, c2, c3, c4, c5, c6, c7⟩ := V0.out.cells
  generalize cmpL set s.best = C at *
  by_cases h1 : s.most < many
  · have hu : Hid (updP many set s = ⟨set, many, s.left⟩) := updP_yes (.inl h1)
    clear HC hlex
    go_enter Try.func26, Try.ntmps26
    go_wp2_with fail
    refine region_quiet (by kernel_rfl) (by kernel_rfl) ?_
    repeat (any_goals (first | go_big_quiet_step ((fail)) | quiet_step ((fail))))
    refine wpQuiet_nil ?_
    intro _ hw'
    obtain ⟨y, hw''⟩ := hw'
    subst hw''
    have V1 := Lib.hid (V0.out.grow ((Ext.refl _).lift y))
    have K1 := Lib.hid (Kept.of_ext g (.slice av set.length cv) ((Ext.refl W).lift y))
    clear V0 h1 hgl c0 c1 c2 c3 c4 c5 c6 c7
    generalize lift W y = W1 at *
    obtain ⟨hgl, c0, c1, c2, c3, c4, c5, c6, c7⟩ := V1.out.cells
    have HC : Hid (Calls Try.prog 38 #[.slice av set.length cv] W1 (OutL 2 1 cellI W1 set)) := CloneInt_any av cv set W1 V1.out.row (by omega)
    go_wp2_with fail
    refine HC.out.mono ?_
    rintro e w2 ⟨ab2, cb2, rfl, hcb2, HO2, HR2, E2⟩
    have V3 := Lib.hid (V1.out.better E2 HO2 HR2 hcb2 (m := many) hok.out)
    have K3 := Lib.hid ((K1.out.trans (Kept.of_ext g (.slice av set.length cv) E2)).trans ((Kept.set g _ w2 6 (.slice ab2 set.length cb2)).trans (Kept.set g _ _ 7 (.int .i64 many))))
    have fz6 := (V1.out.grow E2).frozen 6
    have fz7 := (V1.out.grow E2).frozen 7
    obtain ⟨hgl2, d0, d1, d2, d3, d4, d5, d6, d7⟩ := (V1.out.grow E2).cells
    clear HC HO2 HR2 hgl c0 c1 c2 c3 c4 c5 c6 c7
    go_wp2_with fail
    (try simp only [Exit.inBlock, Exit.then])
    first | refine bodyPost_ret (results_none rfl _ _ _) rfl ?_ | refine bodyPost_end (results_none rfl _ _ _) rfl ?_
    exact ⟨rfl, b, av, cv, ab2, cb2, by rw [hu.out]; exact V3.out, by omega, K3.out⟩
  · by_cases h2 : many = s.most
    · have h2' : (many == s.most) = true := beq_iff_eq.2 h2
      have h2h := Lib.hid h2
      clear h2
      cases h3 : lexB set s.best
      · have hd : decide (C < 0) = false := hlex.out.trans h3
        have hu : Hid (updP many set s = s) := updP_no (fun h => h.elim h1 fun h => by rw [h3] at h; exact absurd h.2 (by decide))
        clear hlex h3
        go_enter Try.func26, Try.ntmps26
        go_wp2_with fail
        refine region_quiet (by kernel_rfl) (by kernel_rfl) ?_
        repeat (any_goals (first | go_big_quiet_step ((exact Gives.quiet (HC.out _))) | quiet_step ((exact Gives.quiet (HC.out _)))))
        refine wpQuiet_nil ?_
        intro _ hw'
        obtain ⟨y, hw''⟩ := hw'
        subst hw''
        have V1 := Lib.hid (V0.out.grow ((Ext.refl _).lift y))
        have K1 := Lib.hid (Kept.of_ext g (.slice av set.length cv) ((Ext.refl W).lift y))
        clear V0 HC
        go_wp2_with fail
        (try simp only [Exit.inBlock, Exit.then])
        first | refine bodyPost_ret (results_none rfl _ _ _) rfl ?_ | refine bodyPost_end (results_none rfl _ _ _) rfl ?_
        exact ⟨rfl, b, av, cv, ab, cb, by rw [hu.out]; exact V1.out, hb, K1.out⟩
      · have hd : decide (C < 0) = true := hlex.out.trans h3
        have hu : Hid (updP many set s = ⟨set, many, s.left⟩) := updP_yes (.inr ⟨h2h.out, h3⟩)
        clear hlex h3
        go_enter Try.func26, Try.ntmps26
        go_wp2_with fail
        refine region_quiet (by kernel_rfl) (by kernel_rfl) ?_
        repeat (any_goals (first | go_big_quiet_step ((exact Gives.quiet (HC.out _))) | quiet_step ((exact Gives.quiet (HC.out _)))))
        refine wpQuiet_nil ?_
        intro _ hw'
        obtain ⟨y, hw''⟩ := hw'
        subst hw''
        have V1 := Lib.hid (V0.out.grow ((Ext.refl _).lift y))
        have K1 := Lib.hid (Kept.of_ext g (.slice av set.length cv) ((Ext.refl W).lift y))
        clear V0 HC h1 h2' hgl c0 c1 c2 c3 c4 c5 c6 c7
        generalize lift W y = W1 at *
        obtain ⟨hgl, c0, c1, c2, c3, c4, c5, c6, c7⟩ := V1.out.cells
        have HC : Hid (Calls Try.prog 38 #[.slice av set.length cv] W1 (OutL 2 1 cellI W1 set)) := CloneInt_any av cv set W1 V1.out.row (by omega)
        go_wp2_with fail
        refine HC.out.mono ?_
        rintro e w2 ⟨ab2, cb2, rfl, hcb2, HO2, HR2, E2⟩
        have V3 := Lib.hid (V1.out.better E2 HO2 HR2 hcb2 (m := many) hok.out)
        have K3 := Lib.hid ((K1.out.trans (Kept.of_ext g (.slice av set.length cv) E2)).trans ((Kept.set g _ w2 6 (.slice ab2 set.length cb2)).trans (Kept.set g _ _ 7 (.int .i64 many))))
        have fz6 := (V1.out.grow E2).frozen 6
        have fz7 := (V1.out.grow E2).frozen 7
        obtain ⟨hgl2, d0, d1, d2, d3, d4, d5, d6, d7⟩ := (V1.out.grow E2).cells
        clear HC HO2 HR2 hgl c0 c1 c2 c3 c4 c5 c6 c7
        go_wp2_with fail
        (try simp only [Exit.inBlock, Exit.then])
        first | refine bodyPost_ret (results_none rfl _ _ _) rfl ?_ | refine bodyPost_end (results_none rfl _ _ _) rfl ?_
        exact ⟨rfl, b, av, cv, ab2, cb2, by rw [hu.out]; exact V3.out, by omega, K3.out⟩
    · have h2' : (many == s.most) = false := beq_eq_false_iff_ne.2 h2
      have hu : Hid (updP many set s = s) := updP_no (fun h => h.elim h1 fun h => h2 h.1)
      clear HC hlex h2
      go_enter Try.func26, Try.ntmps26
      go_wp2_with fail
      refine region_quiet (by kernel_rfl) (by kernel_rfl) ?_
      repeat (any_goals (first | go_big_quiet_step ((fail)) | quiet_step ((fail))))
      refine wpQuiet_nil ?_
      intro _ hw'
      obtain ⟨y, hw''⟩ := hw'
      subst hw''
      have V1 := Lib.hid (V0.out.grow ((Ext.refl _).lift y))
      have K1 := Lib.hid (Kept.of_ext g (.slice av set.length cv) ((Ext.refl W).lift y))
      clear V0
      go_wp2_with fail
      (try simp only [Exit.inBlock, Exit.then])
      first | refine bodyPost_ret (results_none rfl _ _ _) rfl ?_ | refine bodyPost_end (results_none rfl _ _ _) rfl ?_
      exact ⟨rfl, b, av, cv, ab, cb, by rw [hu.out]; exact V1.out, hb, K1.out⟩
set_option maxRecDepth 100000 in
set_option maxHeartbeats 8000000 in
theorem visitP_step (l : List Stand) (costs : List Int) (hcl : costs.length = l.length) (a : Option Addr) (cap : Nat) (ca : Option Addr) (cc : Nat) (snow least : Int) (w0 : World) (H : StandAt w0 a l) (H2 : IntAt w0 ca costs) (hn : l.length ≤ 16) (hs0 : 0 ≤ snow) (hs1 : snow ≤ 2000) (hfew : ∀ k, k < l.length → fewS (nth l k))
    (g i d : Nat) (hid : i + (d + 1) = l.length) (hc0 : 0 ≤ nth costs i) (hc1 : nth costs i ≤ 1000000) (money many : Int) (hy0 : 0 ≤ money) (hy1 : money ≤ 100000000) (hm0 : 0 ≤ many) (hm1 : many ≤ i) (set : List Int) (hset : set.length ≤ i) (f1 f2 : Ps → Ps)
    (hv1 : ∀ (s : Ps) (W : World) (b : Int) (av : Option Addr) (cv : Nat) (ab : Option Addr) (cb : Nat), VP w0 W a l.length cap ca cc snow least g b s (set ++ [(i : Int)]) av cv ab cb → 0 ≤ b → nth costs i ≤ money →
      Calls Try.prog 26 #[.pointer (some ⟨g, 0, none⟩), .int .i64 ((i : Int) + 1), .int .i64 (money - nth costs i), .int .i64 (if least ≤ protS (plantedS (nth l i)) snow then many + 1 else many)] W (VisI w0 a l.length cap ca cc snow least g (f1 s) (set ++ [(i : Int)]) W (.slice av (set ++ [(i : Int)]).length cv) (-(2 * (d : Int)))))
    (hv2 : ∀ (s : Ps) (W : World) (b : Int) (av : Option Addr) (cv : Nat) (ab : Option Addr) (cb : Nat), VP w0 W a l.length cap ca cc snow least g b s set av cv ab cb → 0 ≤ b →
      Calls Try.prog 26 #[.pointer (some ⟨g, 0, none⟩), .int .i64 ((i : Int) + 1), .int .i64 money, .int .i64 (if least ≤ protS (nth l i) snow then many + 1 else many)] W (VisI w0 a l.length cap ca cc snow least g (f2 s) set W (.slice av set.length cv) (-(2 * (d : Int)))))
    (s : Ps) (W : World) (b : Int) (hb : 0 ≤ b) (av : Option Addr) (cv : Nat) (ab : Option Addr) (cb : Nat) (hV : VP w0 W a l.length cap ca cc snow least g b s set av cv ab cb) :
    Calls Try.prog 26 #[.pointer (some ⟨g, 0, none⟩), .int .i64 (i : Int), .int .i64 money, .int .i64 many] W (VisI w0 a l.length cap ca cc snow least g (nodeP f2 (if nth costs i ≤ money then nodeP f1 s else s)) set W (.slice av set.length cv) (-(2 * ((d : Int) + 1)))) := by
  have V0 := Lib.hid hV
  have HA := Lib.hid H
  have HB := Lib.hid H2
  have hilt : i < l.length := by omega
  have hfx := hfew i hilt
  obtain ⟨x, hx⟩ : ∃ x, x = nth l i := ⟨_, rfl⟩
  obtain ⟨c, hc⟩ : ∃ c, c = nth costs i := ⟨_, rfl⟩
  rw [← hc] at hv1 hc0 hc1 ⊢
  rw [← hx] at hv1 hv2 hfx
  have HN1 := Lib.hid fun (hcm : c ≤ money) => nodeI_any a l.length cap ca cc snow least w0 hs0 hs1 g i (by omega) (-(2 * (d : Int))) (money - c) many hm0 (by omega) (plantedS x) (fewS_planted hfx) (set ++ [(i : Int)]) f1 (fun s W b av cv ab cb h hb => hv1 s W b av cv ab cb h hb hcm)
  have HN2 := Lib.hid (nodeI_any a l.length cap ca cc snow least w0 hs0 hs1 g i (by omega) (-(2 * (d : Int))) money many hm0 (by omega) x hfx set f2 hv2)
  have hvl : Hid (∀ k, (Value.slice av set.length cv).ownBlock = some k → k < W.heap.size) := fun k e => hV.srch.lst.lt k e
  clear hV H H2 hv1 hv2 hfew hfx
  obtain ⟨lb, lo, rfl⟩ := HA.out.base hilt
  obtain ⟨hlb, e0, e1, e2, e3, e4⟩ := Stand.at (HA.out.ext V0.out.srch.ext) i hilt
  obtain ⟨kb, ko, rfl⟩ := HB.out.base (show i < costs.length by omega)
  obtain ⟨hkb, f0⟩ := IntAt.at (HB.out.ext V0.out.srch.ext) i (by omega)
  rw [← hc] at f0
  rw [← hx] at e0 e1 e2 e3 e4
  have HF := Lib.hid fun (W' : World) (he : Ext w0 W') => IntAt.at (HB.out.ext he) i (show i < costs.length by omega)
  rw [← hc] at HF
  have hq : ((i : Int) == (l.length : Int)) = false := by rw [beq_eq_false_iff_ne]; omega
  obtain ⟨hgl, c0, c1, c2, c3, c4, c5, c6, c7⟩ := V0.out.cells
  obtain ⟨xb, hxb⟩ : ∃ xb, xb = W.heap.size := ⟨_, rfl⟩
  obtain ⟨W1, hW1⟩ : ∃ W1, W1 = W.alloc (.cells #[.string x.id, .int .i64 x.trees, .int .i64 x.height, .int .i64 x.cover, .int .i64 x.gap] 45) := ⟨_, rfl⟩
  have X : Hid (∀ j, j < 5 → W1.cell? ⟨xb, j, none⟩ = some (Stand.cell x j)) := fun j hj => by
    rw [hW1, hxb, cell_new]
    rcases (show j = 0 ∨ j = 1 ∨ j = 2 ∨ j = 3 ∨ j = 4 by omega) with rfl | rfl | rfl | rfl | rfl <;> rfl
  have V1 : Hid (VP w0 W1 (some ⟨lb, lo, none⟩) l.length cap (some ⟨kb, ko, none⟩) cc snow least g b s set av cv ab cb) := by show VP _ _ _ _ _ _ _ _ _ _ _ _ _ _ _ _ _; rw [hW1]; exact V0.out.grow ((Ext.refl W).alloc _)
  have KW : Hid (Kept g (.slice av set.length cv) (.slice av set.length cv) W W1) := by show Kept _ _ _ _ _; rw [hW1]; exact Kept.of_ext g _ ((Ext.refl W).alloc _)
  have hxg : xb ≠ g := by omega
  have hxv : (Value.slice av set.length cv).ownBlock ≠ some xb := fun e => by have := hvl.out xb e; omega
  have hlen : set.length ≤ 20 := by omega
  clear hx hc
  by_cases hcm : c ≤ money
  · replace HN1 := Lib.hid (HN1.out hcm)
    have hu : Hid (nodeP f2 (if c ≤ money then nodeP f1 s else s) = nodeP f2 (nodeP f1 s)) := by show _ = _; rw [if_pos hcm]
    rw [hu.out]
    clear hu
    obtain ⟨O, hO⟩ : ∃ O : List Int, O = set ++ [(i : Int)] := ⟨_, rfl⟩
    have hOl : Hid (O.length = set.length + 1) := by show _ = _; rw [hO]; simp
    have hO20 : O.length ≤ 20 := by rw [hOl.out]; omega
    rw [← hO] at HN1
    have HO := Lib.hid hO
    have V2 := Lib.hid (V1.out.grow ((Ext.refl _).alloc (.cells #[.int .i64 i] 2)))
    have HR1 : Hid (IntAt (W1.alloc (.cells #[.int .i64 i] 2)) (some ⟨xb + 1, 0, none⟩) [(i : Int)]) := by
      have e : xb + 1 = W1.heap.size := by rw [hW1, hxb, size_new]
      rw [e]; exact rows_int _ _ rfl
    have K1 := Lib.hid (Kept.of_ext g (.slice av set.length cv) ((Ext.refl W1).alloc (.cells #[.int .i64 i] 2)))
    have hz2 : g + 1 ≤ (W1.alloc (.cells #[.int .i64 i] 2)).heap.size := V2.out.srch.obj.blk.lt
    clear hO
    go_enter Try.func26, Try.ntmps26
    have W1e := hW1
    try dsimp only
    repeat (first | (at_builtin; refine Hid.out ?_) | go_values | go_skip | go_guarded | go_step | go_upon | go_back)
    refine Lib.hid ?_
    rw [← hW1, ← hxb]
    clear W1e hW1 hxb V0 hgl c0 c1 c2 c3 c4 c5 c6 c7 hq e0 e1 e2 e3 e4 f0 hlb hkb
    refine wpList_pushAt elInt oneInt rfl _ _ rfl (g + 1) _ set (by rfl) V2.out.srch.lst _ 1 1 [(i : Int)] rfl (by rfl) HR1.out (by omega) (by omega) hz2 ?_
    intro v' w3 HL hg3 hat3
    rw [← HO.out] at HL
    obtain ⟨av2, cv2, rfl, hcv2, -, -, -⟩ := HL.shape
    have V4 := Lib.hid (V2.out.pushed HL hg3 hat3 hcv2)
    have K4 := Lib.hid ((K1.out.trans (Kept.grown g hg3 hat3)).trans (Kept.set g _ w3 5 (.slice av2 O.length cv2)))
    obtain ⟨m0, m1, m2⟩ := V2.out.mid hg3
    clear V1 V2 HR1 K1 HL hg3 hat3 hz2
    go_wp2_with fail
    clear m0 m1 m2
    obtain ⟨W4, hW4⟩ : ∃ W4, W4 = w3.setCell ⟨g, 5, none⟩ (.slice av2 O.length cv2) := ⟨_, rfl⟩
    rw [← hW4] at V4 K4 ⊢
    clear hW4
    obtain ⟨hgl, c0, c1, c2, c3, c4, c5, c6, c7⟩ := V4.out.cells
    obtain ⟨hkb, f0⟩ := HF.out W4 V4.out.srch.ext
    have y0 := K4.out.cell (b := xb) hxg hxv (X.out 0 (by decide))
    have y1 := K4.out.cell (b := xb) hxg hxv (X.out 1 (by decide))
    have y2 := K4.out.cell (b := xb) hxg hxv (X.out 2 (by decide))
    have y3 := K4.out.cell (b := xb) hxg hxv (X.out 3 (by decide))
    have y4 := K4.out.cell (b := xb) hxg hxv (X.out 4 (by decide))
    change _ = some (Value.string x.id) at y0
    change _ = some (Value.int .i64 x.trees) at y1
    change _ = some (Value.int .i64 x.height) at y2
    change _ = some (Value.int .i64 x.cover) at y3
    change _ = some (Value.int .i64 x.gap) at y4
    have yl := block_lt y0
    refine Grow.region_tail 14 [0, 1, 2, 3, 4, 5, 6, 7, 8, 9, 10, 11, 12, 13] [] (by kernel_rfl) (by kernel_rfl) ?_
    simp only [Grow.pick, Grow.pickB, List.getElem?_cons_succ, List.getElem?_cons_zero, List.drop_succ_cons, List.drop_zero]
    repeat
      refine Grow.heads_step (fun K' hK => ⟨rfl, ?_⟩)
      apply Exists.intro
      apply And.intro
      · intro w' hw'
        obtain ⟨x', rfl⟩ := hw'
        go_simp
        first | done | rfl | (rw [if_neg (by omega)]; done) | (rw [if_neg (by omega)]; rfl) | (rw [if_pos (by omega)]; done) | (rw [if_pos (by omega)]; rfl)
      go_simp
      refine hK _ ?_
      clear hK K'
    refine Grow.heads_call _ _ _ (fun K' hK => ⟨rfl, ?_, (fun w' h' => Stand_planted x w'), ?_⟩)
    · intro w' hw'
      obtain ⟨x', rfl⟩ := hw'
      go_simp
      first | done | rfl
    go_simp
    refine hK _ ?_
    clear hK K'
    refine Grow.heads_nil ?_
    intro w5 e5
    refine Grow.seq_nil ?_
    have HL := Lib.hid (HN1.out s w5 b (by omega) av2 cv2 ab cb (V4.out.grow e5))
    have K5 := Lib.hid (K4.out.trans (Kept.of_ext g (.slice av2 O.length cv2) e5))
    clear V4 K4 HN1 hgl c0 c1 c2 c3 c4 c5 c6 c7 f0 hkb y0 y1 y2 y3 y4 yl e5
    go_wp2_with fail
    refine HL.out.mono ?_
    rintro e w7 ⟨rfl, b7, av7, cv7, ab7, cb7, hV7, hlo7, hK7⟩
    have V7 := Lib.hid hV7
    have K7 := Lib.hid (K5.out.trans hK7)
    clear hV7 hK7 HL K5
    go_wp2_with fail
    obtain ⟨hgl, c0, c1, c2, c3, c4, c5, c6, c7⟩ := V7.out.cells
    rw [hOl.out] at c5
    refine Grow.region_tail 14 [0, 1, 2, 3, 4, 5, 6, 7, 8, 9, 10, 11, 12, 13] [] (by kernel_rfl) (by kernel_rfl) ?_
    simp only [Grow.pick, Grow.pickB, List.getElem?_cons_succ, List.getElem?_cons_zero, List.drop_succ_cons, List.drop_zero]
    repeat
      refine Grow.heads_step (fun K' hK => ⟨rfl, ?_⟩)
      apply Exists.intro
      apply And.intro
      · intro w' hw'
        obtain ⟨x', rfl⟩ := hw'
        go_simp
        first | done | rfl | (rw [if_neg (by omega)]; done) | (rw [if_neg (by omega)]; rfl) | (rw [if_pos (by omega)]; done) | (rw [if_pos (by omega)]; rfl)
      go_simp
      refine hK _ ?_
      clear hK K'
    refine Grow.heads_step (fun K' hK => ⟨rfl, .slice av7 set.length cv7, ?_, ?_⟩)
    · intro w' hw'
      obtain ⟨x', rfl⟩ := hw'
      go_simp
      rw [wrap_16 hlen, if_pos ⟨by omega, by have := V7.out.capv; rw [hOl.out] at this; omega⟩, Int.toNat_natCast]
    refine hK _ ?_
    clear hK K'
    repeat
      refine Grow.heads_step (fun K' hK => ⟨rfl, ?_⟩)
      apply Exists.intro
      apply And.intro
      · intro w' hw'
        obtain ⟨x', rfl⟩ := hw'
        go_simp
        first | done | rfl | (rw [if_neg (by omega)]; done) | (rw [if_neg (by omega)]; rfl) | (rw [if_pos (by omega)]; done) | (rw [if_pos (by omega)]; rfl)
      go_simp
      refine hK _ ?_
      clear hK K'
    refine Grow.heads_nil ?_
    intro w20 e20
    refine Grow.seq_nil ?_
    have V9 := Lib.hid ((V7.out.grow e20).cut HO.out)
    have K9 : Hid (Kept g (.slice av set.length cv) (.slice av7 set.length cv7) W1 (w20.setCell ⟨g, 5, none⟩ (.slice av7 set.length cv7))) := (K7.out.trans (Kept.of_ext g (.slice av7 O.length cv7) e20)).trans ⟨by simp, fun k _ hg _ => by rw [heap_setCell_other w20 ⟨g, 5, none⟩ k _ hg], .inl (by cases av7 <;> rfl)⟩
    have fz5 := (V7.out.grow e20).frozen 5
    clear hgl c0 c1 c2 c3 c4 c5 c6 c7
    obtain ⟨hgl, c0, c1, c2, c3, c4, c5, c6, c7⟩ := (V7.out.grow e20).cells
    clear e20 V7 K7
    have y0 := K9.out.cell (b := xb) hxg hxv (X.out 0 (by decide))
    have y1 := K9.out.cell (b := xb) hxg hxv (X.out 1 (by decide))
    have y2 := K9.out.cell (b := xb) hxg hxv (X.out 2 (by decide))
    have y3 := K9.out.cell (b := xb) hxg hxv (X.out 3 (by decide))
    have y4 := K9.out.cell (b := xb) hxg hxv (X.out 4 (by decide))
    change _ = some (Value.string x.id) at y0
    change _ = some (Value.int .i64 x.trees) at y1
    change _ = some (Value.int .i64 x.height) at y2
    change _ = some (Value.int .i64 x.cover) at y3
    change _ = some (Value.int .i64 x.gap) at y4
    have yl := block_lt y0
    have HL := Lib.hid (HN2.out (nodeP f1 s) (w20.setCell ⟨g, 5, none⟩ (.slice av7 set.length cv7)) b7 (by omega) av7 cv7 ab7 cb7 V9.out)
    go_wp2_with fail
    refine HL.out.mono ?_
    rintro e w9 ⟨rfl, b9, av9, cv9, ab9, cb9, hV9, hlo9, hK9⟩
    have V9 := Lib.hid hV9
    have K9 := Lib.hid (K9.out.trans hK9)
    clear hV9 hK9 HL HN2 y0 y1 y2 y3 y4 yl
    go_wp2_with fail
    (try simp only [Exit.inBlock, Exit.then])
    first | refine bodyPost_ret (results_none rfl _ _ _) rfl ?_ | refine bodyPost_end (results_none rfl _ _ _) rfl ?_
    exact ⟨rfl, b9, av9, cv9, ab9, cb9, V9.out, by omega, KW.out.trans K9.out⟩
  · have hu : Hid (nodeP f2 (if c ≤ money then nodeP f1 s else s) = nodeP f2 s) := by show _ = _; rw [if_neg hcm]
    rw [hu.out]
    clear hu
    have KR := Lib.hid (Kept.refl g (.slice av set.length cv) W1)
    clear HN1
    go_enter Try.func26, Try.ntmps26
    go_wp2_with fail
    rw [← hW1, ← hxb]
    clear hW1 hxb V0 hgl c0 c1 c2 c3 c4 c5 c6 c7 hq e0 e1 e2 e3 e4 f0 hlb hkb
    obtain ⟨hgl, c0, c1, c2, c3, c4, c5, c6, c7⟩ := V1.out.cells
    have y0 := KR.out.cell (b := xb) hxg hxv (X.out 0 (by decide))
    have y1 := KR.out.cell (b := xb) hxg hxv (X.out 1 (by decide))
    have y2 := KR.out.cell (b := xb) hxg hxv (X.out 2 (by decide))
    have y3 := KR.out.cell (b := xb) hxg hxv (X.out 3 (by decide))
    have y4 := KR.out.cell (b := xb) hxg hxv (X.out 4 (by decide))
    change _ = some (Value.string x.id) at y0
    change _ = some (Value.int .i64 x.trees) at y1
    change _ = some (Value.int .i64 x.height) at y2
    change _ = some (Value.int .i64 x.cover) at y3
    change _ = some (Value.int .i64 x.gap) at y4
    have yl := block_lt y0
    have HL := Lib.hid (HN2.out s W1 b (by omega) av cv ab cb V1.out)
    go_wp2_with fail
    refine HL.out.mono ?_
    rintro e w9 ⟨rfl, b9, av9, cv9, ab9, cb9, hV9, hlo9, hK9⟩
    have V9 := Lib.hid hV9
    have K9 := Lib.hid (KR.out.trans hK9)
    clear hV9 hK9 HL HN2 y0 y1 y2 y3 y4 yl
    go_wp2_with fail
    (try simp only [Exit.inBlock, Exit.then])
    first | refine bodyPost_ret (results_none rfl _ _ _) rfl ?_ | refine bodyPost_end (results_none rfl _ _ _) rfl ?_
    exact ⟨rfl, b9, av9, cv9, ab9, cb9, V9.out, by omega, KW.out.trans K9.out⟩
end Go.Proofs.Ytmkmmenkjbmppaa
