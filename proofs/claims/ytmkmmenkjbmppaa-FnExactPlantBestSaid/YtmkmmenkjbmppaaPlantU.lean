/- Chapter 10: the reference's search for the best stands to be planted: its visits. -/
import Derived.Test.YtmkmmenkjbmppaaPlantT
namespace Go.Proofs.Ytmkmmenkjbmppaa
open Go.RowKit
/-- What a visit of the reference's search leaves. -/
def VisQ (w0 : World) (a : Option Addr) (n cap : Nat) (ca : Option Addr) (cc : Nat) (snow least bud : Int) (g : Nat) (s : Ps) (ord : List Int) (e : Ending) (w' : World) : Prop :=
  e = .returned (.tuple #[]) ∧ ∃ av' cv' ab' cb', VQ w0 w' a n cap ca cc snow least bud g s ord av' cv' ab' cb'
set_option maxRecDepth 100000 in
set_option maxHeartbeats 4000000 in
theorem runQ_leaf (l : List Stand) (a : Option Addr) (cap : Nat) (ca : Option Addr) (cc : Nat) (snow least bud : Int) (w0 : World) (H : StandAt w0 a l) (hn : l.length ≤ 16) (hs0 : 0 ≤ snow) (hs1 : snow ≤ 2000) (hfew : ∀ k, k < l.length → fewS (nth l k)) (g : Nat) (money : Int) (set : List Int) (hset : set.length ≤ l.length)
    (s : Ps) (W : World) (av : Option Addr) (cv : Nat) (ab : Option Addr) (cb : Nat) (hV : VQ w0 W a l.length cap ca cc snow least bud g s set av cv ab cb) :
    Calls Try.prog 19 #[.pointer (some ⟨g, 0, none⟩), .int .i64 (l.length : Int), .int .i64 money] W (VisQ w0 a l.length cap ca cc snow least bud g (updP (cntP l snow least set l.length) set s) set) := by
  have V0 := Lib.hid hV
  have hcb := cntP_bd l snow least set l.length
  have hok : Hid (PsOk l.length ⟨set, cntP l snow least set l.length, s.left⟩) := ⟨by show -1 ≤ cntP _ _ _ _ _; omega, hcb.2, hset, hV.ok.left0, hV.ok.left1⟩
  have hbl := hV.ok.len
  have HK := Lib.hid (countQ_any l a cap ca cc snow least bud w0 H hn hs0 hs1 hfew g s set (by omega) W av cv ab cb hV)
  clear hV H hfew hs0 hs1
  obtain ⟨hgl, c0, c1, c2, c3, c4, c5, c6, c7, c8, c9⟩ := V0.out.cells
  generalize cntP l snow least set l.length = many at *
  have hset16 : set.length ≤ 16 := by omega
  go_enter Try.func19, Try.ntmps19
  go_wp2_with fail
  refine HK.out.mono ?_
  rintro e W1 ⟨rfl, e1⟩
  have V1 := Lib.hid (V0.out.grow e1)
  have HC := Lib.hid fun (x : Growth) => l10Before_any av ab cv cb set s.best (lift W1 x) (V1.out.row.ext ((Ext.refl W1).lift x)) (V1.out.srch.row.ext ((Ext.refl W1).lift x)) (by omega) (by omega)
  clear V0 HK hgl c0 c1 c2 c3 c4 c5 c6 c7 c8 c9 e1
  obtain ⟨hgl, c0, c1, c2, c3, c4, c5, c6, c7, c8, c9⟩ := V1.out.cells
  by_cases h1 : s.most < many
  · have hu : Hid (updP many set s = ⟨set, many, s.left⟩) := updP_yes (.inl h1)
    clear HC
    go_wp2_with fail
    refine region_quiet (by kernel_rfl) (by kernel_rfl) ?_
    repeat (any_goals (first | go_big_quiet_step ((fail)) | quiet_step ((fail))))
    refine wpQuiet_nil ?_
    intro _ hw'
    obtain ⟨y, hw''⟩ := hw'
    subst hw''
    have V2 := Lib.hid (V1.out.grow ((Ext.refl _).lift y))
    clear V1 h1 hgl c0 c1 c2 c3 c4 c5 c6 c7 c8 c9
    generalize lift W1 y = W2 at *
    obtain ⟨hgl, c0, c1, c2, c3, c4, c5, c6, c7, c8, c9⟩ := V2.out.cells
    have fz6 := V2.out.frozen 6
    have fz5 := V2.out.srch.obj.blk.set g 6 (.int .i64 many)
    have c4' : (W2.setCell ⟨g, 6, none⟩ (.int .i64 many)).cell? ⟨g, 4, none⟩ = some (.slice av set.length cv) := by rw [cell_other _ (by omega)]; exact c4
    have HC : Hid (Calls Try.prog 32 #[.slice av set.length cv] (W2.setCell ⟨g, 6, none⟩ (.int .i64 many)) (OutL 2 1 cellI (W2.setCell ⟨g, 6, none⟩ (.int .i64 many)) set)) := l00Own_any av cv set _ (by
      have hr := V2.out.row
      have ho := V2.out.srch.lst
      intro k hk
      obtain ⟨b, o, e, hb, hc⟩ := hr k hk
      refine ⟨b, o, e, by simpa using hb, fun j hj => ?_⟩
      have := ho.ge b (by rw [e]; rfl)
      rw [cell_other _ (by omega)]; exact hc j hj) V2.out.nilv (by omega)
    have fq := fz5.lt
    clear fz5
    go_wp2_with fail
    refine HC.out.mono ?_
    rintro e w2 ⟨ab2, cb2, rfl, hcb2, HO2, HR2, E2⟩
    have V3 := Lib.hid (V2.out.better E2 HO2 HR2 hcb2 hok.out)
    have Bk := (V2.out.srch.obj.blk.set g 6 (.int .i64 many)).ext E2
    have fz9 := Bk.frozen 5
    have hl9 := Bk.lt
    obtain ⟨u9, d9⟩ := Bk.cell (o := 5) (by decide)
    clear HC HO2 HR2 hgl c0 c1 c2 c3 c4 c5 c6 c7 c8 c9 fz6 fq c4' E2 Bk
    go_wp2_with fail
    (try simp only [Exit.inBlock, Exit.then])
    first | refine bodyPost_ret (results_none rfl _ _ _) rfl ?_ | refine bodyPost_end (results_none rfl _ _ _) rfl ?_
    exact ⟨rfl, av, cv, ab2, cb2, by rw [hu.out]; exact V3.out⟩
  · by_cases h2 : many = s.most
    · have h2' : (many == s.most) = true := beq_iff_eq.2 h2
      have h2h := Lib.hid h2
      clear h2
      cases h3 : lexB set s.best
      · have hu : Hid (updP many set s = s) := updP_no (fun h => h.elim h1 fun h => by rw [h3] at h; exact absurd h.2 (by decide))
        rw [h3] at HC
        clear h3
        go_wp2_with fail
        refine region_quiet (by kernel_rfl) (by kernel_rfl) ?_
        repeat (any_goals (first | go_big_quiet_step ((exact Gives.quiet (HC.out _))) | quiet_step ((exact Gives.quiet (HC.out _)))))
        refine wpQuiet_nil ?_
        intro _ hw'
        obtain ⟨y, hw''⟩ := hw'
        subst hw''
        have V2 := Lib.hid (V1.out.grow ((Ext.refl _).lift y))
        clear V1 HC
        go_wp2_with fail
        (try simp only [Exit.inBlock, Exit.then])
        first | refine bodyPost_ret (results_none rfl _ _ _) rfl ?_ | refine bodyPost_end (results_none rfl _ _ _) rfl ?_
        exact ⟨rfl, av, cv, ab, cb, by rw [hu.out]; exact V2.out⟩
      · have hu : Hid (updP many set s = ⟨set, many, s.left⟩) := updP_yes (.inr ⟨h2h.out, h3⟩)
        rw [h3] at HC
        clear h3
        go_wp2_with fail
        refine region_quiet (by kernel_rfl) (by kernel_rfl) ?_
        repeat (any_goals (first | go_big_quiet_step ((exact Gives.quiet (HC.out _))) | quiet_step ((exact Gives.quiet (HC.out _)))))
        refine wpQuiet_nil ?_
        intro _ hw'
        obtain ⟨y, hw''⟩ := hw'
        subst hw''
        have V2 := Lib.hid (V1.out.grow ((Ext.refl _).lift y))
        clear V1 HC h1 h2' hgl c0 c1 c2 c3 c4 c5 c6 c7 c8 c9
        generalize lift W1 y = W2 at *
        obtain ⟨hgl, c0, c1, c2, c3, c4, c5, c6, c7, c8, c9⟩ := V2.out.cells
        have fz6 := V2.out.frozen 6
        have fz5 := V2.out.srch.obj.blk.set g 6 (.int .i64 many)
        have c4' : (W2.setCell ⟨g, 6, none⟩ (.int .i64 many)).cell? ⟨g, 4, none⟩ = some (.slice av set.length cv) := by rw [cell_other _ (by omega)]; exact c4
        have HC : Hid (Calls Try.prog 32 #[.slice av set.length cv] (W2.setCell ⟨g, 6, none⟩ (.int .i64 many)) (OutL 2 1 cellI (W2.setCell ⟨g, 6, none⟩ (.int .i64 many)) set)) := l00Own_any av cv set _ (by
          have hr := V2.out.row
          have ho := V2.out.srch.lst
          intro k hk
          obtain ⟨b, o, e, hb, hc⟩ := hr k hk
          refine ⟨b, o, e, by simpa using hb, fun j hj => ?_⟩
          have := ho.ge b (by rw [e]; rfl)
          rw [cell_other _ (by omega)]; exact hc j hj) V2.out.nilv (by omega)
        have fq := fz5.lt
        clear fz5
        go_wp2_with fail
        refine HC.out.mono ?_
        rintro e w2 ⟨ab2, cb2, rfl, hcb2, HO2, HR2, E2⟩
        have V3 := Lib.hid (V2.out.better E2 HO2 HR2 hcb2 hok.out)
        have Bk := (V2.out.srch.obj.blk.set g 6 (.int .i64 many)).ext E2
        have fz9 := Bk.frozen 5
        have hl9 := Bk.lt
        obtain ⟨u9, d9⟩ := Bk.cell (o := 5) (by decide)
        clear HC HO2 HR2 hgl c0 c1 c2 c3 c4 c5 c6 c7 c8 c9 fz6 fq c4' E2 Bk
        go_wp2_with fail
        (try simp only [Exit.inBlock, Exit.then])
        first | refine bodyPost_ret (results_none rfl _ _ _) rfl ?_ | refine bodyPost_end (results_none rfl _ _ _) rfl ?_
        exact ⟨rfl, av, cv, ab2, cb2, by rw [hu.out]; exact V3.out⟩
    · have h2' : (many == s.most) = false := beq_eq_false_iff_ne.2 h2
      have hu : Hid (updP many set s = s) := updP_no (fun h => h.elim h1 fun h => h2 h.1)
      clear HC h2
      go_wp2_with fail
      refine region_quiet (by kernel_rfl) (by kernel_rfl) ?_
      repeat (any_goals (first | go_big_quiet_step ((fail)) | quiet_step ((fail))))
      refine wpQuiet_nil ?_
      intro _ hw'
      obtain ⟨y, hw''⟩ := hw'
      subst hw''
      have V2 := Lib.hid (V1.out.grow ((Ext.refl _).lift y))
      clear V1
      go_wp2_with fail
      (try simp only [Exit.inBlock, Exit.then])
      first | refine bodyPost_ret (results_none rfl _ _ _) rfl ?_ | refine bodyPost_end (results_none rfl _ _ _) rfl ?_
      exact ⟨rfl, av, cv, ab, cb, by rw [hu.out]; exact V2.out⟩
set_option maxRecDepth 100000 in
set_option maxHeartbeats 8000000 in
theorem runQ_step (l : List Stand) (costs : List Int) (hcl : costs.length = l.length) (a : Option Addr) (cap : Nat) (ca : Option Addr) (cc : Nat) (snow least bud : Int) (w0 : World) (H2 : IntAt w0 ca costs) (hn : l.length ≤ 16)
    (g i d : Nat) (hid : i + (d + 1) = l.length) (hc0 : 0 ≤ nth costs i) (hc1 : nth costs i ≤ 1000000) (money : Int) (hy0 : 0 ≤ money) (hy1 : money ≤ 100000000) (set : List Int) (hset : set.length ≤ i) (f1 f2 : Ps → Ps)
    (hv1 : ∀ (s : Ps) (W : World) (av : Option Addr) (cv : Nat) (ab : Option Addr) (cb : Nat), VQ w0 W a l.length cap ca cc snow least bud g s (set ++ [(i : Int)]) av cv ab cb → nth costs i ≤ money →
      Calls Try.prog 19 #[.pointer (some ⟨g, 0, none⟩), .int .i64 ((i : Int) + 1), .int .i64 (money - nth costs i)] W (VisQ w0 a l.length cap ca cc snow least bud g (f1 s) (set ++ [(i : Int)])))
    (hv2 : ∀ (s : Ps) (W : World) (av : Option Addr) (cv : Nat) (ab : Option Addr) (cb : Nat), VQ w0 W a l.length cap ca cc snow least bud g s set av cv ab cb →
      Calls Try.prog 19 #[.pointer (some ⟨g, 0, none⟩), .int .i64 ((i : Int) + 1), .int .i64 money] W (VisQ w0 a l.length cap ca cc snow least bud g (f2 s) set))
    (s : Ps) (W : World) (av : Option Addr) (cv : Nat) (ab : Option Addr) (cb : Nat) (hV : VQ w0 W a l.length cap ca cc snow least bud g s set av cv ab cb) :
    Calls Try.prog 19 #[.pointer (some ⟨g, 0, none⟩), .int .i64 (i : Int), .int .i64 money] W (VisQ w0 a l.length cap ca cc snow least bud g (nodeP f2 (if nth costs i ≤ money then nodeP f1 s else s)) set) := by
  have V0 := Lib.hid hV
  have HB := Lib.hid H2
  replace hv1 := Lib.hid hv1
  replace hv2 := Lib.hid hv2
  clear hV H2
  obtain ⟨c, hc⟩ : ∃ c, c = nth costs i := ⟨_, rfl⟩
  rw [← hc] at hv1 hc0 hc1 ⊢
  obtain ⟨kb, ko, rfl⟩ := HB.out.base (show i < costs.length by omega)
  have HF := Lib.hid fun (W' : World) (he : Ext w0 W') => IntAt.at (HB.out.ext he) i (show i < costs.length by omega)
  rw [← hc] at HF
  have hq : ((i : Int) == (l.length : Int)) = false := by rw [beq_eq_false_iff_ne]; omega
  have hlen : set.length ≤ 20 := by omega
  obtain ⟨hgl, c0, c1, c2, c3, c4, c5, c6, c7, c8, c9⟩ := V0.out.cells
  obtain ⟨hkb, f0⟩ := HF.out W V0.out.srch.ext
  clear hc
  by_cases hcm : c ≤ money
  · replace hv1 := Lib.hid fun s W av cv ab cb h => hv1.out s W av cv ab cb h hcm
    rw [if_pos hcm]
    have HL := Lib.hid (nodeQ_any _ l.length cap _ cc snow least bud w0 g s set _ _ _ _ _ V0.out)
    rcases Int.lt_or_le 0 s.left with hs1 | hs1
    · have hu1 : Hid (nodeP f1 s = f1 { s with left := s.left - 1 }) := nodeP_go (by omega)
      rw [if_pos hs1, decide_eq_true hs1] at HL
      rw [hu1.out]
      go_enter Try.func19, Try.ntmps19
      go_wp2_with fail
      refine HL.out.mono ?_
      rintro e W1 ⟨rfl, hV1⟩
      have V1 := Lib.hid hV1
      obtain ⟨s1, hs1e⟩ : ∃ s1 : Ps, s1 = { s with left := s.left - 1 } := ⟨_, rfl⟩
      rw [← hs1e] at V1 hu1
      have hs1h := Lib.hid hs1e
      clear hV1 HL hs1 hs1e V0 hgl c0 c1 c2 c3 c4 c5 c6 c7 c8 c9 hkb f0 hu1
      obtain ⟨O, hO⟩ : ∃ O : List Int, O = set ++ [(i : Int)] := ⟨_, rfl⟩
      have hOl : Hid (O.length = set.length + 1) := by show _ = _; rw [hO]; simp
      have hO20 : O.length ≤ 20 := by rw [hOl.out]; omega
      rw [← hO] at hv1
      have HO := Lib.hid hO
      have V2 := Lib.hid (V1.out.grow ((Ext.refl _).alloc (.cells #[.int .i64 i] 2)))
      have HR1 : Hid (IntAt (W1.alloc (.cells #[.int .i64 i] 2)) (some ⟨W1.heap.size, 0, none⟩) [(i : Int)]) := rows_int _ _ rfl
      have hz2 : g + 1 ≤ (W1.alloc (.cells #[.int .i64 i] 2)).heap.size := V2.out.srch.obj.blk.lt
      clear hO
      obtain ⟨hgl, c0, c1, c2, c3, c4, c5, c6, c7, c8, c9⟩ := V1.out.cells
      try dsimp only
      repeat (first | (at_builtin; refine Hid.out ?_) | go_values | go_skip | go_guarded | go_step | go_upon | go_back)
      refine Lib.hid ?_
      clear V1 hgl c0 c1 c2 c3 c4 c5 c6 c7 c8 c9
      refine wpList_pushAt elInt oneInt rfl _ _ rfl (g + 1) _ set (by rfl) V2.out.srch.lst _ 1 1 [(i : Int)] rfl (by rfl) HR1.out (by omega) (by omega) hz2 ?_
      intro v' w3 HL hg3 hat3
      rw [← HO.out] at HL
      obtain ⟨av2, cv2, rfl, hcv2, -, -, -⟩ := HL.shape
      have V4 := Lib.hid (V2.out.pushed HL hg3 hat3 hcv2)
      obtain ⟨m0, m1, m2⟩ := V2.out.mid hg3
      clear V2 HR1 HL hg3 hat3 hz2
      obtain ⟨hgl, c0, c1, c2, c3, c4, c5, c6, c7, c8, c9⟩ := V4.out.cells
      obtain ⟨hkb, f0⟩ := HF.out _ V4.out.srch.ext
      have HR := Lib.hid (hv1.out s1 _ av2 cv2 ab cb V4.out)
      go_wp2_with fail
      refine HR.out.mono ?_
      rintro e w7 ⟨rfl, av7, cv7, ab7, cb7, hV7⟩
      have V7 := Lib.hid hV7
      clear hV7 HR V4 m0 m1 m2 hgl c0 c1 c2 c3 c4 c5 c6 c7 c8 c9 hkb f0
      go_wp2_with fail
      obtain ⟨hgl, c0, c1, c2, c3, c4, c5, c6, c7, c8, c9⟩ := V7.out.cells
      rw [hOl.out] at c4
      refine Grow.region_tail 14 [0, 1, 2, 3, 4, 5, 6, 7, 8, 9, 10, 11, 12, 13] [] (by kernel_rfl) (by kernel_rfl) ?_
      simp only [Grow.pick, Grow.pickB, List.getElem?_cons_succ, List.getElem?_cons_zero, List.drop_succ_cons, List.drop_zero]
      repeat
        refine Grow.heads_step (fun K' hK => ⟨rfl, ?_⟩)
        apply Exists.intro
        apply And.intro
        · intro w' hw'
          obtain ⟨x', rfl⟩ := hw'
          go_simp
          first | done | rfl | (rw [if_neg (by omega)]; done) | (rw [if_neg (by omega)]; rfl) | (rw [if_pos (by omega)]; done) | (rw [if_pos (by omega)]; rfl)
        go_simp
        refine hK _ ?_
        clear hK K'
      refine Grow.heads_step (fun K' hK => ⟨rfl, .slice av7 set.length cv7, ?_, ?_⟩)
      · intro w' hw'
        obtain ⟨x', rfl⟩ := hw'
        go_simp
        rw [wrap_16 hlen, if_pos ⟨by omega, by have := V7.out.capv; rw [hOl.out] at this; omega⟩, Int.toNat_natCast]
      refine hK _ ?_
      clear hK K'
      repeat
        refine Grow.heads_step (fun K' hK => ⟨rfl, ?_⟩)
        apply Exists.intro
        apply And.intro
        · intro w' hw'
          obtain ⟨x', rfl⟩ := hw'
          go_simp
          first | done | rfl | (rw [if_neg (by omega)]; done) | (rw [if_neg (by omega)]; rfl) | (rw [if_pos (by omega)]; done) | (rw [if_pos (by omega)]; rfl)
        go_simp
        refine hK _ ?_
        clear hK K'
      refine Grow.heads_nil ?_
      intro w20 e20
      refine Grow.seq_nil ?_
      have V9 := Lib.hid ((V7.out.grow e20).cut HO.out)
      have fz5 := (V7.out.grow e20).frozen 4
      clear hgl c0 c1 c2 c3 c4 c5 c6 c7 c8 c9
      obtain ⟨hgl, c0, c1, c2, c3, c4, c5, c6, c7, c8, c9⟩ := (V7.out.grow e20).cells
      clear e20 V7
      have HL := Lib.hid (nodeQ_any _ l.length cap _ cc snow least bud w0 g (f1 s1) set _ _ _ _ _ V9.out)
      rcases Int.lt_or_le 0 ((f1 s1)).left with hs9 | hs9
      · have hu : Hid (nodeP f2 (f1 s1) = f2 { (f1 s1) with left := ((f1 s1)).left - 1 }) := nodeP_go (by omega)
        rw [if_pos hs9, decide_eq_true hs9] at HL
        go_wp2_with fail
        refine HL.out.mono ?_
        rintro e w9 ⟨rfl, hV9⟩
        have HR := Lib.hid (hv2.out _ _ _ _ _ _ hV9)
        clear hV9 HL hs9
        go_wp2_with fail
        refine HR.out.mono ?_
        rintro e w10 ⟨rfl, av9, cv9, ab9, cb9, hV10⟩
        have V10 := Lib.hid hV10
        clear hV10 HR
        go_wp2_with fail
        (try simp only [Exit.inBlock, Exit.then])
        first | refine bodyPost_ret (results_none rfl _ _ _) rfl ?_ | refine bodyPost_end (results_none rfl _ _ _) rfl ?_
        exact ⟨rfl, av9, cv9, ab9, cb9, by first | (rw [hu.out]; exact V10.out) | (rw [← hs1h.out, hu.out]; exact V10.out)⟩
      · have hu : Hid (nodeP f2 (f1 s1) = { (f1 s1) with left := -1 }) := nodeP_out hs9
        rw [if_neg (by omega), decide_eq_false (by omega)] at HL
        go_wp2_with fail
        refine HL.out.mono ?_
        rintro e w9 ⟨rfl, hV9⟩
        have V10 := Lib.hid hV9
        clear hV9 HL hs9
        go_wp2_with fail
        (try simp only [Exit.inBlock, Exit.then])
        first | refine bodyPost_ret (results_none rfl _ _ _) rfl ?_ | refine bodyPost_end (results_none rfl _ _ _) rfl ?_
        exact ⟨rfl, _, _, _, _, by first | (rw [hu.out]; exact V10.out) | (rw [← hs1h.out, hu.out]; exact V10.out)⟩
    · have hu1 : Hid (nodeP f1 s = { s with left := -1 }) := nodeP_out hs1
      rw [if_neg (by omega), decide_eq_false (by omega)] at HL
      rw [hu1.out]
      go_enter Try.func19, Try.ntmps19
      go_wp2_with fail
      refine HL.out.mono ?_
      rintro e W1 ⟨rfl, hV1⟩
      have V1 := Lib.hid hV1
      obtain ⟨s1, hs1e⟩ : ∃ s1 : Ps, s1 = { s with left := -1 } := ⟨_, rfl⟩
      rw [← hs1e] at V1
      have hs1h := Lib.hid hs1e
      clear hV1 HL hs1 hs1e V0 hgl c0 c1 c2 c3 c4 c5 c6 c7 c8 c9 hkb f0 hu1 hv1
      obtain ⟨hgl, c0, c1, c2, c3, c4, c5, c6, c7, c8, c9⟩ := V1.out.cells
      have HL := Lib.hid (nodeQ_any _ l.length cap _ cc snow least bud w0 g s1 set _ _ _ _ _ V1.out)
      rcases Int.lt_or_le 0 (s1).left with hs9 | hs9
      · have hu : Hid (nodeP f2 s1 = f2 { s1 with left := (s1).left - 1 }) := nodeP_go (by omega)
        rw [if_pos hs9, decide_eq_true hs9] at HL
        go_wp2_with fail
        refine HL.out.mono ?_
        rintro e w9 ⟨rfl, hV9⟩
        have HR := Lib.hid (hv2.out _ _ _ _ _ _ hV9)
        clear hV9 HL hs9
        go_wp2_with fail
        refine HR.out.mono ?_
        rintro e w10 ⟨rfl, av9, cv9, ab9, cb9, hV10⟩
        have V10 := Lib.hid hV10
        clear hV10 HR
        go_wp2_with fail
        (try simp only [Exit.inBlock, Exit.then])
        first | refine bodyPost_ret (results_none rfl _ _ _) rfl ?_ | refine bodyPost_end (results_none rfl _ _ _) rfl ?_
        exact ⟨rfl, av9, cv9, ab9, cb9, by first | (rw [hu.out]; exact V10.out) | (rw [← hs1h.out, hu.out]; exact V10.out)⟩
      · have hu : Hid (nodeP f2 s1 = { s1 with left := -1 }) := nodeP_out hs9
        rw [if_neg (by omega), decide_eq_false (by omega)] at HL
        go_wp2_with fail
        refine HL.out.mono ?_
        rintro e w9 ⟨rfl, hV9⟩
        have V10 := Lib.hid hV9
        clear hV9 HL hs9
        go_wp2_with fail
        (try simp only [Exit.inBlock, Exit.then])
        first | refine bodyPost_ret (results_none rfl _ _ _) rfl ?_ | refine bodyPost_end (results_none rfl _ _ _) rfl ?_
        exact ⟨rfl, _, _, _, _, by first | (rw [hu.out]; exact V10.out) | (rw [← hs1h.out, hu.out]; exact V10.out)⟩
  · rw [if_neg hcm]
    clear hv1
    go_enter Try.func19, Try.ntmps19
    have HL := Lib.hid (nodeQ_any _ l.length cap _ cc snow least bud w0 g s set _ _ _ _ _ V0.out)
    rcases Int.lt_or_le 0 (s).left with hs9 | hs9
    · have hu : Hid (nodeP f2 s = f2 { s with left := (s).left - 1 }) := nodeP_go (by omega)
      rw [if_pos hs9, decide_eq_true hs9] at HL
      go_wp2_with fail
      refine HL.out.mono ?_
      rintro e w9 ⟨rfl, hV9⟩
      have HR := Lib.hid (hv2.out _ _ _ _ _ _ hV9)
      clear hV9 HL hs9
      go_wp2_with fail
      refine HR.out.mono ?_
      rintro e w10 ⟨rfl, av9, cv9, ab9, cb9, hV10⟩
      have V10 := Lib.hid hV10
      clear hV10 HR
      go_wp2_with fail
      (try simp only [Exit.inBlock, Exit.then])
      first | refine bodyPost_ret (results_none rfl _ _ _) rfl ?_ | refine bodyPost_end (results_none rfl _ _ _) rfl ?_
      exact ⟨rfl, av9, cv9, ab9, cb9, by first | (rw [hu.out]; exact V10.out) | (rw [← hs1h.out, hu.out]; exact V10.out)⟩
    · have hu : Hid (nodeP f2 s = { s with left := -1 }) := nodeP_out hs9
      rw [if_neg (by omega), decide_eq_false (by omega)] at HL
      go_wp2_with fail
      refine HL.out.mono ?_
      rintro e w9 ⟨rfl, hV9⟩
      have V10 := Lib.hid hV9
      clear hV9 HL hs9
      go_wp2_with fail
      (try simp only [Exit.inBlock, Exit.then])
      first | refine bodyPost_ret (results_none rfl _ _ _) rfl ?_ | refine bodyPost_end (results_none rfl _ _ _) rfl ?_
      exact ⟨rfl, _, _, _, _, by first | (rw [hu.out]; exact V10.out) | (rw [← hs1h.out, hu.out]; exact V10.out)⟩
theorem runQ_any (l : List Stand) (costs : List Int) (hcl : costs.length = l.length) (a : Option Addr) (cap : Nat) (ca : Option Addr) (cc : Nat) (snow least bud : Int) (w0 : World) (H : StandAt w0 a l) (H2 : IntAt w0 ca costs) (hn : l.length ≤ 16) (hs0 : 0 ≤ snow) (hs1 : snow ≤ 2000) (hfew : ∀ k, k < l.length → fewS (nth l k))
    (hcs : ∀ k, k < costs.length → 0 ≤ nth costs k ∧ nth costs k ≤ 1000000) (g : Nat) :
    ∀ (d i : Nat), i + d = l.length → ∀ (money : Int), 0 ≤ money → money ≤ 100000000 → ∀ (set : List Int), set.length ≤ i → ∀ (s : Ps) (W : World) (av : Option Addr) (cv : Nat) (ab : Option Addr) (cb : Nat), VQ w0 W a l.length cap ca cc snow least bud g s set av cv ab cb →
      Calls Try.prog 19 #[.pointer (some ⟨g, 0, none⟩), .int .i64 (i : Int), .int .i64 money] W (VisQ w0 a l.length cap ca cc snow least bud g (visP l costs snow least d i money set s) set)
  | 0, i, hid, money, _, _, set, hset, s, W, av, cv, ab, cb, hV => by
    obtain rfl : i = l.length := by omega
    exact runQ_leaf l a cap ca cc snow least bud w0 H hn hs0 hs1 hfew g money set hset s W av cv ab cb hV
  | d + 1, i, hid, money, hy0, hy1, set, hset, s, W, av, cv, ab, cb, hV => by
    obtain ⟨q0, q1⟩ := hcs i (by omega)
    exact runQ_step l costs hcl a cap ca cc snow least bud w0 H2 hn g i d hid q0 q1 money hy0 hy1 set hset
      (visP l costs snow least d (i + 1) (money - nth costs i) (set ++ [(i : Int)])) (visP l costs snow least d (i + 1) money set)
      (fun s W av cv ab cb hV hcm => by
        have h := runQ_any l costs hcl a cap ca cc snow least bud w0 H H2 hn hs0 hs1 hfew hcs g d (i + 1) (by omega) (money - nth costs i) (by omega) (by omega) (set ++ [(i : Int)]) (by rw [List.length_append]; simp only [List.length_cons, List.length_nil]; omega) s W av cv ab cb hV
        rwa [Int.natCast_add] at h)
      (fun s W av cv ab cb hV => by
        have h := runQ_any l costs hcl a cap ca cc snow least bud w0 H H2 hn hs0 hs1 hfew hcs g d (i + 1) (by omega) money hy0 hy1 set (by omega) s W av cv ab cb hV
        rwa [Int.natCast_add] at h)
      s W av cv ab cb hV
end Go.Proofs.Ytmkmmenkjbmppaa
