/- Chapter 22: the ends of a plan of shots, as the reference reckons them; the laws' two functions PlanEnds and SlackOf. -/
import Derived.Test.YtpmbaemfpkcjnaaPlans
namespace Go.Proofs.Ytpmbaemfpkcjnaa
open Go.RowKit
def finsV (l : List Shot) (ord : List Int) (crews : Nat) : List Int := (worksV l ord crews).map (·.fin)
theorem l00Max_any (a b : Int) (w : World) : Calls Try.prog 69 #[.int .i64 a, .int .i64 b] w fun e w' => e = .returned (.int .i64 (max a b)) ∧ w' = w := by
  rcases Int.lt_or_le b a with h | h
  · have hv : Hid (a = max a b) := by show _ = _; omega
    go_enter Try.func69, Try.ntmps69
    go_wp2
    go_ret
    exact ⟨ret_int hv.out, rfl⟩
  · have hv : Hid (b = max a b) := by show _ = _; omega
    go_enter Try.func69, Try.ntmps69
    go_wp2
    go_ret
    exact ⟨ret_int hv.out, rfl⟩
set_option maxRecDepth 100000 in
set_option maxHeartbeats 2000000 in
theorem l22Ask_any (a : Option Addr) (cap : Nat) (l : List Shot) (a2 : Option Addr) (cap2 : Nat) (ord : List Int) (c : Int) (w : World) (H : ShotAt w a l) (hsz : ∀ k, k < l.length → (nth l k).Small) (hn : l.length ≤ 1048576) (H2 : IntAt w a2 ord) (hlen : ord.length ≤ 1048576) (hcap : ord.length ≤ cap2) :
    Gives Try.prog 44 #[.slice a l.length cap, .slice a2 ord.length cap2, .int .i64 c] w (.int .i64 (askS l ord c)) := by
  unfold Gives
  have HA := Lib.hid H
  have HI := Lib.hid H2
  have HZ := Lib.hid hsz
  clear H H2 hsz
  have HV := Lib.hid fun (w' : World) (he : Ext w w') => l22Ok_any a cap l w' (HA.out.ext he) HZ.out hn
  have HO := Lib.hid fun (w' : World) (he : Ext w w') => l22Order_any a l.length cap a2 cap2 ord w' (HI.out.ext he) (by omega) (by omega) hcap
  have ha := Lib.hid (show askS l ord c = if shotList l = true then (if orderB l.length ord = true then (if inB c 1 3 = true then 0 else 2) else 7) else 1 from rfl)
  rcases and4 (shotList l) (orderB l.length ord) (inB c 1 3) with h1 | ⟨h1, h2⟩ | ⟨h1, h2, h3⟩ | ⟨h1, h2, h3⟩
  all_goals
    rw [h1] at HV
    try rw [h2] at HO
    go_enter Try.func44, Try.ntmps44
    go_wp2_with (first | (go_at_call 66; refine (HV.out _ (by repeat (first | exact Ext.refl _ | refine Ext.lift ?_ _ | refine Ext.alloc ?_ _))).mono ?_; rintro e w' ⟨rfl, y, rfl⟩) | (go_at_call 67; refine (HO.out _ (by repeat (first | exact Ext.refl _ | refine Ext.lift ?_ _ | refine Ext.alloc ?_ _))).mono ?_; rintro e w' ⟨rfl, z, rfl⟩) | (go_at_call 68; refine (l22Crews_any _ _).mono ?_; rintro e w' ⟨rfl, rfl⟩; rw [h3]))
    go_ret
    exact ⟨ret_int (by rw [ha.out]; simp [*]), (by repeat (first | exact Ext.refl _ | refine Ext.lift ?_ _ | refine Ext.alloc ?_ _))⟩
set_option maxRecDepth 100000 in
set_option maxHeartbeats 8000000 in
theorem l22Ends_any (a : Option Addr) (cap : Nat) (l : List Shot) (a2 : Option Addr) (cap2 : Nat) (ord : List Int) (crews : Nat) (w : World) (H : ShotAt w a l) (H2 : IntAt w a2 ord) (hok : ShotsOk l ord) (hc0 : 0 < crews) (hc1 : crews ≤ 3) (hlen : ord.length ≤ 1048576) :
    Calls Try.prog 45 #[.slice a l.length cap, .slice a2 ord.length cap2, .int .i64 (crews : Int)] w (OutS 2 1 (fun (x : Int) (_ : Nat) => Value.int .i64 x) w (finsV l ord crews) [.bool (worksB l ord crews)]) := by
  have HA := Lib.hid H
  have HI := Lib.hid H2
  have HK := Lib.hid hok
  clear H H2 hok
  have hmk := run_make_blk (P := Try.prog) (t := 25) Try.underlying25 (by kernel_rfl : (Try.prog.info? 2).map (fun i => (i.zero.map Value.cells, i.size, i.bytes)) = some (some #[.int .i64 0], 1, 8)) .i64 .i64 crews (by omega) (by omega) w
  have hB := Blk.new w (madeCells #[.int .i64 0] (crews * 1)) 2
  rw [size_madeCells] at hB
  rw [Nat.mul_one] at hmk hB
  have hR : IntAt (w.alloc (.cells (madeCells #[.int .i64 0] crews) 2)) (some ⟨w.heap.size, 0, none⟩) (List.replicate crews 0) :=
    IntAt.of (by rw [size_new]; omega) fun k hk => by
      rw [List.length_replicate] at hk
      rw [Nat.zero_add, cell_new, nth_replicate hk, ← Array.getElem?_toList, toList_madeCells_one]; simp [hk]
  have hE := (Ext.refl w).alloc (.cells (madeCells #[.int .i64 0] crews) 2)
  obtain ⟨g, hg⟩ : ∃ g, g = w.heap.size := ⟨_, rfl⟩
  have hg0 : w.heap.size ≤ g := by omega
  obtain ⟨W0, hW0⟩ : ∃ W0, W0 = w.alloc (.cells (madeCells #[.int .i64 0] crews) 2) := ⟨_, rfl⟩
  have hs0 : W0.heap.size = g + 1 := by rw [hW0, size_new, hg]
  have hL : Lst 2 1 (fun (x : Int) (_ : Nat) => Value.int .i64 x) (W0.alloc (.cells #[] 2)) (g + 1) (.slice (some ⟨W0.heap.size, 0, none⟩) 0 0) [] := Lst.new _ _ (by omega)
  go_enter Try.func45, Try.ntmps45
  go_wp2_with fail
  clear hmk
  rw [← hW0] at hB hR hE ⊢
  rw [← hg] at hB hR ⊢
  have hE1 := hE.alloc (.cells #[] 2)
  have hx1 := (Ext.refl W0).alloc (.cells #[] 2)
  have HB0 := Lib.hid (hB.ext hx1)
  have HR0 := Lib.hid (hR.ext hx1)
  have HL0 := Lib.hid hL
  have HG := Lib.hid hg
  have HW0 := Lib.hid hW0
  clear hB hR hL hx1 hE hg hW0
  try rw [hs0]
  try rw [hs0] at HL0
  generalize W0.alloc (.cells #[] 2) = W at *
  clear hs0 HW0 W0
  go_loopw [9, 10] (fun o i wr => ∃ (k : Nat) (p : Plan), k ≤ ord.length ∧ i = .int .i64 k ∧ Hid (planS l ord crews k = some p) ∧ Hid (Lst 2 1 (fun (x : Int) (_ : Nat) => Value.int .i64 x) wr (g + 1) o (p.works.map (·.fin))) ∧ Hid (Blk wr g 2 crews) ∧ Hid (IntAt wr (some ⟨g, 0, none⟩) p.free) ∧ Ext w wr) (fun _ i _ => ord.length - (intOf i).toNat)
  case atStart => exact ⟨0, ⟨List.replicate crews 0, []⟩, Nat.zero_le _, rfl, rfl, HL0.out, HB0.out, HR0.out, hE1⟩
  case round =>
    obtain ⟨k, p, hk, rfl, hp, HL, HB, HF, he⟩ := hrel
    clear HL0 HB0 HR0 hE1
    have ok := planS_ok hc0 HK.out hk hp.out
    have hfl : Hid (p.free.length = crews) := ok.len
    have hwl : Hid (p.works.length = k) := ok.wlen
    by_cases hlt : k < ord.length
    · obtain ⟨b2, off2, rfl⟩ := HI.out.base hlt
      obtain ⟨hb2, d0⟩ := IntAt.at (HI.out.ext he) k hlt
      obtain ⟨i0, i1⟩ := HK.out.ord k hlt
      obtain ⟨m, hm⟩ := Int.eq_ofNat_of_zero_le i0
      have hml : m < l.length := by omega
      obtain ⟨b, off, rfl⟩ := HA.out.base hml
      have hpk : Hid (pickS l ord k = nth l m) := by show _ = _; unfold pickS; rw [hm]; rfl
      have hsb := shotB_bd (HK.out.shot m hml)
      obtain ⟨-, s1, s2, s3, s4, s5⟩ := hsb
      rw [hm] at d0
      have hl0 := least_lt (l := p.free) (by rw [hfl.out]; exact hc0)
      have hfb := ok.free (least p.free) (by rw [← hfl.out]; exact hl0)
      obtain ⟨G, hG⟩ : ∃ G, G = least p.free := ⟨_, rfl⟩
      have hGl : G < crews := by rw [hG, ← hfl.out]; exact hl0
      rw [← hG] at hfb
      have hGG := Lib.hid hG
      obtain ⟨fb1, fb2⟩ := hfb
      have hmm := Lib.hid hm
      clear ok i0 i1 hm hl0 hG
      obtain ⟨mx, hmx⟩ : ∃ mx, mx = max (nth p.free G) (nth l m).frm := ⟨_, rfl⟩
      have hmb : 0 ≤ mx ∧ mx ≤ 1440 := by omega
      obtain ⟨mx0, mx1⟩ := hmb
      have hstep : Hid (stepP (pickS l ord k) p = if mx + (nth l m).mins ≤ (nth l m).til then some ⟨p.free.set G (mx + (nth l m).mins), p.works ++ [⟨mx, mx + (nth l m).mins⟩]⟩ else none) := by
        show _ = _; rw [hpk.out, hmx, hGG.out]; rfl
      have HMX := Lib.hid hmx
      clear hmx
      go_wp2_with fail
      obtain ⟨wo, hwo⟩ : ∃ wo : World, wo = wr := ⟨_, rfl⟩
      subst hwo
      have he0 := Lib.hid he
      go_loopw [11, 12] (fun q i wr => ∃ (j : Nat), j + 1 ≤ crews ∧ i = .int .i64 ((j : Int) + 1) ∧ q = .int .i64 ((argm p.free j : Nat) : Int) ∧ Ext wo wr) (fun _ i _ => crews - (intOf i).toNat)
      case atStart => exact ⟨0, hc0, rfl, rfl, Ext.refl _⟩
      case round =>
        obtain ⟨j, hj, rfl, rfl, hx⟩ := hrel
        have hgb := (HB.out.ext hx).lt
        have haj := argm_le p.free j
        have a0 : wr.cell? ⟨g, argm p.free j, none⟩ = some (.int .i64 (nth p.free (argm p.free j))) := by
          have := (IntAt.at (HF.out.ext hx) (argm p.free j) (by rw [hfl.out]; omega)).2; rwa [Nat.zero_add] at this
        by_cases hlt2 : j + 1 < crews
        · have a1 : wr.cell? ⟨g, j + 1, none⟩ = some (.int .i64 (nth p.free (j + 1))) := by
            have := (IntAt.at (HF.out.ext hx) (j + 1) (by rw [hfl.out]; exact hlt2)).2; rwa [Nat.zero_add] at this
          rcases Int.lt_or_le (nth p.free (j + 1)) (nth p.free (argm p.free j)) with hc | hc
          · have hn : Hid (argm p.free (j + 1) = j + 1) := by show _ = _; simp only [argm]; rw [if_pos hc]
            go_wp2_with fail
            refine region_quiet (by kernel_rfl) (by kernel_rfl) ?_
            repeat (any_goals (first | go_big_quiet_step (fail) | quiet_step (fail)))
            refine wpQuiet_nil ?_
            intro _ hw'
            obtain ⟨y, hw''⟩ := hw'
            subst hw''
            go_wp2_with fail
            go_roundw
            case rel => exact ⟨j + 1, by omega, by go_num, by rw [hn.out]; go_num, hx.lift y⟩
            case measure => simp [intOf]; omega
          · have hn : Hid (argm p.free (j + 1) = argm p.free j) := by show _ = _; simp only [argm]; rw [if_neg (by omega)]
            go_wp2_with fail
            refine region_quiet (by kernel_rfl) (by kernel_rfl) ?_
            repeat (any_goals (first | go_big_quiet_step (fail) | quiet_step (fail)))
            refine wpQuiet_nil ?_
            intro _ hw'
            obtain ⟨y, hw''⟩ := hw'
            subst hw''
            go_wp2_with fail
            go_roundw
            case rel => exact ⟨j + 1, by omega, by go_num, by rw [hn.out], hx.lift y⟩
            case measure => simp [intOf]; omega
        · have hGj : argm p.free j = G := by rw [hGG.out]; unfold least; rw [hfl.out, show crews - 1 = j by omega]
          rw [hGj] at a0 haj ⊢
          have he2 := Lib.hid (he0.out.trans hx)
          have HB2 := Lib.hid (HB.out.ext hx)
          have HF2 := Lib.hid (HF.out.ext hx)
          have HL2 := Lib.hid (HL.out.ext hx)
          obtain ⟨hb, c0, c1, c2, c3, c4⟩ := Shot.at (HA.out.ext he2.out) m hml
          have e0 := (IntAt.at (HI.out.ext he2.out) k hlt).2
          rw [hmm.out] at e0
          have f0 := a0
          have fz := HB2.out.frozen G
          clear hGj HL HB HF he0 hx a0
          go_wp2_with fail
          refine Grow.region_tail 17 [0, 1, 2, 3, 4, 5, 6, 7, 8, 9, 10, 11, 12, 13, 14, 15, 16] [] (by kernel_rfl) (by kernel_rfl) ?_
          simp only [Grow.pick, Grow.pickB, List.getElem?_cons_succ, List.getElem?_cons_zero, List.drop_succ_cons, List.drop_zero]
          repeat
            refine Grow.heads_step (fun K' hK => ⟨rfl, ?_⟩)
            apply Exists.intro
            apply And.intro
            · intro w' hw'
              obtain ⟨x', rfl⟩ := hw'
              go_simp
              first | done | rfl | (rw [if_neg (by omega)]; done) | (rw [if_neg (by omega)]; rfl) | (rw [if_pos (by omega)]; done) | (rw [if_pos (by omega)]; rfl)
            go_simp
            refine hK _ ?_
            clear hK K'
          refine Grow.heads_call _ _ _ (fun K' hK => ⟨rfl, ?_, (fun w' h' => Gives.eq (Gives.same (l00Max_any (nth p.free G) (nth l m).frm w')) (show Value.int .i64 _ = Value.int .i64 mx by rw [HMX.out])), ?_⟩)
          · intro w' hw'
            obtain ⟨x', rfl⟩ := hw'
            go_simp
            first | done | rfl
          go_simp
          refine hK _ ?_
          clear hK K'
          repeat
            refine Grow.heads_step (fun K' hK => ⟨rfl, ?_⟩)
            apply Exists.intro
            apply And.intro
            · intro w' hw'
              obtain ⟨x', rfl⟩ := hw'
              go_simp
              first | done | rfl | (rw [if_neg (by omega)]; done) | (rw [if_neg (by omega)]; rfl) | (rw [if_pos (by omega)]; done) | (rw [if_pos (by omega)]; rfl)
            go_simp
            refine hK _ ?_
            clear hK K'
          refine Grow.heads_nil ?_
          intro w1 e1
          refine Grow.seq_nil ?_
          have B1 := HB2.out.ext e1
          have F1 := HF2.out.ext e1
          have T2 := Lib.hid ((he2.out.trans e1).setCell (p := ⟨g, G, none⟩) hg0 (.int .i64 (mx + (nth l m).mins)))
          have B2 := Lib.hid (B1.set g G (.int .i64 (mx + (nth l m).mins)))
          have F2 := Lib.hid (IntAt.set (mx + (nth l m).mins) F1 B1 (by rw [hfl.out]; exact Nat.le_refl _) (by rw [hfl.out]; exact hGl))
          have L2 := Lib.hid ((HL2.out.ext e1).set (Nat.lt_succ_self g) (o := G) (.int .i64 (mx + (nth l m).mins)))
          have q0 := e1.cell f0
          have qz := B1.frozen G
          have qg := B1.lt
          clear HB2 HF2 HL2 c0 c1 c2 c3 c4 hb e0 f0 fz hgb d0 hb2 B1 F1 e1
          go_wp2_with fail
          generalize w1.setCell ⟨g, G, none⟩ (.int .i64 (mx + (nth l m).mins)) = W2 at *
          clear q0 qz qg
          obtain ⟨hb, c0, c1, c2, c3, c4⟩ := Shot.at (HA.out.ext T2.out) m hml
          have f0 : W2.cell? ⟨g, G, none⟩ = some (.int .i64 (mx + (nth l m).mins)) := by
            have := (IntAt.at F2.out G (by rw [List.length_set, hfl.out]; exact hGl)).2
            rwa [Nat.zero_add, nth_set_same _ _ _ (by rw [hfl.out]; exact hGl)] at this
          have hgl := B2.out.lt
          by_cases hu : mx + (nth l m).mins ≤ (nth l m).til
          · have hnx : Hid (planS l ord crews (k + 1) = some ⟨p.free.set G (mx + (nth l m).mins), p.works ++ [⟨mx, mx + (nth l m).mins⟩]⟩) := planS_next hp.out (by rw [hstep.out, if_pos hu])
            have hmap : Hid (p.works.map (·.fin) ++ [mx + (nth l m).mins] = (p.works ++ [(⟨mx, mx + (nth l m).mins⟩ : Work)]).map (·.fin)) := by show _ = _; simp
            have hml2 : Hid ((p.works.map (·.fin)).length = k) := by show _ = _; rw [List.length_map]; exact hwl.out
            clear hp hstep
            go_wp2_with fail
            refine region_quiet (by kernel_rfl) (by kernel_rfl) ?_
            repeat (any_goals (first | go_big_quiet_step (fail) | quiet_step (fail)))
            refine wpQuiet_nil ?_
            intro _ hw'
            obtain ⟨y, hw''⟩ := hw'
            subst hw''
            have HRn : Hid (RowsAt 1 (fun (x : Int) (_ : Nat) => Value.int .i64 x) ((lift W2 y).alloc (.cells #[.int .i64 (mx + (nth l m).mins)] 2)) (some ⟨W2.heap.size + y.blocks.size, 0, none⟩) [mx + (nth l m).mins]) := by
              show RowsAt _ _ _ _ _; rw [← lift_size]; exact rows_new _ _ _ (fun j hj => by obtain rfl : j = 0 := by omega
                                                                                            rfl)
            have hE4 := (Ext.refl W2).lift y |>.alloc (.cells #[.int .i64 (mx + (nth l m).mins)] 2)
            have L3 := Lib.hid (L2.out.ext hE4)
            have B3 := Lib.hid (B2.out.ext hE4)
            have F3 := Lib.hid (F2.out.ext hE4)
            have T3 := Lib.hid (T2.out.trans hE4)
            have hz4 := hE4.size
            have hne : Hid (∀ v, Lst 2 1 (fun (x : Int) (_ : Nat) => Value.int .i64 x) W2 (g + 1) v (p.works.map (·.fin)) → v.ownBlock ≠ some g) := fun v hv => hv.row_ne (Nat.lt_succ_self g)
            have hne2 := Lib.hid (hne.out _ L2.out)
            clear hE4 hne L2 B2 F2 T2
            go_wp2_with (at_builtin; refine wpList_pushL elInt oneInt rfl _ _ rfl (g + 1) _ (p.works.map (·.fin)) (by rfl) L3.out _ 1 1 [mx + (nth l m).mins] rfl (by rfl) HRn.out (by rw [hml2.out]; omega) (by rw [hml2.out]; omega) (by omega) ?_; intro v' w3 HL3 hs3 hg3)
            rw [hmap.out] at HL3
            have HL4 := Lib.hid HL3
            have B4 := Lib.hid (B3.out.grown hg3 hne2.out)
            have F4 := Lib.hid (F3.out.grown hg3 hne2.out)
            have T4 := Lib.hid (hs3.ext T3.out (by omega))
            clear HL3 hs3 hg3 B3 F3 T3 L3
            go_wp2_with fail
            go_roundw
            case rel => exact ⟨k + 1, _, by omega, by go_num, hnx.out, HL4.out, B4.out, F4.out, T4.out⟩
            case measure => simp [intOf]; omega
          · have hv : Hid (worksB l ord crews = false ∧ finsV l ord crews = []) := by
              have := works_none (planS_fail hlt hp.out (by rw [hstep.out, if_neg hu]))
              exact ⟨this.1, by unfold finsV; rw [this.2]; rfl⟩
            clear hp hstep
            go_wp2_with fail
            refine region_quiet (by kernel_rfl) (by kernel_rfl) ?_
            repeat (any_goals (first | go_big_quiet_step (fail) | quiet_step (fail)))
            refine wpQuiet_nil ?_
            intro _ hw'
            obtain ⟨y, hw''⟩ := hw'
            subst hw''
            go_wp2_with fail
            go_ret2
            rw [hv.out.1, hv.out.2]
            exact OutS.nil none 0 rfl (T2.out.lift y)
    · obtain rfl : k = ord.length := by omega
      have hv := Lib.hid (works_some hp.out)
      have hv2 : Hid (finsV l ord crews = p.works.map (·.fin)) := by show _ = _; unfold finsV; rw [hv.out.2]
      obtain ⟨ao, co, rfl, hco, hcm, RO, OO⟩ := HL.out.shape
      go_wp2_with fail
      go_ret2
      rw [hv.out.1, hv2.out]
      exact OutS.mk (a := ao) (cap := co) rfl hco (OO.mono (by omega)) RO he
def finsP (l : List Shot) (ord : List Int) (c : Int) : List Int := (planV l ord c).map (·.fin)
theorem works_no {l : List Shot} {ord : List Int} {k : Nat} (h4 : worksB l ord k = false) : worksV l ord k = [] := by
  unfold worksB at h4; unfold worksV; cases h5 : planS l ord k ord.length with
  | none => rfl
  | some p => rw [h5] at h4; cases h4
set_option maxRecDepth 100000 in
set_option maxHeartbeats 4000000 in
theorem l22Plan_any (a : Option Addr) (cap : Nat) (l : List Shot) (a2 : Option Addr) (cap2 : Nat) (ord : List Int) (c : Int) (w : World) (H : ShotAt w a l) (hsz : ∀ k, k < l.length → (nth l k).Small) (hn : l.length ≤ 1048576) (H2 : IntAt w a2 ord) (hlen : ord.length ≤ 1048576) (hcap : ord.length ≤ cap2) :
    Calls Try.prog 29 #[.slice a l.length cap, .slice a2 ord.length cap2, .int .i64 c] w (OutS 2 1 (fun (x : Int) (_ : Nat) => Value.int .i64 x) w (finsP l ord c) [.int .i64 (planC l ord c)]) := by
  have HA := Lib.hid H
  have HI := Lib.hid H2
  have HQ := Lib.hid (l22Ask_any a cap l a2 cap2 ord c w H hsz hn H2 hlen hcap)
  clear H H2 hsz
  cases h0 : (askS l ord c == 0)
  · have hne := beq_eq_false_iff_ne.1 h0
    have hv := Lib.hid (planC_no hne)
    have hv2 : Hid (finsP l ord c = []) := by show _ = _; unfold finsP; rw [hv.out.2]; rfl
    have h0' : (askS l ord c != 0) = true := by rw [bne, h0]; rfl
    clear h0 hne
    rw [hv.out.1, hv2.out]
    go_enter Try.func29, Try.ntmps29
    go_wp2_with fail
    refine HQ.out.mono ?_
    rintro e w' ⟨rfl, y, rfl⟩
    go_wp2_with fail
    go_ret2
    exact OutS.nil none 0 rfl (by repeat (first | exact Ext.refl _ | refine Ext.lift ?_ _ | refine Ext.alloc ?_ _))
  · have ha := beq_iff_eq.1 h0
    have h3 := (askS_0 ha).2.2
    obtain ⟨k, hk⟩ := Int.eq_ofNat_of_zero_le (show 0 ≤ c by have := inB_iff.1 h3; omega)
    subst hk
    have hc := inB_iff.1 h3
    have HW := Lib.hid fun (w' : World) (he : Ext w w') => l22Ends_any a cap l a2 cap2 ord k w' (HA.out.ext he) (HI.out.ext he) (ShotsOk.of_ask ha) (by omega) (by omega) hlen
    have h0' : (askS l ord (k : Int) != 0) = false := by rw [bne, h0]; rfl
    cases h4 : worksB l ord k
    · have hv := Lib.hid (planC_6 ha h4)
      have hv2 : Hid (finsP l ord (k : Int) = []) := by show _ = _; unfold finsP; rw [hv.out.2]; rfl
      have hw0 : Hid (finsV l ord k = []) := by show _ = _; unfold finsV; rw [works_no h4]; rfl
      rw [hw0.out, h4] at HW
      rw [hv.out.1, hv2.out]
      clear ha h0
      go_enter Try.func29, Try.ntmps29
      go_wp2_with fail
      refine HQ.out.mono ?_
      rintro e w' ⟨rfl, y, rfl⟩
      go_wp2_with fail
      refine (HW.out _ (by repeat (first | exact Ext.refl _ | refine Ext.lift ?_ _ | refine Ext.alloc ?_ _))).mono ?_
      rintro e w2 ⟨a', cap', rfl, -, -, -, E⟩
      have T : Hid (Ext w w2) := Ext.trans (by repeat (first | exact Ext.refl _ | refine Ext.lift ?_ _ | refine Ext.alloc ?_ _)) E
      clear E
      go_wp2_with fail
      go_ret2
      exact OutS.nil none 0 rfl T.out
    · have hv := Lib.hid (planC_0 ha h4)
      have hv2 : Hid (finsP l ord (k : Int) = finsV l ord k) := by show _ = _; unfold finsP finsV; rw [hv.out.2]; rfl
      rw [h4] at HW
      rw [hv.out.1, hv2.out]
      clear ha h0
      go_enter Try.func29, Try.ntmps29
      go_wp2_with fail
      refine HQ.out.mono ?_
      rintro e w' ⟨rfl, y, rfl⟩
      go_wp2_with fail
      refine (HW.out _ (by repeat (first | exact Ext.refl _ | refine Ext.lift ?_ _ | refine Ext.alloc ?_ _))).mono ?_
      rintro e w2 ⟨a', cap', rfl, hc', O, R, E⟩
      have T : Hid (Ext w w2) := Ext.trans (by repeat (first | exact Ext.refl _ | refine Ext.lift ?_ _ | refine Ext.alloc ?_ _)) E
      have O2 := Lib.hid (O.mono (show w.heap.size ≤ _ from Ext.size (a := w) (by repeat (first | exact Ext.refl _ | refine Ext.lift ?_ _ | refine Ext.alloc ?_ _))))
      have R2 := Lib.hid R
      clear O R E
      go_wp2_with fail
      go_ret2
      exact OutS.mk (a := a') (cap := cap') rfl hc' O2.out R2.out T.out
set_option maxRecDepth 100000 in
set_option maxHeartbeats 4000000 in
theorem implPlanEnds_any (w : World) (a : Option Addr) (cap : Nat) (l : List Shot) (H : ShotAt w a l) (hsz : ∀ k, k < l.length → (nth l k).Small) (hn : l.length ≤ 1048576) (_ : l.length ≤ cap)
    (a2 : Option Addr) (cap2 : Nat) (ord : List Int) (H2 : IntAt w a2 ord) (_ : ∀ k, k < ord.length → -9223372036854775808 ≤ nth ord k ∧ nth ord k ≤ 9223372036854775807) (hlen : ord.length ≤ 1048576) (hcap : ord.length ≤ cap2) (c : Int) :
    Calls Try.prog 6 #[.slice a l.length cap, .slice a2 ord.length cap2, .int .i64 c] w (OutS 2 1 (fun (x : Int) (_ : Nat) => Value.int .i64 x) w (finsP l ord c) [.int .i64 (planC l ord c)]) := by
  have HP := Lib.hid (planWorks_any a cap l a2 cap2 ord c w H hsz hn H2 hlen hcap)
  clear H H2 hsz
  have hvl : Hid ((planV l ord c).length ≤ 1048576) := by
    show _ ≤ _; unfold planV
    split
    · rename_i h
      have ha : askS l ord c = 0 := by
        unfold planC at h; split at h
        · assumption
        · assumption
      obtain ⟨k, hk⟩ := Int.eq_ofNat_of_zero_le (show 0 ≤ c by have := inB_iff.1 (askS_0 ha).2.2; omega)
      subst hk
      unfold worksV
      split
      · rename_i p hp
        have ok := planS_ok (by have := inB_iff.1 (askS_0 ha).2.2; simp only [Int.toNat_natCast]; omega) (ShotsOk.of_ask ha) (Nat.le_refl _) hp
        rw [ok.wlen]; exact hlen
      · simp
    · simp
  cases h0 : (planC l ord c == 0)
  · have hne := beq_eq_false_iff_ne.1 h0
    have h0' : (planC l ord c != 0) = true := by rw [bne, h0]; rfl
    have hv2 : Hid (finsP l ord c = []) := by show _ = _; unfold finsP planV; rw [if_neg hne]; rfl
    clear h0 hne
    rw [hv2.out]
    go_enter Try.func6, Try.ntmps6
    go_wp2_with fail
    refine HP.out.mono ?_
    rintro e w2 ⟨a', cap', rfl, -, -, -, E⟩
    have T := Lib.hid E
    clear E
    go_wp2_with fail
    go_ret2
    exact OutS.nil none 0 rfl T.out
  · have h0' : (planC l ord c != 0) = false := by rw [bne, h0]; rfl
    have hz : Hid (planC l ord c = 0) := beq_iff_eq.1 h0
    clear h0
    go_enter Try.func6, Try.ntmps6
    go_wp2_with fail
    refine HP.out.mono ?_
    rintro e W ⟨a', cap', rfl, hc', O, R, E⟩
    have R0 := Lib.hid R
    have E0 := Lib.hid E
    have hs0 := E.size
    clear O R E
    go_wp2_with fail
    go_loopw [10, 25] (fun o i wr => ∃ k : Nat, k ≤ (planV l ord c).length ∧ i = .int .i64 k ∧ Hid (Lst 2 1 (fun (x : Int) (_ : Nat) => Value.int .i64 x) wr W.heap.size o (((planV l ord c).take k).map (·.fin))) ∧ Ext W wr) (fun _ i _ => (planV l ord c).length - (intOf i).toNat)
    case atStart => exact ⟨0, Nat.zero_le _, rfl, Lst.nil _ _, Ext.refl W⟩
    case round =>
      obtain ⟨k, hk, rfl, HL, he⟩ := hrel
      have hl := hvl.out
      by_cases hlt : k < (planV l ord c).length
      · obtain ⟨b, off, rfl⟩ := R0.out.base hlt
        obtain ⟨hb, c0, c1⟩ := Work.at (R0.out.ext he) k hlt
        have hts : Hid (((planV l ord c).take k).map (·.fin) ++ [(nth (planV l ord c) k).fin] = ((planV l ord c).take (k + 1)).map (·.fin)) := by show _ = _; rw [take_nth _ k hlt]; simp
        have hml2 : Hid ((((planV l ord c).take k).map (·.fin)).length = k) := by show _ = _; rw [List.length_map, List.length_take]; omega
        have HRn : Hid (RowsAt 1 (fun (x : Int) (_ : Nat) => Value.int .i64 x) ((wr.alloc (.cells #[.int .i64 (nth (planV l ord c) k).beg, .int .i64 (nth (planV l ord c) k).fin] 53)).alloc (.cells #[.int .i64 (nth (planV l ord c) k).fin] 2)) (some ⟨wr.heap.size + 1, 0, none⟩) [(nth (planV l ord c) k).fin]) := by
          exact rows_int _ _ (by rw [size_new])
        have hE4 := ((Ext.refl wr).alloc (.cells #[.int .i64 (nth (planV l ord c) k).beg, .int .i64 (nth (planV l ord c) k).fin] 53)).alloc (.cells #[.int .i64 (nth (planV l ord c) k).fin] 2)
        have L3 := Lib.hid (HL.out.ext hE4)
        have T3 := Lib.hid (he.trans hE4)
        have hz4 := T3.out.size
        clear hE4 HL
        go_wp2_with (at_builtin; refine wpList_pushL elInt oneInt rfl _ _ rfl W.heap.size _ _ (by rfl) L3.out _ 1 1 [(nth (planV l ord c) k).fin] rfl (by rfl) HRn.out (by rw [hml2.out]; omega) (by rw [hml2.out]; omega) hz4 ?_; intro v' w3 HL3 hs3 _)
        rw [hts.out] at HL3
        have HL4 := Lib.hid HL3
        have T4 := Lib.hid (hs3.ext T3.out (Nat.le_refl _))
        clear HL3 hs3 T3 L3
        go_wp2_with fail
        go_roundw
        case rel => exact ⟨k + 1, by omega, by go_num, HL4.out, T4.out⟩
        case measure => simp [intOf]; omega
      · obtain rfl : k = (planV l ord c).length := by omega
        have hL2 := HL.out
        rw [List.take_length] at hL2
        obtain ⟨ao, co, rfl, hco, hcm, RO, OO⟩ := Lst.shape hL2
        go_wp2_with fail
        go_ret2
        rw [hz.out]
        exact OutS.mk (l := finsP l ord c) (a := ao) (cap := co) rfl hco (OO.mono hs0) RO (E0.out.trans he)
end Go.Proofs.Ytpmbaemfpkcjnaa
