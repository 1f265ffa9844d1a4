/- Chapter 8: DepthGroups of the program. -/
import Derived.Test.YtdopffhekinbnaaDepW
import Derived.Test.YtdopffhekinbnaaGII
namespace Go.Proofs.Ytdopffhekinbnaa
open Go.RowKit
/-- A call that hands back a list of lists of its own, and further values. -/
def OutII (w : World) (L : List (List Int)) (rest : List Value) (e : Ending) (w' : World) : Prop :=
  ∃ v vs gs, e = .returned (.tuple (v :: rest).toArray) ∧ BII w' w.heap.size v L vs gs ∧ Ext w w'
theorem nearOkD_any (n : Int) (w : World) : Calls Try.prog 28 #[.int .i64 n] w fun e w' => e = .returned (.bool (nearB n)) ∧ w' = w := by
  have hv : Hid (nearB n = inB n 0 300) := rfl
  go_enter Try.func28, Try.ntmps28
  go_wp2_with (go_at_call 46; refine (within_any _ _ _ _).mono ?_; rintro e w' ⟨rfl, rfl⟩)
  go_ret
  exact ⟨ret_bool hv.out.symm, rfl⟩
/-- The groups, the first j of them in order. -/
def HalfUp (S Lj : List (List Int)) (j : Nat) : Prop := Lj.length = S.length ∧ ∀ i, i < S.length → nth Lj i = if i < j then upG (nth S i) else nth S i
theorem HalfUp.zero (S : List (List Int)) : HalfUp S S 0 := ⟨rfl, fun i _ => by rw [if_neg (Nat.not_lt_zero _)]⟩
theorem HalfUp.step {S Lj : List (List Int)} {j : Nat} (h : HalfUp S Lj j) (hj : j < S.length) : HalfUp S (Lj.set j (upG (nth S j))) (j + 1) := by
  refine ⟨by rw [List.length_set, h.1], fun i hi => ?_⟩
  rw [nth_set (by rw [h.1]; exact hj)]
  by_cases q : i = j
  · subst q; rw [if_pos rfl, if_pos (Nat.lt_succ_self _)]
  · rw [if_neg q, h.2 i hi]
    by_cases r : i < j
    · rw [if_pos r, if_pos (by omega)]
    · rw [if_neg r, if_neg (by omega)]
theorem HalfUp.all {S Lj : List (List Int)} (h : HalfUp S Lj S.length) : Lj = S.map upG := by
  apply List.ext_getElem
  · rw [h.1, List.length_map]
  · intro k h1 h2
    rw [List.length_map] at h2
    have := h.2 k h2
    rw [if_pos h2, nth_eq _ _ h1, nth_eq _ _ h2] at this
    rw [List.getElem_map]; exact this
theorem HalfUp.at {S Lj : List (List Int)} {j : Nat} (h : HalfUp S Lj j) (hj : j < S.length) : nth Lj j = nth S j := by rw [h.2 j hj, if_neg (Nat.lt_irrefl _)]
set_option maxRecDepth 100000 in
set_option maxHeartbeats 16000000 in
theorem implDepthGroups_any (w : World) (a : Option Addr) (cap : Nat) (l : List Test) (H : TestAt w a l) (hsz : ∀ k, k < l.length → (nth l k).Small) (hn : l.length ≤ 1048576) (hcap : l.length ≤ cap) (near : Int) :
    Calls Try.prog 8 #[.slice a l.length cap, .int .i64 near] w (OutII w (depV l near) [.int .i64 (depC l near)]) := by
  have _ := hcap
  have HA := Lib.hid H
  have HV := Lib.hid fun (w' : World) (he : Ext w w') => ValidTests_any a cap l w' (H.ext he) hsz hn
  have HN := Lib.hid (nearOkD_any near)
  clear H hsz
  cases h1 : testList l
  · have hv := Lib.hid (dep_1 (near := near) h1)
    rw [h1] at HV
    clear h1 HN
    go_enter Try.func8, Try.ntmps8
    go_wp2_with fail
    refine (HV.out _ (by repeat (first | exact Ext.refl _ | refine Ext.lift ?_ _ | refine Ext.alloc ?_ _))).mono ?_
    rintro e w1 ⟨rfl, e1⟩
    go_wp2_with fail
    go_ret2
    rw [hv.out.1, hv.out.2]
    exact ⟨.slice none 0 0, [], fun _ => 0, rfl, BII.nil _ _ _, ((Ext.refl w).alloc _).trans e1⟩
  rw [h1] at HV
  cases h2 : nearB near
  · have hv := Lib.hid (dep_2 h1 h2)
    rw [h2] at HN
    clear h1 h2
    go_enter Try.func8, Try.ntmps8
    go_wp2_with fail
    refine (HV.out _ (by repeat (first | exact Ext.refl _ | refine Ext.lift ?_ _ | refine Ext.alloc ?_ _))).mono ?_
    rintro e w1 ⟨rfl, e1⟩
    go_wp2_with fail
    refine (HN.out _).mono ?_
    rintro e w2 ⟨rfl, hw⟩
    subst hw
    go_wp2_with fail
    go_ret2
    rw [hv.out.1, hv.out.2]
    exact ⟨.slice none 0 0, [], fun _ => 0, rfl, BII.nil _ _ _, ((Ext.refl w).alloc _).trans e1⟩
  rw [h2] at HN
  have hv := Lib.hid (dep_0 h1 h2)
  have hl16 : l.length ≤ 16 := vAll_len_le (show vAll _ _ 16 l = true from h1)
  have hdp := Lib.hid fun k (hk : k < l.length) => (show 1 ≤ (nth l k).depth ∧ (nth l k).depth ≤ 300 from ((testB_bd (vAll_one (show vAll _ _ 16 l = true from h1) k hk)).2.1))
  clear h1 h2
  go_enter Try.func8, Try.ntmps8
  go_wp2_with fail
  refine (HV.out _ (by repeat (first | exact Ext.refl _ | refine Ext.lift ?_ _ | refine Ext.alloc ?_ _))).mono ?_
  rintro e w1 ⟨rfl, e1⟩
  have cb := e1.cell (k := w.heap.size) (o := 0) (v := .slice a l.length cap) (by rw [cell_new]; rfl)
  have hw1 : w.heap.size + 1 ≤ w1.heap.size := by have := e1.size; rw [size_new] at this; exact this
  have E1 := Lib.hid (((Ext.refl w).alloc (.cells #[.slice a l.length cap] 27)).trans e1)
  have cbl : w.heap.size < w1.heap.size := block_lt cb
  clear e1 HV
  have hmk := run_make_blk (P := Try.prog) (t := 38) Try.underlying38 (by kernel_rfl : (Try.prog.info? 2).map (fun i => (i.zero.map Value.cells, i.size, i.bytes)) = some (some #[.int .i64 0], 1, 8)) .i64 .i64 l.length (by omega) (by omega) w1
  rw [Nat.mul_one] at hmk
  go_wp2_with fail
  refine (HN.out _).mono ?_
  rintro e w2 ⟨rfl, hw⟩
  subst hw
  go_wp2_with fail
  have hA1 : Hid (∀ b o, a = some ⟨b, o, none⟩ → 0 < l.length → b < w2.heap.size) := fun b o e h0 => by
    obtain ⟨b', o', e', hb', -⟩ := HA.out 0 h0
    rw [e] at e'
    simp only [Option.some.injEq, Addr.mk.injEq, and_true] at e'
    omega
  have HB0 : Hid (Blk (w2.alloc (.cells (madeCells #[.int .i64 0] l.length) 2)) w2.heap.size 2 l.length) := by
    have := Blk.new w2 (madeCells #[.int .i64 0] l.length) 2
    rwa [size_madeCells] at this
  have HE0 := Lib.hid ((Ext.refl w2).alloc (.cells (madeCells #[.int .i64 0] l.length) 2))
  clear hmk HN
  go_loopw [26] (fun i wr => ∃ k : Nat, k ≤ l.length ∧ i = .int .i64 k ∧ Hid (Blk wr w2.heap.size 2 l.length) ∧ Hid (∀ q, q < k → wr.cell? ⟨w2.heap.size, q, none⟩ = some (Value.int .i64 (q : Int))) ∧ Hid (Ext w2 wr)) (fun i _ => l.length - (intOf i).toNat)
  case atStart => exact ⟨0, Nat.zero_le _, rfl, HB0.out, upto_zero, HE0.out⟩
  case round =>
    clear HB0 HE0
    obtain ⟨k, hk, rfl, HB, HC, HE⟩ := hrel
    by_cases hlt : k < l.length
    · have fz := HB.out.frozen k
      obtain ⟨u, hu⟩ := HB.out.cell hlt
      have hbl := HB.out.lt
      have HF := Lib.hid (fill_one (c := fun q => Value.int .i64 (q : Int)) HB.out hlt HC.out rfl)
      have HE2 := Lib.hid (HE.out.setCell (p := ⟨w2.heap.size, k, none⟩) (Nat.le_refl _) (.int .i64 (k : Int)))
      go_wp2_with fail
      go_roundw
      case rel => exact ⟨k + 1, by omega, by go_num, HF.out.1, HF.out.2, HE2.out⟩
      case measure => simp [intOf]; omega
    · obtain rfl : k = l.length := by omega
      have HO0 : Hid (IntAt wr (some ⟨w2.heap.size, 0, none⟩) (ups l.length)) := IntAt.of HB.out.lt fun q hq => by
        rw [ups_len] at hq
        rw [Nat.zero_add, HC.out q hq, ups_nth hq]
      have HL0 : Hid (Lst 2 1 celI wr w2.heap.size (.slice (some ⟨w2.heap.size, 0, none⟩) l.length l.length) (ups l.length)) := by
        have := Lst.of_rows (T := 2) (n := 1) (base := w2.heap.size) (cap := l.length) (cell := celI) (l := ups l.length) (by rw [Nat.mul_one]; exact HB.out) (Nat.le_refl _) HO0.out (by rw [ups_len]; exact Nat.le_refl _) (by unfold maxLen; omega)
        rwa [ups_len] at this
      have HS := Lib.hid (SortStable_any l hl16 wr w2.heap.size _ l.length w.heap.size a cap HL0.out (HE.out.cell cb) (HA.out.ext (E1.out.trans HE.out)) cbl hA1.out)
      have EE := Lib.hid HE.out
      clear HB HC HO0 HL0 hlt HE
      go_wp2_with fail
      refine HS.out.mono ?_
      rintro e w3 ⟨rfl, hL, -, hs⟩
      have E3 := Lib.hid (hs w2 EE.out (Nat.le_refl _))
      obtain ⟨oa, oc, e, -, -, hO, -⟩ := hL.shape
      simp only [Value.slice.injEq] at e
      obtain ⟨rfl, -, rfl⟩ := e
      have HO : Hid (IntAt w3 (some ⟨w2.heap.size, 0, none⟩) (ordD l l.length)) := hO
      have cb3 := E3.out.cell cb
      have cb3h := Lib.hid cb3
      have E4 := Lib.hid (E1.out.trans E3.out)
      have hOn := Lib.hid fun k (hk : k < l.length) => ordD_nth (l := l) hk
      have hOl := Lib.hid (ordD_len l l.length)
      have hz3 := E4.out.size
      have hdp2 := Lib.hid hdp.out
      clear HS hL hs hO EE E3 hA1 cb E1 hw1 cbl
      generalize hOe : ordD l l.length = O at *
      have hOe := Lib.hid hOe
      have hsl := Lib.hid fun k => segs_len l near O k
      go_wp2_with fail
      go_loopw [8, 39] (fun v i wr => ∃ (k : Nat) (vs : List Sl), k ≤ l.length ∧ i = .int .i64 k ∧ Hid (GII wr w3.heap.size v (segs l near O k) vs) ∧ Hid (Ext w3 wr)) (fun _ i _ => l.length - (intOf i).toNat)
      case atStart => exact ⟨0, [], Nat.zero_le _, rfl, GII.none0 (Lst.nil _ _), Ext.refl w3⟩
      case round =>
        obtain ⟨k, vs, hk, rfl, HG, HE⟩ := hrel
        by_cases hlt : k < l.length
        · obtain ⟨hb1, c0⟩ := IntAt.at (HO.out.ext HE.out) k (by rw [hOl.out]; exact hlt)
          rw [Nat.zero_add] at c0
          have hxr := hOn.out k hlt
          obtain ⟨i, hi⟩ := Int.eq_ofNat_of_zero_le hxr.1
          rw [hi] at c0
          have hil : i < l.length := by omega
          have hslk := hsl.out k
          have hsg : Hid (∀ x ∈ segs l near O k, x.length ≤ 16) := fun x hx => by
            have h1 := (List.sublist_flatten_of_mem hx).length_le
            rw [segs_flat l near O k (by rw [hOl.out]; exact hk), List.length_take] at h1
            omega
          have hvl : vs.length ≤ 16 := by rw [HG.out.len]; omega
          have cb4 := HE.out.cell cb3
          have hcbl := block_lt cb4
          obtain ⟨lb, lo, rfl⟩ := HA.out.base hil
          obtain ⟨hlb, -, -, -, f0, -⟩ := Test.at (HA.out.ext (E4.out.trans HE.out)) i hil
          have hdi := hdp2.out i hil
          by_cases hnew : k = 0 ∨ near < dep l (nth O k) - dep l (nth O (k - 1))
          · have hnext : Hid (segs l near O (k + 1) = segs l near O k ++ [[nth O k]]) := segs_new hnew
            have hfin : Hid (∀ m, (segs l near O k ++ [[]]).length = m + 1 → (segs l near O k ++ [[]]).set m (nth (segs l near O k ++ [[]]) m ++ [(i : Int)]) = segs l near O (k + 1)) := fun m hm => by
              rw [List.length_append] at hm
              simp only [List.length_cons, List.length_nil] at hm
              obtain rfl : m = (segs l near O k).length := by omega
              rw [hnext.out, nthG_last rfl, hi, List.set_append_right _ _ (Nat.le_refl _), Nat.sub_self]; rfl
            have hseg : Hid (∀ m, m < (segs l near O k ++ [[]]).length → (nth (segs l near O k ++ [[]]) m).length ≤ 17) := fun m hm => by
              rw [List.length_append] at hm
              simp only [List.length_cons, List.length_nil] at hm
              by_cases q : m < (segs l near O k).length
              · rw [nthG_pre q]; have := hsg.out _ (nth_mem q); omega
              · rw [nthG_last (by omega)]; simp
            have hlen1 : (segs l near O k ++ [[]]).length ≤ 17 ∧ 0 < (segs l near O k ++ [[]]).length := by rw [List.length_append]; simp only [List.length_cons, List.length_nil]; omega
            rcases Nat.eq_zero_or_pos k with hk0 | hk0
            · have hq : ((k : Int) == 0) = true := by rw [hk0]; rfl
              clear hnew hnext hk0
              go_wp2_with fail
              refine region_quiet (by kernel_rfl) (by kernel_rfl) ?_
              repeat (any_goals (first | go_big_quiet_step ((fail)) | quiet_step ((fail))))
              refine wpQuiet_nil ?_
              intro _ hw'
              obtain ⟨y, hw''⟩ := hw'
              subst hw''
              have G1 := Lib.hid (HG.out.ext ((Ext.refl _).lift y))
              have E1 := Lib.hid (HE.out.lift y)
              clear HG HE c0 cb4 hcbl hlb
              generalize lift wr y = W1 at *
              have hxn := Lib.hid ((Ext.refl W1).alloc (.cells #[.slice none 0 0] 38))
              have L3 := Lib.hid (G1.out.lst.ext hxn.out)
              have HRn : Hid (RowsAt 1 cellV (W1.alloc (.cells #[.slice none 0 0] 38)) (some ⟨W1.heap.size, 0, none⟩) [⟨none, 0, 0⟩]) := rows_new (n := 1) (cell := cellV) (T := 38) W1 #[.slice none 0 0] ⟨none, 0, 0⟩ (fun q hq => by
                have h8 : q < 1 := hq
                have h9 : q = 0 := by omega
                subst h9; rfl)
              have hzn : w3.heap.size ≤ (W1.alloc (.cells #[.slice none 0 0] 38)).heap.size := by rw [size_new]; have := E1.out.size; omega
              try dsimp only
              repeat (first | (at_builtin; refine Hid.out ?_) | go_values | go_skip | go_guarded | go_step | go_upon | go_back)
              refine Lib.hid ?_
              refine wpList_pushAt elII oneSl rfl _ _ rfl w3.heap.size _ vs (by rfl) L3.out _ 1 1 [⟨none, 0, 0⟩] rfl (by rfl) HRn.out (by omega) (by omega) hzn ?_
              intro v5 w5 HL5 hg5 hat5
              have G5 := Lib.hid (GII.push (s := ⟨none, 0, 0⟩) (x := []) G1.out hxn.out (Lst.nil _ _) (fun g e => by cases e) HL5 hg5 hat5)
              have E5 := Lib.hid ((E1.out.trans hxn.out).grown hg5 (fun q e => L3.out.ge q e))
              clear HL5 hg5 hat5 L3 HRn hzn hxn G1 E1
              obtain ⟨m, hm⟩ : ∃ m, (segs l near O k ++ [[]]).length = m + 1 := ⟨(segs l near O k ++ [[]]).length - 1, by omega⟩
              have hmL : m < (segs l near O k ++ [[]]).length := by omega
              obtain ⟨gb, gcap, e, hgb, hBg, hgc, hRg⟩ := G5.out.block hmL
              subst e
              obtain ⟨hgl, cg⟩ := RowsAt.at hRg m (by rw [G5.out.len]; exact hmL)
              have cg := cg 0 (by decide)
              rw [Nat.mul_one, Nat.add_zero, Nat.zero_add] at cg
              obtain ⟨sA, sC, eS, hsc, hsm, -, -⟩ := (G5.out.inn m hmL).shape
              have cg2 : (w5).cell? ⟨gb, m, none⟩ = some (.slice sA (nth (segs l near O k ++ [[]]) m).length sC) := by rw [cg]; exact congrArg some eS
              have hlen18 : (nth (segs l near O k ++ [[]]) m).length ≤ 17 := hseg.out m hmL
              have hx4 := Lib.hid ((Ext.refl (w5)).alloc (.cells #[.int .i64 (i : Int)] 2))
              have HI4 : Hid (Lst 2 1 celI ((w5).alloc (.cells #[.int .i64 (i : Int)] 2)) w3.heap.size (.slice sA (nth (segs l near O k ++ [[]]) m).length sC) (nth (segs l near O k ++ [[]]) m)) := by
                have := (G5.out.inn m hmL).ext hx4.out
                rw [eS] at this; exact this
              have HR4 : Hid (IntAt ((w5).alloc (.cells #[.int .i64 (i : Int)] 2)) (some ⟨(w5).heap.size, 0, none⟩) [(i : Int)]) := rows_int _ _ rfl
              have hz4 : w3.heap.size ≤ ((w5).alloc (.cells #[.int .i64 (i : Int)] 2)).heap.size := by rw [size_new]; have := E5.out.size; omega
              have hBgh := Lib.hid hBg
              have eSh := Lib.hid eS
              rw [hm]
              clear hRg cg hBg eS hb1 f0
              try dsimp only
              repeat (first | (at_builtin; refine Hid.out ?_) | go_values | go_skip | go_guarded | go_step | go_upon | go_back)
              refine Lib.hid ?_
              refine wpList_pushAt elI oneI rfl _ _ rfl w3.heap.size _ (nth (segs l near O k ++ [[]]) m) (by rfl) HI4.out _ 1 1 [(i : Int)] rfl (by rfl) HR4.out (by omega) (by omega) hz4 ?_
              intro v6 w6 HL6 hg6 hat6
              obtain ⟨tA, tC, rfl, htc, -, -, -⟩ := HL6.shape
              have hGr : w6.grownBy w6 none := ⟨rfl, rfl, rfl, Nat.le_refl _, fun _ _ _ => rfl⟩
              have el : (nth (segs l near O k ++ [[]]) m ++ [(i : Int)]).length = (nth (segs l near O k ++ [[]]) m).length + 1 := by rw [List.length_append]; rfl
              rw [el] at HL6 hat6
              have G6 := GII.grow (s := ⟨tA, (nth (segs l near O k ++ [[]]) m).length + 1, tC⟩) G5.out hmL hx4.out (by rw [eSh.out]; exact hg6) HL6 (fun b e => by
                rw [eSh.out]
                rcases hat6 with q | q
                · exact .inl (by rw [← q]; exact e)
                · refine .inr ?_
                  have e2 : (Value.slice tA ((nth (segs l near O k ++ [[]]) m).length + 1) tC).ownBlock = some b := e
                  rw [q] at e2
                  simp only [Option.some.injEq] at e2
                  have := hx4.out.size
                  omega)
              rw [List.length_set, hm] at G6
              have G6 := Lib.hid G6
              have hB6 := (hBgh.out.ext hx4.out).grown hg6 (by have := G5.out.far m hmL; rw [eSh.out] at this; exact fun e => this gb e rfl)
              have fz6 := hB6.frozen m
              obtain ⟨u6, d6⟩ := hB6.cell (o := m) (by omega)
              have hl6 := hB6.lt
              have hsc6 : ∀ q, (Value.slice sA (nth (segs l near O k ++ [[]]) m).length sC).ownBlock = some q → w3.heap.size ≤ q := fun q e => HI4.out.ge q e
              have E6 := Lib.hid (((E5.out.trans hx4.out).grown hg6 hsc6).setCell (p := ⟨gb, m, none⟩) hgb (.slice tA ((nth (segs l near O k ++ [[]]) m).length + 1) tC))
              clear el HI4 HR4 hz4 HL6 hg6 hat6 hGr hB6 hsc6 hx4 G5 hBgh eSh cg2
              go_wp2_with fail
              go_roundw
              case rel => exact ⟨k + 1, _, by omega, by go_num, by rw [← hfin.out m hm]; exact G6.out, E6.out⟩
              case measure => simp [intOf]; omega
            · have hq : ((k : Int) == 0) = false := by rw [beq_eq_false_iff_ne]; omega
              have hgap := hnew.resolve_left (by omega)
              obtain ⟨hb2, c1⟩ := IntAt.at (HO.out.ext HE.out) (k - 1) (by rw [hOl.out]; omega)
              rw [Nat.zero_add] at c1
              have hyr := hOn.out (k - 1) (by omega)
              obtain ⟨j, hj⟩ := Int.eq_ofNat_of_zero_le hyr.1
              rw [hj] at c1
              have hjl : j < l.length := by omega
              obtain ⟨-, -, -, -, f1, -⟩ := Test.at (HA.out.ext (E4.out.trans HE.out)) j hjl
              have hdj := hdp2.out j hjl
              have hdd : decide (near < (nth l i).depth - (nth l j).depth) = true := decide_eq_true (by rw [hi, hj] at hgap; exact hgap)
              clear hnew hnext hgap hj hyr
              go_wp2_with fail
              refine region_quiet (by kernel_rfl) (by kernel_rfl) ?_
              repeat (any_goals (first | go_big_quiet_step ((fail)) | quiet_step ((fail))))
              refine wpQuiet_nil ?_
              intro _ hw'
              obtain ⟨y, hw''⟩ := hw'
              subst hw''
              clear c1 f1 hdd hb2
              have G1 := Lib.hid (HG.out.ext ((Ext.refl _).lift y))
              have E1 := Lib.hid (HE.out.lift y)
              clear HG HE c0 cb4 hcbl hlb
              generalize lift wr y = W1 at *
              have hxn := Lib.hid ((Ext.refl W1).alloc (.cells #[.slice none 0 0] 38))
              have L3 := Lib.hid (G1.out.lst.ext hxn.out)
              have HRn : Hid (RowsAt 1 cellV (W1.alloc (.cells #[.slice none 0 0] 38)) (some ⟨W1.heap.size, 0, none⟩) [⟨none, 0, 0⟩]) := rows_new (n := 1) (cell := cellV) (T := 38) W1 #[.slice none 0 0] ⟨none, 0, 0⟩ (fun q hq => by
                have h8 : q < 1 := hq
                have h9 : q = 0 := by omega
                subst h9; rfl)
              have hzn : w3.heap.size ≤ (W1.alloc (.cells #[.slice none 0 0] 38)).heap.size := by rw [size_new]; have := E1.out.size; omega
              try dsimp only
              repeat (first | (at_builtin; refine Hid.out ?_) | go_values | go_skip | go_guarded | go_step | go_upon | go_back)
              refine Lib.hid ?_
              refine wpList_pushAt elII oneSl rfl _ _ rfl w3.heap.size _ vs (by rfl) L3.out _ 1 1 [⟨none, 0, 0⟩] rfl (by rfl) HRn.out (by omega) (by omega) hzn ?_
              intro v5 w5 HL5 hg5 hat5
              have G5 := Lib.hid (GII.push (s := ⟨none, 0, 0⟩) (x := []) G1.out hxn.out (Lst.nil _ _) (fun g e => by cases e) HL5 hg5 hat5)
              have E5 := Lib.hid ((E1.out.trans hxn.out).grown hg5 (fun q e => L3.out.ge q e))
              clear HL5 hg5 hat5 L3 HRn hzn hxn G1 E1
              obtain ⟨m, hm⟩ : ∃ m, (segs l near O k ++ [[]]).length = m + 1 := ⟨(segs l near O k ++ [[]]).length - 1, by omega⟩
              have hmL : m < (segs l near O k ++ [[]]).length := by omega
              obtain ⟨gb, gcap, e, hgb, hBg, hgc, hRg⟩ := G5.out.block hmL
              subst e
              obtain ⟨hgl, cg⟩ := RowsAt.at hRg m (by rw [G5.out.len]; exact hmL)
              have cg := cg 0 (by decide)
              rw [Nat.mul_one, Nat.add_zero, Nat.zero_add] at cg
              obtain ⟨sA, sC, eS, hsc, hsm, -, -⟩ := (G5.out.inn m hmL).shape
              have cg2 : (w5).cell? ⟨gb, m, none⟩ = some (.slice sA (nth (segs l near O k ++ [[]]) m).length sC) := by rw [cg]; exact congrArg some eS
              have hlen18 : (nth (segs l near O k ++ [[]]) m).length ≤ 17 := hseg.out m hmL
              have hx4 := Lib.hid ((Ext.refl (w5)).alloc (.cells #[.int .i64 (i : Int)] 2))
              have HI4 : Hid (Lst 2 1 celI ((w5).alloc (.cells #[.int .i64 (i : Int)] 2)) w3.heap.size (.slice sA (nth (segs l near O k ++ [[]]) m).length sC) (nth (segs l near O k ++ [[]]) m)) := by
                have := (G5.out.inn m hmL).ext hx4.out
                rw [eS] at this; exact this
              have HR4 : Hid (IntAt ((w5).alloc (.cells #[.int .i64 (i : Int)] 2)) (some ⟨(w5).heap.size, 0, none⟩) [(i : Int)]) := rows_int _ _ rfl
              have hz4 : w3.heap.size ≤ ((w5).alloc (.cells #[.int .i64 (i : Int)] 2)).heap.size := by rw [size_new]; have := E5.out.size; omega
              have hBgh := Lib.hid hBg
              have eSh := Lib.hid eS
              rw [hm]
              clear hRg cg hBg eS hb1 f0
              try dsimp only
              repeat (first | (at_builtin; refine Hid.out ?_) | go_values | go_skip | go_guarded | go_step | go_upon | go_back)
              refine Lib.hid ?_
              refine wpList_pushAt elI oneI rfl _ _ rfl w3.heap.size _ (nth (segs l near O k ++ [[]]) m) (by rfl) HI4.out _ 1 1 [(i : Int)] rfl (by rfl) HR4.out (by omega) (by omega) hz4 ?_
              intro v6 w6 HL6 hg6 hat6
              obtain ⟨tA, tC, rfl, htc, -, -, -⟩ := HL6.shape
              have hGr : w6.grownBy w6 none := ⟨rfl, rfl, rfl, Nat.le_refl _, fun _ _ _ => rfl⟩
              have el : (nth (segs l near O k ++ [[]]) m ++ [(i : Int)]).length = (nth (segs l near O k ++ [[]]) m).length + 1 := by rw [List.length_append]; rfl
              rw [el] at HL6 hat6
              have G6 := GII.grow (s := ⟨tA, (nth (segs l near O k ++ [[]]) m).length + 1, tC⟩) G5.out hmL hx4.out (by rw [eSh.out]; exact hg6) HL6 (fun b e => by
                rw [eSh.out]
                rcases hat6 with q | q
                · exact .inl (by rw [← q]; exact e)
                · refine .inr ?_
                  have e2 : (Value.slice tA ((nth (segs l near O k ++ [[]]) m).length + 1) tC).ownBlock = some b := e
                  rw [q] at e2
                  simp only [Option.some.injEq] at e2
                  have := hx4.out.size
                  omega)
              rw [List.length_set, hm] at G6
              have G6 := Lib.hid G6
              have hB6 := (hBgh.out.ext hx4.out).grown hg6 (by have := G5.out.far m hmL; rw [eSh.out] at this; exact fun e => this gb e rfl)
              have fz6 := hB6.frozen m
              obtain ⟨u6, d6⟩ := hB6.cell (o := m) (by omega)
              have hl6 := hB6.lt
              have hsc6 : ∀ q, (Value.slice sA (nth (segs l near O k ++ [[]]) m).length sC).ownBlock = some q → w3.heap.size ≤ q := fun q e => HI4.out.ge q e
              have E6 := Lib.hid (((E5.out.trans hx4.out).grown hg6 hsc6).setCell (p := ⟨gb, m, none⟩) hgb (.slice tA ((nth (segs l near O k ++ [[]]) m).length + 1) tC))
              clear el HI4 HR4 hz4 HL6 hg6 hat6 hGr hB6 hsc6 hx4 G5 hBgh eSh cg2
              go_wp2_with fail
              go_roundw
              case rel => exact ⟨k + 1, _, by omega, by go_num, by rw [← hfin.out m hm]; exact G6.out, E6.out⟩
              case measure => simp [intOf]; omega
          · have hnext : Hid (segs l near O (k + 1) = addLast (segs l near O k) (nth O k)) := segs_old hnew
            have hk0 : 0 < k := by
              rcases Nat.eq_zero_or_pos k with h0 | h0
              · exact absurd (.inl h0) hnew
              · exact h0
            have hfin : Hid (∀ m, (segs l near O k).length = m + 1 → (segs l near O k).set m (nth (segs l near O k) m ++ [(i : Int)]) = segs l near O (k + 1)) := fun m hm => by
              rw [hnext.out, hi]
              unfold addLast
              rw [hm, Nat.add_sub_cancel]
            have hseg : Hid (∀ m, m < (segs l near O k).length → (nth (segs l near O k) m).length ≤ 17) := fun m hm => by have := hsg.out _ (nth_mem hm); omega
            have hlen1 : (segs l near O k).length ≤ 17 ∧ 0 < (segs l near O k).length := by have := hslk.2 hk0; omega
            have hq : ((k : Int) == 0) = false := by rw [beq_eq_false_iff_ne]; omega
            obtain ⟨hb2, c1⟩ := IntAt.at (HO.out.ext HE.out) (k - 1) (by rw [hOl.out]; omega)
            rw [Nat.zero_add] at c1
            have hyr := hOn.out (k - 1) (by omega)
            obtain ⟨j, hj⟩ := Int.eq_ofNat_of_zero_le hyr.1
            rw [hj] at c1
            have hjl : j < l.length := by omega
            obtain ⟨-, -, -, -, f1, -⟩ := Test.at (HA.out.ext (E4.out.trans HE.out)) j hjl
            have hdj := hdp2.out j hjl
            have hdd : decide (near < (nth l i).depth - (nth l j).depth) = false := decide_eq_false (fun h => hnew (.inr (by rw [hi, hj]; exact h)))
            clear hnew hnext hj hyr
            go_wp2_with fail
            refine region_quiet (by kernel_rfl) (by kernel_rfl) ?_
            repeat (any_goals (first | go_big_quiet_step ((fail)) | quiet_step ((fail))))
            refine wpQuiet_nil ?_
            intro _ hw'
            obtain ⟨y, hw''⟩ := hw'
            subst hw''
            have G1 := Lib.hid (HG.out.ext ((Ext.refl _).lift y))
            have E1 := Lib.hid (HE.out.lift y)
            clear HG HE c0 c1 f1 hdd hb2 cb4 hcbl hlb
            generalize lift wr y = W1 at *
            obtain ⟨m, hm⟩ : ∃ m, (segs l near O k).length = m + 1 := ⟨(segs l near O k).length - 1, by omega⟩
            have hmL : m < (segs l near O k).length := by omega
            obtain ⟨gb, gcap, e, hgb, hBg, hgc, hRg⟩ := G1.out.block hmL
            subst e
            obtain ⟨hgl, cg⟩ := RowsAt.at hRg m (by rw [G1.out.len]; exact hmL)
            have cg := cg 0 (by decide)
            rw [Nat.mul_one, Nat.add_zero, Nat.zero_add] at cg
            obtain ⟨sA, sC, eS, hsc, hsm, -, -⟩ := (G1.out.inn m hmL).shape
            have cg2 : (W1).cell? ⟨gb, m, none⟩ = some (.slice sA (nth (segs l near O k) m).length sC) := by rw [cg]; exact congrArg some eS
            have hlen18 : (nth (segs l near O k) m).length ≤ 17 := hseg.out m hmL
            have hx4 := Lib.hid ((Ext.refl (W1)).alloc (.cells #[.int .i64 (i : Int)] 2))
            have HI4 : Hid (Lst 2 1 celI ((W1).alloc (.cells #[.int .i64 (i : Int)] 2)) w3.heap.size (.slice sA (nth (segs l near O k) m).length sC) (nth (segs l near O k) m)) := by
              have := (G1.out.inn m hmL).ext hx4.out
              rw [eS] at this; exact this
            have HR4 : Hid (IntAt ((W1).alloc (.cells #[.int .i64 (i : Int)] 2)) (some ⟨(W1).heap.size, 0, none⟩) [(i : Int)]) := rows_int _ _ rfl
            have hz4 : w3.heap.size ≤ ((W1).alloc (.cells #[.int .i64 (i : Int)] 2)).heap.size := by rw [size_new]; have := E1.out.size; omega
            have hBgh := Lib.hid hBg
            have eSh := Lib.hid eS
            rw [hm]
            clear hRg cg hBg eS hb1 f0
            try dsimp only
            repeat (first | (at_builtin; refine Hid.out ?_) | go_values | go_skip | go_guarded | go_step | go_upon | go_back)
            refine Lib.hid ?_
            refine wpList_pushAt elI oneI rfl _ _ rfl w3.heap.size _ (nth (segs l near O k) m) (by rfl) HI4.out _ 1 1 [(i : Int)] rfl (by rfl) HR4.out (by omega) (by omega) hz4 ?_
            intro v6 w6 HL6 hg6 hat6
            obtain ⟨tA, tC, rfl, htc, -, -, -⟩ := HL6.shape
            have hGr : w6.grownBy w6 none := ⟨rfl, rfl, rfl, Nat.le_refl _, fun _ _ _ => rfl⟩
            have el : (nth (segs l near O k) m ++ [(i : Int)]).length = (nth (segs l near O k) m).length + 1 := by rw [List.length_append]; rfl
            rw [el] at HL6 hat6
            have G6 := GII.grow (s := ⟨tA, (nth (segs l near O k) m).length + 1, tC⟩) G1.out hmL hx4.out (by rw [eSh.out]; exact hg6) HL6 (fun b e => by
              rw [eSh.out]
              rcases hat6 with q | q
              · exact .inl (by rw [← q]; exact e)
              · refine .inr ?_
                have e2 : (Value.slice tA ((nth (segs l near O k) m).length + 1) tC).ownBlock = some b := e
                rw [q] at e2
                simp only [Option.some.injEq] at e2
                have := hx4.out.size
                omega)
            rw [List.length_set, hm] at G6
            have G6 := Lib.hid G6
            have hB6 := (hBgh.out.ext hx4.out).grown hg6 (by have := G1.out.far m hmL; rw [eSh.out] at this; exact fun e => this gb e rfl)
            have fz6 := hB6.frozen m
            obtain ⟨u6, d6⟩ := hB6.cell (o := m) (by omega)
            have hl6 := hB6.lt
            have hsc6 : ∀ q, (Value.slice sA (nth (segs l near O k) m).length sC).ownBlock = some q → w3.heap.size ≤ q := fun q e => HI4.out.ge q e
            have E6 := Lib.hid (((E1.out.trans hx4.out).grown hg6 hsc6).setCell (p := ⟨gb, m, none⟩) hgb (.slice tA ((nth (segs l near O k) m).length + 1) tC))
            clear el HI4 HR4 hz4 HL6 hg6 hat6 hGr hB6 hsc6 hx4 G1 hBgh eSh cg2
            go_wp2_with fail
            go_roundw
            case rel => exact ⟨k + 1, _, by omega, by go_num, by rw [← hfin.out m hm]; exact G6.out, E6.out⟩
            case measure => simp [intOf]; omega
        · obtain rfl : k = l.length := by omega
          obtain ⟨va, vc, rfl, hvc, hvm, -, -⟩ := HG.out.lst.shape
          have hnd := Lib.hid fun (x : List Int) (hx : x ∈ segs l near O l.length) => (show x.Nodup from by rw [← hOe.out] at hx; exact segs_nodup l near l.length x hx)
          have hps := Lib.hid (segs_pos l near O l.length)
          have hsg : Hid (∀ x ∈ segs l near O l.length, x.length ≤ 16) := fun x hx => by
            have h1 := (List.sublist_flatten_of_mem hx).length_le
            rw [segs_flat l near O l.length (by rw [hOl.out]; exact Nat.le_refl _), List.length_take] at h1
            omega
          have hv2 : Hid (depV l near = (segs l near O l.length).map upG) := hv.out.2
          have hs16 : (segs l near O l.length).length ≤ 16 := by have := (hsl.out l.length).1; omega
          rw [HG.out.len] at HG hvc ⊢
          have HGS := HG
          generalize segs l near O l.length = S at *
          clear HG hOn hOl hdp hdp2 hlt cb3 HO hsl hOe cb3h
          go_wp2_with fail
          go_loopw [85] (fun i wq => ∃ (j : Nat) (Lj : List (List Int)), j ≤ S.length ∧ i = .int .i64 j ∧ Hid (HalfUp S Lj j) ∧ Hid (GII wq w3.heap.size (.slice va S.length vc) Lj vs) ∧ Hid (Ext w3 wq)) (fun i _ => S.length - (intOf i).toNat)
          case atStart => exact ⟨0, S, Nat.zero_le _, rfl, HalfUp.zero S, HGS.out, HE.out⟩
          case round =>
            clear HGS HE
            obtain ⟨j, Lj, hj, rfl, hU, HG, HE⟩ := hrel
            have hLl : Lj.length = S.length := hU.out.1
            by_cases hlt : j < S.length
            · have hjL : j < Lj.length := by omega
              obtain ⟨gb, gcap, e, -, -, -, hRg⟩ := HG.out.block hjL
              simp only [Value.slice.injEq] at e
              obtain ⟨rfl, -, rfl⟩ := e
              obtain ⟨hgl, cg⟩ := RowsAt.at hRg j (by rw [HG.out.len]; exact hjL)
              have cg := cg 0 (by decide)
              rw [Nat.mul_one, Nat.add_zero, Nat.zero_add] at cg
              obtain ⟨sA, sC, eS, -, -, -, -⟩ := (HG.out.inn j hjL).shape
              have eq : nth Lj j = nth S j := hU.out.at hlt
              have cg2 : wr.cell? ⟨gb, j, none⟩ = some (.slice sA (nth S j).length sC) := by rw [cg, ← eq]; exact congrArg some eS
              have hi := HG.out.inn j hjL
              rw [eS, eq] at hi
              have h16 : (nth S j).length ≤ 16 := hsg.out _ (nth_mem hlt)
              have hso := Lib.hid (SortI_any wr w3.heap.size sA sC (nth S j) hi (by omega))
              have hup : Hid (sortI (nth S j) = upG (nth S j)) := sortI_up' (hnd.out _ (nth_mem hlt))
              rw [hup.out] at hso
              have eSh := Lib.hid (show (nth vs j).val = .slice sA (nth S j).length sC by rw [← eq]; exact eS)
              have hge : Hid (∀ q, (Value.slice sA (nth S j).length sC).ownBlock = some q → w3.heap.size ≤ q) := fun q e => hi.ge q e
              have hU2 := Lib.hid (hU.out.step hlt)
              clear hRg cg eS eq hi hup
              go_wp2_with fail
              refine hso.out.mono ?_
              rintro e w5 ⟨rfl, hL5, hg5, -⟩
              have G5 := Lib.hid (HG.out.turned hjL (by rw [eSh.out]; exact hg5) (by rw [eSh.out]; exact hL5))
              have E5 := Lib.hid (HE.out.grown hg5 hge.out)
              clear hL5 hg5 hso cg2 hgl HG HE hU eSh hge
              go_wp2_with fail
              go_roundw
              case rel => exact ⟨j + 1, _, by omega, by go_num, hU2.out, G5.out, E5.out⟩
              case measure => simp [intOf]; omega
            · obtain rfl : j = S.length := by omega
              have hLj := hU.out.all
              have hpos : ∀ k, k < Lj.length → 0 < (nth Lj k).length := fun k hk => by
                have hkS : k < S.length := by omega
                have e : nth Lj k = upG (nth S k) := by have := hU.out.2 k hkS; rwa [if_pos hkS] at this
                rw [e, upG_len (hnd.out _ (nth_mem hkS))]
                exact hps.out _ (nth_mem hkS)
              obtain ⟨gs, hB⟩ := HG.out.bii hpos
              have hB := Lib.hid (hB.low' hz3)
              have hE9 := Lib.hid (E4.out.trans HE.out)
              have hv3 : Hid (depV l near = Lj) := by show _ = _; rw [hv2.out, hLj]
              clear hLj hpos HG HE hU hv2
              go_wp2_with fail
              go_ret2
              rw [hv.out.1, hv3.out]
              exact ⟨_, vs, gs, rfl, hB.out, hE9.out⟩
end Go.Proofs.Ytdopffhekinbnaa
