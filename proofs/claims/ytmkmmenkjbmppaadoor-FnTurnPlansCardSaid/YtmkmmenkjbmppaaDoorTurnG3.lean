/- Turns given to people: the first way: the least who may, the turns. -/
import Derived.Test.YtmkmmenkjbmppaaDoorTurnG2
namespace Go.Proofs.YtmkmmenkjbmppaaDoor
open Go.RowKit Go.Maps
/-- Someone may have the next turn, and the others can be given then. -/
def pos1 (A : List (List Int)) (P N f : Nat) (g : List Int) (k : Nat) : Bool := mayT A N g (k : Int) && decide (0 < cntT A P N f (g ++ [(k : Int)]))
theorem pos1_iff {A : List (List Int)} {P N f : Nat} {g : List Int} {k : Nat} : pos1 A P N f g k = true ↔ mayT A N g (k : Int) = true ∧ 0 < cntT A P N f (g ++ [(k : Int)]) := by
  unfold pos1; rw [Bool.and_eq_true, decide_eq_true_eq]
set_option maxRecDepth 100000 in
set_option maxHeartbeats 8000000 in
theorem leastT_any {w0 : World} {aa : Option Addr} {A : List (List Int)} {vs : List Sl} {ac P T N mb : Nat} (X : TurnX w0 aa A vs P T N mb) (f : Nat) (g : List Int) (hgf : g.length + (f + 1) = T) (hg1 : OneP P g) (hpos : 0 < cntT A P N (f + 1) g) (W : World) (tb gb : Nat) (ga : Option Addr) (gc m : Nat) (hB : TBox W tb P T N aa A.length ac mb) (htm : tb ≠ mb) (hgm : gb ≠ mb) (yg : W.cell? ⟨gb, 0, none⟩ = some (.slice ga g.length gc)) (hR : IntAt W ga g) (hc : g.length ≤ gc) (he0 : Ext w0 W) (hM : MapT A P N T mb m W) (hm : m + 9 * 9 ^ f ≤ 1000000000000000000) :
    Calls Tryd.prog 18 #[.int .i64 0, .int .i64 ((P : Int) - 1), .func (.func 19) #[] #[.pointer (some ⟨tb, 0, none⟩), .pointer (some ⟨gb, 0, none⟩)]] W fun e W' => ∃ k : Nat, e = .returned (.tuple #[.int .i64 (k : Int), .bool true]) ∧ k < P ∧ pos1 A P N f g k = true ∧ MapT A P N T mb (m + 9 * 9 ^ f) W' ∧ Moved mb W W' := by
  have hP8 := X.p8
  have hp0 := X.p0
  have hgfh := Lib.hid hgf
  clear hgf
  go_enter Tryd.func18, Tryd.ntmps18
  go_wp2_with fail
  go_loopw [8] (fun i wr => ∃ k : Nat, k ≤ P ∧ i = .int .i64 (k : Int) ∧ Hid (MapT A P N T mb (m + k * 9 ^ f) wr) ∧ Hid (Moved mb W wr) ∧ Hid (∀ j, j < k → pos1 A P N f g j = false)) (fun i _ => P - (intOf i).toNat)
  case atStart => exact ⟨0, Nat.zero_le _, rfl, hM.more (Nat.le_add_right _ _), Moved.refl _ _, upto_zero⟩
  case round =>
    obtain ⟨k, hk, rfl, hMk, hMv, hall⟩ := hrel
    by_cases hlt : k < P
    · have hd : decide ((k : Int) ≤ (P : Int) - 1) = true := decide_eq_true (by omega)
      have hk9 : (k + 1) * 9 ^ f ≤ 9 * 9 ^ f := Nat.mul_le_mul_right _ (by omega)
      rw [Nat.succ_mul] at hk9
      have hcall := Lib.hid (giveClo_any (ac := ac) X f g hgfh.out hg1 k hlt wr tb gb ga gc (m + k * 9 ^ f) (hB.moved hMv.out htm) (hMv.out.cell (by exact hgm) yg) (hM.rows hR hMv.out) hc (hMv.out.ext w0 X.low he0) hMk.out (by omega))
      obtain ⟨b, hb⟩ : ∃ b, b = pos1 A P N f g k := ⟨_, rfl⟩
      rw [show (mayT A N g (k : Int) && decide (0 < cntT A P N f (g ++ [(k : Int)]))) = b from hb.symm] at hcall
      replace hk9 := Lib.hid hk9
      cases b
      · have hn := Lib.hid hb.symm
        clear hb
        go_wp2_with fail
        refine hcall.out.mono ?_
        rintro e w5 ⟨rfl, hM5, hMv5⟩
        have hM5 := Lib.hid hM5
        have hMv5 := Lib.hid (hMv.out.trans hMv5)
        clear hcall
        go_wp2_with fail
        go_roundw
        case rel => exact ⟨k + 1, by omega, by go_num, hM5.out.more (by rw [Nat.succ_mul]; omega), hMv5.out, upto_succ hall.out hn.out⟩
        case measure => simp [intOf]; omega
      · have hn := Lib.hid hb.symm
        clear hb
        go_wp2_with fail
        refine hcall.out.mono ?_
        rintro e w5 ⟨rfl, hM5, hMv5⟩
        have hM5 := Lib.hid hM5
        have hMv5 := Lib.hid (hMv.out.trans hMv5)
        clear hcall
        go_wp2_with fail
        go_ret2
        exact ⟨k, rfl, hlt, hn.out, hM5.out.more (by have := hk9.out; omega), hMv5.out⟩
    · exfalso
      obtain ⟨q, q1, q2, q3⟩ := cntT_pos hpos
      have := hall.out q (by omega)
      rw [pos1_iff.2 ⟨q2, q3⟩] at this
      cases this
theorem MapT.grown {A : List (List Int)} {P N T mb m : Nat} {W W' : World} {row : Option Nat} (h : MapT A P N T mb m W) (hg : W.grownBy W' row) (hne : row ≠ some mb) : MapT A P N T mb m W' := by
  obtain ⟨n, D, h1, h2, h3⟩ := h
  exact ⟨n, D, h1, ownsMap_grown h2 hg hne, h3⟩
theorem MapT.set {A : List (List Int)} {P N T mb m : Nat} {W : World} (h : MapT A P N T mb m W) {rb : Nat} (hne : mb ≠ rb) (o : Nat) (v : Value) : MapT A P N T mb m (W.setCell ⟨rb, o, none⟩ v) := by
  obtain ⟨n, D, h1, h2, h3⟩ := h
  exact ⟨n, D, h1, ownsMap_set h2 hne o v, h3⟩
theorem hbig {j t : Nat} (h : j < t) (ht : t ≤ 12) (f : Nat) (hf : 9 ^ f ≤ 282429536481) : (j + 1) * 2541865828329 + 9 * 9 ^ f ≤ 1000000000000000000 := by
  generalize 9 ^ f = q at hf
  have h1 : j ≤ 11 := by omega
  omega
def giveC (P T G : Int) (A : List (List Int)) : Int := if codeT P T G A = 0 then (if cntT A P.toNat G.toNat T.toNat [] = 0 then 3 else 0) else codeT P T G A
theorem giveC_no {P T G : Int} {A : List (List Int)} (h : codeT P T G A ≠ 0) : giveC P T G A = codeT P T G A := if_neg h
theorem giveC_3 {P T G : Int} {A : List (List Int)} (h : codeT P T G A = 0) (h2 : cntT A P.toNat G.toNat T.toNat [] = 0) : giveC P T G A = 3 := by unfold giveC; rw [if_pos h, if_pos h2]
theorem giveC_0 {P T G : Int} {A : List (List Int)} (h : codeT P T G A = 0) (h2 : ¬ cntT A P.toNat G.toNat T.toNat [] = 0) : giveC P T G A = 0 := by unfold giveC; rw [if_pos h, if_neg h2]
set_option maxRecDepth 100000 in
set_option maxHeartbeats 16000000 in
theorem GiveTurns_any (w : World) (P T G : Int) (aa : Option Addr) (A : List (List Int)) (vs : List Sl) (ac : Nat) (HA : IIs w aa A vs) (hAin : ∀ k, k < A.length → (nth A k).length ≤ 1048576) (hAl : A.length ≤ 100) (ht : Tab w) :
    Calls Tryd.prog 6 #[.int .i64 P, .int .i64 T, .int .i64 G, .slice aa A.length ac] w fun e w' => ∃ (va : Option Addr) (vc : Nat) (V : List Int), e = .returned (.tuple #[.slice va V.length vc, .int .i64 (giveC P T G A)]) ∧ IntAt w' va V ∧ Ext w w' ∧ (giveC P T G A = 0 → codeT P T G A = 0 ∧ V.length = T.toNat ∧ wayT A P.toNat G.toNat V) := by
  have HT := Lib.hid (newTurns_any w P T G aa A vs ac HA hAin hAl)
  by_cases h0 : codeT P T G A = 0
  · obtain ⟨⟨p0, p8⟩, ⟨t0, t12⟩, ⟨g0, g12⟩, hAP⟩ := codeT_ok h0
    obtain ⟨p, rfl⟩ := Int.eq_ofNat_of_zero_le (show 0 ≤ P by omega)
    obtain ⟨t, rfl⟩ := Int.eq_ofNat_of_zero_le t0
    obtain ⟨n, rfl⟩ := Int.eq_ofNat_of_zero_le (show 0 ≤ G by omega)
    have hX := Lib.hid fun (mb : Nat) (hmb : w.heap.size ≤ mb) => (show TurnX w aa A vs p t n mb from ⟨HA, hAin, by omega, by omega, by omega, by omega, by omega, by omega, ht, hmb⟩)
    have h0h := Lib.hid h0
    have hb9 := pow9 (f := t) (by omega)
    have hcb := cntT_le A p n t []
    have hpb := pow_bd (P := p) (f := t) (by omega) (by omega)
    have hg3 := Lib.hid (giveC_3 h0)
    have hg0 := Lib.hid (giveC_0 h0)
    obtain ⟨c, hc⟩ : ∃ c, c = cntT A p n t [] := ⟨_, rfl⟩
    rw [show cntT A (p : Int).toNat (n : Int).toNat (t : Int).toNat [] = c from hc.symm] at hg3 hg0
    rw [← hc] at hcb
    replace hc := Lib.hid hc
    rw [h0] at HT
    clear HA hAin ht h0 hAP
    go_enter Tryd.func6, Tryd.ntmps6
    go_wp2_with fail
    refine HT.out.mono ?_
    rintro e w1 ⟨E1, v0, v1, v2, v3, v4, rfl, hm, -⟩
    obtain ⟨mb, hmw, rfl, rfl, rfl, rfl, rfl, hown⟩ := hm (by first | rfl | trivial)
    have hx2 := (Ext.refl w1).alloc (.cells #[.int .i64 (p : Int), .int .i64 (t : Int), .int .i64 (n : Int), .slice aa A.length ac, .map (some mb)] 50)
    have hmlt := hown.lt
    have hTB := TBox.new w1 p t n aa A.length ac mb rfl 50
    obtain ⟨W2, hW2⟩ : ∃ W2, W2 = w1.alloc (.cells #[.int .i64 (p : Int), .int .i64 (t : Int), .int .i64 (n : Int), .slice aa A.length ac, .map (some mb)] 50) := ⟨_, rfl⟩
    obtain ⟨tb, htb⟩ : ∃ tb, tb = w1.heap.size := ⟨_, rfl⟩
    rw [← hW2] at hx2 hTB
    rw [← htb] at hTB
    have htm : tb ≠ mb := by omega
    have hmtb : mb < tb := by omega
    have htw : w.heap.size ≤ tb := by rw [htb]; exact E1.size
    have hE2 := Lib.hid (E1.trans hx2)
    have hM2 := Lib.hid (show MapT A p n t mb 0 W2 from ⟨0, _, Nat.le_refl _, ownsMap_ext hown hx2, MemoT.nil A p n t⟩)
    have HC := Lib.hid (count_any (ac := ac) (hX.out mb hmw) t [] W2 none 0 0 (by simp) (OneP.nil p) RowsAt.nil (Nat.le_refl _) hE2.out hM2.out (by omega))
    rw [← hc.out] at HC
    obtain ⟨y0, y1, y2, y3, y4⟩ := hTB
    have hyl := block_lt y0
    have hTB := Lib.hid (show TBox W2 tb p t n aa A.length ac mb from ⟨y0, y1, y2, y3, y4⟩)
    replace hW2 := Lib.hid hW2
    replace htb := Lib.hid htb
    clear hown E1 HT hM2 hx2
    go_wp2_with fail
    rw [← hW2.out]
    try rw [← htb.out]
    clear hW2
    refine HC.out.mono ?_
    rintro e w3 ⟨rfl, hM3, hMv⟩
    have hE3 := Lib.hid (hMv.ext w hmw hE2.out)
    have hTB3 := Lib.hid (hTB.out.moved hMv htm)
    have hM3 := Lib.hid hM3
    have hz3 : tb < w3.heap.size := hTB3.out.lt
    clear HC hE2 hMv hTB y0 y1 y2 y3 y4 hyl
    by_cases hc0 : c = 0
    · have hv := Lib.hid (hg3.out hc0)
      have hcb0 : ((c : Int) == 0) = true := by rw [hc0]; rfl
      clear hc0
      go_wp2_with fail
      try rw [← htb.out]
      go_ret2
      exact ⟨none, 0, [], by rw [hv.out]; rfl, RowsAt.nil, hE3.out, fun h => by rw [hv.out] at h; cases h⟩
    · have hv := Lib.hid (hg0.out hc0)
      have hcb0 : ((c : Int) == 0) = false := beq_eq_false_iff_ne.2 (by omega)
      have hcp : Hid (0 < cntT A p n t []) := by show 0 < _; rw [← hc.out]; omega
      clear hc0
      have hGB := Lib.hid (Blk.new w3 #[.slice none 0 0] 27)
      have hgx := (Ext.refl w3).alloc (.cells #[.slice none 0 0] 27)
      have hgc : (w3.alloc (.cells #[.slice none 0 0] 27)).cell? ⟨w3.heap.size, 0, none⟩ = some (.slice none 0 0) := by rw [cell_new]; rfl
      obtain ⟨W4, hW4⟩ : ∃ W4, W4 = w3.alloc (.cells #[.slice none 0 0] 27) := ⟨_, rfl⟩
      obtain ⟨gb, hgb⟩ : ∃ gb, gb = w3.heap.size := ⟨_, rfl⟩
      rw [← hW4, ← hgb] at hGB hgc
      rw [← hW4] at hgx
      have hgt : tb < gb := by omega
      have hTB4 := Lib.hid (hTB3.out.ext hgx)
      have hM4 := Lib.hid (hM3.out.ext hgx)
      have hE4 := Lib.hid (hE3.out.trans hgx)
      have hgch := Lib.hid hgc
      replace hW4 := Lib.hid hW4
      replace hgb := Lib.hid hgb
      clear hgx hTB3 hM3 hE3 hgc
      go_wp2_with fail
      try rw [← htb.out]
      rw [← hW4.out, ← hgb.out]
      clear hW4 htb hgb hcb0
      go_loopw [32] (fun i wr => ∃ (j : Nat) (g : List Int) (v : Value), j ≤ t ∧ i = .int .i64 (j : Int) ∧ g.length = j ∧ Hid (OneP p g) ∧ Hid (wayT A p n g) ∧ Hid (0 < cntT A p n (t - j) g) ∧ Hid (TBox wr tb p t n aa A.length ac mb) ∧ Hid (Blk wr gb 27 1) ∧ Hid (wr.cell? ⟨gb, 0, none⟩ = some v) ∧ Hid (Lst 2 1 cellI wr (gb + 1) v g) ∧ Hid (MapT A p n t mb ((j + 1) * 2541865828329) wr) ∧ Hid (Ext w wr)) (fun i _ => t - (intOf i).toNat)
      case atStart => exact ⟨0, [], .slice none 0 0, Nat.zero_le _, rfl, rfl, OneP.nil p, wayT.nil A p n, hcp.out, hTB4.out, hGB.out, hgch.out, Lst.nil _ _, hM4.out.more (by omega), hE4.out⟩
      case round =>
        clear hTB4 hGB hgch hM4 hE4
        obtain ⟨j, g, v, hj, rfl, hgj, hg1, hway, hpos, hTB, hGB, hgc, hL, hM, hE⟩ := hrel
        have hgl := hGB.out.lt
        have hgf := hGB.out.frozen 0
        have hc9 := hgc.out
        have htl := hTB.out.lt
        replace hgj := Lib.hid hgj
        by_cases hlt : j < t
        · have hd : decide (j < t) = true := decide_eq_true hlt
          have t12n : t ≤ 12 := by omega
          obtain ⟨f, hf⟩ : ∃ f, t - j = f + 1 := ⟨t - j - 1, by omega⟩
          rw [hf] at hpos
          have hf12 := pow9 (f := f) (by omega)
          obtain ⟨ga, gc, rfl, hgcap, -, hR, -⟩ := hL.out.shape
          have hgl12 : g.length ≤ 12 := by rw [hgj.out]; omega
          have HLs := Lib.hid (leastT_any (ac := ac) (hX.out mb hmw) f g (by rw [hgj.out]; omega) hg1.out hpos.out wr tb gb ga gc ((j + 1) * 2541865828329) hTB.out htm (by omega) hc9 hR hgcap hE.out hM.out (hbig hlt t12n f hf12))
          have hHc := Lib.hid hc9
          clear hR hc9 hgc
          replace hf := Lib.hid hf
          go_wp2_with fail
          refine HLs.out.mono ?_
          rintro e w5 ⟨k, rfl, hkp, hk1, hM5, hMv⟩
          obtain ⟨hmay, hcp5⟩ := pos1_iff.1 hk1
          have hM5 := Lib.hid hM5
          have hTB5 := Lib.hid (hTB.out.moved hMv htm)
          have hGB5 := Lib.hid (hMv.blk (g := gb) (by omega) hGB.out)
          have hc5 := hMv.cell (p := ⟨gb, 0, none⟩) (by show gb ≠ mb; omega) hHc.out
          have hL5 := Lib.hid (hL.out.moved hMv (by omega))
          have hE5 := Lib.hid (hMv.ext w hmw hE.out)
          have hgl5 := hGB5.out.lt
          have hgf5 := hGB5.out.frozen 0
          have hw2 := Lib.hid (hway.out.push (p := (k : Int)) (by omega) (by omega) hmay)
          have ho2 := Lib.hid (hg1.out.push hkp)
          have hcp6 := Lib.hid hcp5
          clear HLs hHc hTB hGB hL hE hM hMv hgl hgf htl hk1 hmay hcp5
          have hx := Lib.hid ((Ext.refl w5).alloc (.cells #[.int .i64 (k : Int)] 2))
          have hLx := Lib.hid (hL5.out.ext hx.out)
          have HR2 : Hid (IntAt (w5.alloc (.cells #[.int .i64 (k : Int)] 2)) (some ⟨w5.heap.size, 0, none⟩) [(k : Int)]) := rows_new (n := 1) (cell := cellI) (T := 2) w5 #[.int .i64 (k : Int)] (k : Int) (fun i hi => by rw [show i = 0 from Nat.lt_one_iff.1 hi]; rfl)
          have hbs : gb + 1 ≤ (w5.alloc (.cells #[.int .i64 (k : Int)] 2)).heap.size := by rw [size_new]; omega
          replace hbs := Lib.hid hbs
          go_wp2_with (at_builtin; refine wpList_pushL elInt oneInt rfl _ _ rfl (gb + 1) _ g (by rfl) hLx.out _ 1 1 [(k : Int)] rfl (by rfl) HR2.out (by omega) (by omega) hbs.out ?_; intro v6 w6 L6 _ g6; obtain ⟨a6, q6, e6, -, -, -, -⟩ := L6.shape; rw [show (g ++ [(k : Int)]).length = g.length + 1 by simp] at e6; subst e6; have L6 := Lib.hid L6; have hrow := hLx.out.row_ne (g := gb) (by omega); have hrt := hLx.out.row_ne (g := tb) (by omega); have hrm := hLx.out.row_ne (g := mb) (by omega); have hge := hLx.out.ge; have c6 := cell_grown (hx.out.cell hc5) g6 hrow; have hGB6 := Lib.hid ((hGB5.out.ext hx.out).grown g6 hrow); have hTB6 := Lib.hid ((hTB5.out.ext hx.out).grown g6 hrt); have hM6 := Lib.hid ((hM5.out.ext hx.out).grown g6 hrm); have hE6 := Lib.hid ((hE5.out.trans hx.out).grown g6 (fun q hq => by have := hge q hq; omega)); have hgl6 := hGB6.out.lt; have hgf6 := hGB6.out.frozen 0; clear g6 hrow hrt hrm hge hLx HR2 hbs hc5 hgl5 hgf5)
          go_roundw
          case rel => exact ⟨j + 1, g ++ [(k : Int)], _, by omega, by go_num, by rw [List.length_append, hgj.out]; rfl, ho2.out, hw2.out, by show 0 < _; rw [show t - (j + 1) = f by have := hf.out; omega]; exact hcp6.out, hTB6.out.set (by omega) _, hGB6.out.set _ _ _, hGB6.out.same (by decide) _, L6.out.set (by omega) _, (hM6.out.set (by omega) _ _).more (by have := Nat.succ_mul (j + 1) 2541865828329; omega), hE6.out.setCell (p := ⟨gb, 0, none⟩) (by show w.heap.size ≤ gb; omega) _⟩
          case measure => simp [intOf]; omega
        · have hd : decide (j < t) = false := decide_eq_false hlt
          have hjt : j = t := by omega
          obtain ⟨ga, gc, rfl, hgcap, -, hR, -⟩ := hL.out.shape
          have hR := Lib.hid hR
          replace hjt := Lib.hid hjt
          clear hgc
          go_wp2_with fail
          go_ret2
          exact ⟨ga, gc, g, by rw [hv.out]; rfl, hR.out, hE.out, fun _ => ⟨h0h.out, by rw [hgj.out, hjt.out]; rfl, hway.out⟩⟩
  · have hb : (codeT P T G A != 0) = true := bne_iff_ne.2 h0
    have hv := Lib.hid (giveC_no h0)
    obtain ⟨C, hC⟩ : ∃ C, C = codeT P T G A := ⟨_, rfl⟩
    have hne : Hid (C ≠ 0) := by show C ≠ 0; rw [hC]; exact h0
    rw [← hC] at HT hb hv
    clear hC h0 HA hAin ht
    go_enter Tryd.func6, Tryd.ntmps6
    go_wp2_with fail
    refine HT.out.mono ?_
    rintro e w1 ⟨E1, v0, v1, v2, v3, v4, rfl, -, hm⟩
    obtain ⟨rfl, rfl, rfl, rfl, rfl⟩ := hm hne.out
    have E1 := Lib.hid E1
    clear HT
    go_wp2_with fail
    go_ret2
    exact ⟨none, 0, [], by rw [hv.out]; rfl, RowsAt.nil, E1.out.alloc _, fun h => by rw [hv.out] at h; exact absurd h hne.out⟩
end Go.Proofs.YtmkmmenkjbmppaaDoor
