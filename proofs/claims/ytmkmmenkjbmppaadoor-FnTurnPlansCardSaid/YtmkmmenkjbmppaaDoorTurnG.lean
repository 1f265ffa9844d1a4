/- Turns given to people: how many ways there are; the first way. -/
import Derived.Test.YtmkmmenkjbmppaaDoorTurnN
namespace Go.Proofs.YtmkmmenkjbmppaaDoor
open Go.RowKit Go.Maps
/-- The list of turns in a box. -/
structure TBox (W : World) (tb P T N : Nat) (aa : Option Addr) (An ac mb : Nat) : Prop where
  y0 : W.cell? ⟨tb, 0, none⟩ = some (.int .i64 (P : Int))
  y1 : W.cell? ⟨tb, 1, none⟩ = some (.int .i64 (T : Int))
  y2 : W.cell? ⟨tb, 2, none⟩ = some (.int .i64 (N : Int))
  y3 : W.cell? ⟨tb, 3, none⟩ = some (.slice aa An ac)
  y4 : W.cell? ⟨tb, 4, none⟩ = some (.map (some mb))
section
variable {W W' : World} {tb P T N : Nat} {aa : Option Addr} {An ac mb : Nat}
theorem TBox.new (W : World) (P T N : Nat) (aa : Option Addr) (An ac mb : Nat) {n : Nat} (hn : n = W.heap.size) (U : TypeId) : TBox (W.alloc (.cells #[.int .i64 (P : Int), .int .i64 (T : Int), .int .i64 (N : Int), .slice aa An ac, .map (some mb)] U)) n P T N aa An ac mb := by
  subst hn
  exact ⟨by rw [cell_new]; rfl, by rw [cell_new]; rfl, by rw [cell_new]; rfl, by rw [cell_new]; rfl, by rw [cell_new]; rfl⟩
theorem TBox.ext (h : TBox W tb P T N aa An ac mb) (he : Ext W W') : TBox W' tb P T N aa An ac mb := ⟨he.cell h.y0, he.cell h.y1, he.cell h.y2, he.cell h.y3, he.cell h.y4⟩
theorem TBox.moved (h : TBox W tb P T N aa An ac mb) (hm : Moved mb W W') (hne : tb ≠ mb) : TBox W' tb P T N aa An ac mb :=
  ⟨hm.cell (by exact hne) h.y0, hm.cell (by exact hne) h.y1, hm.cell (by exact hne) h.y2, hm.cell (by exact hne) h.y3, hm.cell (by exact hne) h.y4⟩
theorem TBox.lt (h : TBox W tb P T N aa An ac mb) : tb < W.heap.size := block_lt h.y0
theorem TBox.grown (h : TBox W tb P T N aa An ac mb) {row : Option Nat} (hg : W.grownBy W' row) (hne : row ≠ some tb) : TBox W' tb P T N aa An ac mb := ⟨cell_grown h.y0 hg hne, cell_grown h.y1 hg hne, cell_grown h.y2 hg hne, cell_grown h.y3 hg hne, cell_grown h.y4 hg hne⟩
theorem TBox.set (h : TBox W tb P T N aa An ac mb) {b o : Nat} (hne : b ≠ tb) (v : Value) : TBox (W.setCell ⟨b, o, none⟩ v) tb P T N aa An ac mb :=
  ⟨by rw [cell_other _ (by omega)]; exact h.y0, by rw [cell_other _ (by omega)]; exact h.y1, by rw [cell_other _ (by omega)]; exact h.y2, by rw [cell_other _ (by omega)]; exact h.y3, by rw [cell_other _ (by omega)]; exact h.y4⟩
end
theorem pow9 {f : Nat} (h : f ≤ 12) : 9 ^ f ≤ 282429536481 := Nat.le_trans (Nat.pow_le_pow_right (by decide) h) (by decide)
def manyT (P T G : Int) (A : List (List Int)) : Int := if codeT P T G A = 0 then min ((cntT A P.toNat G.toNat T.toNat [] : Nat) : Int) 20000 else 0
theorem manyT_no {P T G : Int} {A : List (List Int)} (h : codeT P T G A ≠ 0) : manyT P T G A = 0 := if_neg h
theorem manyT_yes {P T G : Int} {A : List (List Int)} (h : codeT P T G A = 0) : manyT P T G A = min ((cntT A P.toNat G.toNat T.toNat [] : Nat) : Int) 20000 := if_pos h
set_option maxRecDepth 100000 in
set_option maxHeartbeats 8000000 in
theorem CountTurns_any (w : World) (P T G : Int) (aa : Option Addr) (A : List (List Int)) (vs : List Sl) (ac : Nat) (HA : IIs w aa A vs) (hAin : ∀ k, k < A.length → (nth A k).length ≤ 1048576) (hAl : A.length ≤ 100) (ht : Tab w) :
    Gives Tryd.prog 7 #[.int .i64 P, .int .i64 T, .int .i64 G, .slice aa A.length ac] w (.tuple #[.int .i64 (manyT P T G A), .int .i64 (codeT P T G A)]) := by
  unfold Gives
  have HT := Lib.hid (newTurns_any w P T G aa A vs ac HA hAin hAl)
  by_cases h0 : codeT P T G A = 0
  · obtain ⟨⟨p0, p8⟩, ⟨t0, t12⟩, ⟨g0, g12⟩, hAP⟩ := codeT_ok h0
    obtain ⟨p, rfl⟩ := Int.eq_ofNat_of_zero_le (show 0 ≤ P by omega)
    obtain ⟨t, rfl⟩ := Int.eq_ofNat_of_zero_le t0
    obtain ⟨n, rfl⟩ := Int.eq_ofNat_of_zero_le (show 0 ≤ G by omega)
    have hX := Lib.hid fun (mb : Nat) (hmb : w.heap.size ≤ mb) => (show TurnX w aa A vs p t n mb from ⟨HA, hAin, by omega, by omega, by omega, by omega, by omega, by omega, ht, hmb⟩)
    have hv := Lib.hid (manyT_yes h0)
    have h0h := Lib.hid h0
    have hb9 := pow9 (f := t) (by omega)
    have hcb := cntT_le A p n t []
    have hpb := pow_bd (P := p) (f := t) (by omega) (by omega)
    obtain ⟨c, hc⟩ : ∃ c, c = cntT A p n t [] := ⟨_, rfl⟩
    have hv2 : Hid (manyT p t n A = min (c : Int) 20000) := by show _ = _; rw [hv.out, hc]; rfl
    rw [← hc] at hcb
    replace hc := Lib.hid hc
    rw [h0] at HT
    rw [h0]
    clear HA hAin ht h0 hv hAP
    go_enter Tryd.func7, Tryd.ntmps7
    go_wp2_with fail
    refine HT.out.mono ?_
    rintro e w1 ⟨E1, v0, v1, v2, v3, v4, rfl, hm, -⟩
    obtain ⟨mb, hmw, rfl, rfl, rfl, rfl, rfl, hown⟩ := hm (by first | rfl | trivial)
    have hx2 := (Ext.refl w1).alloc (.cells #[.int .i64 (p : Int), .int .i64 (t : Int), .int .i64 (n : Int), .slice aa A.length ac, .map (some mb)] 50)
    have hE2 := Lib.hid (E1.trans hx2)
    have hM2 := Lib.hid (show MapT A p n t mb 0 _ from ⟨0, _, Nat.le_refl _, ownsMap_ext hown hx2, MemoT.nil A p n t⟩)
    have HC := Lib.hid (count_any (ac := ac) (hX.out mb hmw) t [] _ none 0 0 (by simp) (OneP.nil p) RowsAt.nil (Nat.le_refl _) hE2.out hM2.out (by omega))
    rw [← hc.out] at HC
    clear hown E1 HT hX hM2
    go_wp2_with fail
    refine HC.out.mono ?_
    rintro e w3 ⟨rfl, -, hMv⟩
    have hE3 := Lib.hid (hMv.ext w hmw hE2.out)
    clear HC hE2 hMv hx2
    rcases Nat.lt_or_ge c 20000 with hlt | hge
    · have hmn : Hid (manyT p t n A = c) := by show _ = _; rw [hv2.out]; omega
      have hl2 : (c : Int) < 20000 := by omega
      go_wp2_with fail
      go_ret2
      exact ⟨by rw [hmn.out]; first | rfl | (congr 3; done) | (simp; omega), hE3.out⟩
    · have hmn : Hid (manyT p t n A = 20000) := by show _ = _; rw [hv2.out]; omega
      have hl2 : (20000 : Int) ≤ c := by omega
      go_wp2_with fail
      go_ret2
      exact ⟨by rw [hmn.out]; first | rfl | (congr 3; done) | (simp; omega), hE3.out⟩
  · have hb : (codeT P T G A != 0) = true := bne_iff_ne.2 h0
    have hv := Lib.hid (manyT_no h0)
    obtain ⟨C, hC⟩ : ∃ C, C = codeT P T G A := ⟨_, rfl⟩
    rw [← hC] at HT hb ⊢
    have hne : Hid (C ≠ 0) := by show C ≠ 0; rw [hC]; exact h0
    clear hC h0 HA hAin ht
    go_enter Tryd.func7, Tryd.ntmps7
    go_wp2_with fail
    refine HT.out.mono ?_
    rintro e w1 ⟨E1, v0, v1, v2, v3, v4, rfl, -, hm⟩
    obtain ⟨rfl, rfl, rfl, rfl, rfl⟩ := hm hne.out
    have E1 := Lib.hid E1
    clear HT
    go_wp2_with fail
    go_ret2
    exact ⟨by rw [hv.out]; rfl, E1.out.alloc _⟩
end Go.Proofs.YtmkmmenkjbmppaaDoor
