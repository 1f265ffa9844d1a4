/- Turns given to people: who had the last ones, who may have the next one. -/
import Derived.Test.YtmkmmenkjbmppaaDoorTurnP
import Derived.Test.YtmkmmenkjbmppaaDoorCutW
import Derived.Test.YtmkmmenkjbmppaaDoorIIB
namespace Go.Proofs.YtmkmmenkjbmppaaDoor
open Go.RowKit
theorem elInt : El Tryd.prog 27 2 1 8 := El.mk' Tryd.underlying27 (by kernel_rfl) (by decide)
theorem oneInt : ∀ (x : Int) (j : Nat), j < 1 → (cellI x j).oneCell' = true := fun _ _ _ => rfl
theorem wpList_cutHiX {α : Type} [Inhabited α] {T n : Nat} {cell : α → Nat → Value} {w : World} {P : Program} {ops : Array Oper} {rest : List Oper} {o : Oper} {a : Act} {Q : Exit → Act → World → Prop} {t bytes : Nat} (E : El P t T n bytes) (hgd : o.guard = none) (x h : Operand)
    (ho : o.op = .slice t x (some h) none none) (ad : Option Addr) (len cap : Nat) (l : List α) (k : Nat) (hx : a.eval x = .slice ad len cap) (hh : a.eval h = .int .i64 (k : Int)) (hR : RowsAt n cell w ad l) (hl : l.length = len) (hk : k ≤ len) (hc : len ≤ cap)
    (H : RowsAt n cell w (if cap = k then ad else ad.map (·.add (k * n))) (l.drop k) → wpList P ops Q rest (a.put o.dst (.slice (if cap = k then ad else ad.map (·.add (k * n))) (len - k) (cap - k))) w) : wpList P ops Q (o :: rest) a w := by
  obtain ⟨i, z, hi, -, hs, -⟩ := E.inf
  have he : P.elem t = T := by simp [Program.elem, E.und]
  have hu : P.underlying t = some (.slice (P.elem t)) := by rw [he]; exact E.und
  have hz : (sizeOf T).run P w = .ok n w := by simp [sizeOf, typeInfo, hi, hs]
  have hrun : (Instr.sliceAt t (.slice ad len cap) (some (.int .i64 (k : Int))) none none).run P w = .ok (sliced ad k len cap n) w := by
    rw [run_sliceAt_slice w t _ _ _ _ hu, run_slice_l w t _ _ _ hu .i64 _ (by omega) (by omega), he, hz]
    simp only [Result.andThen, Int.toNat_natCast]
  have hRd : RowsAt n cell w (if cap = k then ad else ad.map (·.add (k * n))) (l.drop k) := by
    by_cases h0 : k = len
    · have : l.drop k = [] := List.eq_nil_of_length_eq_zero (by rw [List.length_drop]; omega)
      rw [this]; exact RowsAt.nil
    · obtain ⟨b, off, e⟩ := hR.base (show 0 < l.length by omega)
      subst e
      rw [if_neg (by omega)]
      show RowsAt n cell w (some ((⟨b, off, none⟩ : Addr).add (k * n))) _
      rw [addr_add]
      exact RowsAt.drop hR k
  refine wpList_plain hgd fun K hK => ?_
  unfold Oper.wp
  simp [execOp, ho, hx, hh, hrun, Result.andThen]
  exact hK _ _ (H hRd)
/-- Where x[k:] lies. -/
def cutA (a : Option Addr) (cap k : Nat) : Option Addr := if cap = k then a else a.map (·.add (k * 1))
theorem cutA_rows {w : World} {a : Option Addr} {cap k : Nat} {l : List Int} (H : IntAt w a l) (hk : k ≤ l.length) (hc : l.length ≤ cap) : IntAt w (cutA a cap k) (l.drop k) := by
  unfold cutA
  by_cases h0 : k = l.length
  · have : l.drop k = [] := List.eq_nil_of_length_eq_zero (by rw [List.length_drop]; omega)
    rw [this]; exact RowsAt.nil
  · obtain ⟨b, off, e⟩ := RowsAt.base H (show 0 < l.length by omega)
    subst e
    rw [if_neg (by omega)]
    show RowsAt 1 _ w (some ((⟨b, off, none⟩ : Addr).add (k * 1))) _
    rw [addr_add]
    exact RowsAt.drop H k
set_option maxHeartbeats 2000000 in
theorem recent_any (w : World) (P T G : Int) (aa : Option Addr) (An ac : Nat) (mp : Option Nat) (ga : Option Addr) (gc : Nat) (g : List Int) (N : Nat) (hN : G = N) (H : IntAt w ga g) (hc : g.length ≤ gc) (hg : g.length ≤ 12) (hG0 : 1 ≤ N) (hG : N ≤ 12) :
    Gives Tryd.prog 39 #[.agg #[.int .i64 P, .int .i64 T, .int .i64 G, .slice aa An ac, .map mp], .slice ga g.length gc] w (.slice (cutA ga gc (g.length + 1 - N)) (recT N g).length (gc - (g.length + 1 - N))) := by
  unfold Gives
  have HX := Lib.hid (RowsAt.ext H ((Ext.refl w).alloc (.cells #[.int .i64 P, .int .i64 T, .int .i64 G, .slice aa An ac, .map mp] 50)))
  clear H
  subst hN
  have hl : Hid ((recT N g).length = g.length - (g.length + 1 - N)) := by show _ = _; unfold recT; rw [List.length_drop]
  obtain ⟨K, hK⟩ : ∃ K, K = g.length + 1 - N := ⟨_, rfl⟩
  rw [← hK] at hl ⊢
  have hKg : K ≤ g.length := by omega
  rw [hl.out]
  clear hl
  have hca : Hid (cutA ga gc K = if gc = K then ga else ga.map (·.add (K * 1))) := rfl
  go_enter Tryd.func39, Tryd.ntmps39
  rcases Nat.lt_or_ge (g.length + 1) N with h | h
  · have hK0 : K = 0 := by omega
    have hm : ((g.length : Int) - N + 1) < 0 := by omega
    clear hK
    try dsimp only
    repeat (first | ((with_reducible show wpList _ _ _ (Oper.mk _ (Op.slice _ _ _ _ _) _ _ _ _ :: _) _ _); refine wpList_cutHiX elInt rfl _ _ rfl _ g.length gc g K (by rfl) (by first | rfl | (rw [hK0]; rfl) | (rw [hK0]; go_simp; done) | (rw [hK0]; go_simp; omega)) HX.out rfl hKg hc ?_; intro _; rw [← hca.out]; refine Hid.out ?_) | go_values | go_skip | go_guarded | go_step | go_upon | go_back)
    refine Lib.hid ?_
    subst hK0
    go_wp2_with fail
    go_ret
    exact ⟨rfl, (by repeat (first | exact Ext.refl _ | refine Ext.lift ?_ _ | refine Ext.alloc ?_ _))⟩
  · have hm : ((g.length : Int) - N + 1) = K := by omega
    clear hK
    try dsimp only
    repeat (first | ((with_reducible show wpList _ _ _ (Oper.mk _ (Op.slice _ _ _ _ _) _ _ _ _ :: _) _ _); refine wpList_cutHiX elInt rfl _ _ rfl _ g.length gc g K (by rfl) (by first | rfl | (rw [← hm]; rfl) | (rw [← hm]; go_simp)) HX.out rfl hKg hc ?_; intro _; rw [← hca.out]; refine Hid.out ?_) | go_values | go_skip | go_guarded | go_step | go_upon | go_back)
    refine Lib.hid ?_
    go_wp2_with fail
    go_ret
    exact ⟨rfl, (by repeat (first | exact Ext.refl _ | refine Ext.lift ?_ _ | refine Ext.alloc ?_ _))⟩
/-- Those who may have the next turn. -/
theorem may_any (w : World) (P T G : Int) (aa : Option Addr) (A : List (List Int)) (vs : List Sl) (ac : Nat) (mp : Option Nat) (ga : Option Addr) (gc : Nat) (g : List Int) (N : Nat) (hN : G = N) (H : IntAt w ga g) (HA : IIs w aa A vs) (hAin : ∀ k, k < A.length → (nth A k).length ≤ 1048576) (hc : g.length ≤ gc) (hg : g.length ≤ 12) (hG0 : 1 ≤ N) (hG : N ≤ 12) (p : Nat) (hp : p < A.length) :
    Gives Tryd.prog 20 #[.agg #[.int .i64 P, .int .i64 T, .int .i64 G, .slice aa A.length ac, .map mp], .slice ga g.length gc, .int .i64 (p : Int)] w (.bool (mayT A N g (p : Int))) := by
  unfold Gives
  subst hN
  have hx := (Ext.refl w).alloc (.cells #[.int .i64 P, .int .i64 T, .int .i64 N, .slice aa A.length ac, .map mp] 50)
  have hR := Lib.hid (recent_any (w.alloc (.cells #[.int .i64 P, .int .i64 T, .int .i64 N, .slice aa A.length ac, .map mp] 50)) P T N aa A.length ac mp ga gc g N rfl (RowsAt.ext H hx) hc hg hG0 hG)
  have hcr : Hid (IntAt (w.alloc (.cells #[.int .i64 P, .int .i64 T, .int .i64 N, .slice aa A.length ac, .map mp] 50)) (cutA ga gc (g.length + 1 - N)) (recT N g)) := cutA_rows (RowsAt.ext H hx) (by omega) hc
  have hrl : Hid ((recT N g).length ≤ 12) := by show _ ≤ _; unfold recT; rw [List.length_drop]; omega
  have HI := HA.ext hx
  obtain ⟨ab, ao, rfl⟩ := RowsAt.base HI.row (by rw [HI.len]; exact hp)
  obtain ⟨hab, ad, cp, c0, -, hIA⟩ := HI.at hp
  have hIAl := hAin p hp
  have hm : Hid (mayT A N g (p : Int) = (!hasB (recT N g) (p : Int) && !hasB (nth A p) (g.length : Int))) := rfl
  obtain ⟨W, hW⟩ : ∃ W, W = w.alloc (.cells #[.int .i64 P, .int .i64 T, .int .i64 N, .slice (some ⟨ab, ao, none⟩) A.length ac, .map mp] 50) := ⟨_, rfl⟩
  have b3 : W.cell? ⟨w.heap.size, 3, none⟩ = some (.slice (some ⟨ab, ao, none⟩) A.length ac) := by rw [hW, cell_new]; rfl
  have hwl : w.heap.size < W.heap.size := by rw [hW, size_new]; omega
  rw [← hW] at hR hIA c0 hab hx hcr
  have hC := Lib.hid fun (W' : World) (he : Ext W W') => Contains_any ad cp (nth A p) (g.length : Int) W' (RowsAt.ext hIA he) (by omega)
  clear HI HA H hIA hAin
  go_enter Tryd.func20, Tryd.ntmps20
  go_wp2_with fail
  rw [← hW]
  clear hW
  refine hR.out.mono ?_
  rintro e w1 ⟨rfl, E1⟩
  have hRR := Lib.hid (RowsAt.ext hcr.out E1)
  have E1 := Lib.hid E1
  have hx1 := Lib.hid (hx.trans E1.out)
  have b3 := E1.out.cell b3
  have c0 := E1.out.cell c0
  have hab := Nat.lt_of_lt_of_le hab E1.out.size
  have hwl := Nat.lt_of_lt_of_le hwl E1.out.size
  clear hR hx
  have hC1 := Lib.hid (Contains_any (cutA ga gc (g.length + 1 - N)) (gc - (g.length + 1 - N)) (recT N g) (p : Int) w1 hRR.out (by have := hrl.out; omega))
  rcases (show hasB (recT N g) (p : Int) = true ∨ hasB (recT N g) (p : Int) = false by cases hasB (recT N g) (p : Int) <;> simp) with h1 | h1
  · rw [h1] at hC1
    have hmf : Hid (mayT A N g (p : Int) = false) := by show _ = _; rw [hm.out, h1]; rfl
    clear hm h1
    go_wp2_with fail
    refine hC1.out.mono ?_
    rintro e w2 ⟨rfl, hw2⟩
    subst hw2
    go_wp2_with fail
    go_ret
    exact ⟨by rw [hmf.out]; rfl, hx1.out⟩
  · rw [h1] at hC1
    have hmf : Hid (mayT A N g (p : Int) = !hasB (nth A p) (g.length : Int)) := by show _ = _; rw [hm.out, h1]; rfl
    clear hm h1
    go_wp2_with fail
    refine hC1.out.mono ?_
    rintro e w2 ⟨rfl, hw2⟩
    subst hw2
    go_wp2_with fail
    refine (hC.out _ E1.out).mono ?_
    rintro e w2 ⟨rfl, hw2⟩
    subst hw2
    go_wp2_with fail
    go_ret
    exact ⟨by rw [hmf.out]; rfl, hx1.out⟩
end Go.Proofs.YtmkmmenkjbmppaaDoor
