/- The law FnSearch: survival never grows, no order that is drawn is better than the best one, a delay never helps, and areas are read back from their texts: for all inputs, of any length. -/
import Derived.Test.YtccbcjopmkmipaaDoorSearchW
import Derived.Test.YtccbcjopmkmipaaDoorRAreaW
import Derived.Test.YtccbcjopmkmipaaDoorLawB
import Derived.Test.YtccbcjopmkmipaaDoorRTab
namespace Go.Proofs.YtccbcjopmkmipaaDoor
open Go.RowKit
theorem Lst.low {α : Type} {T n b0 b1 : Nat} {cell : α → Nat → Value} {w : World} {v : Value} {l : List α} (h : Lst T n cell w b1 v l) (hb : b0 ≤ b1) : Lst T n cell w b0 v l := by
  refine ⟨h.1, ?_⟩
  rcases h.2 with h2 | ⟨g, cap, cur, hv, hg, r⟩
  · exact .inl h2
  · exact .inr ⟨g, cap, cur, hv, Nat.le_trans hb hg, r⟩
theorem int_drop {w : World} {g o : Nat} {l : List Int} (h : IntAt w (some ⟨g, o, none⟩) l) (p : Nat) : IntAt w (some ⟨g, o + p, none⟩) (l.drop p) := fun k hk => by
  rw [List.length_drop] at hk
  obtain ⟨b, off, e, hb, hc⟩ := h (p + k) (by omega)
  simp only [Option.some.injEq, Addr.mk.injEq, and_true] at e
  obtain ⟨rfl, rfl⟩ := e
  refine ⟨g, o + p, rfl, hb, fun j hj => ?_⟩
  have := hc j hj
  rw [Nat.mul_one] at this ⊢
  rw [show o + p + k + j = o + (p + k) + j by omega, this]
  simp [nth]
theorem read_text {x : Area} (h : areaB x = true) : resArea (areaS x) = x ∧ okArea (areaS x) = true := by
  refine readArea_some ?_
  obtain ⟨-, ⟨c0, c1⟩, ⟨m0, m1⟩, hn⟩ := areaB_bd h
  have e : (areaS x).data.toList = x.id.data.toList ++ 32 :: (Lib.itoa x.chance ++ 47 :: Lib.itoa x.minutes) := by
    unfold areaS; rw [if_pos h, area_bytes, decS_toList, decS_toList]
  have f1 : (32 : UInt8) ∉ Lib.itoa x.chance := itoa_free _ _ (by decide) (by decide)
  have f2 : (32 : UInt8) ∉ Lib.itoa x.minutes := itoa_free _ _ (by decide) (by decide)
  have f3 : (47 : UInt8) ∉ Lib.itoa x.chance := itoa_free _ _ (by decide) (by decide)
  have f4 : (47 : UInt8) ∉ Lib.itoa x.minutes := itoa_free _ _ (by decide) (by decide)
  obtain ⟨k1, k2, -⟩ := two_key e (name_no32 hn) (by simp [f1, f2])
  obtain ⟨l1, l2, -⟩ := two_key (s := restC 32 (areaS x)) (a := Lib.itoa x.chance) (b := Lib.itoa x.minutes) (by rw [k2, mkB_toList]) f3 f4
  have n1 : numP (mkB (Lib.itoa x.chance)).data.toList = some x.chance := by rw [mkB_toList]; exact numP_itoa (by omega) (by omega)
  have n2 : numP (mkB (Lib.itoa x.minutes)).data.toList = some x.minutes := by rw [mkB_toList]; exact numP_itoa (by omega) (by omega)
  have hi : areaI (areaS x) = x := by
    unfold areaI
    rw [k1, l1, l2, (num_some n1).1, (num_some n2).1]
    show (⟨mkB x.id.data.toList, _, _⟩ : Area) = x
    unfold mkB; rw [mk_toList]
  rw [readArea_p, l1, l2, hi, if_pos ⟨(num_some n1).2, (num_some n2).2, rfl⟩]
theorem areaS_size {x : Area} (h : areaB x = true) : (areaS x).size ≤ 1048576 := by
  obtain ⟨b0, ⟨c0, c1⟩, ⟨m0, m1⟩, -⟩ := areaB_bd h
  have d1 := decS_size x.chance (by omega) (by omega)
  have d2 := decS_size x.minutes (by omega) (by omega)
  unfold areaS
  rw [if_pos h, ByteArray.size_append, ByteArray.size_append, ByteArray.size_append, ByteArray.size_append]
  have e32 : (⟨#[32]⟩ : ByteArray).size = 1 := rfl
  have e47 : (⟨#[47]⟩ : ByteArray).size = 1 := rfl
  omega
set_option maxRecDepth 100000 in
set_option maxHeartbeats 16000000 in
theorem search_law (w : World) (ht : RTab w) (a0 : Option Addr) (cap0 : Nat) (l0 : List UInt8) (H0 : RowsAt 1 (fun (x : UInt8) (_ : Nat) => Value.int .u8 x.toNat) w a0 l0) (_ : ∀ k, k < l0.length → True) (hn0 : l0.length ≤ 9223372036854775807) (_ : l0.length ≤ cap0)
    (a1 : Option Addr) (cap1 : Nat) (l1 : List UInt8) (H1 : RowsAt 1 (fun (x : UInt8) (_ : Nat) => Value.int .u8 x.toNat) w a1 l1) (_ : ∀ k, k < l1.length → True) (hn1 : l1.length ≤ 9223372036854775807) (_ : l1.length ≤ cap1) :
    Gives Tryd.prog 3 #[.slice a0 l0.length cap0, .slice a1 l1.length cap1] w (.bool true) := by
  unfold Gives
  have HT := Lib.hid ht
  have B0 := Lib.hid (ByteAt.of8 H0)
  have B1 := Lib.hid (ByteAt.of8 H1)
  have R0 := Lib.hid (byte_range l0)
  have R1 := Lib.hid (byte_range l1)
  rw [show l0.length = (l0.map fun x => (x.toNat : Int)).length by simp] at hn0 ⊢
  rw [show l1.length = (l1.map fun x => (x.toNat : Int)).length by simp] at hn1 ⊢
  clear H0 H1 ht
  generalize (l0.map fun x => (x.toNat : Int)) = code at *
  generalize (l1.map fun x => (x.toNat : Int)) = more at *
  have HL := Lib.hid (r8Long_any a0 a1 code.length more.length cap0 cap1 w hn0 hn1)
  go_enter Tryd.func3, Tryd.ntmps3
  go_wp2_with fail
  refine HL.out.mono ?_
  rintro e w' ⟨b, rfl, hb, rfl⟩
  clear HL
  cases b
  case true =>
    go_wp2_with fail
    go_ret
    exact ⟨rfl, Ext.refl _⟩
  obtain ⟨f0, f1⟩ := hb rfl
  clear hb
  go_wp2_with fail
  refine (R8Areas_any w' a0 cap0 code B0.out R0.out f0).mono ?_
  rintro e w1 ⟨o, oc, l, rfl, hoc, HD, HA, E1⟩
  have hl5 := HD.len
  have hD := Lib.hid HD
  have hv := Lib.hid HD.valid
  have hsm := Lib.hid HD.small
  replace HA := Lib.hid HA
  replace E1 := Lib.hid E1
  clear HD B0 R0 f0
  obtain ⟨s, s0, s1, hs⟩ := r8At_det a1 cap1 more R1.out 0 120 (by omega)
  have s1 := s1 (by omega)
  replace hs := Lib.hid hs
  go_wp2_with fail
  refine (hs.out w1 (RowsAt.ext B1.out E1.out)).mono ?_
  rintro e w2 ⟨rfl, E2⟩
  have HA := Lib.hid (RowsAt.ext HA.out E2)
  have E1 := Lib.hid (E1.out.trans E2)
  clear E2 hs
  obtain ⟨hC, hBl0, hBo0, hG0, hall0⟩ := orders_best hv.out hl5 s0 (show s ≤ 1000 by omega)
  have HB := Lib.hid (implBestOrder_any w2 o oc l HA.out hsm.out (by omega) hoc s 20000)
  rw [hC] at HB
  have hBA : Hid (AllOrd l (ordV l s 20000)) := ⟨hv.out, hBo0, hBl0⟩
  have hall := Lib.hid hall0
  have hG := Lib.hid hG0
  have hBl := Lib.hid hBl0
  have hMM : Hid (∀ x : Int, 0 ≤ sumM l l.length ∧ sumM l l.length ≤ 160) := fun _ => by have := hD.out.min (Nat.le_refl _); omega
  clear hC hall0 hBo0 hG0 hBl0
  generalize ordV l s 20000 = B at *
  generalize ordG l s 20000 = G at *
  have hBne : ((B.length : Int) != (l.length : Int)) = false := by rw [hBl.out]; simp
  go_wp2_with fail
  refine HB.out.mono ?_
  rintro e w4 ⟨ba, bc, rfl, hbc, -, HBr, E4⟩
  replace HBr := Lib.hid HBr
  replace E4 := Lib.hid E4
  clear HB
  have hbc2 : l.length ≤ bc := by rw [← hBl.out]; exact hbc
  go_wp2_with fail
  refine (implMinutesOf_any o oc l w4 (RowsAt.ext HA.out E4.out) hv.out (area_sz hsm.out)).mono ?_
  rintro e w5 ⟨rfl, E5a⟩
  have HBr := Lib.hid (RowsAt.ext HBr.out E5a)
  have E5 := Lib.hid (E4.out.trans E5a)
  clear E4 E5a
  obtain ⟨M, hM⟩ : ∃ M, M = sumM l l.length := ⟨_, rfl⟩
  obtain ⟨C, hC⟩ : ∃ C, C = sumC l l.length := ⟨_, rfl⟩
  have M0 : 0 ≤ M := by rw [hM]; exact (hMM.out 0).1
  have M1 : M ≤ 160 := by rw [hM]; exact (hMM.out 0).2
  rw [← hM, ← hC]
  replace hM := Lib.hid hM
  replace hC := Lib.hid hC
  clear hMM
  have HW := Lib.hid (specWorthOf_all o oc l ba bc B s w5 (RowsAt.ext HA.out E5.out) (area_sz hsm.out) HBr.out hBA.out hbc2 s0 (by omega))
  rw [← hG.out] at HW
  clear hG
  rw [show (Value.slice ba B.length bc) = .slice ba l.length bc by rw [hBl.out]]
  clear hBne
  go_wp2_with fail
  refine HW.out.mono ?_
  rintro e w6 ⟨rfl, E6a⟩
  have E6 := Lib.hid (E5.out.trans E6a)
  have HA := Lib.hid (RowsAt.ext HA.out E6.out)
  have E1 := Lib.hid (E1.out.trans E6.out)
  clear E5 E6a E6 HW HBr hBA hBl hbc hbc2
  have hO0 := Lib.hid (Lst.new (T := 2) (n := 1) (cell := cellI) w6 w6.heap.size (Nat.le_refl _))
  have hE0 := Lib.hid ((Ext.refl w6).alloc (.cells #[] 2))
  go_wp2_with fail
  go_loopw [15, 16] (fun q i wr => ∃ (k : Nat) (t : List Int), k ≤ l.length ∧ i = .int .i64 k ∧ Hid (OrdK t k) ∧ Hid (Lst 2 1 cellI wr w6.heap.size q t) ∧ Hid (∃ g c, q = .slice (some ⟨g, 0, none⟩) k c ∧ k ≤ c) ∧ Ext w6 wr) (fun _ i _ => l.length - (intOf i).toNat)
  case atStart => exact ⟨0, [], Nat.zero_le _, rfl, OrdK.nil, hO0.out, ⟨_, _, rfl, Nat.le_refl _⟩, hE0.out⟩
  case round =>
    clear hO0 hE0
    obtain ⟨k, t, hk, rfl, hK, HO, HX, he⟩ := hrel
    obtain ⟨qg, qc, rfl, hqc⟩ := HX.out
    have hEk := Lib.hid he
    have hsz := he.size
    have htl : t.length = k := hK.out.len
    by_cases hlt : k < l.length
    · obtain ⟨ta, tc, te, -, -, HR, -⟩ := HO.out.shape
      simp only [Value.slice.injEq] at te
      obtain ⟨rfl, -, -⟩ := te
      replace HR := Lib.hid HR
      have htL := Lib.hid htl
      obtain ⟨r, r0, r1, hr⟩ := r8At_det a1 cap1 more R1.out (1 + k) ((k : Int) + 1) (by omega)
      have r1 := r1 (by omega)
      obtain ⟨p, rfl⟩ := Int.eq_ofNat_of_zero_le r0
      have hp : p ≤ k := by omega
      replace hr := Lib.hid (hr wr (RowsAt.ext B1.out (E1.out.trans he)))
      rw [show ((1 + k : Nat) : Int) = 1 + (k : Int) by omega] at hr
      clear he HX htl
      go_wp2_with fail
      refine hr.out.mono ?_
      rintro e W1 ⟨rfl, Ea⟩
      have HR1 := Lib.hid (RowsAt.ext HR.out Ea)
      have hE1 := Lib.hid (hEk.out.trans Ea)
      have hw1 : w6.heap.size ≤ W1.heap.size := Nat.le_trans hsz Ea.size
      clear hr Ea HO HR hEk hsz r0 r1
      have HN := Lib.hid (Lst.new (T := 2) (n := 1) (cell := cellI) W1 W1.heap.size (Nat.le_refl _))
      have hx1 := Lib.hid ((Ext.refl W1).alloc (.cells #[] 2))
      have HRt : Hid (IntAt (W1.alloc (.cells #[] 2)) (some ⟨qg, 0, none⟩) (t.take p)) := (RowsAt.ext HR1.out hx1.out).take p
      have htk : Hid ((t.take p).length = p) := by show _ = _; rw [List.length_take, htL.out]; omega
      try dsimp only
      repeat (first | (at_builtin; refine Hid.out ?_) | go_values | go_skip | go_guarded | go_step | go_upon | go_back)
      refine Lib.hid ?_
      refine wpList_pushL elInt oneInt rfl _ _ rfl W1.heap.size _ [] (by rfl) HN.out _ p _ (t.take p) htk.out (by rfl) HRt.out (by simp; omega) (by simp; omega) (by rw [size_new]; omega) ?_
      intro v1 w7 L1 hs1 hg1
      have hx2 := Lib.hid (hs1 W1 hx1.out (Nat.le_refl _))
      have hw7 := hx2.out.size
      have L1h : Hid (Lst 2 1 cellI w7 W1.heap.size v1 (t.take p)) := L1
      clear L1 hs1 hg1 HN hx1 HRt
      have hx3 := Lib.hid ((Ext.refl w7).alloc (.cells #[.int .i64 (k : Int)] 2))
      have L2h := Lib.hid (L1h.out.ext hx3.out)
      have HR5 : Hid (IntAt (w7.alloc (.cells #[.int .i64 (k : Int)] 2)) (some ⟨w7.heap.size, 0, none⟩) [(k : Int)]) := rows_int w7 (k : Int) rfl
      have hx4 := Lib.hid (hx2.out.trans hx3.out)
      clear L1h hx2 hx3
      try dsimp only
      repeat (first | (at_builtin; refine Hid.out ?_) | go_values | go_skip | go_guarded | go_step | go_upon | go_back)
      refine Lib.hid ?_
      refine wpList_pushL elInt oneInt rfl _ _ rfl W1.heap.size _ (t.take p) (by rfl) L2h.out _ 1 1 [(k : Int)] rfl (by rfl) HR5.out (by have := htk.out; omega) (by have := htk.out; omega) (by rw [size_new]; omega) ?_
      intro v2 w8 L3 hs3 hg3
      have hx5 := Lib.hid (hs3 W1 hx4.out (Nat.le_refl _))
      have hw8 := hx5.out.size
      have L3h := Lib.hid L3
      have HRd : Hid (IntAt w8 (some ⟨qg, p, none⟩) (t.drop p)) := by
        have := int_drop (RowsAt.ext HR1.out hx5.out) p
        rwa [Nat.zero_add] at this
      have htd : Hid ((t.drop p).length = k - p) := by show _ = _; rw [List.length_drop, htL.out]
      have hl3 : Hid ((t.take p ++ [(k : Int)]).length = p + 1) := by show _ = _; rw [List.length_append, htk.out]; rfl
      clear L3 hs3 hg3 L2h HR5 hx4 HR1
      have hki : Hid (OrdK (insAt t p (k : Int)) (k + 1)) := hK.out.ins p
      have hEnd : ∀ (v3 : Value) (w9 : World), Lst 2 1 cellI w9 W1.heap.size v3 (t.take p ++ [(k : Int)] ++ t.drop p) → Hid (Lst 2 1 cellI w9 w6.heap.size v3 (insAt t p (k : Int))) ∧ Hid (∃ g c, v3 = .slice (some ⟨g, 0, none⟩) (k + 1) c ∧ k + 1 ≤ c) := fun v3 w9 L => by
        refine ⟨L.low hw1, ?_⟩
        obtain ⟨xa, xc, e, hc, -, R, O⟩ := L.shape
        have hll : (t.take p ++ [(k : Int)] ++ t.drop p).length = k + 1 := hki.out.len
        rw [hll] at e hc O
        rcases O with h | ⟨g, N, e2, -⟩
        · omega
        · exact ⟨g, xc, by rw [e, e2], hc⟩
      have hEnd := Lib.hid hEnd
      by_cases hcc : p = qc
      · obtain rfl : qc = k := by omega
        subst hcc
        have hd0 : Hid (t.drop p = []) := List.eq_nil_of_length_eq_zero (by rw [htd.out]; omega)
        clear HRd
        try dsimp only
        repeat (first | (at_builtin; refine Hid.out ?_) | go_values | go_skip | go_guarded | go_step | go_upon | go_back)
        refine Lib.hid ?_
        first
          | refine wpList_pushL elInt oneInt rfl _ _ rfl W1.heap.size _ (t.take p ++ [(p : Int)]) (by rfl) L3h.out _ 0 _ [] rfl (by rfl) RowsAt.nil (by rw [hl3.out]; omega) (by rw [hl3.out]; omega) hw8 ?_
          | refine wpList_pushL elInt oneInt rfl _ _ rfl W1.heap.size _ (t.take p ++ [(p : Int)]) (by rfl) L3h.out _ (p - p) _ [] (by simp) (by rfl) RowsAt.nil (by rw [hl3.out]; omega) (by rw [hl3.out]; omega) hw8 ?_
        intro v3 w9 L5 hs5 hg5
        obtain ⟨k1, k2⟩ := hEnd.out v3 w9 (by rw [hd0.out]; exact L5)
        have hx6 := Lib.hid (hE1.out.trans (hs5 W1 hx5.out (Nat.le_refl _)))
        clear L5 hs5 hg5 L3h hEnd
        go_wp2_with fail
        go_roundw
        case rel => exact ⟨p + 1, insAt t p (p : Int), by omega, by go_num, hki.out, k1.out, k2.out, hx6.out⟩
        case measure => simp [intOf]; omega
      · try dsimp only
        repeat (first | (at_builtin; refine Hid.out ?_) | go_values | go_skip | go_guarded | go_step | go_upon | go_back)
        refine Lib.hid ?_
        refine wpList_pushL elInt oneInt rfl _ _ rfl W1.heap.size _ (t.take p ++ [(k : Int)]) (by rfl) L3h.out _ _ _ (t.drop p) (by first | exact htd.out | (rw [htd.out]; omega)) (by rfl) HRd.out (by rw [hl3.out]; omega) (by rw [hl3.out]; omega) hw8 ?_
        intro v3 w9 L5 hs5 hg5
        obtain ⟨k1, k2⟩ := hEnd.out v3 w9 L5
        have hx6 := Lib.hid (hE1.out.trans (hs5 W1 hx5.out (Nat.le_refl _)))
        clear L5 hs5 hg5 L3h hEnd
        go_wp2_with fail
        go_roundw
        case rel => exact ⟨k + 1, insAt t p (k : Int), by omega, by go_num, hki.out, k1.out, k2.out, hx6.out⟩
        case measure => simp [intOf]; omega
    · obtain rfl : k = l.length := by omega
      obtain ⟨ta, tc, te, -, -, HR, -⟩ := HO.out.shape
      simp only [Value.slice.injEq] at te
      obtain ⟨rfl, -, -⟩ := te
      replace HR := Lib.hid HR
      have hAO : Hid (AllOrd l t) := ⟨hv.out, hK.out.order, htl⟩
      obtain ⟨q1, q2⟩ := order_facts hD.out hK.out.order htl (s := s)
      rw [← hM.out, ← hC.out] at q1
      have hall1 := hall.out t htl hK.out.order
      obtain ⟨d, d0, d1, hd⟩ := r8At_det a1 cap1 more R1.out 10 60 (by omega)
      have d1 := d1 (by omega)
      obtain ⟨x, x0, x1, hx⟩ := r8At_det a1 cap1 more R1.out 11 200 (by omega)
      have x1 := x1 (by omega)
      have hwok := InMany.worth hv.out (orderB_in hK.out.order)
      have hlate := worth_late hwok s0 d0 (k := l.length) (by omega)
      obtain ⟨hb0, hb1⟩ := hwok.worth_bd s0 (k := l.length) (by omega)
      obtain ⟨hb2, -⟩ := hwok.worth_bd (s := s + d) (by omega) (k := l.length) (by omega)
      have HAr := Lib.hid (RowsAt.ext HA.out he)
      have hsz2 := Lib.hid (area_sz hsm.out)
      have Z1 := Lib.hid fun (W : World) (hE : Ext wr W) => implWorthOf_all o oc l (some ⟨qg, 0, none⟩) qc t s W (RowsAt.ext HAr.out hE) hsz2.out (RowsAt.ext HR.out hE) hAO.out hqc s0 (by omega)
      have Z2 := Lib.hid fun (W : World) (hE : Ext wr W) => implDelayCost_all o oc l (some ⟨qg, 0, none⟩) qc t s d W (RowsAt.ext HAr.out hE) hsz2.out (RowsAt.ext HR.out hE) hAO.out hqc s0 (by omega) d0 (by omega)
      have Z3 := Lib.hid fun (W : World) (hE : Ext wr W) => implDelayCost_all o oc l (some ⟨qg, 0, none⟩) qc t s 0 W (RowsAt.ext HAr.out hE) hsz2.out (RowsAt.ext HR.out hE) hAO.out hqc s0 (by omega) (by omega) (by omega)
      have Z4 := Lib.hid fun (W : World) (hE : Ext wr W) => implFoundBy_all o oc l (some ⟨qg, 0, none⟩) qc t s (s + M) W (RowsAt.ext HAr.out hE) hsz2.out (RowsAt.ext HR.out hE) hAO.out hqc s0 (by omega) (by omega) (by omega)
      have Z5 := Lib.hid fun (W : World) (hE : Ext wr W) => implFoundBy_all o oc l (some ⟨qg, 0, none⟩) qc t s s W (RowsAt.ext HAr.out hE) hsz2.out (RowsAt.ext HR.out hE) hAO.out hqc s0 (by omega) s0 (by omega)
      rw [q1] at Z4
      rw [q2] at Z5
      rw [Int.add_zero] at Z3
      replace hd := Lib.hid fun (W : World) (hE : Ext wr W) => hd W (RowsAt.ext B1.out ((E1.out.trans he).trans hE))
      replace hx := Lib.hid fun (W : World) (hE : Ext wr W) => hx W (RowsAt.ext B1.out ((E1.out.trans he).trans hE))
      have hEr := Lib.hid (E1.out.trans he)
      obtain ⟨V, hV⟩ : ∃ V, V = worthAt l t s l.length := ⟨_, rfl⟩
      obtain ⟨D, hDD⟩ : ∃ D, D = worthAt l t (s + d) l.length := ⟨_, rfl⟩
      rw [← hV] at hall1 hlate hb0 hb1 Z1 Z2 Z3
      rw [← hDD] at hlate hb2 Z2
      rw [Int.sub_self] at Z3
      have hlen5 : V ≤ 8000000 := by omega
      clear hV hDD q1 q2 hAO hwok HR HO HX hK hall hM hC htl he hb1 B1 R1 f1
      go_wp2_with fail
      refine (Z1.out wr (Ext.refl _)).mono ?_
      rintro e W1 ⟨rfl, e1⟩
      have e1 := Lib.hid e1
      clear Z1
      go_wp2_with fail
      refine (hd.out W1 e1.out).mono ?_
      rintro e W2 ⟨rfl, e2⟩
      have e2 := Lib.hid (e1.out.trans e2)
      clear e1 hd
      go_wp2_with fail
      refine (Z2.out W2 e2.out).mono ?_
      rintro e W3 ⟨rfl, e3⟩
      have e3 := Lib.hid (e2.out.trans e3)
      clear e2 Z2
      go_wp2_with fail
      refine (Z3.out W3 e3.out).mono ?_
      rintro e W4 ⟨rfl, e4⟩
      have e4 := Lib.hid (e3.out.trans e4)
      clear e3 Z3
      have hmin : s + M < 1000 := by omega
      go_wp2_with fail
      rw [show min (1000 : Int) (s + M) = s + M by omega]
      refine (Z4.out W4 e4.out).mono ?_
      rintro e W5 ⟨rfl, e5⟩
      have e5 := Lib.hid (e4.out.trans e5)
      clear e4 Z4
      go_wp2_with fail
      refine (Z5.out W5 e5.out).mono ?_
      rintro e W6 ⟨rfl, e6⟩
      have e6 := Lib.hid (e5.out.trans e6)
      clear e5 Z5
      go_wp2_with fail
      refine (hx.out W6 e6.out).mono ?_
      rintro e W7 ⟨rfl, e7⟩
      have e7 := Lib.hid (e6.out.trans e7)
      clear e6
      go_wp2_with fail
      refine (implSurvivalAt_any x W7 x0 (by omega)).mono ?_
      rintro e W8 ⟨rfl, e8⟩
      have e8 := Lib.hid (e7.out.trans e8)
      clear e7
      go_wp2_with fail
      refine (hx.out W8 e8.out).mono ?_
      rintro e W9 ⟨rfl, e9⟩
      have e9 := Lib.hid (e8.out.trans e9)
      clear e8 hx
      go_wp2_with fail
      refine (implSurvivalAt_any (x + 1) W9 (by omega) (by omega)).mono ?_
      rintro e W10 ⟨rfl, e10⟩
      have e10 := Lib.hid (e9.out.trans e10)
      have y0 := surv_le x0 (show x ≤ x + 1 by omega)
      obtain ⟨-, y1⟩ := surv_bd x0
      obtain ⟨y2, -⟩ := surv_bd (m := x + 1) (by omega)
      generalize surv x = X at *
      generalize surv (x + 1) = Y at *
      clear e9
      have HA3 := Lib.hid (RowsAt.ext HAr.out e10.out)
      have hT3 := Lib.hid (HT.out.ext (hEr.out.trans e10.out))
      have hE3 := Lib.hid (hEr.out.trans e10.out)
      clear HAr HT hEr e10 HA E1
      go_wp2_with fail
      go_loopw [33] (fun i wq => ∃ k : Nat, k ≤ l.length ∧ i = .int .i64 k ∧ Ext W10 wq) (fun i _ => l.length - (intOf i).toNat)
      case atStart => exact ⟨0, Nat.zero_le _, rfl, Ext.refl _⟩
      case round =>
        obtain ⟨k, hk, rfl, he⟩ := hrel
        have hEk := Lib.hid he
        by_cases hlt : k < l.length
        · obtain ⟨b, off, rfl⟩ := HA3.out.base hlt
          obtain ⟨hb, c0, c1, c2⟩ := Area.at (RowsAt.ext HA3.out he) k hlt
          have hB := Lib.hid (hD.out.each k hlt).1
          obtain ⟨i1, i2⟩ := read_text hB.out
          have hTx := Lib.hid (implAreaText (nth l k) wr (by have := hsz2.out k hlt; have := hsm.out k hlt; unfold Area.Small at this; omega) (hT3.out.ext he).tab)
          have hRd := Lib.hid fun (W : World) (hE : Ext wr W) => implReadArea_any (areaS (nth l k)) W (areaS_size hB.out) (hT3.out.ext (hEk.out.trans hE))
          rw [i1, i2] at hRd
          clear he i1 i2
          go_wp2_with fail
          refine hTx.out.mono ?_
          rintro e V1 ⟨rfl, e1⟩
          have e1 := Lib.hid e1
          clear hTx c0 c1 c2 hb
          go_wp2_with fail
          refine (hRd.out V1 e1.out).mono ?_
          rintro e V2 ⟨rfl, e2⟩
          have e3 := Lib.hid (hEk.out.trans (e1.out.trans e2))
          obtain ⟨hb, c0, c1, c2⟩ := Area.at (RowsAt.ext HA3.out e3.out) k hlt
          clear hRd e1 hEk
          go_wp2_with fail
          refine region_quiet (by kernel_rfl) (by kernel_rfl) ?_
          repeat (any_goals (first | go_big_quiet_step ((fail)) | quiet_step ((fail))))
          refine wpQuiet_nil ?_
          intro _ hw'
          obtain ⟨y, hw''⟩ := hw'
          subst hw''
          go_wp2_with fail
          go_roundw
          case rel => exact ⟨k + 1, by omega, by go_num, (by repeat (first | exact e3.out | refine Ext.lift ?_ _ | refine Ext.alloc ?_ _))⟩
          case measure => simp [intOf]; omega
        · clear he
          go_wp2_with fail
          go_ret
          exact ⟨rfl, hE3.out.trans hEk.out⟩
open Go.ChangeShapes Go.WideShapes Go.ChangeAt
open Go.ChangeMaps (open_string shut_string)
namespace lawFnSearch
set_option maxRecDepth 100000 in
theorem contract (H : Type) (enc : TypeId × Value → H) (W : World) (base : Nat) (args : Array Value) (ds gs : List (DataW H)) (before : List MemPlace)
    (hval : ∀ (j : Nat) t v, Tryd.f3.params[j]? = some t → args[j]? = some v → Value.okWide Tryd.prog W .any base t v)
    (hW : DataW.Whole enc Tryd.prog Tryd.f3.params.toList Rows.fnSearchSpec.vars false W args.toList ds gs before) (hL : laidMetH Tryd.prog Rows.fnSearchRow.laid W) (hS : W.ShapedOpen Tryd.prog) :
    Calls Tryd.prog 3 args W fun e W' => ∃ v, e = .returned v ∧ Rows.fnSearchSpec.post enc Tryd.prog Tryd.f3 false true false false W args v W' := by
  have ht : RTab W := rtab_of (by kernel_rfl) hL hS rfl (by simp [Rows.fnSearchRow]) (by simp [Rows.fnSearchRow])
  have hW' := hW
  obtain ⟨p, q, hA0, hV, rfl, hfz, hnd⟩ := hW
  have hA : DataW.TrodAll enc Tryd.prog W 0 (fun _ => true) true Tryd.f3.params.toList args.toList ds p := hA0
  rw [Tryd.params3] at hA hval
  obtain ⟨v0, vs0, d0, ds0, p0, q0, hargs, rfl, rfl, h0, r0⟩ := trodAll_cons hA
  obtain ⟨v1, vs1, d1, ds1, p1, q1, rfl, rfl, rfl, h1, r1⟩ := trodAll_cons r0
  obtain ⟨rfl, rfl, rfl⟩ := trodAll_nil r1
  obtain rfl : args = #[v0, v1] := by cases args; simp_all
  obtain ⟨rfl, rfl⟩ := trodVars_none hV
  have k0 := h0
  have lt0 : ∀ x ∈ p0, x.block < W.heap.size := by obtain ⟨m, hm⟩ := k0; exact DataW.trod_lt m _ _ _ hm
  obtain ⟨a0, len0, cap0, rfl⟩ := okWide_slice Tryd.underlying22 (hval 0 22 v0 rfl rfl)
  obtain ⟨fuel0, hf0⟩ := h0
  obtain ⟨b0, c0, l0, e0, hl0, hc0, H0, Q0⟩ := open_rows (fun (x : UInt8) (_ : Nat) => Value.int .u8 x.toNat) (fun _ => True) Tryd.underlying22 (by kernel_rfl : Tryd.prog.cellsOf 5 = 1) (by decide) (fun _ _ _ => byte_el) hf0
  simp only [Value.cells, List.cons.injEq, Value.slice.injEq, and_true] at e0
  obtain ⟨rfl, rfl, rfl⟩ := e0
  have k1 := h1
  have lt1 : ∀ x ∈ p1, x.block < W.heap.size := by obtain ⟨m, hm⟩ := k1; exact DataW.trod_lt m _ _ _ hm
  obtain ⟨a1, len1, cap1, rfl⟩ := okWide_slice Tryd.underlying22 (hval 1 22 v1 rfl rfl)
  obtain ⟨fuel1, hf1⟩ := h1
  obtain ⟨b1, c1, l1, e1, hl1, hc1, H1, Q1⟩ := open_rows (fun (x : UInt8) (_ : Nat) => Value.int .u8 x.toNat) (fun _ => True) Tryd.underlying22 (by kernel_rfl : Tryd.prog.cellsOf 5 = 1) (by decide) (fun _ _ _ => byte_el) hf1
  simp only [Value.cells, List.cons.injEq, Value.slice.injEq, and_true] at e1
  obtain ⟨rfl, rfl, rfl⟩ := e1
  clear hA0
  refine (search_law W ht a0 cap0 l0 H0 Q0 (by omega) hl0 a1 cap1 l1 H1 Q1 (by omega) hl1).mono fun e W' ⟨he, bx⟩ => ?_
  have bel := bx.below
  subst he
  exact ⟨_, rfl, _, _, _, [], _, [], hW', trodAll_mk1 (shut_bool Tryd.underlying4 _), (trodAll_cons_mk (Below.trod laidOut (by kernel_rfl) (of_decide_eq_true (by kernel_rfl)) k0 bel lt0) (trodAll_cons_mk (Below.trod laidOut (by kernel_rfl) (of_decide_eq_true (by kernel_rfl)) k1 bel lt1) trodAll_mk0)), rfl, bel.frame _, fun h => by cases h⟩
theorem reads (os : Os) {H : Type} (enc : TypeId × Value → H) : ∃ places, DataW.whole enc Tryd.prog ((World.laidAll Tryd.prog os Rows.fnSearchRow.laid).forCall (fun _ _ => 0) ⟨#[], #[.slice none 0 0, .slice none 0 0], []⟩).memory Tryd.f3.params.toList Rows.fnSearchSpec.vars false (#[.slice none 0 0, .slice none 0 0] : Array Value).toList 8 = some ([.nil, .nil], [], places) :=
  ⟨[], by kernel_rfl⟩
set_option maxRecDepth 100000 in
theorem lifted (os : Os) (started : os.Started) (H : Type) (enc : TypeId × Value → H) (F : Stop.Interp) :
    ReturnsInHanded {} Tryd.checked os 3 .any ((OpenSpec.ofChange Rows.fnSearchSpec).preRow enc Tryd.prog Tryd.f3 Rows.fnSearchRow.domain false Rows.fnSearchRow.laid) (((OpenSpec.ofChange Rows.fnSearchSpec).at F).post enc Tryd.prog Tryd.f3 false true false false) := by
  obtain ⟨places, hx⟩ := reads os enc
  refine returnsInHanded_of_row (C := Tryd.checked) (s := OpenSpec.ofChange Rows.fnSearchSpec) own started (by kernel_rfl) Tryd.func3
    (witness_row_at (enc := enc) (C := Tryd.checked) false (World.laidAll Tryd.prog os Rows.fnSearchRow.laid) #[.slice none 0 0, .slice none 0 0] (World.laidAll_os _ _ _) (by kernel_rfl) (by kernel_rfl) (by kernel_rfl)
      (OpenSpec.preRow_of_cond 8 hx (by kernel_rfl) (fun k hk => by cases hk) (by kernel_rfl) (laidMet_laidAll _ (by kernel_rfl) (by kernel_rfl)))) ?_
  intro W base args ds gs before hval hW _ _ _ hL hS _
  exact contract H enc W base args ds gs before hval hW hL hS
theorem said : Rows.FnSearchSaid :=
  OpenClaim.holds_of_cond 3 Tryd.f3 rfl rfl rfl rfl rfl rfl rfl ⟨rfl, rfl, rfl, rfl, rfl⟩ rfl rfl rfl rfl rfl (by kernel_rfl) Tryd.func3 (by kernel_rfl)
    (of_decide_eq_true (by kernel_rfl)) (by unfold Func.isWrapper; first | (rw [if_pos (by decide +kernel)]; kernel_rfl) | (rw [if_neg (by decide +kernel)]; exact ⟨rfl, rfl⟩))
    (fun os started H enc _ F => by rw [OpenClaim.pre_eq_preRow]; exact lifted os started H enc F)
theorem plain (f : FuncId) (fn : Func) (hf : Tryd.pinned.checked.prog.funcNamed Rows.fnSearchRow.func = some f) (hfn : Tryd.pinned.checked.prog.funcs[f]? = some fn) :
    true = Tryd.pinned.checked.prog.looks [] ∧ ∀ (j : Nat) t, fn.params[j]? = some t → Tryd.pinned.checked.prog.wantsStandIn t = false := by
  obtain rfl : f = 3 := Option.some.inj ((show Tryd.prog.funcNamed Rows.fnSearchRow.func = some 3 by kernel_rfl).symm.trans hf) |>.symm
  obtain rfl : fn = Tryd.f3 := (Option.some.inj (Tryd.func3.symm.trans hfn)).symm
  refine ⟨by kernel_rfl, fun j t ht => ?_⟩
  rw [Tryd.params3] at ht
  have hm := Array.mem_of_getElem? ht
  have hm2 : t = 22 := by simpa using hm
  rcases hm2 with rfl
  · exact (show Tryd.prog.wantsStandIn 22 = false by kernel_rfl)
/-- The given statement. -/
theorem card : Rows.FnSearchCardSaid :=
  Claim7.holds_tied_plain_at .later [] _ _ _ _ said (fun _ h => by cases h) (by kernel_rfl) (fun _ h => by cases h) fnSearch_row_tie rfl ⟨rfl, rfl⟩ (by kernel_rfl) rfl plain (by kernel_rfl)
end lawFnSearch
end Go.Proofs.YtccbcjopmkmipaaDoor
