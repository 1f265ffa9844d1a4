/- The law FnHolds: the least hold is enough and no lesser one is, open gates are those that are not shut, and all gates step together: for all inputs, of any length. -/
import Derived.Test.YtahfjoadpipghaaHoldF
import Derived.Test.YtahfjoadpipghaaHoldL
namespace Go.Proofs.Ytahfjoadpipghaa
open Go.RowKit
set_option maxRecDepth 100000 in
set_option maxHeartbeats 4000000 in
theorem specStepGate_any (x : Gate) (z : Int) (w : World) (hx : gateB x = true) (z0 : 0 ≤ z) (z1 : z ≤ 1000) :
    Gives Try.prog 40 #[.agg #[.string x.id, .int .i64 x.shut, .int .i64 x.opn, .int .i64 x.hold, .bool x.shuts, .int .i64 x.calm], .int .i64 z] w (.tuple #[.agg #[.string (stepG x z).id, .int .i64 (stepG x z).shut, .int .i64 (stepG x z).opn, .int .i64 (stepG x z).hold, .bool (stepG x z).shuts, .int .i64 (stepG x z).calm], .int .i64 0]) := by
  unfold Gives
  obtain ⟨w0, hw0⟩ : ∃ w0, w0 = (w.alloc (.cells #[.string x.id, .int .i64 x.shut, .int .i64 x.opn, .int .i64 x.hold, .bool x.shuts, .int .i64 x.calm] 54)).alloc (.cells #[.string ⟨#[]⟩, .int .i64 0, .int .i64 0, .int .i64 0, .bool false, .int .i64 0] 54) := ⟨_, rfl⟩
  obtain ⟨bx, hbx⟩ : ∃ bx, bx = w.heap.size := ⟨_, rfl⟩
  have hE0 : Ext w w0 := by rw [hw0]; exact (by repeat (first | exact Ext.refl _ | refine Ext.lift ?_ _ | refine Ext.alloc ?_ _))
  have hG0 : Gbox w0 bx x := by rw [hw0, hbx]; exact (Gbox.new w x).ext ((Ext.refl _).alloc _)
  have hB0 : Blk w0 (bx + 1) 54 6 := by
    have := Blk.new (w.alloc (.cells #[.string x.id, .int .i64 x.shut, .int .i64 x.opn, .int .i64 x.hold, .bool x.shuts, .int .i64 x.calm] 54)) #[.string ⟨#[]⟩, .int .i64 0, .int .i64 0, .int .i64 0, .bool false, .int .i64 0] 54
    rw [size_new, ← hbx, ← hw0] at this
    exact this
  have HO := Lib.hid (hG0.ok hx)
  have HS := Lib.hid fun (W : World) => l21Step_any x z W hx
  have hbw : w.heap.size ≤ bx := by omega
  clear hx
  go_enter Try.func40, Try.ntmps40
  go_wp2_with fail
  rw [← hw0, ← hbx]
  clear hw0 hbx
  refine HO.out.mono ?_
  rintro e w' ⟨rfl, y, rfl⟩
  go_wp2_with fail
  refine (l21Hazard_ok z _ z0 z1).mono ?_
  rintro e w' ⟨rfl, hw'⟩
  rw [hw']
  clear hw' w'
  have hG1 := Lib.hid (hG0.ext ((Ext.refl _).lift y))
  have hB1 := Lib.hid (hB0.ext ((Ext.refl _).lift y))
  have hE1 := Lib.hid (hE0.lift y)
  clear hG0 hB0 hE0 HO
  generalize lift w0 y = W1 at *
  obtain ⟨gl, g0, g1, g2, g3, g4, g5⟩ := hG1.out.all
  go_wp2_with fail
  refine (HS.out _).mono ?_
  rintro e w' ⟨rfl, he⟩
  have hE2 := Lib.hid (hE1.out.trans he)
  have hB2 := hB1.out.ext he
  clear HS hG1 hB1 hE1 he g0 g1 g2 g3 g4 g5 gl
  have rl := hB2.lt
  obtain ⟨v0, w0'⟩ := hB2.cell (o := 0) (by decide)
  obtain ⟨v1, w1'⟩ := hB2.cell (o := 1) (by decide)
  obtain ⟨v2, w2'⟩ := hB2.cell (o := 2) (by decide)
  obtain ⟨v3, w3'⟩ := hB2.cell (o := 3) (by decide)
  obtain ⟨v4, w4'⟩ := hB2.cell (o := 4) (by decide)
  obtain ⟨v5, w5'⟩ := hB2.cell (o := 5) (by decide)
  have n0 := hB2.frozen 0
  have n1 := hB2.frozen 1
  have n2 := hB2.frozen 2
  have n3 := hB2.frozen 3
  have n4 := hB2.frozen 4
  have n5 := hB2.frozen 5
  have hrw : w.heap.size ≤ bx + 1 := by omega
  obtain ⟨s, hs⟩ : ∃ s, s = stepG x z := ⟨_, rfl⟩
  rw [← hs]
  replace hs := Lib.hid hs
  clear hB2
  have hE3 := Lib.hid ((((((hE2.out.setCell (p := ⟨bx + 1, 0, none⟩) hrw (.string s.id)).setCell (p := ⟨bx + 1, 1, none⟩) hrw (.int .i64 s.shut)).setCell (p := ⟨bx + 1, 2, none⟩) hrw (.int .i64 s.opn)).setCell (p := ⟨bx + 1, 3, none⟩) hrw (.int .i64 s.hold)).setCell (p := ⟨bx + 1, 4, none⟩) hrw (.bool s.shuts)).setCell (p := ⟨bx + 1, 5, none⟩) hrw (.int .i64 s.calm))
  go_wp2_with fail
  refine bodyPost_ret (v := .tuple #[.agg #[.string s.id, .int .i64 s.shut, .int .i64 s.opn, .int .i64 s.hold, .bool s.shuts, .int .i64 s.calm], .int .i64 0]) (by simp [results, Try.results40, go_sem, w0', w1', w2', w3', w4', w5']) rfl ?_
  exact ⟨by rw [← hs.out], hE3.out⟩
set_option maxHeartbeats 400000 in
theorem r8Has_any (a : Option Addr) (cap : Nat) (l : List Int) (n : Int) (w : World) (H : IntAt w a l) (hlen : l.length ≤ 1000000000000) :
    Calls Try.prog 41 #[.slice a l.length cap, .int .i64 n] w fun e w' => e = .returned (.bool (hasB l n)) ∧ w' = w := by
  go_enter Try.func41, Try.ntmps41
  go_wp2
  go_loop [5] (fun i => ∃ k : Nat, k ≤ l.length ∧ i = .int .i64 k ∧ Hid (∀ j, j < k → nth l j ≠ n)) (fun i => l.length - (intOf i).toNat)
  case atStart => exact ⟨0, Nat.zero_le _, rfl, upto_zero⟩
  case round =>
    obtain ⟨k, hk, rfl, hall⟩ := hrel
    by_cases hlt : k < l.length
    · obtain ⟨b, off, rfl⟩ := H.base hlt
      obtain ⟨hb, c0⟩ := IntAt.at H k hlt
      clear H
      cases h1 : (nth l k == n)
      · have hne : Hid (nth l k ≠ n) := beq_eq_false_iff_ne.1 h1
        go_wp2
        go_round
        case rel => exact ⟨k + 1, by omega, by go_num, upto_succ hall.out hne.out⟩
        case measure => simp [intOf]; omega
      · have hv : Hid (true = hasB l n) := hasB_true hlt (beq_iff_eq.1 h1)
        go_wp2
        go_ret
        exact ⟨ret_bool hv.out, rfl⟩
    · have hv : Hid (false = hasB l n) := hasB_false fun j hj => hall.out j (by omega)
      clear H
      go_wp2
      go_ret
      exact ⟨ret_bool hv.out, rfl⟩
theorem nth_push' {ord : List Int} {x : Int} {i : Nat} (h : i < (ord ++ [x]).length) : (i < ord.length ∧ nth (ord ++ [x]) i = nth ord i) ∨ (i = ord.length ∧ nth (ord ++ [x]) i = x) := by
  rcases Nat.lt_or_ge i ord.length with h1 | h1
  · exact .inl ⟨h1, by simp [nth, List.getElem?_append_left h1]⟩
  · have : i = ord.length := by rw [List.length_append] at h; simp only [List.length_cons, List.length_nil] at h; omega
    subst this
    exact .inr ⟨rfl, by simp [nth]⟩
set_option maxRecDepth 100000 in
set_option maxHeartbeats 16000000 in
theorem holds_law (w : World) (a0 : Option Addr) (cap0 : Nat) (l0 : List UInt8) (H0 : RowsAt 1 (fun (x : UInt8) (_ : Nat) => Value.int .u8 x.toNat) w a0 l0) (_ : ∀ k, k < l0.length → True) (hn0 : l0.length ≤ 9223372036854775807) (_ : l0.length ≤ cap0)
    (a1 : Option Addr) (cap1 : Nat) (l1 : List UInt8) (H1 : RowsAt 1 (fun (x : UInt8) (_ : Nat) => Value.int .u8 x.toNat) w a1 l1) (_ : ∀ k, k < l1.length → True) (hn1 : l1.length ≤ 9223372036854775807) (_ : l1.length ≤ cap1) :
    Gives Try.prog 7 #[.slice a0 l0.length cap0, .slice a1 l1.length cap1] w (.bool true) := by
  unfold Gives
  have B0 := Lib.hid (ByteAt.of8 H0)
  have B1 := Lib.hid (ByteAt.of8 H1)
  have R0 := Lib.hid (byte_range l0)
  have R1 := Lib.hid (byte_range l1)
  rw [show l0.length = (l0.map fun x => (x.toNat : Int)).length by simp] at hn0 ⊢
  rw [show l1.length = (l1.map fun x => (x.toNat : Int)).length by simp] at hn1 ⊢
  clear H0 H1
  generalize (l0.map fun x => (x.toNat : Int)) = code at *
  generalize (l1.map fun x => (x.toNat : Int)) = more at *
  have HL := Lib.hid (r8Long_any a0 a1 code.length more.length cap0 cap1 w hn0 hn1)
  go_enter Try.func7, Try.ntmps7
  go_wp2_with fail
  refine HL.out.mono ?_
  rintro e w' ⟨b, rfl, hb, hw'⟩
  subst hw'
  clear HL
  cases b
  case true =>
    go_wp2_with fail
    go_ret
    exact ⟨rfl, Ext.refl _⟩
  obtain ⟨f0, f1⟩ := hb rfl
  clear hb
  go_wp2_with fail
  refine (R8Gate_any w' a0 cap0 code B0.out R0.out f0).mono ?_
  rintro e w1 ⟨x, rfl, hD, E1⟩
  have hx := Lib.hid (hD.ok (by kernel_rfl))
  have hcm := hD.calm
  have hho := hD.hold
  clear hD
  replace E1 := Lib.hid E1
  have hG1 := Gbox.new w1 x
  obtain ⟨bx, hbx⟩ : ∃ bx, bx = w1.heap.size := ⟨_, rfl⟩
  obtain ⟨w2, hw2⟩ : ∃ w2, w2 = w1.alloc (.cells #[.string x.id, .int .i64 x.shut, .int .i64 x.opn, .int .i64 x.hold, .bool x.shuts, .int .i64 x.calm] 54) := ⟨_, rfl⟩
  have hG2 : Hid (Gbox w2 bx x) := by show Gbox _ _ _; rw [hw2, hbx]; exact hG1
  have E2 : Hid (Ext w' w2) := by show Ext _ _; rw [hw2]; exact E1.out.alloc _
  have hbw : w'.heap.size ≤ bx := by have := E1.out.size; omega
  clear hG1
  have HZ := Lib.hid (R8Hazards_any w2 a1 cap1 more (RowsAt.ext B1.out E2.out) R1.out f1)
  go_wp2_with fail
  rw [← hw2, ← hbx]
  clear hw2 hbx E1
  refine HZ.out.mono ?_
  rintro e w3 ⟨ho, hoc, hz, rfl, hzc, hzD, hzA, E3a⟩
  have hz12 := hzD.len
  have hzall := Lib.hid hzD.all
  replace hzA := Lib.hid hzA
  have E3 := Lib.hid (E2.out.trans E3a)
  have hG3 := Lib.hid (hG2.out.ext E3a)
  clear HZ hzD E3a E2 hG2
  go_wp2_with fail
  refine (r8At_q w3 a1 cap1 more (RowsAt.ext B1.out E3.out) R1.out f1 60 (by omega) 3 (by omega)).mono ?_
  rintro e w4 ⟨t, rfl, t0, t1, E4a⟩
  replace t1 := t1 (by omega)
  have hLH := Lib.hid (implLeastHold_any w4 x ho hoc hz t hx.out (RowsAt.ext hzA.out E4a) (by omega) hzall.out t0 (by omega))
  replace hG3 := Lib.hid (hG3.out.ext E4a)
  replace hzA := Lib.hid (RowsAt.ext hzA.out E4a)
  have E4 := Lib.hid (E3.out.trans E4a)
  clear E3 E4a
  obtain ⟨gl, g0, g1, g2, g3, g4, g5⟩ := hG3.out.all
  go_wp2_with fail
  refine hLH.out.mono ?_
  rintro e w5 ⟨r, c, rfl, E5a, hok⟩
  have hG5 := Lib.hid (hG3.out.ext E5a)
  replace hzA := Lib.hid (RowsAt.ext hzA.out E5a)
  have E5 := Lib.hid (E4.out.trans E5a)
  clear hLH E4 E5a hG3 gl g0 g1 g2 g3 g4 g5
  obtain ⟨gl, g0, g1, g2, g3, g4, g5⟩ := hG5.out.all
  rcases hok with ⟨rfl, h0, h1, h2, h3⟩ | rfl
  case inr =>
    go_wp2_with fail
    clear g0 g1 g2 g3 g4 g5 gl hG5
    refine (R8Gates_any w5 a1 cap1 more (RowsAt.ext B1.out E5.out) R1.out f1).mono ?_
    rintro e V1 ⟨go, gc, gz, rfl, hgc, hGD, hGA, Eg⟩
    have hg4 := hGD.len
    have hgok := Lib.hid hGD.ok
    have hgsm := Lib.hid hGD.small
    have hgo := Lib.hid (vAll_one hGD.ok)
    have F1 := Lib.hid (E5.out.trans Eg)
    replace hGA := Lib.hid hGA
    clear hGD Eg
    go_wp2_with fail
    refine (implOpenGates_any V1 go gc gz hGA.out hgsm.out hgok.out (by omega)).mono ?_
    rintro e V2 ⟨oo, ooc, rfl, hOA, Eo⟩
    replace hGA := Lib.hid (RowsAt.ext hGA.out Eo)
    replace hOA := Lib.hid hOA
    have F2 := Lib.hid (F1.out.trans Eo)
    have hol := opens_len gz gz.length
    have hoh := Lib.hid (opens_has gz gz.length)
    clear F1 Eo
    generalize opens gz gz.length = OP at *
    have hL0 := Lib.hid (Lst.new (T := 2) (n := 1) (cell := cellI) V2 V2.heap.size (Nat.le_refl _))
    have hE0 := Lib.hid ((Ext.refl V2).alloc (.cells #[] 2))
    go_wp2_with fail
    go_loopw [20, 21] (fun q i wr => ∃ (k : Nat) (ts : List Int), k ≤ gz.length ∧ i = .int .i64 k ∧ ts.length = k ∧ Hid (∀ j, j < ts.length → 0 ≤ nth ts j ∧ nth ts j ≤ 1000) ∧ Hid (Lst 2 1 cellI wr V2.heap.size q ts) ∧ Hid (Ext V2 wr)) (fun _ i _ => gz.length - (intOf i).toNat)
    case atStart => exact ⟨0, [], Nat.zero_le _, rfl, rfl, fun _ h => absurd h (Nat.not_lt_zero _), hL0.out, hE0.out⟩
    case round =>
      clear hL0 hE0
      obtain ⟨k, ts, hk, rfl, hts, hT, HT, HE⟩ := hrel
      obtain ⟨ta, tc, rfl, htc, htm, htR, -⟩ := HT.out.shape
      replace htR := Lib.hid htR
      have hszr := HE.out.size
      by_cases hlt : k < gz.length
      · have hP0 := Lib.hid (RowsAt.ext B0.out (F2.out.trans HE.out))
        go_wp2_with fail
        refine (r8At_q wr a0 cap0 code hP0.out R0.out f0 (40 + (k : Int)) (by omega) 100 (by omega)).mono ?_
        rintro e W1 ⟨z, rfl, z0, z1, Ea⟩
        replace z1 := z1 (by omega)
        have hx := Lib.hid (Ea.alloc (.cells #[.int .i64 (10 * z)] 2))
        have HLA := Lib.hid (HT.out.ext hx.out)
        have HRA : Hid (IntAt (W1.alloc (.cells #[.int .i64 (10 * z)] 2)) (some ⟨W1.heap.size, 0, none⟩) [10 * z]) := rows_int W1 (10 * z) rfl
        have hw1 : V2.heap.size ≤ W1.heap.size := Nat.le_trans hszr Ea.size
        have HE2 := Lib.hid (HE.out.trans hx.out)
        have hT2 : Hid (∀ j, j < (ts ++ [10 * z]).length → 0 ≤ nth (ts ++ [10 * z]) j ∧ nth (ts ++ [10 * z]) j ≤ 1000) := fun j hj => by
          rcases nth_push' hj with ⟨h1, e⟩ | ⟨h1, e⟩
          · rw [e]; exact hT.out j h1
          · rw [e]; omega
        have htl : ts.length ≤ 4 := by omega
        have hts2 : Hid ((ts ++ [10 * z]).length = k + 1) := by show _ = _; rw [List.length_append, hts]; rfl
        clear HT HE hx Ea hP0 htR hT hts
        try dsimp only
        repeat (first | (at_builtin; refine Hid.out ?_) | go_values | go_skip | go_guarded | go_step | go_upon | go_back)
        refine Lib.hid ?_
        refine wpList_pushL elInt oneInt rfl _ _ rfl V2.heap.size _ ts rfl HLA.out _ 1 1 [10 * z] rfl rfl HRA.out (by omega) (by omega) (by rw [size_new]; omega) ?_
        intro v3 w7 L3 hs3 hg3
        have HL3 := Lib.hid L3
        have HE3 := Lib.hid (hs3 V2 HE2.out (Nat.le_refl _))
        clear L3 hs3 hg3 HLA HRA HE2
        go_wp2_with fail
        go_roundw
        case rel => exact ⟨k + 1, ts ++ [10 * z], by omega, by go_num, hts2.out, hT2.out, HL3.out, HE3.out⟩
        case measure => simp [intOf]; omega
      · obtain rfl : k = gz.length := by omega
        have hGA1 := Lib.hid (RowsAt.ext hGA.out HE.out)
        have hOA1 := Lib.hid (RowsAt.ext hOA.out HE.out)
        have F3 := Lib.hid (F2.out.trans HE.out)
        have hC0 := stepsC_0 hgok.out (allIn_iff.2 fun j hj => inB_iff.2 (hT.out j hj)) hts
        have hV0 := stepsV_yes hC0
        have hSG := Lib.hid (implStepGates_any wr go gc gz hGA1.out hgsm.out (by omega) hgc ta tc ts htR.out (fun j hj => by have := hT.out j hj; omega) (by omega) htc)
        rw [hC0, hV0, hts] at hSG
        have hnl := stepTo_length gz ts gz.length
        have hna := Lib.hid fun j (hj : j < gz.length) => nth_stepTo (l := gz) (hz := ts) (k := gz.length) hj
        obtain ⟨NX, hNX⟩ : ∃ NX, NX = stepTo gz ts gz.length := ⟨_, rfl⟩
        rw [← hNX] at hSG hnl hna
        clear hNX hC0 hV0 hGA hOA F2 HT HE
        replace hts := Lib.hid hts
        go_wp2_with fail
        rw [hts.out]
        refine hSG.out.mono ?_
        rintro e V4 ⟨na, nc, rfl, hncc, -, hNA, E4⟩
        have hGA4 := Lib.hid (RowsAt.ext hGA1.out E4)
        have hOA4 := Lib.hid (RowsAt.ext hOA1.out E4)
        have htR4 := Lib.hid (RowsAt.ext htR.out E4)
        replace hNA := Lib.hid hNA
        have F4 := Lib.hid (F3.out.trans E4)
        rw [hnl]
        replace hnl := Lib.hid hnl
        clear hSG F3 E4 hGA1 hOA1 htR hncc
        have HX0 := Lib.hid (Ext.refl V4)
        go_wp2_with fail
        go_loopw [24] (fun i wr2 => ∃ k : Nat, k ≤ gz.length ∧ i = .int .i64 k ∧ Hid (Ext V4 wr2)) (fun i _ => gz.length - (intOf i).toNat)
        case atStart => exact ⟨0, Nat.zero_le _, rfl, HX0.out⟩
        case round =>
          clear HX0
          obtain ⟨k, hk2, rfl, he⟩ := hrel
          by_cases hlt2 : k < gz.length
          · have htk : k < ts.length := by rw [hts.out]; exact hlt2
            have hnk : k < NX.length := by rw [hnl.out]; exact hlt2
            have hT' := hT.out k htk
            have hgk := hgo.out k hlt2
            have hnk' := hna.out k hlt2
            rw [if_pos hlt2] at hnk'
            have hH := hoh.out k
            rw [decide_eq_true hlt2, Bool.true_and] at hH
            have hL0 := RowsAt.base (cell := Gate.cell) hGA4.out hlt2
            obtain ⟨b1, o1, rfl⟩ := hL0
            obtain ⟨b2, o2, rfl⟩ := RowsAt.base hNA.out hnk
            obtain ⟨b3, o3, rfl⟩ := RowsAt.base htR4.out htk
            obtain ⟨hb1, c0, c1, c2, c3, c4, c5⟩ := Gate.at (RowsAt.ext hGA4.out he.out) k hlt2
            obtain ⟨hb3, d0⟩ := IntAt.at (RowsAt.ext htR4.out he.out) k htk
            have HS := Lib.hid fun (W : World) => specStepGate_any (nth gz k) (nth ts k) W hgk hT'.1 hT'.2
            obtain ⟨sg, hsg⟩ : ∃ sg, sg = stepG (nth gz k) (nth ts k) := ⟨_, rfl⟩
            rw [← hsg] at hnk' HS
            have hnk2 := Lib.hid hnk'
            have HH0 := Lib.hid fun (W : World) (h : Ext wr W) => Gives.same (r8Has_any oo ooc OP (k : Int) W (RowsAt.ext hOA4.out (he.out.trans h)) (by omega))
            rw [hH] at HH0
            have HN := Lib.hid fun (W : World) (h : Ext wr W) => Gate.at (RowsAt.ext hNA.out (he.out.trans h)) k hnk
            rw [hnk2.out] at HN
            have hE1 := Lib.hid he.out
            clear hnk' hH hsg hT' hgk he hoh hNA hOA4 hna
            generalize nth gz k = gg at c0 c1 c2 c3 c4 c5 HH0 HS
            generalize nth ts k = zz at d0 HS
            go_wp2_with fail
            go_region_law (refine step_call rfl 40 #[.agg #[.string gg.id, .int .i64 gg.shut, .int .i64 gg.opn, .int .i64 gg.hold, .bool gg.shuts, .int .i64 gg.calm], .int .i64 zz] (by first | rfl | (go_simp; done) | (go_simp; rfl)) ?_; refine (HS.out _).mono ?_; rintro e W5 ⟨rfl, e5⟩; refine ⟨_, rfl, ?_⟩; replace e5 := Lib.hid e5; try (have BB : Blk W5 wr.heap.size 54 6 := (Blk.new _ _ _).ext e5.out; have bl := BB.lt; have f0 := BB.frozen 0; have f1 := BB.frozen 1; have f2 := BB.frozen 2; have f3 := BB.frozen 3; have f4 := BB.frozen 4; have f5 := BB.frozen 5; obtain ⟨z0, y0⟩ := BB.cell (o := 0) (by decide); obtain ⟨z1, y1⟩ := BB.cell (o := 1) (by decide); obtain ⟨z2, y2⟩ := BB.cell (o := 2) (by decide); obtain ⟨z3, y3⟩ := BB.cell (o := 3) (by decide); obtain ⟨z4, y4⟩ := BB.cell (o := 4) (by decide); obtain ⟨z5, y5⟩ := BB.cell (o := 5) (by decide)))
            all_goals first
              | (obtain ⟨W6, hW6⟩ : ∃ W6, W6 = W5.alloc (.cells #[.string sg.id, .int .i64 sg.shut, .int .i64 sg.opn, .int .i64 sg.hold, .bool sg.shuts, .int .i64 sg.calm] 54) := ⟨_, rfl⟩
                 rw [← hW6]
                 have hG6 : Hid (Gbox W6 W5.heap.size sg) := by show Gbox _ _ _; rw [hW6]; exact Gbox.new W5 sg
                 have hE6 : Hid (Ext wr W6) := by show Ext _ _; rw [hW6]; exact (Ext.trans ((Ext.refl wr).drew) e5.out).alloc _
                 clear hW6 e5)
              | (obtain ⟨W6, hW6⟩ : ∃ W6, W6 = (((((W5.setCell ⟨wr.heap.size, 0, none⟩ (.string sg.id)).setCell ⟨wr.heap.size, 1, none⟩ (.int .i64 sg.shut)).setCell ⟨wr.heap.size, 2, none⟩ (.int .i64 sg.opn)).setCell ⟨wr.heap.size, 3, none⟩ (.int .i64 sg.hold)).setCell ⟨wr.heap.size, 4, none⟩ (.bool sg.shuts)).setCell ⟨wr.heap.size, 5, none⟩ (.int .i64 sg.calm) := ⟨_, rfl⟩
                 rw [← hW6]
                 have hG6 : Hid (Gbox W6 wr.heap.size sg) := by show Gbox _ _ _; rw [hW6]; exact Gbox.put BB sg
                 have hE6 : Hid (Ext wr W6) := by show Ext _ _; rw [hW6]; exact ext_setCells (g := wr.heap.size) (Nat.le_refl _) (gvs sg) 0 W5 ((((Ext.refl wr).alloc _).drew).trans e5.out)
                 clear hW6 e5 BB bl f0 f1 f2 f3 f4 f5 y0 y1 y2 y3 y4 y5)
            all_goals
              have HH := Lib.hid fun (W : World) (h : Ext W6 W) => HH0.out W (hE6.out.trans h)
              have cz := hE6.out.cell c4
              have hz1 : b1 < W6.heap.size := Nat.lt_of_lt_of_le hb1 hE6.out.size
              obtain ⟨hb2, m0, m1, m2, m3, m4, m5⟩ := HN.out W6 hE6.out
              obtain ⟨sl, s0, s1, s2, s3, s4, s5⟩ := hG6.out.all
              have hE7 := Lib.hid (hE1.out.trans hE6.out)
              clear c0 c1 c2 c3 c4 c5 d0 hb3 hb1 HS HH0 HN hG6 hE6 hE1 hnk2
              have hsq : ((!gg.shuts) == gg.shuts) = false := by cases gg.shuts <;> rfl
              go_wp2_with fail
              refine region_quiet (by kernel_rfl) (by kernel_rfl) ?_
              repeat (any_goals (first | go_big_quiet_step ((exact Gives.quiet (HH.out _ (by repeat (first | exact Ext.refl _ | refine Ext.lift ?_ _ | refine Ext.alloc ?_ _))))) | quiet_step ((exact Gives.quiet (HH.out _ (by repeat (first | exact Ext.refl _ | refine Ext.lift ?_ _ | refine Ext.alloc ?_ _)))))))
              refine wpQuiet_nil ?_
              intro _ hw'
              obtain ⟨y, hw''⟩ := hw'
              subst hw''
              go_wp2
              go_roundw
              case rel => exact ⟨k + 1, by omega, by go_num, hE7.out.trans (by repeat (first | exact Ext.refl _ | refine Ext.lift ?_ _ | refine Ext.alloc ?_ _))⟩
              case measure => simp [intOf]; omega
          · go_wp2_with fail
            go_ret
            exact ⟨rfl, F4.out.trans he.out⟩
  case inl =>
    have h3 := Lib.hid h3
    have hy := Lib.hid (held_ok hx.out h0 h1)
    have hSH := Lib.hid fun (W : World) (he : Ext w5 W) => specShutHours_any (x.held r) ho hoc hz W hy.out (RowsAt.ext hzA.out he) (by omega) hzall.out
    rw [show timesG (x.held r) hz hz.length = tH x hz r from rfl] at hSH
    generalize hoursG (x.held r) hz hz.length = U1 at *
    obtain ⟨T1, hT1⟩ : ∃ T1, T1 = tH x hz r := ⟨_, rfl⟩
    rw [← hT1] at hSH h2
    clear hT1
    by_cases hgt : x.calm + 1 < r
    · have hy2 := Lib.hid (held_ok hx.out (show x.calm + 1 ≤ r - 1 by omega) (show r - 1 ≤ 48 by omega))
      have hlast := h3.out (r - 1) (by omega) (by omega)
      have hSH2 := Lib.hid fun (W : World) (he : Ext w5 W) => specShutHours_any (x.held (r - 1)) ho hoc hz W hy2.out (RowsAt.ext hzA.out he) (by omega) hzall.out
      rw [show timesG (x.held (r - 1)) hz hz.length = tH x hz (r - 1) from rfl] at hSH2
      generalize hoursG (x.held (r - 1)) hz hz.length = U2 at *
      obtain ⟨T2, hT2⟩ : ∃ T2, T2 = tH x hz (r - 1) := ⟨_, rfl⟩
      rw [← hT2] at hSH2 hlast
      clear hT2
      go_wp2_with fail
      refine (hSH.out _ (by repeat (first | exact Ext.refl _ | refine Ext.lift ?_ _ | refine Ext.alloc ?_ _))).mono ?_
      rintro e w6 ⟨rfl, y6, rfl⟩
      have hBx : Hid (Gbox (lift (w5.alloc (.cells #[.string x.id, .int .i64 x.shut, .int .i64 x.opn, .int .i64 r, .bool x.shuts, .int .i64 x.calm] 54)) y6) w5.heap.size (x.held r)) := (Gbox.new w5 (x.held r)).ext ((Ext.refl _).lift y6)
      have hE6 : Hid (Ext w5 (lift (w5.alloc (.cells #[.string x.id, .int .i64 x.shut, .int .i64 x.opn, .int .i64 r, .bool x.shuts, .int .i64 x.calm] 54)) y6)) := ((Ext.refl w5).alloc _).lift y6
      clear hSH
      generalize lift (w5.alloc (.cells #[.string x.id, .int .i64 x.shut, .int .i64 x.opn, .int .i64 r, .bool x.shuts, .int .i64 x.calm] 54)) y6 = W6 at *
      have kl := hBx.out.blk.lt
      have k0 : W6.cell? ⟨w5.heap.size, 0, none⟩ = some (.string x.id) := hBx.out.cell 0 (by decide)
      have k1 : W6.cell? ⟨w5.heap.size, 1, none⟩ = some (.int .i64 x.shut) := hBx.out.cell 1 (by decide)
      have k2 : W6.cell? ⟨w5.heap.size, 2, none⟩ = some (.int .i64 x.opn) := hBx.out.cell 2 (by decide)
      have k3 : W6.cell? ⟨w5.heap.size, 3, none⟩ = some (.int .i64 r) := hBx.out.cell 3 (by decide)
      have k4 : W6.cell? ⟨w5.heap.size, 4, none⟩ = some (.bool x.shuts) := hBx.out.cell 4 (by decide)
      have k5 : W6.cell? ⟨w5.heap.size, 5, none⟩ = some (.int .i64 x.calm) := hBx.out.cell 5 (by decide)
      have kf := hBx.out.blk.frozen 3
      have g5' := hE6.out.cell g5
      have gl' : bx < W6.heap.size := Nat.lt_of_lt_of_le gl hE6.out.size
      have hE7 := Lib.hid (hE6.out.setCell (p := ⟨w5.heap.size, 3, none⟩) (Nat.le_refl _) (.int .i64 (r - 1)))
      clear hBx g0 g1 g2 g3 g4 g5 gl hG5
      go_wp2_with fail
      refine (hSH2.out _ hE7.out).mono ?_
      rintro e w7 ⟨rfl, E7a⟩
      have E7 : Hid (Ext w' w7) := E5.out.trans (hE7.out.trans E7a)
      clear hSH2 E7a k0 k1 k2 k3 k4 k5 kf kl g5' gl' hE6 hE7
      go_wp2_with fail
      refine (R8Gates_any w7 a1 cap1 more (RowsAt.ext B1.out E7.out) R1.out f1).mono ?_
      rintro e V1 ⟨go, gc, gz, rfl, hgc, hGD, hGA, Eg⟩
      have hg4 := hGD.len
      have hgok := Lib.hid hGD.ok
      have hgsm := Lib.hid hGD.small
      have hgo := Lib.hid (vAll_one hGD.ok)
      have F1 := Lib.hid (E7.out.trans Eg)
      replace hGA := Lib.hid hGA
      clear hGD Eg
      go_wp2_with fail
      refine (implOpenGates_any V1 go gc gz hGA.out hgsm.out hgok.out (by omega)).mono ?_
      rintro e V2 ⟨oo, ooc, rfl, hOA, Eo⟩
      replace hGA := Lib.hid (RowsAt.ext hGA.out Eo)
      replace hOA := Lib.hid hOA
      have F2 := Lib.hid (F1.out.trans Eo)
      have hol := opens_len gz gz.length
      have hoh := Lib.hid (opens_has gz gz.length)
      clear F1 Eo
      generalize opens gz gz.length = OP at *
      have hL0 := Lib.hid (Lst.new (T := 2) (n := 1) (cell := cellI) V2 V2.heap.size (Nat.le_refl _))
      have hE0 := Lib.hid ((Ext.refl V2).alloc (.cells #[] 2))
      go_wp2_with fail
      go_loopw [20, 21] (fun q i wr => ∃ (k : Nat) (ts : List Int), k ≤ gz.length ∧ i = .int .i64 k ∧ ts.length = k ∧ Hid (∀ j, j < ts.length → 0 ≤ nth ts j ∧ nth ts j ≤ 1000) ∧ Hid (Lst 2 1 cellI wr V2.heap.size q ts) ∧ Hid (Ext V2 wr)) (fun _ i _ => gz.length - (intOf i).toNat)
      case atStart => exact ⟨0, [], Nat.zero_le _, rfl, rfl, fun _ h => absurd h (Nat.not_lt_zero _), hL0.out, hE0.out⟩
      case round =>
        clear hL0 hE0
        obtain ⟨k, ts, hk, rfl, hts, hT, HT, HE⟩ := hrel
        obtain ⟨ta, tc, rfl, htc, htm, htR, -⟩ := HT.out.shape
        replace htR := Lib.hid htR
        have hszr := HE.out.size
        by_cases hlt : k < gz.length
        · have hP0 := Lib.hid (RowsAt.ext B0.out (F2.out.trans HE.out))
          go_wp2_with fail
          refine (r8At_q wr a0 cap0 code hP0.out R0.out f0 (40 + (k : Int)) (by omega) 100 (by omega)).mono ?_
          rintro e W1 ⟨z, rfl, z0, z1, Ea⟩
          replace z1 := z1 (by omega)
          have hx := Lib.hid (Ea.alloc (.cells #[.int .i64 (10 * z)] 2))
          have HLA := Lib.hid (HT.out.ext hx.out)
          have HRA : Hid (IntAt (W1.alloc (.cells #[.int .i64 (10 * z)] 2)) (some ⟨W1.heap.size, 0, none⟩) [10 * z]) := rows_int W1 (10 * z) rfl
          have hw1 : V2.heap.size ≤ W1.heap.size := Nat.le_trans hszr Ea.size
          have HE2 := Lib.hid (HE.out.trans hx.out)
          have hT2 : Hid (∀ j, j < (ts ++ [10 * z]).length → 0 ≤ nth (ts ++ [10 * z]) j ∧ nth (ts ++ [10 * z]) j ≤ 1000) := fun j hj => by
            rcases nth_push' hj with ⟨h1, e⟩ | ⟨h1, e⟩
            · rw [e]; exact hT.out j h1
            · rw [e]; omega
          have htl : ts.length ≤ 4 := by omega
          have hts2 : Hid ((ts ++ [10 * z]).length = k + 1) := by show _ = _; rw [List.length_append, hts]; rfl
          clear HT HE hx Ea hP0 htR hT hts
          try dsimp only
          repeat (first | (at_builtin; refine Hid.out ?_) | go_values | go_skip | go_guarded | go_step | go_upon | go_back)
          refine Lib.hid ?_
          refine wpList_pushL elInt oneInt rfl _ _ rfl V2.heap.size _ ts rfl HLA.out _ 1 1 [10 * z] rfl rfl HRA.out (by omega) (by omega) (by rw [size_new]; omega) ?_
          intro v3 w7 L3 hs3 hg3
          have HL3 := Lib.hid L3
          have HE3 := Lib.hid (hs3 V2 HE2.out (Nat.le_refl _))
          clear L3 hs3 hg3 HLA HRA HE2
          go_wp2_with fail
          go_roundw
          case rel => exact ⟨k + 1, ts ++ [10 * z], by omega, by go_num, hts2.out, hT2.out, HL3.out, HE3.out⟩
          case measure => simp [intOf]; omega
        · obtain rfl : k = gz.length := by omega
          have hGA1 := Lib.hid (RowsAt.ext hGA.out HE.out)
          have hOA1 := Lib.hid (RowsAt.ext hOA.out HE.out)
          have F3 := Lib.hid (F2.out.trans HE.out)
          have hC0 := stepsC_0 hgok.out (allIn_iff.2 fun j hj => inB_iff.2 (hT.out j hj)) hts
          have hV0 := stepsV_yes hC0
          have hSG := Lib.hid (implStepGates_any wr go gc gz hGA1.out hgsm.out (by omega) hgc ta tc ts htR.out (fun j hj => by have := hT.out j hj; omega) (by omega) htc)
          rw [hC0, hV0, hts] at hSG
          have hnl := stepTo_length gz ts gz.length
          have hna := Lib.hid fun j (hj : j < gz.length) => nth_stepTo (l := gz) (hz := ts) (k := gz.length) hj
          obtain ⟨NX, hNX⟩ : ∃ NX, NX = stepTo gz ts gz.length := ⟨_, rfl⟩
          rw [← hNX] at hSG hnl hna
          clear hNX hC0 hV0 hGA hOA F2 HT HE
          replace hts := Lib.hid hts
          go_wp2_with fail
          rw [hts.out]
          refine hSG.out.mono ?_
          rintro e V4 ⟨na, nc, rfl, hncc, -, hNA, E4⟩
          have hGA4 := Lib.hid (RowsAt.ext hGA1.out E4)
          have hOA4 := Lib.hid (RowsAt.ext hOA1.out E4)
          have htR4 := Lib.hid (RowsAt.ext htR.out E4)
          replace hNA := Lib.hid hNA
          have F4 := Lib.hid (F3.out.trans E4)
          rw [hnl]
          replace hnl := Lib.hid hnl
          clear hSG F3 E4 hGA1 hOA1 htR hncc
          have HX0 := Lib.hid (Ext.refl V4)
          go_wp2_with fail
          go_loopw [24] (fun i wr2 => ∃ k : Nat, k ≤ gz.length ∧ i = .int .i64 k ∧ Hid (Ext V4 wr2)) (fun i _ => gz.length - (intOf i).toNat)
          case atStart => exact ⟨0, Nat.zero_le _, rfl, HX0.out⟩
          case round =>
            clear HX0
            obtain ⟨k, hk2, rfl, he⟩ := hrel
            by_cases hlt2 : k < gz.length
            · have htk : k < ts.length := by rw [hts.out]; exact hlt2
              have hnk : k < NX.length := by rw [hnl.out]; exact hlt2
              have hT' := hT.out k htk
              have hgk := hgo.out k hlt2
              have hnk' := hna.out k hlt2
              rw [if_pos hlt2] at hnk'
              have hH := hoh.out k
              rw [decide_eq_true hlt2, Bool.true_and] at hH
              have hL0 := RowsAt.base (cell := Gate.cell) hGA4.out hlt2
              obtain ⟨b1, o1, rfl⟩ := hL0
              obtain ⟨b2, o2, rfl⟩ := RowsAt.base hNA.out hnk
              obtain ⟨b3, o3, rfl⟩ := RowsAt.base htR4.out htk
              obtain ⟨hb1, c0, c1, c2, c3, c4, c5⟩ := Gate.at (RowsAt.ext hGA4.out he.out) k hlt2
              obtain ⟨hb3, d0⟩ := IntAt.at (RowsAt.ext htR4.out he.out) k htk
              have HS := Lib.hid fun (W : World) => specStepGate_any (nth gz k) (nth ts k) W hgk hT'.1 hT'.2
              obtain ⟨sg, hsg⟩ : ∃ sg, sg = stepG (nth gz k) (nth ts k) := ⟨_, rfl⟩
              rw [← hsg] at hnk' HS
              have hnk2 := Lib.hid hnk'
              have HH0 := Lib.hid fun (W : World) (h : Ext wr W) => Gives.same (r8Has_any oo ooc OP (k : Int) W (RowsAt.ext hOA4.out (he.out.trans h)) (by omega))
              rw [hH] at HH0
              have HN := Lib.hid fun (W : World) (h : Ext wr W) => Gate.at (RowsAt.ext hNA.out (he.out.trans h)) k hnk
              rw [hnk2.out] at HN
              have hE1 := Lib.hid he.out
              clear hnk' hH hsg hT' hgk he hoh hNA hOA4 hna
              generalize nth gz k = gg at c0 c1 c2 c3 c4 c5 HH0 HS
              generalize nth ts k = zz at d0 HS
              go_wp2_with fail
              go_region_law (refine step_call rfl 40 #[.agg #[.string gg.id, .int .i64 gg.shut, .int .i64 gg.opn, .int .i64 gg.hold, .bool gg.shuts, .int .i64 gg.calm], .int .i64 zz] (by first | rfl | (go_simp; done) | (go_simp; rfl)) ?_; refine (HS.out _).mono ?_; rintro e W5 ⟨rfl, e5⟩; refine ⟨_, rfl, ?_⟩; replace e5 := Lib.hid e5; try (have BB : Blk W5 wr.heap.size 54 6 := (Blk.new _ _ _).ext e5.out; have bl := BB.lt; have f0 := BB.frozen 0; have f1 := BB.frozen 1; have f2 := BB.frozen 2; have f3 := BB.frozen 3; have f4 := BB.frozen 4; have f5 := BB.frozen 5; obtain ⟨z0, y0⟩ := BB.cell (o := 0) (by decide); obtain ⟨z1, y1⟩ := BB.cell (o := 1) (by decide); obtain ⟨z2, y2⟩ := BB.cell (o := 2) (by decide); obtain ⟨z3, y3⟩ := BB.cell (o := 3) (by decide); obtain ⟨z4, y4⟩ := BB.cell (o := 4) (by decide); obtain ⟨z5, y5⟩ := BB.cell (o := 5) (by decide)))
              all_goals first
                | (obtain ⟨W6, hW6⟩ : ∃ W6, W6 = W5.alloc (.cells #[.string sg.id, .int .i64 sg.shut, .int .i64 sg.opn, .int .i64 sg.hold, .bool sg.shuts, .int .i64 sg.calm] 54) := ⟨_, rfl⟩
                   rw [← hW6]
                   have hG6 : Hid (Gbox W6 W5.heap.size sg) := by show Gbox _ _ _; rw [hW6]; exact Gbox.new W5 sg
                   have hE6 : Hid (Ext wr W6) := by show Ext _ _; rw [hW6]; exact (Ext.trans ((Ext.refl wr).drew) e5.out).alloc _
                   clear hW6 e5)
                | (obtain ⟨W6, hW6⟩ : ∃ W6, W6 = (((((W5.setCell ⟨wr.heap.size, 0, none⟩ (.string sg.id)).setCell ⟨wr.heap.size, 1, none⟩ (.int .i64 sg.shut)).setCell ⟨wr.heap.size, 2, none⟩ (.int .i64 sg.opn)).setCell ⟨wr.heap.size, 3, none⟩ (.int .i64 sg.hold)).setCell ⟨wr.heap.size, 4, none⟩ (.bool sg.shuts)).setCell ⟨wr.heap.size, 5, none⟩ (.int .i64 sg.calm) := ⟨_, rfl⟩
                   rw [← hW6]
                   have hG6 : Hid (Gbox W6 wr.heap.size sg) := by show Gbox _ _ _; rw [hW6]; exact Gbox.put BB sg
                   have hE6 : Hid (Ext wr W6) := by show Ext _ _; rw [hW6]; exact ext_setCells (g := wr.heap.size) (Nat.le_refl _) (gvs sg) 0 W5 ((((Ext.refl wr).alloc _).drew).trans e5.out)
                   clear hW6 e5 BB bl f0 f1 f2 f3 f4 f5 y0 y1 y2 y3 y4 y5)
              all_goals
                have HH := Lib.hid fun (W : World) (h : Ext W6 W) => HH0.out W (hE6.out.trans h)
                have cz := hE6.out.cell c4
                have hz1 : b1 < W6.heap.size := Nat.lt_of_lt_of_le hb1 hE6.out.size
                obtain ⟨hb2, m0, m1, m2, m3, m4, m5⟩ := HN.out W6 hE6.out
                obtain ⟨sl, s0, s1, s2, s3, s4, s5⟩ := hG6.out.all
                have hE7 := Lib.hid (hE1.out.trans hE6.out)
                clear c0 c1 c2 c3 c4 c5 d0 hb3 hb1 HS HH0 HN hG6 hE6 hE1 hnk2
                have hsq : ((!gg.shuts) == gg.shuts) = false := by cases gg.shuts <;> rfl
                go_wp2_with fail
                refine region_quiet (by kernel_rfl) (by kernel_rfl) ?_
                repeat (any_goals (first | go_big_quiet_step ((exact Gives.quiet (HH.out _ (by repeat (first | exact Ext.refl _ | refine Ext.lift ?_ _ | refine Ext.alloc ?_ _))))) | quiet_step ((exact Gives.quiet (HH.out _ (by repeat (first | exact Ext.refl _ | refine Ext.lift ?_ _ | refine Ext.alloc ?_ _)))))))
                refine wpQuiet_nil ?_
                intro _ hw'
                obtain ⟨y, hw''⟩ := hw'
                subst hw''
                go_wp2
                go_roundw
                case rel => exact ⟨k + 1, by omega, by go_num, hE7.out.trans (by repeat (first | exact Ext.refl _ | refine Ext.lift ?_ _ | refine Ext.alloc ?_ _))⟩
                case measure => simp [intOf]; omega
            · go_wp2_with fail
              go_ret
              exact ⟨rfl, F4.out.trans he.out⟩
    · go_wp2_with fail
      refine (hSH.out _ (by repeat (first | exact Ext.refl _ | refine Ext.lift ?_ _ | refine Ext.alloc ?_ _))).mono ?_
      rintro e w6 ⟨rfl, E6a⟩
      have E6 : Hid (Ext w' w6) := (E5.out.alloc _).trans E6a
      have hEA := ((Ext.refl w5).alloc _).trans E6a
      have g5' := hEA.cell g5
      have gl' : bx < w6.heap.size := Nat.lt_of_lt_of_le gl hEA.size
      clear hSH E6a hEA g0 g1 g2 g3 g4 g5 gl hG5
      go_wp2_with fail
      clear g5' gl'
      refine (R8Gates_any w6 a1 cap1 more (RowsAt.ext B1.out E6.out) R1.out f1).mono ?_
      rintro e V1 ⟨go, gc, gz, rfl, hgc, hGD, hGA, Eg⟩
      have hg4 := hGD.len
      have hgok := Lib.hid hGD.ok
      have hgsm := Lib.hid hGD.small
      have hgo := Lib.hid (vAll_one hGD.ok)
      have F1 := Lib.hid (E6.out.trans Eg)
      replace hGA := Lib.hid hGA
      clear hGD Eg
      go_wp2_with fail
      refine (implOpenGates_any V1 go gc gz hGA.out hgsm.out hgok.out (by omega)).mono ?_
      rintro e V2 ⟨oo, ooc, rfl, hOA, Eo⟩
      replace hGA := Lib.hid (RowsAt.ext hGA.out Eo)
      replace hOA := Lib.hid hOA
      have F2 := Lib.hid (F1.out.trans Eo)
      have hol := opens_len gz gz.length
      have hoh := Lib.hid (opens_has gz gz.length)
      clear F1 Eo
      generalize opens gz gz.length = OP at *
      have hL0 := Lib.hid (Lst.new (T := 2) (n := 1) (cell := cellI) V2 V2.heap.size (Nat.le_refl _))
      have hE0 := Lib.hid ((Ext.refl V2).alloc (.cells #[] 2))
      go_wp2_with fail
      go_loopw [20, 21] (fun q i wr => ∃ (k : Nat) (ts : List Int), k ≤ gz.length ∧ i = .int .i64 k ∧ ts.length = k ∧ Hid (∀ j, j < ts.length → 0 ≤ nth ts j ∧ nth ts j ≤ 1000) ∧ Hid (Lst 2 1 cellI wr V2.heap.size q ts) ∧ Hid (Ext V2 wr)) (fun _ i _ => gz.length - (intOf i).toNat)
      case atStart => exact ⟨0, [], Nat.zero_le _, rfl, rfl, fun _ h => absurd h (Nat.not_lt_zero _), hL0.out, hE0.out⟩
      case round =>
        clear hL0 hE0
        obtain ⟨k, ts, hk, rfl, hts, hT, HT, HE⟩ := hrel
        obtain ⟨ta, tc, rfl, htc, htm, htR, -⟩ := HT.out.shape
        replace htR := Lib.hid htR
        have hszr := HE.out.size
        by_cases hlt : k < gz.length
        · have hP0 := Lib.hid (RowsAt.ext B0.out (F2.out.trans HE.out))
          go_wp2_with fail
          refine (r8At_q wr a0 cap0 code hP0.out R0.out f0 (40 + (k : Int)) (by omega) 100 (by omega)).mono ?_
          rintro e W1 ⟨z, rfl, z0, z1, Ea⟩
          replace z1 := z1 (by omega)
          have hx := Lib.hid (Ea.alloc (.cells #[.int .i64 (10 * z)] 2))
          have HLA := Lib.hid (HT.out.ext hx.out)
          have HRA : Hid (IntAt (W1.alloc (.cells #[.int .i64 (10 * z)] 2)) (some ⟨W1.heap.size, 0, none⟩) [10 * z]) := rows_int W1 (10 * z) rfl
          have hw1 : V2.heap.size ≤ W1.heap.size := Nat.le_trans hszr Ea.size
          have HE2 := Lib.hid (HE.out.trans hx.out)
          have hT2 : Hid (∀ j, j < (ts ++ [10 * z]).length → 0 ≤ nth (ts ++ [10 * z]) j ∧ nth (ts ++ [10 * z]) j ≤ 1000) := fun j hj => by
            rcases nth_push' hj with ⟨h1, e⟩ | ⟨h1, e⟩
            · rw [e]; exact hT.out j h1
            · rw [e]; omega
          have htl : ts.length ≤ 4 := by omega
          have hts2 : Hid ((ts ++ [10 * z]).length = k + 1) := by show _ = _; rw [List.length_append, hts]; rfl
          clear HT HE hx Ea hP0 htR hT hts
          try dsimp only
          repeat (first | (at_builtin; refine Hid.out ?_) | go_values | go_skip | go_guarded | go_step | go_upon | go_back)
          refine Lib.hid ?_
          refine wpList_pushL elInt oneInt rfl _ _ rfl V2.heap.size _ ts rfl HLA.out _ 1 1 [10 * z] rfl rfl HRA.out (by omega) (by omega) (by rw [size_new]; omega) ?_
          intro v3 w7 L3 hs3 hg3
          have HL3 := Lib.hid L3
          have HE3 := Lib.hid (hs3 V2 HE2.out (Nat.le_refl _))
          clear L3 hs3 hg3 HLA HRA HE2
          go_wp2_with fail
          go_roundw
          case rel => exact ⟨k + 1, ts ++ [10 * z], by omega, by go_num, hts2.out, hT2.out, HL3.out, HE3.out⟩
          case measure => simp [intOf]; omega
        · obtain rfl : k = gz.length := by omega
          have hGA1 := Lib.hid (RowsAt.ext hGA.out HE.out)
          have hOA1 := Lib.hid (RowsAt.ext hOA.out HE.out)
          have F3 := Lib.hid (F2.out.trans HE.out)
          have hC0 := stepsC_0 hgok.out (allIn_iff.2 fun j hj => inB_iff.2 (hT.out j hj)) hts
          have hV0 := stepsV_yes hC0
          have hSG := Lib.hid (implStepGates_any wr go gc gz hGA1.out hgsm.out (by omega) hgc ta tc ts htR.out (fun j hj => by have := hT.out j hj; omega) (by omega) htc)
          rw [hC0, hV0, hts] at hSG
          have hnl := stepTo_length gz ts gz.length
          have hna := Lib.hid fun j (hj : j < gz.length) => nth_stepTo (l := gz) (hz := ts) (k := gz.length) hj
          obtain ⟨NX, hNX⟩ : ∃ NX, NX = stepTo gz ts gz.length := ⟨_, rfl⟩
          rw [← hNX] at hSG hnl hna
          clear hNX hC0 hV0 hGA hOA F2 HT HE
          replace hts := Lib.hid hts
          go_wp2_with fail
          rw [hts.out]
          refine hSG.out.mono ?_
          rintro e V4 ⟨na, nc, rfl, hncc, -, hNA, E4⟩
          have hGA4 := Lib.hid (RowsAt.ext hGA1.out E4)
          have hOA4 := Lib.hid (RowsAt.ext hOA1.out E4)
          have htR4 := Lib.hid (RowsAt.ext htR.out E4)
          replace hNA := Lib.hid hNA
          have F4 := Lib.hid (F3.out.trans E4)
          rw [hnl]
          replace hnl := Lib.hid hnl
          clear hSG F3 E4 hGA1 hOA1 htR hncc
          have HX0 := Lib.hid (Ext.refl V4)
          go_wp2_with fail
          go_loopw [24] (fun i wr2 => ∃ k : Nat, k ≤ gz.length ∧ i = .int .i64 k ∧ Hid (Ext V4 wr2)) (fun i _ => gz.length - (intOf i).toNat)
          case atStart => exact ⟨0, Nat.zero_le _, rfl, HX0.out⟩
          case round =>
            clear HX0
            obtain ⟨k, hk2, rfl, he⟩ := hrel
            by_cases hlt2 : k < gz.length
            · have htk : k < ts.length := by rw [hts.out]; exact hlt2
              have hnk : k < NX.length := by rw [hnl.out]; exact hlt2
              have hT' := hT.out k htk
              have hgk := hgo.out k hlt2
              have hnk' := hna.out k hlt2
              rw [if_pos hlt2] at hnk'
              have hH := hoh.out k
              rw [decide_eq_true hlt2, Bool.true_and] at hH
              have hL0 := RowsAt.base (cell := Gate.cell) hGA4.out hlt2
              obtain ⟨b1, o1, rfl⟩ := hL0
              obtain ⟨b2, o2, rfl⟩ := RowsAt.base hNA.out hnk
              obtain ⟨b3, o3, rfl⟩ := RowsAt.base htR4.out htk
              obtain ⟨hb1, c0, c1, c2, c3, c4, c5⟩ := Gate.at (RowsAt.ext hGA4.out he.out) k hlt2
              obtain ⟨hb3, d0⟩ := IntAt.at (RowsAt.ext htR4.out he.out) k htk
              have HS := Lib.hid fun (W : World) => specStepGate_any (nth gz k) (nth ts k) W hgk hT'.1 hT'.2
              obtain ⟨sg, hsg⟩ : ∃ sg, sg = stepG (nth gz k) (nth ts k) := ⟨_, rfl⟩
              rw [← hsg] at hnk' HS
              have hnk2 := Lib.hid hnk'
              have HH0 := Lib.hid fun (W : World) (h : Ext wr W) => Gives.same (r8Has_any oo ooc OP (k : Int) W (RowsAt.ext hOA4.out (he.out.trans h)) (by omega))
              rw [hH] at HH0
              have HN := Lib.hid fun (W : World) (h : Ext wr W) => Gate.at (RowsAt.ext hNA.out (he.out.trans h)) k hnk
              rw [hnk2.out] at HN
              have hE1 := Lib.hid he.out
              clear hnk' hH hsg hT' hgk he hoh hNA hOA4 hna
              generalize nth gz k = gg at c0 c1 c2 c3 c4 c5 HH0 HS
              generalize nth ts k = zz at d0 HS
              go_wp2_with fail
              go_region_law (refine step_call rfl 40 #[.agg #[.string gg.id, .int .i64 gg.shut, .int .i64 gg.opn, .int .i64 gg.hold, .bool gg.shuts, .int .i64 gg.calm], .int .i64 zz] (by first | rfl | (go_simp; done) | (go_simp; rfl)) ?_; refine (HS.out _).mono ?_; rintro e W5 ⟨rfl, e5⟩; refine ⟨_, rfl, ?_⟩; replace e5 := Lib.hid e5; try (have BB : Blk W5 wr.heap.size 54 6 := (Blk.new _ _ _).ext e5.out; have bl := BB.lt; have f0 := BB.frozen 0; have f1 := BB.frozen 1; have f2 := BB.frozen 2; have f3 := BB.frozen 3; have f4 := BB.frozen 4; have f5 := BB.frozen 5; obtain ⟨z0, y0⟩ := BB.cell (o := 0) (by decide); obtain ⟨z1, y1⟩ := BB.cell (o := 1) (by decide); obtain ⟨z2, y2⟩ := BB.cell (o := 2) (by decide); obtain ⟨z3, y3⟩ := BB.cell (o := 3) (by decide); obtain ⟨z4, y4⟩ := BB.cell (o := 4) (by decide); obtain ⟨z5, y5⟩ := BB.cell (o := 5) (by decide)))
              all_goals first
                | (obtain ⟨W6, hW6⟩ : ∃ W6, W6 = W5.alloc (.cells #[.string sg.id, .int .i64 sg.shut, .int .i64 sg.opn, .int .i64 sg.hold, .bool sg.shuts, .int .i64 sg.calm] 54) := ⟨_, rfl⟩
                   rw [← hW6]
                   have hG6 : Hid (Gbox W6 W5.heap.size sg) := by show Gbox _ _ _; rw [hW6]; exact Gbox.new W5 sg
                   have hE6 : Hid (Ext wr W6) := by show Ext _ _; rw [hW6]; exact (Ext.trans ((Ext.refl wr).drew) e5.out).alloc _
                   clear hW6 e5)
                | (obtain ⟨W6, hW6⟩ : ∃ W6, W6 = (((((W5.setCell ⟨wr.heap.size, 0, none⟩ (.string sg.id)).setCell ⟨wr.heap.size, 1, none⟩ (.int .i64 sg.shut)).setCell ⟨wr.heap.size, 2, none⟩ (.int .i64 sg.opn)).setCell ⟨wr.heap.size, 3, none⟩ (.int .i64 sg.hold)).setCell ⟨wr.heap.size, 4, none⟩ (.bool sg.shuts)).setCell ⟨wr.heap.size, 5, none⟩ (.int .i64 sg.calm) := ⟨_, rfl⟩
                   rw [← hW6]
                   have hG6 : Hid (Gbox W6 wr.heap.size sg) := by show Gbox _ _ _; rw [hW6]; exact Gbox.put BB sg
                   have hE6 : Hid (Ext wr W6) := by show Ext _ _; rw [hW6]; exact ext_setCells (g := wr.heap.size) (Nat.le_refl _) (gvs sg) 0 W5 ((((Ext.refl wr).alloc _).drew).trans e5.out)
                   clear hW6 e5 BB bl f0 f1 f2 f3 f4 f5 y0 y1 y2 y3 y4 y5)
              all_goals
                have HH := Lib.hid fun (W : World) (h : Ext W6 W) => HH0.out W (hE6.out.trans h)
                have cz := hE6.out.cell c4
                have hz1 : b1 < W6.heap.size := Nat.lt_of_lt_of_le hb1 hE6.out.size
                obtain ⟨hb2, m0, m1, m2, m3, m4, m5⟩ := HN.out W6 hE6.out
                obtain ⟨sl, s0, s1, s2, s3, s4, s5⟩ := hG6.out.all
                have hE7 := Lib.hid (hE1.out.trans hE6.out)
                clear c0 c1 c2 c3 c4 c5 d0 hb3 hb1 HS HH0 HN hG6 hE6 hE1 hnk2
                have hsq : ((!gg.shuts) == gg.shuts) = false := by cases gg.shuts <;> rfl
                go_wp2_with fail
                refine region_quiet (by kernel_rfl) (by kernel_rfl) ?_
                repeat (any_goals (first | go_big_quiet_step ((exact Gives.quiet (HH.out _ (by repeat (first | exact Ext.refl _ | refine Ext.lift ?_ _ | refine Ext.alloc ?_ _))))) | quiet_step ((exact Gives.quiet (HH.out _ (by repeat (first | exact Ext.refl _ | refine Ext.lift ?_ _ | refine Ext.alloc ?_ _)))))))
                refine wpQuiet_nil ?_
                intro _ hw'
                obtain ⟨y, hw''⟩ := hw'
                subst hw''
                go_wp2
                go_roundw
                case rel => exact ⟨k + 1, by omega, by go_num, hE7.out.trans (by repeat (first | exact Ext.refl _ | refine Ext.lift ?_ _ | refine Ext.alloc ?_ _))⟩
                case measure => simp [intOf]; omega
            · go_wp2_with fail
              go_ret
              exact ⟨rfl, F4.out.trans he.out⟩
open Go.ChangeShapes Go.WideShapes Go.ChangeAt
open Go.ChangeMaps (open_string shut_string)
namespace lawFnHolds
set_option maxRecDepth 100000 in
theorem lifted (os : Os) (started : os.Started) (H : Type) (enc : TypeId × Value → H) :
    ReturnsInHanded {} Try.checked os 7 .any (Rows.fnHoldsSpec.pre6 enc Try.prog Try.f7 Rows.fnHoldsRow.domain false) (Rows.fnHoldsSpec.post enc Try.prog Try.f7 false true false false) := by
  refine returnsInHanded_of_change (C := Try.checked) own started (by kernel_rfl) Try.func7
    (ChangeSpec.witness6 (enc := enc) (C := Try.checked) false ⟨#[], #[.slice none 0 0, .slice none 0 0], []⟩ 8 (by kernel_rfl) (by kernel_rfl) (by kernel_rfl) (by kernel_rfl)) ?_
  intro W base args ds gs before hval0 hW hcnd _
  have hval : ∀ (j : Nat) t v, Try.f7.params[j]? = some t → args[j]? = some v → Value.okWide Try.prog W .any base t v := hval0
  have hW' := hW
  obtain ⟨p, q, hA0, hV, rfl, hfz, hnd⟩ := hW
  have hA : DataW.TrodAll enc Try.prog W 0 (fun _ => true) true Try.f7.params.toList args.toList ds p := hA0
  rw [Try.params7] at hA hval
  obtain ⟨v0, vs0, d0, ds0, p0, q0, hargs, rfl, rfl, h0, r0⟩ := trodAll_cons hA
  obtain ⟨v1, vs1, d1, ds1, p1, q1, rfl, rfl, rfl, h1, r1⟩ := trodAll_cons r0
  obtain ⟨rfl, rfl, rfl⟩ := trodAll_nil r1
  obtain rfl : args = #[v0, v1] := by cases args; simp_all
  obtain ⟨rfl, rfl⟩ := trodVars_none hV
  have k0 := h0
  have lt0 : ∀ x ∈ p0, x.block < W.heap.size := by obtain ⟨m, hm⟩ := k0; exact DataW.trod_lt m _ _ _ hm
  obtain ⟨a0, len0, cap0, rfl⟩ := okWide_slice Try.underlying42 (hval 0 42 v0 rfl rfl)
  obtain ⟨fuel0, hf0⟩ := h0
  obtain ⟨b0, c0, l0, e0, hl0, hc0, H0, Q0⟩ := open_rows (fun (x : UInt8) (_ : Nat) => Value.int .u8 x.toNat) (fun _ => True) Try.underlying42 (by kernel_rfl : Try.prog.cellsOf 5 = 1) (by decide) (fun _ _ _ => byte_el) hf0
  simp only [Value.cells, List.cons.injEq, Value.slice.injEq, and_true] at e0
  obtain ⟨rfl, rfl, rfl⟩ := e0
  have k1 := h1
  have lt1 : ∀ x ∈ p1, x.block < W.heap.size := by obtain ⟨m, hm⟩ := k1; exact DataW.trod_lt m _ _ _ hm
  obtain ⟨a1, len1, cap1, rfl⟩ := okWide_slice Try.underlying42 (hval 1 42 v1 rfl rfl)
  obtain ⟨fuel1, hf1⟩ := h1
  obtain ⟨b1, c1, l1, e1, hl1, hc1, H1, Q1⟩ := open_rows (fun (x : UInt8) (_ : Nat) => Value.int .u8 x.toNat) (fun _ => True) Try.underlying42 (by kernel_rfl : Try.prog.cellsOf 5 = 1) (by decide) (fun _ _ _ => byte_el) hf1
  simp only [Value.cells, List.cons.injEq, Value.slice.injEq, and_true] at e1
  obtain ⟨rfl, rfl, rfl⟩ := e1
  clear hA0 hval0
  refine (holds_law W a0 cap0 l0 H0 Q0 (by omega) hl0 a1 cap1 l1 H1 Q1 (by omega) hl1).mono fun e W' ⟨he, bx⟩ => ?_
  have bel := bx.below
  subst he
  exact ⟨_, rfl, _, _, _, [], _, [], hW', trodAll_mk1 (shut_bool Try.underlying4 _), (trodAll_cons_mk (Below.trod laidOut (by kernel_rfl) (of_decide_eq_true (by kernel_rfl)) k0 bel lt0) (trodAll_cons_mk (Below.trod laidOut (by kernel_rfl) (of_decide_eq_true (by kernel_rfl)) k1 bel lt1) trodAll_mk0)), rfl, bel.frame _, fun h => by cases h⟩
theorem over : Rows.fnHoldsRow.holds Try.pinned (OpenSpec.ofChange Rows.fnHoldsSpec) :=
  OpenClaim.holds_of_wide 7 Try.f7 rfl rfl rfl rfl rfl rfl rfl ⟨rfl, rfl, rfl, rfl, rfl⟩ rfl rfl rfl rfl rfl (by kernel_rfl) Try.func7 (by kernel_rfl)
    (of_decide_eq_true (by kernel_rfl)) (by unfold Func.isWrapper; first | (rw [if_pos (by decide +kernel)]; kernel_rfl) | (rw [if_neg (by decide +kernel)]; exact ⟨rfl, rfl⟩))
    (fun os started H enc _ => lifted os started H enc)
/-- The given statement. -/
theorem proved : Rows.FnHoldsSaid := over
end lawFnHolds
end Go.Proofs.Ytahfjoadpipghaa
