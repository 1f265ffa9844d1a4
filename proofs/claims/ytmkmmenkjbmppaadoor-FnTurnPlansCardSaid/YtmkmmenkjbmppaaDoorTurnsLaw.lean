/- The law FnTurnPlans: turns that are given keep the gap and all absences, there are some exactly if they are counted, the fairest ones are so, too; hours without a watch: for all inputs, of any length. -/
import Derived.Test.YtmkmmenkjbmppaaDoorCards
import Derived.Test.YtmkmmenkjbmppaaDoorTie
import Derived.Test.YtmkmmenkjbmppaaDoorDec
import Derived.Test.YtmkmmenkjbmppaaDoorLift
import Derived.Deep.DeepHandedRow
import Derived.Lib.LaidTab
import Derived.Test.YtmkmmenkjbmppaaDoorDrawTq
import Derived.Test.YtmkmmenkjbmppaaDoorDrawWas
import Derived.Test.YtmkmmenkjbmppaaDoorWatchV
import Derived.Test.YtmkmmenkjbmppaaDoorTurnG3
import Derived.Test.YtmkmmenkjbmppaaDoorTurnW2
import Derived.Deep.CutRange
import Derived.Deep.CutBlock
namespace Go.Proofs.YtmkmmenkjbmppaaDoor
open Go.ChangeShapes Go.WideShapes Go.ChangeAt Go.RowKit
theorem gTab : Tryd.prog.globalNamed "internal/strconv.uint64pow10" = some 0 := by kernel_rfl
def laidList : List (String × DataW Unit) := [("math/bits.deBruijn32tab", Rows.laid_math_bits_deBruijn32tab), ("math/bits.deBruijn64tab", Rows.laid_math_bits_deBruijn64tab), ("internal/strconv.uint64pow10", Rows.laid_internal_strconv_uint64pow10)]
theorem gTabType : (Tryd.prog.globals[0]?).map (·.type) = some 118 := by kernel_rfl
theorem tab_of_laid {W : World} (h : laidMetH Tryd.prog laidList W) : Tab W := by
  have h2 := h.filter (fun x => x.1.length == 28)
  exact Lib.tabIs_of_head (rest := []) gTab gTabType Tryd.underlying118 Tryd.underlying68 (by kernel_rfl) (by kernel_rfl) h2
def datCells : DataW Unit → Array Value
  | .agg l => (l.map fun | .lit (.int k n) => Value.int k n | _ => .nilFunc).toArray
  | _ => #[]
def putCells (c : Array Value) : Obj → Obj
  | .cells _ t frozen => .cells c t frozen
  | o => o
/-- A world for the witness. -/
noncomputable def laidWorld (os : Os) : World :=
  { World.holding Tryd.prog os ⟨#[], #[], []⟩ with heap := (((World.holding Tryd.prog os ⟨#[], #[], []⟩).heap.modify 0 (putCells (datCells Rows.laid_internal_strconv_uint64pow10))).modify 2 (putCells (datCells Rows.laid_math_bits_deBruijn32tab))).modify 3 (putCells (datCells Rows.laid_math_bits_deBruijn64tab)) }
end Go.Proofs.YtmkmmenkjbmppaaDoor
namespace Go.Proofs.YtmkmmenkjbmppaaDoor
open Go.RowKit
theorem b10Long_t (a : Option Addr) (n cap : Nat) (w : World) (hn : n ≤ 9223372036854775807) : Calls Tryd.prog 4 #[.slice a n cap] w fun e w' => ∃ b, e = .returned (.bool b) ∧ (b = false → n ≤ 1048576) ∧ w' = w := by
  go_enter Tryd.func4, Tryd.ntmps4
  go_wp2_with fail
  go_ret
  exact ⟨_, rfl, fun h => by simp at h; omega, rfl⟩
/-- Turns as the law wants them. -/
structure GoodV (P T G : Int) (A : List (List Int)) (V : List Int) : Prop where
  code : codeT P T G A = 0
  len : V.length = T.toNat
  way : wayT A P.toNat G.toNat V
/-- The lists that the law tries. -/
structure Plans (w : World) (P T G : Int) (A : List (List Int)) (Ls : List (List Int)) (vs : List Sl) : Prop where
  len : vs.length = Ls.length
  few : Ls.length ≤ 2
  inn : ∀ k, k < Ls.length → ∃ ad cp, nth vs k = ⟨ad, (nth Ls k).length, cp⟩ ∧ IntAt w ad (nth Ls k)
  good : ∀ V, V ∈ Ls → GoodV P T G A V
theorem Plans.nil (w : World) (P T G : Int) (A : List (List Int)) : Plans w P T G A [] [] := ⟨rfl, Nat.zero_le _, fun _ h => absurd h (Nat.not_lt_zero _), fun _ h => absurd h List.not_mem_nil⟩
theorem Plans.push {w : World} {P T G : Int} {A : List (List Int)} {Ls : List (List Int)} {vs : List Sl} (h : Plans w P T G A Ls vs) (h1 : Ls.length ≤ 1) {V : List Int} {ad : Option Addr} {cp : Nat} (hV : GoodV P T G A V) (hR : IntAt w ad V) : Plans w P T G A (Ls ++ [V]) (vs ++ [⟨ad, V.length, cp⟩]) := by
  refine ⟨by rw [List.length_append, List.length_append, h.len]; rfl, by rw [List.length_append]; simp; omega, fun k hk => ?_, fun y hy => ?_⟩
  · rcases (show k < Ls.length ∨ k = Ls.length by rw [List.length_append] at hk; simp only [List.length_cons, List.length_nil] at hk; omega) with h2 | h2
    · obtain ⟨ad1, cp1, e, hR1⟩ := h.inn k h2
      exact ⟨ad1, cp1, by rw [nth_pre (by rw [h.len]; exact h2), nth_pre h2]; exact e, by rw [nth_pre h2]; exact hR1⟩
    · subst h2
      exact ⟨ad, cp, by rw [nth_last, ← h.len, nth_last], by rw [nth_last]; exact hR⟩
  · rcases List.mem_append.1 hy with h2 | h2
    · exact h.good y h2
    · rw [List.mem_singleton.1 h2]; exact hV
/-- No one has more turns than the fairest ones allow. -/
def LastOk (P : Int) (Ls : List (List Int)) (M : Int) : Prop := ∀ m, m + 1 = Ls.length → ∀ p : Nat, p < P.toNat → ((nth Ls m).count (p : Int) : Int) ≤ M
theorem lastOk_push {P : Int} {Ls : List (List Int)} {V : List Int} {M : Int} (h : ∀ p : Nat, p < P.toNat → (V.count (p : Int) : Int) ≤ M) : LastOk P (Ls ++ [V]) M := fun m hm p hp => by
  have : m = Ls.length := by rw [List.length_append] at hm; simp only [List.length_cons, List.length_nil] at hm; omega
  subst this
  rw [nth_last]; exact h p hp
theorem count_step {V : List Int} {p : Int} {k : Nat} (hk : k < V.length) : (V.take (k + 1)).count p = (V.take k).count p + if nth V k = p then 1 else 0 := by
  rw [List.take_succ_eq_append_getElem hk, List.count_append, nth_eq V k hk]
  congr 1
  by_cases h : V[k] = p
  · rw [if_pos h, h]; simp
  · rw [if_neg h]; simp [h]
theorem count_y {V : List Int} {p : Int} {k : Nat} (hk : k < V.length) (h : nth V k = p) : (V.take (k + 1)).count p = (V.take k).count p + 1 := by rw [count_step hk, if_pos h]
theorem count_n {V : List Int} {p : Int} {k : Nat} (hk : k < V.length) (h : ¬ nth V k = p) : (V.take (k + 1)).count p = (V.take k).count p := by rw [count_step hk, if_neg h, Nat.add_zero]
theorem count_bd {V : List Int} {p : Int} {k : Nat} : (V.take k).count p ≤ k := Nat.le_trans List.count_le_length (by rw [List.length_take]; omega)
/-- The code of the turns is 0, there is a way: then turns are given. -/
theorem give_way {P T G : Int} {A : List (List Int)} {V : List Int} (h : GoodV P T G A V) : giveC P T G A = 0 :=
  giveC_0 h.code (by have := cntT_way T.toNat [] V (by exact h.way) h.len; omega)
/-- What the law's first test asks. -/
theorem test_one {P T G : Int} {A : List (List Int)} : (codeT P T G A = 0 ∧ decide (0 < manyT P T G A) = (giveC P T G A == 0)) ∨ (codeT P T G A ≠ 0 ∧ giveC P T G A = codeT P T G A) := by
  by_cases h : codeT P T G A = 0
  · refine .inl ⟨h, ?_⟩
    rw [manyT_yes h]
    by_cases h0 : cntT A P.toNat G.toNat T.toNat [] = 0
    · rw [giveC_3 h h0, h0]; rfl
    · rw [giveC_0 h h0, decide_eq_true (by omega)]; rfl
  · exact .inr ⟨h, giveC_no h⟩
set_option maxRecDepth 100000 in
set_option maxHeartbeats 16000000 in
theorem turnplans_law (w : World) (ht : Tab w) (a0 : Option Addr) (cap0 : Nat) (l0 : List UInt8) (H0 : RowsAt 1 (fun (x : UInt8) (_ : Nat) => Value.int .u8 x.toNat) w a0 l0) (_ : ∀ k, k < l0.length → True) (hn0 : l0.length ≤ 9223372036854775807) (_ : l0.length ≤ cap0)
    (a1 : Option Addr) (cap1 : Nat) (l1 : List UInt8) (H1 : RowsAt 1 (fun (x : UInt8) (_ : Nat) => Value.int .u8 x.toNat) w a1 l1) (_ : ∀ k, k < l1.length → True) (hn1 : l1.length ≤ 9223372036854775807) (_ : l1.length ≤ cap1) :
    Gives Tryd.prog 3 #[.slice a0 l0.length cap0, .slice a1 l1.length cap1] w (.bool true) := by
  unfold Gives
  have B0 := Lib.hid (ByteAt.of8 H0)
  have B1 := Lib.hid (ByteAt.of8 H1)
  have R0 := Lib.hid (byte_range l0)
  have R1 := Lib.hid (byte_range l1)
  rw [show l0.length = (l0.map fun x => (x.toNat : Int)).length by simp] at hn0 ⊢
  rw [show l1.length = (l1.map fun x => (x.toNat : Int)).length by simp] at hn1 ⊢
  clear H0 H1
  generalize (l0.map fun x => (x.toNat : Int)) = code at *
  generalize (l1.map fun x => (x.toNat : Int)) = more at *
  have HL0 := Lib.hid (b10Long_t a0 code.length cap0 w hn0)
  have HL1 := Lib.hid (b10Long_t a1 more.length cap1 w hn1)
  have ht := Lib.hid ht
  go_enter Tryd.func3, Tryd.ntmps3
  go_wp2_with fail
  refine HL0.out.mono ?_
  rintro e w' ⟨b, rfl, g0, rfl⟩
  replace g0 := Lib.hid g0
  cases b
  case true =>
    go_wp2_with fail
    go_ret
    exact ⟨rfl, Ext.refl _⟩
  have f0 : code.length ≤ 1048576 := g0.out rfl
  clear HL0
  go_wp2_with fail
  refine HL1.out.mono ?_
  rintro e w' ⟨b, rfl, g1, rfl⟩
  replace g1 := Lib.hid g1
  cases b
  case true =>
    go_wp2_with fail
    go_ret
    exact ⟨rfl, Ext.refl _⟩
  have f1 : more.length ≤ 1048576 := g1.out rfl
  clear g0 g1
  clear HL1
  go_wp2_with fail
  refine (DrawFairTurns_any w' a0 cap0 code B0.out R0.out f0).mono ?_
  rintro e w1 ⟨P, T, G, aa, ac, A, vs, bu, rfl, hP, hT, hG, hA10, hAR, hac, hII, hbu, E1⟩
  have hII := Lib.hid hII
  have hAi := Lib.hid hAR.inn
  have ht1 := Lib.hid (ht.out.ext E1)
  have E1 := Lib.hid E1
  have B1 := Lib.hid (RowsAt.ext B1.out E1.out)
  clear B0 R0 f0 hAR ht
  have KG := Lib.hid fun (W : World) (he : Ext w1 W) => GiveTurns_any W P T G aa A vs ac (hII.out.ext he) hAi.out (by omega) (ht1.out.ext he)
  have KC := Lib.hid fun (W : World) (he : Ext w1 W) => CountTurns_any W P T G aa A vs ac (hII.out.ext he) hAi.out (by omega) (ht1.out.ext he)
  have KF := Lib.hid fun (W : World) (he : Ext w1 W) => FairTurns_any W P T G aa A vs ac (hII.out.ext he) hAi.out (by omega) (ht1.out.ext he) bu
  have hTest := Lib.hid (test_one (P := P) (T := T) (G := G) (A := A))
  have hgw := Lib.hid fun (V : List Int) (h : GoodV P T G A V) => give_way h
  obtain ⟨gv, hgv⟩ : ∃ gv, gv = giveC P T G A := ⟨_, rfl⟩
  obtain ⟨mn, hmn⟩ : ∃ mn, mn = manyT P T G A := ⟨_, rfl⟩
  obtain ⟨cd, hcd⟩ : ∃ cd, cd = codeT P T G A := ⟨_, rfl⟩
  rw [← hgv] at KG hTest hgw
  rw [← hmn] at KC hTest
  rw [← hcd] at KC hTest
  replace hgv := Lib.hid hgv
  replace hmn := Lib.hid hmn
  replace hcd := Lib.hid hcd
  go_wp2_with fail
  refine (KG.out _ (Ext.refl _)).mono ?_
  rintro e w2 ⟨va, vc, V, rfl, hRV, E2, hVg⟩
  replace hRV := Lib.hid hRV
  replace hVg := Lib.hid (show gv = 0 → GoodV P T G A V from fun h => ⟨(hVg h).1, (hVg h).2.1, (hVg h).2.2⟩)
  replace E2 := Lib.hid E2
  go_wp2_with fail
  refine (KC.out _ E2.out).mono ?_
  rintro e w3 ⟨rfl, E3⟩
  replace hRV := Lib.hid (RowsAt.ext hRV.out E3)
  replace E3 := Lib.hid (E2.out.trans E3)
  go_wp2_with fail
  refine (KF.out _ E3.out).mono ?_
  rintro e w4 ⟨fa, fc, F, M, C, rfl, hRF, E4, hFo⟩
  replace hRF := Lib.hid hRF
  replace hFo := Lib.hid hFo
  replace hRV := Lib.hid (RowsAt.ext hRV.out E4)
  replace E4 := Lib.hid (E3.out.trans E4)
  replace hII := Lib.hid (hII.out.ext E4.out)
  replace B1 := Lib.hid (RowsAt.ext B1.out E4.out)
  clear KG KC KF E2 E3 ht1
  replace E4 := Lib.hid (E1.out.trans E4.out)
  clear E1
  go_upto_region 7 with fail
  go_cut [88] from 71 to 87 (fun b wx => b = .bool false ∧ w4 = wx)
  case first =>
    rcases hTest.out with ⟨h1, h2⟩ | ⟨h1, h2⟩
    · obtain ⟨bq, hbq⟩ : ∃ bq, bq = (gv == 0) := ⟨_, rfl⟩
      rw [← hbq] at h2
      replace hbq := hbq.symm
      clear hTest hgw hVg hFo
      subst h1
      cases bq
      · go_wp2_with fail
        go_meet
        case rel => exact ⟨rfl, rfl⟩
      · go_wp2_with fail
        go_meet
        case rel => exact ⟨rfl, rfl⟩
    · have h3 : (cd == 0) = false := beq_eq_false_iff_ne.2 h1
      have h4 : (cd != 0) = true := bne_iff_ne.2 h1
      clear hTest hgw hVg hFo hgv h1
      subst h2
      go_wp2_with fail
      go_meet
      case rel => exact ⟨rfl, rfl⟩
  case rest =>
    obtain ⟨rfl, rfl⟩ := hcut
    clear hTest
    have hO := Lib.hid (Lst.new (T := 27) (n := 1) (cell := cellV) (α := Sl) w4 w4.heap.size (Nat.le_refl _))
    have hX := Lib.hid ((Ext.refl w4).alloc (.cells #[] 27))
    go_upto_if 91 with fail
    go_cut [17] from 90 to 95 (fun v wx => ∃ (Ls : List (List Int)) (vs : List Sl), Hid (Lst 27 1 cellV wx w4.heap.size v vs) ∧ Hid (Plans w4 P T G A Ls vs) ∧ Ls.length ≤ 1 ∧ Hid (Ext w4 wx))
    case first =>
      by_cases h0 : gv = 0
      · have hb : (gv == 0) = true := beq_iff_eq.2 h0
        have hV := Lib.hid (hVg.out h0)
        clear h0 hgw hVg hFo
        have hL1 := Lib.hid (hO.out.ext ((Ext.refl _).alloc (.cells #[.slice va V.length vc] 27)))
        have HR2 : Hid (RowsAt 1 cellV ((w4.alloc (.cells #[] 27)).alloc (.cells #[.slice va V.length vc] 27)) (some ⟨w4.heap.size + 1, 0, none⟩) [⟨va, V.length, vc⟩]) := by
          have h9 := rows_new (n := 1) (cell := cellV) (T := 27) (w4.alloc (.cells #[] 27)) #[.slice va V.length vc] ⟨va, V.length, vc⟩ (fun i hi => by rw [show i = 0 from Nat.lt_one_iff.1 hi]; rfl)
          rw [size_new] at h9
          exact h9
        have hX2 := Lib.hid (hX.out.trans ((Ext.refl _).alloc (.cells #[.slice va V.length vc] 27)))
        have hzz := Lib.hid hX2.out.size
        go_wp2_with (at_builtin; refine wpList_pushL elRows oneSl rfl _ _ rfl w4.heap.size _ [] (by rfl) hL1.out _ 1 1 [⟨va, V.length, vc⟩] rfl (by rfl) HR2.out (by simp) (by simp) hzz.out ?_; intro v6 w6 L6 _ g6; have L6 := Lib.hid L6; have g7 := Lib.hid g6; clear g6)
        go_meet
        case rel => exact ⟨[V], _, L6.out, (Plans.nil _ _ _ _ _).push (Nat.zero_le _) hV.out hRV.out, Nat.le_refl _, hX2.out.grown g7.out hL1.out.ge⟩
      · have hb : (gv == 0) = false := beq_eq_false_iff_ne.2 h0
        clear h0 hgw hVg hFo
        go_wp2_with fail
        go_meet
        case rel => exact ⟨[], [], hO.out, Plans.nil _ _ _ _ _, Nat.zero_le _, hX.out⟩
    case rest =>
      clear hO hX
      obtain ⟨Ls, vs, hO, hPl, hL1, hX⟩ := hcut
      go_upto_if 97 with fail
      go_cut [17] from 96 to 103 (fun v wx => ∃ (Ls : List (List Int)) (vs : List Sl), Hid (Lst 27 1 cellV wx w4.heap.size v vs) ∧ Hid (Plans w4 P T G A Ls vs) ∧ Hid (C = 0 → LastOk P Ls M) ∧ Hid (Ext w4 wx))
      case first =>
        obtain ⟨oa, oc, rfl, -, -, -, -⟩ := hO.out.shape
        by_cases h0 : C = 0
        · have hb : (C == 0) = true := beq_iff_eq.2 h0
          obtain ⟨f1, f2, f3, f4⟩ := hFo.out h0
          have hV : Hid (GoodV P T G A F) := ⟨f1, f3, f2⟩
          have hg := hgw.out F hV.out
          have hg2 : (gv != 0) = false := by rw [hg]; rfl
          have hg3 : (gv == 0) = true := by rw [hg]; rfl
          replace f4 := Lib.hid f4
          clear h0 hgw hVg hFo f1 f2 f3 hg hgv
          have hv3 := Lib.hid hPl.out.len
          have hv2 : vs.length ≤ 1 := by rw [hv3.out]; exact hL1
          have hO1 := Lib.hid (hO.out.ext ((Ext.refl _).alloc (.cells #[.slice fa F.length fc] 27)))
          have HR2 : Hid (RowsAt 1 cellV (wc.alloc (.cells #[.slice fa F.length fc] 27)) (some ⟨wc.heap.size, 0, none⟩) [⟨fa, F.length, fc⟩]) := rows_new (n := 1) (cell := cellV) (T := 27) wc #[.slice fa F.length fc] ⟨fa, F.length, fc⟩ (fun i hi => by rw [show i = 0 from Nat.lt_one_iff.1 hi]; rfl)
          have hX2 := Lib.hid (hX.out.trans ((Ext.refl _).alloc (.cells #[.slice fa F.length fc] 27)))
          have hzz := Lib.hid hX2.out.size
          go_wp2_with (at_builtin; refine wpList_pushL elRows oneSl rfl _ _ rfl w4.heap.size _ vs (by rfl) hO1.out _ 1 1 [⟨fa, F.length, fc⟩] rfl (by rfl) HR2.out (by omega) (by omega) hzz.out ?_; intro v6 w6 L6 _ g6; have L6 := Lib.hid L6; have g7 := Lib.hid g6; clear g6)
          go_meet
          case rel => exact ⟨Ls ++ [F], _, L6.out, hPl.out.push hL1 hV.out hRF.out, fun _ => lastOk_push f4.out, hX2.out.grown g7.out hO1.out.ge⟩
        · have hb : (C == 0) = false := beq_eq_false_iff_ne.2 h0
          replace h0 := Lib.hid h0
          clear hgw hVg hFo
          go_wp2_with fail
          go_meet
          case rel => exact ⟨Ls, vs, hO.out, hPl.out, fun h => absurd h h0.out, hX.out⟩
      case rest =>
        clear hO hX hPl hL1
        obtain ⟨Ls, vs, hO, hPl, hLa, hX⟩ := hcut
        obtain ⟨la, lc, rfl, -, -, hLR, -⟩ := hO.out.shape
        replace hLR := Lib.hid hLR
        have hvl := Lib.hid hPl.out.len
        have hv2 : vs.length ≤ 2 := by rw [hvl.out]; exact hPl.out.few
        have hIc := Lib.hid (hII.out.ext hX.out)
        have B1 := Lib.hid (RowsAt.ext B1.out hX.out)
        have E5 := Lib.hid (E4.out.trans hX.out)
        clear hO hgw hVg hFo hgv hmn hcd hII hRV hRF E4
        go_wp2_with fail
        go_loop [18] (fun i => ∃ k : Nat, k ≤ vs.length ∧ i = .int .i64 k) (fun i => vs.length - (intOf i).toNat)
        case atStart => exact ⟨0, Nat.zero_le _, rfl⟩
        case round =>
          obtain ⟨k, hk, rfl⟩ := hrel
          by_cases hlt : k < vs.length
          · have hd : decide (k < vs.length) = true := decide_eq_true hlt
            have hlL : k < Ls.length := by rw [← hvl.out]; exact hlt
            obtain ⟨lb, lo, rfl⟩ := RowsAt.base hLR.out hlt
            obtain ⟨hlb, c0⟩ := RowsAt.at hLR.out k hlt
            replace c0 := c0 0 (by decide)
            obtain ⟨ad, cp, e1, hRad⟩ := hPl.out.inn k hlL
            rw [e1, Nat.mul_one, Nat.add_zero] at c0
            obtain ⟨g1, g2, g3⟩ := hPl.out.good _ (nth_mem hlL)
            have hLk := Lib.hid (show C = 0 → k + 1 = vs.length → ∀ p : Nat, p < P.toNat → ((nth Ls k).count (p : Int) : Int) ≤ M from fun h0 h1 => hLa.out h0 k (by rw [← hvl.out]; exact h1))
            replace c0 : wc.cell? ⟨lb, lo + k, none⟩ = some (.slice ad (nth Ls k).length cp) := c0
            generalize nth Ls k = X at *
            obtain ⟨⟨cP0, cP8⟩, ⟨cT0, cT12⟩, ⟨cG0, cG12⟩, cA⟩ := codeT_ok g1
            have hTX : (X.length : Int) = T := by omega
            have hX12 : X.length ≤ 12 := by omega
            have ht1 : ((X.length : Int) != T) = false := by rw [hTX]; simp
            have ht2 : ((A.length : Int) != P) = false := by rw [cA]; simp
            replace hTX := Lib.hid hTX
            replace cA := Lib.hid cA
            replace hRad := Lib.hid (RowsAt.ext hRad hX.out)
            replace g3 := Lib.hid g3
            clear g1 g2 e1 hLa hPl hlL
            go_wp2_with fail
            go_loop [19] (fun i => ∃ t : Nat, (t : Int) ≤ T ∧ i = .int .i64 t) (fun i => (T - intOf i).toNat)
            case atStart => exact ⟨0, by omega, rfl⟩
            case round =>
              clear ht1 ht2 hd
              obtain ⟨t, ht, rfl⟩ := hrel
              by_cases hlt2 : (t : Int) < T
              · have hd2 : decide ((t : Int) < T) = true := decide_eq_true hlt2
                have htX : t < X.length := by have := hTX.out; omega
                obtain ⟨⟨p0, p1⟩, hAb, hGap⟩ := g3.out.law htX
                obtain ⟨xb, xo, rfl⟩ := RowsAt.base hRad.out htX
                obtain ⟨hxb, d0⟩ := IntAt.at hRad.out t htX
                obtain ⟨q, hq⟩ := Int.eq_ofNat_of_zero_le p0
                rw [hq] at d0 p1 hAb hGap
                rw [Int.toNat_natCast] at hAb
                have hqP : q < P.toNat := by omega
                have hqA : q < A.length := by have := cA.out; omega
                replace hGap := Lib.hid hGap
                obtain ⟨ab, ao, rfl⟩ := RowsAt.base hIc.out.row (k := q) (by rw [hIc.out.len]; exact hqA)
                obtain ⟨hab, ad2, cp2, a0c, hcp2, hRA⟩ := hIc.out.at hqA
                have HB := Lib.hid (b10Has_any ad2 cp2 (nth A q) (t : Int) wc hRA (by have := hAi.out q hqA; omega))
                rw [hAb] at HB
                have k1 : decide ((q : Int) < 0) = false := decide_eq_false (by omega)
                have k2 : decide (P ≤ (q : Int)) = false := decide_eq_false (by omega)
                have hLq := Lib.hid fun h0 h1 => hLk.out h0 h1 q hqP
                have hxc := Lib.hid fun m (hm : m < X.length) => (IntAt.at hRad.out m hm).2
                clear hAb hRA p0 p1 hq g3 hLk
                go_wp2_with fail
                refine HB.out.mono ?_
                rintro e w9 ⟨rfl, hw9⟩
                rw [hw9]
                clear hw9 HB
                go_wp2_with fail
                clear k1 k2 hd2 a0c hab hcp2
                go_loop [21, 22] (fun s i => ∃ m cn : Nat, (m : Int) ≤ T ∧ i = .int .i64 m ∧ s = .int .i64 cn ∧ cn ≤ m ∧ Hid ((X.take m).count (q : Int) = cn)) (fun _ i => (T - intOf i).toNat)
                case atStart => exact ⟨0, 0, by omega, rfl, rfl, Nat.le_refl _, rfl⟩
                case round =>
                  obtain ⟨m, cn, hm, rfl, rfl, hcm, hcn⟩ := hrel
                  by_cases hlt3 : (m : Int) < T
                  · have hd3 : decide ((m : Int) < T) = true := decide_eq_true hlt3
                    have hmX : m < X.length := by have := hTX.out; omega
                    have m0 := hxc.out m hmX
                    by_cases he : nth X m = (q : Int)
                    · rw [he] at m0
                      have hc2 : Hid ((X.take (m + 1)).count (q : Int) = cn + 1) := by show _ = _; rw [count_y hmX he, hcn.out]
                      by_cases hmt : m < t
                      · have hg := hGap.out m hmt
                        have k4 : decide (m < t) = true := decide_eq_true hmt
                        have k3 : decide ((t : Int) - (m : Int) < G) = false := decide_eq_false (fun h => hg (by omega) he)
                        clear hg he hcn
                        go_wp2_with fail
                        go_round
                        case rel => exact ⟨m + 1, cn + 1, by omega, by go_num, by go_num, by omega, hc2.out⟩
                        case measure => simp [intOf]; omega
                      · have k4 : decide (m < t) = false := decide_eq_false hmt
                        clear he hcn
                        go_wp2_with fail
                        go_round
                        case rel => exact ⟨m + 1, cn + 1, by omega, by go_num, by go_num, by omega, hc2.out⟩
                        case measure => simp [intOf]; omega
                    · have hc2 : Hid ((X.take (m + 1)).count (q : Int) = cn) := by show _ = _; rw [count_n hmX he, hcn.out]
                      have he2 : (nth X m == (q : Int)) = false := beq_eq_false_iff_ne.2 he
                      generalize nth X m = y at *
                      clear he hcn
                      go_wp2_with fail
                      go_round
                      case rel => exact ⟨m + 1, cn, by omega, by go_num, rfl, by omega, hc2.out⟩
                      case measure => simp [intOf]; omega
                  · have hd3 : decide ((m : Int) < T) = false := decide_eq_false hlt3
                    have hmX : m = X.length := by have := hTX.out; omega
                    have hfin : Hid (X.count (q : Int) = cn) := by show _ = _; rw [← hcn.out, hmX, List.take_length]
                    clear hcn hmX hxc hGap
                    by_cases hl : k + 1 = vs.length
                    · have k5 : ((k : Int) == (vs.length : Int) - 1) = true := beq_iff_eq.2 (by omega)
                      by_cases hC : C = 0
                      · have k6 : (C == 0) = true := beq_iff_eq.2 hC
                        have hle := hLq.out hC hl
                        rw [hfin.out] at hle
                        have k7 : decide (M < (cn : Int)) = false := decide_eq_false (by omega)
                        replace hl := Lib.hid hl
                        clear hLq hfin hC
                        go_wp2_with fail
                        go_round
                        case rel => exact ⟨t + 1, by omega, by go_num⟩
                        case measure => simp [intOf]; omega
                      · have k6 : (C == 0) = false := beq_eq_false_iff_ne.2 hC
                        replace hl := Lib.hid hl
                        clear hLq hfin hC
                        go_wp2_with fail
                        go_round
                        case rel => exact ⟨t + 1, by omega, by go_num⟩
                        case measure => simp [intOf]; omega
                    · have k5 : ((k : Int) == (vs.length : Int) - 1) = false := beq_eq_false_iff_ne.2 (by omega)
                      clear hLq hfin hl
                      go_wp2_with fail
                      go_round
                      case rel => exact ⟨t + 1, by omega, by go_num⟩
                      case measure => simp [intOf]; omega
              · have hd2 : decide ((t : Int) < T) = false := decide_eq_false hlt2
                clear g3 hLk hRad hTX cA c0
                go_wp2_with fail
                go_round
                case rel => exact ⟨k + 1, by omega, by go_num⟩
                case measure => simp [intOf]; omega
          · have hd : decide (k < vs.length) = false := decide_eq_false hlt
            clear hLa hPl hvl hLR hIc
            go_wp2_with fail
            refine (DrawUnwatchedHours_any wc a1 cap1 more B1.out R1.out f1).mono ?_
            rintro e w5 ⟨ta, tc, l, d, u, rfl, htc, hl33, hAW, hW, hd0, hu0, E6⟩
            replace E6 := Lib.hid (E5.out.trans E6)
            replace hW := Lib.hid hW
            have hsm := Lib.hid hAW.small
            have HU := Lib.hid (UnwatchedHours_any w5 ta tc l hW.out hsm.out (by omega) d u)
            clear B1 R1 hAW E5
            go_wp2_with fail
            refine HU.out.mono ?_
            rintro e w6 ⟨ha, hc, U, C2, rfl, hRU, E7, hno, hok⟩
            replace hRU := Lib.hid hRU
            replace hW := Lib.hid (RowsAt.ext hW.out E7)
            replace E7 := Lib.hid (E6.out.trans E7)
            replace hno := Lib.hid hno
            replace hok := Lib.hid hok
            clear HU E6
            by_cases h0 : C2 = 0
            · subst h0
              obtain ⟨hwl, d0, u1, hU64, hH⟩ := hok.out rfl
              replace hH := Lib.hid hH
              replace hwl := Lib.hid hwl
              clear hno hok
              go_wp2_with fail
              go_loopw [28] (fun i wr => ∃ k : Nat, k ≤ U.length ∧ i = .int .i64 k ∧ Hid (Ext w6 wr)) (fun i _ => U.length - (intOf i).toNat)
              case atStart => exact ⟨0, Nat.zero_le _, rfl, Ext.refl _⟩
              case round =>
                obtain ⟨k, hk, rfl, hE⟩ := hrel
                by_cases hlt : k < U.length
                · have hd : decide (k < U.length) = true := decide_eq_true hlt
                  obtain ⟨i0, i1⟩ := hH.out.inn k hlt
                  have HW := Lib.hid (OnWatch_no wr ta tc l (RowsAt.ext hW.out hE.out) hsm.out (by omega) (nth U k) hwl.out (by omega) (by omega) (hH.out.cov k hlt))
                  obtain ⟨ub, uo, rfl⟩ := RowsAt.base hRU.out hlt
                  obtain ⟨hub, c0⟩ := IntAt.at (RowsAt.ext hRU.out hE.out) k hlt
                  have k1 : decide (nth U k < d) = false := decide_eq_false (by omega)
                  have k2 : decide (u ≤ nth U k) = false := decide_eq_false (by omega)
                  rcases Nat.eq_zero_or_pos k with hz | hz
                  · subst hz
                    replace c0 : wr.cell? ⟨ub, uo, none⟩ = some (.int .i64 (nth U 0)) := c0
                    generalize nth U 0 = x at *
                    go_wp2_with fail
                    refine HW.out.mono ?_
                    rintro e w7 ⟨oa, oc, rfl, E8⟩
                    replace c0 := E8.cell c0
                    replace hub := Nat.lt_of_lt_of_le hub E8.size
                    replace E8 := Lib.hid (hE.out.trans E8)
                    clear HW hE
                    go_wp2_with fail
                    refine region_quiet (by kernel_rfl) (by kernel_rfl) ?_
                    repeat (any_goals (first | go_big_quiet_step (fail) | quiet_step (fail)))
                    refine wpQuiet_nil ?_
                    intro _ hw'
                    obtain ⟨y, hw''⟩ := hw'
                    subst hw''
                    go_wp2_with fail
                    go_roundw
                    case rel => exact ⟨0 + 1, by omega, by go_num, (by repeat (first | exact E8.out | refine Ext.lift ?_ _ | refine Ext.alloc ?_ _))⟩
                    case measure => simp [intOf]; omega
                  · have k3 : decide (0 < (k : Int)) = true := decide_eq_true (by omega)
                    obtain ⟨-, c1⟩ := IntAt.at (RowsAt.ext hRU.out hE.out) (k - 1) (by omega)
                    have hup := hH.out.up (k - 1) (by omega)
                    rw [show k - 1 + 1 = k by omega] at hup
                    have k4 : decide (nth U k ≤ nth U (k - 1)) = false := decide_eq_false (by omega)
                    generalize nth U k = x at *
                    generalize nth U (k - 1) = x1 at *
                    go_wp2_with fail
                    refine HW.out.mono ?_
                    rintro e w7 ⟨oa, oc, rfl, E8⟩
                    replace c0 := E8.cell c0
                    replace c1 := E8.cell c1
                    replace hub := Nat.lt_of_lt_of_le hub E8.size
                    replace E8 := Lib.hid (hE.out.trans E8)
                    clear HW hE
                    go_wp2_with fail
                    refine region_quiet (by kernel_rfl) (by kernel_rfl) ?_
                    repeat (any_goals (first | go_big_quiet_step (fail) | quiet_step (fail)))
                    refine wpQuiet_nil ?_
                    intro _ hw'
                    obtain ⟨y, hw''⟩ := hw'
                    subst hw''
                    go_wp2_with fail
                    go_roundw
                    case rel => exact ⟨k + 1, by omega, by go_num, (by repeat (first | exact E8.out | refine Ext.lift ?_ _ | refine Ext.alloc ?_ _))⟩
                    case measure => simp [intOf]; omega
                · have hd : decide (k < U.length) = false := decide_eq_false hlt
                  go_wp2_with fail
                  go_ret
                  exact ⟨rfl, E7.out.trans hE.out⟩
            · have hb : (C2 != 0) = true := bne_iff_ne.2 h0
              have hU := hno.out h0
              rw [hU]
              clear hno hok h0 hRU hU
              go_wp2_with fail
              go_ret
              exact ⟨rfl, E7.out⟩
open Go.ChangeShapes Go.WideShapes Go.ChangeAt
open Go.ChangeMaps (open_string shut_string)
namespace lawFnTurnPlans
set_option maxRecDepth 100000 in
theorem contract (H : Type) (enc : TypeId × Value → H) (W : World) (base : Nat) (args : Array Value) (ds gs : List (DataW H)) (before : List MemPlace)
    (hval : ∀ (j : Nat) t v, Tryd.f3.params[j]? = some t → args[j]? = some v → Value.okWide Tryd.prog W .any base t v)
    (hW : DataW.Whole enc Tryd.prog Tryd.f3.params.toList Rows.fnTurnPlansSpec.vars false W args.toList ds gs before) (hL : laidMetH Tryd.prog Rows.fnTurnPlansRow.laid W) :
    Calls Tryd.prog 3 args W fun e W' => ∃ v, e = .returned v ∧ Rows.fnTurnPlansSpec.post enc Tryd.prog Tryd.f3 false true false false W args v W' := by
  have ht : Tab W := tab_of_laid hL
  have hW' := hW
  obtain ⟨p, q, hA0, hV, rfl, hfz, hnd⟩ := hW
  have hA : DataW.TrodAll enc Tryd.prog W 0 (fun _ => true) true Tryd.f3.params.toList args.toList ds p := hA0
  rw [Tryd.params3] at hA hval
  obtain ⟨v0, vs0, d0, ds0, p0, q0, hargs, rfl, rfl, h0, r0⟩ := trodAll_cons hA
  obtain ⟨v1, vs1, d1, ds1, p1, q1, rfl, rfl, rfl, h1, r1⟩ := trodAll_cons r0
  obtain ⟨rfl, rfl, rfl⟩ := trodAll_nil r1
  obtain rfl : args = #[v0, v1] := by cases args; simp_all
  obtain ⟨rfl, rfl⟩ := trodVars_none hV
  have k0 := h0
  have lt0 : ∀ x ∈ p0, x.block < W.heap.size := by obtain ⟨m, hm⟩ := k0; exact DataW.trod_lt m _ _ _ hm
  obtain ⟨a0, len0, cap0, rfl⟩ := okWide_slice Tryd.underlying22 (hval 0 22 v0 rfl rfl)
  obtain ⟨fuel0, hf0⟩ := h0
  obtain ⟨b0, c0, l0, e0, hl0, hc0, H0, Q0⟩ := open_rows (fun (x : UInt8) (_ : Nat) => Value.int .u8 x.toNat) (fun _ => True) Tryd.underlying22 (by kernel_rfl : Tryd.prog.cellsOf 5 = 1) (by decide) (fun _ _ _ => byte_el) hf0
  simp only [Value.cells, List.cons.injEq, Value.slice.injEq, and_true] at e0
  obtain ⟨rfl, rfl, rfl⟩ := e0
  have k1 := h1
  have lt1 : ∀ x ∈ p1, x.block < W.heap.size := by obtain ⟨m, hm⟩ := k1; exact DataW.trod_lt m _ _ _ hm
  obtain ⟨a1, len1, cap1, rfl⟩ := okWide_slice Tryd.underlying22 (hval 1 22 v1 rfl rfl)
  obtain ⟨fuel1, hf1⟩ := h1
  obtain ⟨b1, c1, l1, e1, hl1, hc1, H1, Q1⟩ := open_rows (fun (x : UInt8) (_ : Nat) => Value.int .u8 x.toNat) (fun _ => True) Tryd.underlying22 (by kernel_rfl : Tryd.prog.cellsOf 5 = 1) (by decide) (fun _ _ _ => byte_el) hf1
  simp only [Value.cells, List.cons.injEq, Value.slice.injEq, and_true] at e1
  obtain ⟨rfl, rfl, rfl⟩ := e1
  clear hA0
  refine (turnplans_law W ht a0 cap0 l0 H0 Q0 (by omega) hl0 a1 cap1 l1 H1 Q1 (by omega) hl1).mono fun e W' ⟨he, bx⟩ => ?_
  have bel := bx.below
  subst he
  exact ⟨_, rfl, _, _, _, [], _, [], hW', trodAll_mk1 (shut_bool Tryd.underlying4 _), (trodAll_cons_mk (Below.trod laidOut (by kernel_rfl) (of_decide_eq_true (by kernel_rfl)) k0 bel lt0) (trodAll_cons_mk (Below.trod laidOut (by kernel_rfl) (of_decide_eq_true (by kernel_rfl)) k1 bel lt1) trodAll_mk0)), rfl, bel.frame _, fun h => by cases h⟩
theorem laid_met (os : Os) : laidMet Tryd.prog Rows.fnTurnPlansRow.laid ((laidWorld os).forCall (fun _ _ => 0) ⟨#[], #[.slice none 0 0, .slice none 0 0], []⟩).memory :=
  laidMet_of_run' 8 (by kernel_rfl) (by kernel_rfl)
theorem reads (os : Os) {H : Type} (enc : TypeId × Value → H) : ∃ places, DataW.whole enc Tryd.prog ((laidWorld os).forCall (fun _ _ => 0) ⟨#[], #[.slice none 0 0, .slice none 0 0], []⟩).memory Tryd.f3.params.toList Rows.fnTurnPlansSpec.vars false (#[.slice none 0 0, .slice none 0 0] : Array Value).toList 8 = some ([.nil, .nil], [], places) :=
  ⟨[], by kernel_rfl⟩
set_option maxRecDepth 100000 in
theorem lifted (os : Os) (started : os.Started) (H : Type) (enc : TypeId × Value → H) (F : Stop.Interp) :
    ReturnsInHanded {} Tryd.checked os 3 .any ((OpenSpec.ofChange Rows.fnTurnPlansSpec).preRow enc Tryd.prog Tryd.f3 Rows.fnTurnPlansRow.domain false Rows.fnTurnPlansRow.laid) (((OpenSpec.ofChange Rows.fnTurnPlansSpec).at F).post enc Tryd.prog Tryd.f3 false true false false) := by
  obtain ⟨places, hx⟩ := reads os enc
  refine returnsInHanded_of_row (C := Tryd.checked) (s := OpenSpec.ofChange Rows.fnTurnPlansSpec) own started (by kernel_rfl) Tryd.func3
    (witness_row_at (enc := enc) (C := Tryd.checked) false (laidWorld os) #[.slice none 0 0, .slice none 0 0] rfl (by kernel_rfl) (by kernel_rfl) (by kernel_rfl)
      (OpenSpec.preRow_of_cond 8 hx (by kernel_rfl) (fun k hk => by cases hk) (by kernel_rfl) (laid_met os))) ?_
  intro W base args ds gs before hval hW _ _ _ hL _ _
  exact contract H enc W base args ds gs before hval hW hL
theorem said : Rows.FnTurnPlansSaid :=
  OpenClaim.holds_of_cond 3 Tryd.f3 rfl rfl rfl rfl rfl rfl rfl ⟨rfl, rfl, rfl, rfl, rfl⟩ rfl rfl rfl rfl rfl (by kernel_rfl) Tryd.func3 (by kernel_rfl)
    (of_decide_eq_true (by kernel_rfl)) (by unfold Func.isWrapper; first | (rw [if_pos (by decide +kernel)]; kernel_rfl) | (rw [if_neg (by decide +kernel)]; exact ⟨rfl, rfl⟩))
    (fun os started H enc _ F => by rw [OpenClaim.pre_eq_preRow]; exact lifted os started H enc F)
theorem plain (f : FuncId) (fn : Func) (hf : Tryd.pinned.checked.prog.funcNamed Rows.fnTurnPlansRow.func = some f) (hfn : Tryd.pinned.checked.prog.funcs[f]? = some fn) :
    false = Tryd.pinned.checked.prog.looks [] ∧ ∀ (j : Nat) t, fn.params[j]? = some t → Tryd.pinned.checked.prog.wantsStandIn t = false := by
  obtain rfl : f = 3 := Option.some.inj ((show Tryd.prog.funcNamed Rows.fnTurnPlansRow.func = some 3 by kernel_rfl).symm.trans hf) |>.symm
  obtain rfl : fn = Tryd.f3 := (Option.some.inj (Tryd.func3.symm.trans hfn)).symm
  refine ⟨by kernel_rfl, fun j t ht => ?_⟩
  rw [Tryd.params3] at ht
  have hm := Array.mem_of_getElem? ht
  have hm2 : t = 22 := by simpa using hm
  rcases hm2 with rfl
  · exact (show Tryd.prog.wantsStandIn 22 = false by kernel_rfl)
/-- The given statement. -/
theorem card : Rows.FnTurnPlansCardSaid :=
  Claim7.holds_tied_plain_at .later [] _ _ _ _ said (fun _ h => by cases h) (by kernel_rfl) (fun _ h => by cases h) fnTurnPlans_row_tie rfl ⟨rfl, rfl⟩ (by kernel_rfl) rfl plain (by kernel_rfl)
end lawFnTurnPlans
end Go.Proofs.YtmkmmenkjbmppaaDoor
