/- ContradictTests of the program: the pairs that it hands back. -/
import Derived.Test.YtdopffhekinbnaaWeakD
import Derived.Test.YtdopffhekinbnaaIIB
import Derived.Test.YtdopffhekinbnaaDepH
namespace Go.Proofs.Ytdopffhekinbnaa
open Go.RowKit
/-- What the law asks of pairs of tests. -/
def PairsOk (l : List Test) (near : Int) (L : List (List Int)) : Prop := ∀ q, q < L.length → ∃ i k : Nat, nth L q = [(i : Int), (k : Int)] ∧ i < k ∧ k < l.length ∧ absV ((nth l i).depth - (nth l k).depth) ≤ near ∧ 2 ≤ absV (classV (nth l i) - classV (nth l k))
theorem PairsOk.nil (l : List Test) (near : Int) : PairsOk l near [] := fun _ h => absurd h (Nat.not_lt_zero _)
theorem PairsOk.push {l : List Test} {near : Int} {L : List (List Int)} (h : PairsOk l near L) {i k : Nat} (h1 : i < k) (h2 : k < l.length) (h3 : absV ((nth l i).depth - (nth l k).depth) ≤ near) (h4 : 2 ≤ absV (classV (nth l i) - classV (nth l k))) : PairsOk l near (L ++ [[(i : Int), (k : Int)]]) := fun q hq => by
  rcases (show q < L.length ∨ q = L.length by rw [List.length_append] at hq; simp only [List.length_cons, List.length_nil] at hq; omega) with h5 | rfl
  · rw [nth_pre h5]; exact h q h5
  · rw [nth_last]; exact ⟨i, k, rfl, h1, h2, h3, h4⟩
theorem absI_any (n : Int) (w : World) (h0 : -1000000 ≤ n) (h1 : n ≤ 1000000) : Calls Try.prog 41 #[.int .i64 n] w fun e w' => e = .returned (.int .i64 (absV n)) ∧ w' = w := by
  have h := abs_any n w (by omega) (by omega)
  have e : absI n = absV n := by unfold absI absV; split <;> (try split) <;> omega
  rwa [e] at h
theorem conLit (W : World) (j k : Nat) : IntAt (W.alloc (.cells #[.int .i64 (j : Int), .int .i64 (k : Int)] 2)) (some ⟨W.heap.size, 0, none⟩) [(j : Int), (k : Int)] := fun q hq => by
  refine ⟨_, _, rfl, by rw [size_new]; omega, fun i hi => ?_⟩
  obtain rfl : i = 0 := by omega
  simp only [Nat.mul_one, Nat.zero_add, Nat.add_zero]
  rw [cell_new]
  rcases (show q = 0 ∨ q = 1 by simp at hq; omega) with rfl | rfl <;> rfl
set_option maxRecDepth 100000 in
set_option maxHeartbeats 8000000 in
theorem ContradictTests_any (w : World) (a : Option Addr) (cap : Nat) (l : List Test) (H : TestAt w a l) (hsz : ∀ k, k < l.length → (nth l k).Small) (hn : l.length ≤ 1048576) (near : Int) :
    Calls Try.prog 19 #[.slice a l.length cap, .int .i64 near] w fun e w' => ∃ v vs gs L c, e = .returned (.tuple #[v, .int .i64 c]) ∧ BII w' w.heap.size v L vs gs ∧ L.length ≤ 300 ∧ (0 < L.length → c = 0 ∧ testList l = true) ∧ PairsOk l near L ∧ Ext w w' := by
  have HA := Lib.hid H
  have HV := Lib.hid fun (w' : World) (he : Ext w w') => ValidTests_any a cap l w' (H.ext he) hsz hn
  have HN := Lib.hid fun (w' : World) => nearOk_any near w'
  clear H hsz
  cases h1 : testList l
  · rw [h1] at HV
    go_enter Try.func19, Try.ntmps19
    go_wp2_with (go_at_call 27; refine (HV.out _ (by repeat (first | exact Ext.refl _ | refine Ext.lift ?_ _ | refine Ext.alloc ?_ _))).mono ?_; rintro e w' ⟨rfl, y, rfl⟩)
    go_ret2
    exact ⟨_, [], fun _ => 0, [], 1, rfl, BII.nil _ _ _, by simp, fun h => absurd h (Nat.lt_irrefl _), PairsOk.nil _ _, (by repeat (first | exact Ext.refl _ | refine Ext.lift ?_ _ | refine Ext.alloc ?_ _))⟩
  rw [h1] at HV
  cases h2 : inB near 0 300
  · rw [h2] at HN
    go_enter Try.func19, Try.ntmps19
    go_wp2_with (first | (go_at_call 27; refine (HV.out _ (by repeat (first | exact Ext.refl _ | refine Ext.lift ?_ _ | refine Ext.alloc ?_ _))).mono ?_; rintro e w' ⟨rfl, y, rfl⟩) | (go_at_call 28; refine (HN.out _).mono ?_; rintro e w' ⟨rfl, rfl⟩))
    go_ret2
    exact ⟨_, [], fun _ => 0, [], 2, rfl, BII.nil _ _ _, by simp, fun h => absurd h (Nat.lt_irrefl _), PairsOk.nil _ _, (by repeat (first | exact Ext.refl _ | refine Ext.lift ?_ _ | refine Ext.alloc ?_ _))⟩
  rw [h2] at HN
  have hone := Lib.hid fun k (hk : k < l.length) => vAll_one (show vAll _ _ 16 l = true from h1) k hk
  have hl16 : l.length ≤ 16 := testList_len h1
  have hT1 := Lib.hid h1
  obtain ⟨hn0, hn1⟩ := inB_iff.1 h2
  clear h1 h2
  go_enter Try.func19, Try.ntmps19
  go_wp2_with (first | (go_at_call 27; refine (HV.out _ (by repeat (first | exact Ext.refl _ | refine Ext.lift ?_ _ | refine Ext.alloc ?_ _))).mono ?_; rintro e w' ⟨rfl, y, rfl⟩) | (go_at_call 28; refine (HN.out _).mono ?_; rintro e w' ⟨rfl, rfl⟩))
  clear HV HN
  go_loopw [6, 21] (fun o i wr => ∃ (j : Nat) (L : List (List Int)) (vs : List Sl) (gs : Nat → Nat), j ≤ l.length ∧ i = .int .i64 j ∧ L.length ≤ 16 * j ∧ Hid (PairsOk l near L) ∧ Hid (BII wr w.heap.size o L vs gs) ∧ Ext w wr) (fun _ i _ => l.length - (intOf i).toNat)
  case atStart => exact ⟨0, [], [], fun _ => 0, Nat.zero_le _, rfl, Nat.le_refl _, PairsOk.nil _ _, BII.nil _ _ _, (by repeat (first | exact Ext.refl _ | refine Ext.lift ?_ _ | refine Ext.alloc ?_ _))⟩
  case round =>
    obtain ⟨j, L, vs, gs, hj, rfl, hLl, hP, HB, he⟩ := hrel
    obtain ⟨wo, hwo⟩ : ∃ wo, wo = wr := ⟨_, rfl⟩
    subst hwo
    have hEh := Lib.hid he
    clear he
    by_cases hlt : j < l.length
    · have hd0 : decide (j < l.length) = true := decide_eq_true hlt
      obtain ⟨b, off, rfl⟩ := HA.out.base hlt
      obtain ⟨hb, c0, c1, c2, c3, c4⟩ := Test.at (HA.out.ext hEh.out) j hlt
      obtain ⟨w1, hw1⟩ : ∃ w1, w1 = wo.alloc (.cells #[.int .i64 (nth l j).kind, .int .i64 (nth l j).score, .int .i64 (nth l j).quality, .int .i64 (nth l j).depth, .int .i64 (nth l j).hour] 41) := ⟨_, rfl⟩
      have E1 : Hid (Ext wo w1) := by rw [hw1]; exact (Ext.refl _).alloc _
      have xl : wo.heap.size < w1.heap.size := by rw [hw1, size_new]; omega
      have xT : Hid (∀ q, q < 5 → w1.cell? ⟨wo.heap.size, q, none⟩ = some ((nth l j).cell q)) := fun q hq => by rw [hw1, cell_new]; rcases (show q = 0 ∨ q = 1 ∨ q = 2 ∨ q = 3 ∨ q = 4 by omega) with rfl | rfl | rfl | rfl | rfl <;> rfl
      go_wp2_with fail
      rw [← hw1]
      clear hw1 c0 c1 c2 c3 c4 hb
      go_loopw [6, 9] (fun o i wr => ∃ (k : Nat) (L : List (List Int)) (vs : List Sl) (gs : Nat → Nat), j + 1 ≤ k ∧ k ≤ l.length ∧ i = .int .i64 k ∧ L.length ≤ 16 * j + k ∧ Hid (PairsOk l near L) ∧ Hid (BII wr w.heap.size o L vs gs) ∧ Ext w wr ∧ wo.heap.size < wr.heap.size ∧ Hid (∀ q, q < 5 → wr.cell? ⟨wo.heap.size, q, none⟩ = some ((nth l j).cell q)) ∧ Hid (o.ownBlock ≠ some wo.heap.size)) (fun _ i _ => l.length - (intOf i).toNat)
      case atStart => exact ⟨j + 1, L, vs, gs, Nat.le_refl _, hlt, by go_num, by omega, hP.out, HB.out.ext E1.out, hEh.out.trans E1.out, xl, xT.out, fun e => absurd (HB.out.lst.lt _ e) (Nat.lt_irrefl _)⟩
      case round =>
        clear HB hEh xT xl E1 hP hLl
        obtain ⟨k, L, vs2, gs2, hk0, hk1, rfl, hLl, hP, HB2, he2, xb, hT, hob⟩ := hrel
        by_cases hlk : k < l.length
        · obtain ⟨hb, p0, p1, p2, p3, p4⟩ := Test.at (HA.out.ext he2) k hlk
          have xd0 := hT.out 0 (by decide)
          have xd1 := hT.out 1 (by decide)
          have xd2 := hT.out 2 (by decide)
          have xd3 := hT.out 3 (by decide)
          have xd4 := hT.out 4 (by decide)
          change _ = some (Value.int .i64 (nth l j).kind) at xd0
          change _ = some (Value.int .i64 (nth l j).score) at xd1
          change _ = some (Value.int .i64 (nth l j).quality) at xd2
          change _ = some (Value.int .i64 (nth l j).depth) at xd3
          change _ = some (Value.int .i64 (nth l j).hour) at xd4
          obtain ⟨-, ⟨dj0, dj1⟩, -, -, -⟩ := testB_bd (hone.out j hlt)
          obtain ⟨-, ⟨dk0, dk1⟩, -, -, -⟩ := testB_bd (hone.out k hlk)
          obtain ⟨cj0, cj1⟩ := classV_bd (nth l j)
          obtain ⟨ck0, ck1⟩ := classV_bd (nth l k)
          have hdk : decide (k < l.length) = true := decide_eq_true hlk
          have hEh2 := Lib.hid he2
          have hY := Lib.hid ((Ext.refl wr).alloc (.cells #[.int .i64 (nth l k).kind, .int .i64 (nth l k).score, .int .i64 (nth l k).quality, .int .i64 (nth l k).depth, .int .i64 (nth l k).hour] 41))
          clear he2
          by_cases hq : absV ((nth l j).depth - (nth l k).depth) ≤ near
          · have hqd : decide (absV ((nth l j).depth - (nth l k).depth) ≤ near) = true := decide_eq_true hq
            by_cases hp : 2 ≤ absV (classV (nth l j) - classV (nth l k))
            · have hpd : decide (2 ≤ absV (classV (nth l j) - classV (nth l k))) = true := decide_eq_true hp
              go_wp2_with fail
              refine region_quiet (by kernel_rfl) (by kernel_rfl) ?_
              repeat (any_goals (first | go_big_quiet_step ((first | (exact Gives.quiet (Gives.same (absI_any _ _ (by omega) (by omega)))) | (exact Gives.quiet (Test_class _ _ (hone.out j hlt))) | (exact Gives.quiet (Test_class _ _ (hone.out k hlk))))) | quiet_step ((first | (exact Gives.quiet (Gives.same (absI_any _ _ (by omega) (by omega)))) | (exact Gives.quiet (Test_class _ _ (hone.out j hlt))) | (exact Gives.quiet (Test_class _ _ (hone.out k hlk)))))))
              refine wpQuiet_nil ?_
              intro _ hw'
              obtain ⟨y, hw''⟩ := hw'
              subst hw''
              have B3 := Lib.hid (HB2.out.ext (hY.out.lift y))
              have E3 := Lib.hid ((hEh2.out.trans hY.out).lift y)
              have T3 : Hid (∀ q, q < 5 → (lift (wr.alloc (.cells #[.int .i64 (nth l k).kind, .int .i64 (nth l k).score, .int .i64 (nth l k).quality, .int .i64 (nth l k).depth, .int .i64 (nth l k).hour] 41)) y).cell? ⟨wo.heap.size, q, none⟩ = some ((nth l j).cell q)) := fun q hq => (hY.out.lift y).cell (hT.out q hq)
              have hbw : w.heap.size ≤ (lift (wr.alloc (.cells #[.int .i64 (nth l k).kind, .int .i64 (nth l k).score, .int .i64 (nth l k).quality, .int .i64 (nth l k).depth, .int .i64 (nth l k).hour] 41)) y).heap.size := E3.out.size
              have xb1 : wo.heap.size < (lift (wr.alloc (.cells #[.int .i64 (nth l k).kind, .int .i64 (nth l k).score, .int .i64 (nth l k).quality, .int .i64 (nth l k).depth, .int .i64 (nth l k).hour] 41)) y).heap.size := Nat.lt_of_lt_of_le xb (hY.out.lift y).size
              clear HB2 hEh2 p0 p1 p2 p3 p4 hb xb xd0 xd1 xd2 xd3 xd4 hT hY
              generalize lift (wr.alloc (.cells #[.int .i64 (nth l k).kind, .int .i64 (nth l k).score, .int .i64 (nth l k).quality, .int .i64 (nth l k).depth, .int .i64 (nth l k).hour] 41)) y = W1 at *
              have hEW : Hid (Ext W1 ((W1.alloc (.cells #[.int .i64 (j : Int), .int .i64 (k : Int)] 2)).alloc (.cells #[.slice (some ⟨W1.heap.size, 0, none⟩) 2 2] 38))) := ((Ext.refl _).alloc _).alloc _
              have hszh : Hid (((W1.alloc (.cells #[.int .i64 (j : Int), .int .i64 (k : Int)] 2)).alloc (.cells #[.slice (some ⟨W1.heap.size, 0, none⟩) 2 2] 38)).heap.size = W1.heap.size + 2) := by show _ = _; rw [size_new, size_new]
              have L3 := Lib.hid (B3.out.lst.ext hEW.out)
              have HR3 : Hid (RowsAt 1 cellV ((W1.alloc (.cells #[.int .i64 (j : Int), .int .i64 (k : Int)] 2)).alloc (.cells #[.slice (some ⟨W1.heap.size, 0, none⟩) 2 2] 38)) (some ⟨W1.heap.size + 1, 0, none⟩) [⟨some ⟨W1.heap.size, 0, none⟩, 2, 2⟩]) := by
                have h9 := rows_new (n := 1) (cell := cellV) (T := 38) (W1.alloc (.cells #[.int .i64 (j : Int), .int .i64 (k : Int)] 2)) #[.slice (some ⟨W1.heap.size, 0, none⟩) 2 2] ⟨some ⟨W1.heap.size, 0, none⟩, 2, 2⟩ (fun q hq => by have h8 : q < 1 := hq; obtain rfl : q = 0 := (by omega); rfl)
                rw [size_new] at h9
                exact h9
              have hB9 : Hid (∃ N, Blk ((W1.alloc (.cells #[.int .i64 (j : Int), .int .i64 (k : Int)] 2)).alloc (.cells #[.slice (some ⟨W1.heap.size, 0, none⟩) 2 2] 38)) W1.heap.size 2 N ∧ [(j : Int), (k : Int)].length ≤ N) := ⟨2, (Blk.new W1 #[.int .i64 (j : Int), .int .i64 (k : Int)] 2).ext ((Ext.refl _).alloc _), Nat.le_refl _⟩
              have hI9 : Hid (IntAt ((W1.alloc (.cells #[.int .i64 (j : Int), .int .i64 (k : Int)] 2)).alloc (.cells #[.slice (some ⟨W1.heap.size, 0, none⟩) 2 2] 38)) (some ⟨W1.heap.size, 0, none⟩) [(j : Int), (k : Int)]) := RowsAt.ext (conLit W1 j k) ((Ext.refl _).alloc _)
              have hvl : vs2.length ≤ 5000 := by have e1 := B3.out.len; omega
              go_wp2_with (at_builtin; refine wpList_pushAt elII oneSl rfl _ _ rfl w.heap.size _ vs2 (by rfl) L3.out _ 1 1 [⟨some ⟨W1.heap.size, 0, none⟩, 2, 2⟩] rfl (by rfl) HR3.out (by omega) (by omega) (by rw [hszh.out]; omega) ?_; intro v' w3 HL hg3 hat3)
              have B4 := Lib.hid (B3.out.push (x := [(j : Int), (k : Int)]) (cp := 2) hbw hEW.out (by rw [hszh.out]; omega) hB9.out hI9.out (Nat.le_refl _) HL hg3 hat3)
              have hblk := Lib.hid (L3.out.ge)
              have E4 : Hid (Ext w w3) := (E3.out.trans hEW.out).grown hg3 (fun q hq => hblk.out q hq)
              have xb2 : wo.heap.size < w3.heap.size := Nat.lt_of_lt_of_le xb1 (Nat.le_trans hEW.out.size hg3.size)
              have T4 : Hid (∀ q, q < 5 → w3.cell? ⟨wo.heap.size, q, none⟩ = some ((nth l j).cell q)) := fun q hq => cell_grown (hEW.out.cell (T3.out q hq)) hg3 hob.out
              have hob2 : Hid (v'.ownBlock ≠ some wo.heap.size) := by
                rcases hat3 with e | e
                · rw [e]; exact hob.out
                · rw [e, hszh.out]; intro e2; simp only [Option.some.injEq] at e2; omega
              have hP4 := Lib.hid (hP.out.push (i := j) (k := k) (by omega) hlk (by omega) (by omega))
              have hL4 : (L ++ [[(j : Int), (k : Int)]]).length ≤ 16 * j + k + 1 := by rw [List.length_append]; simp only [List.length_cons, List.length_nil]; omega
              clear HL hg3 hat3 B3 E3 T3 L3 HR3 hB9 hI9 hEW
              go_wp2_with fail
              go_roundw
              case rel => exact ⟨k + 1, _, _, _, by omega, by omega, by go_num, hL4, hP4.out, B4.out, E4.out, xb2, T4.out, hob2.out⟩
              case measure => simp [intOf]; omega
            · have hpd : decide (2 ≤ absV (classV (nth l j) - classV (nth l k))) = false := decide_eq_false hp
              go_wp2_with fail
              refine region_quiet (by kernel_rfl) (by kernel_rfl) ?_
              repeat (any_goals (first | go_big_quiet_step ((first | (exact Gives.quiet (Gives.same (absI_any _ _ (by omega) (by omega)))) | (exact Gives.quiet (Test_class _ _ (hone.out j hlt))) | (exact Gives.quiet (Test_class _ _ (hone.out k hlk))))) | quiet_step ((first | (exact Gives.quiet (Gives.same (absI_any _ _ (by omega) (by omega)))) | (exact Gives.quiet (Test_class _ _ (hone.out j hlt))) | (exact Gives.quiet (Test_class _ _ (hone.out k hlk)))))))
              refine wpQuiet_nil ?_
              intro _ hw'
              obtain ⟨y, hw''⟩ := hw'
              subst hw''
              go_wp2
              go_roundw
              case rel => exact ⟨k + 1, L, vs2, gs2, by omega, by omega, by go_num, by omega, hP.out, HB2.out.ext (hY.out.lift y), (hEh2.out.trans hY.out).lift y, Nat.lt_of_lt_of_le xb (hY.out.lift y).size, fun q hq => (hY.out.lift y).cell (hT.out q hq), hob.out⟩
              case measure => simp [intOf]; omega
          · have hqd : decide (absV ((nth l j).depth - (nth l k).depth) ≤ near) = false := decide_eq_false hq
            go_wp2_with fail
            refine region_quiet (by kernel_rfl) (by kernel_rfl) ?_
            repeat (any_goals (first | go_big_quiet_step ((first | (exact Gives.quiet (Gives.same (absI_any _ _ (by omega) (by omega)))) | (exact Gives.quiet (Test_class _ _ (hone.out j hlt))) | (exact Gives.quiet (Test_class _ _ (hone.out k hlk))))) | quiet_step ((first | (exact Gives.quiet (Gives.same (absI_any _ _ (by omega) (by omega)))) | (exact Gives.quiet (Test_class _ _ (hone.out j hlt))) | (exact Gives.quiet (Test_class _ _ (hone.out k hlk)))))))
            refine wpQuiet_nil ?_
            intro _ hw'
            obtain ⟨y, hw''⟩ := hw'
            subst hw''
            go_wp2
            go_roundw
            case rel => exact ⟨k + 1, L, vs2, gs2, by omega, by omega, by go_num, by omega, hP.out, HB2.out.ext (hY.out.lift y), (hEh2.out.trans hY.out).lift y, Nat.lt_of_lt_of_le xb (hY.out.lift y).size, fun q hq => (hY.out.lift y).cell (hT.out q hq), hob.out⟩
            case measure => simp [intOf]; omega
        · have hdk : decide (k < l.length) = false := decide_eq_false hlk
          go_wp2_with fail
          go_roundw
          case rel => exact ⟨j + 1, L, vs2, gs2, by omega, by go_num, by omega, hP.out, HB2.out, he2⟩
          case measure => simp [intOf]; omega
    · have hd0 : decide (j < l.length) = false := decide_eq_false hlt
      go_wp2_with fail
      go_ret2
      exact ⟨_, vs, gs, L, 0, rfl, HB.out, by omega, fun _ => ⟨rfl, by first | exact hT1.out | trivial⟩, hP.out, hEh.out⟩
end Go.Proofs.Ytdopffhekinbnaa
