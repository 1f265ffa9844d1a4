/- The law's own helpers on the type Test, and how one reads. -/
import Derived.Test.YtdopffhekinbnaaTest
import Derived.Test.YtdopffhekinbnaaMark
import Derived.Test.YtdopffhekinbnaaLift
namespace Go.Proofs.Ytdopffhekinbnaa
open Go.RowKit
set_option maxRecDepth 100000 in
set_option maxHeartbeats 1000000 in
theorem szTestS_any (a : Option Addr) (cap : Nat) (l : List Test) (left : Int) (w : World) (H : TestAt w a l) (hsz : ∀ k, k < l.length → (nth l k).Sz) (hlen : l.length ≤ 9223372036854775807) (h0 : 0 ≤ left) (h1 : left ≤ 1000000000000) :
    Calls Try.prog 5 #[.slice a l.length cap, .int .i64 left] w fun e w' => ∃ r : Int, e = .returned (.int .i64 r) ∧ Ext w w' ∧ -1 ≤ r ∧ r ≤ left ∧ (0 ≤ r → r + (l.length : Int) ≤ left ∧ ∀ k, k < l.length → True) := by
  by_cases hl : left - l.length < 0
  · go_enter Try.func5, Try.ntmps5
    go_wp2_with fail
    go_ret
    exact ⟨-1, rfl, Ext.refl _, by omega, by omega, fun h => absurd h (by omega)⟩
  have _ := H
  have _ := hsz
  go_enter Try.func5, Try.ntmps5
  go_wp2_with fail
  go_ret
  exact ⟨_, rfl, Ext.refl _, by omega, by omega, fun _ => (by first | exact ⟨by omega, fun _ _ => trivial⟩ | omega)⟩
set_option maxRecDepth 100000 in
set_option maxHeartbeats 1000000 in
theorem toTest_any (x : Test) (w : World) :
    Gives Try.prog 26 #[.agg #[.int .i64 x.kind, .int .i64 x.score, .int .i64 x.quality, .int .i64 x.depth, .int .i64 x.hour]] w (.agg #[.int .i64 x.kind, .int .i64 x.score, .int .i64 x.quality, .int .i64 x.depth, .int .i64 x.hour]) := by
  unfold Gives
  go_enter Try.func26, Try.ntmps26
  go_wp2
  exact bodyPost_ret (v := .agg #[.int .i64 x.kind, .int .i64 x.score, .int .i64 x.quality, .int .i64 x.depth, .int .i64 x.hour]) (by simp [results, Try.results26, go_sem]) rfl ⟨rfl, (((Ext.refl _).alloc _).alloc _).alloc _⟩
set_option maxRecDepth 100000 in
set_option maxHeartbeats 2000000 in
theorem toTestS_any (a : Option Addr) (cap : Nat) (l : List Test) (w : World) (H : TestAt w a l) (hlen : l.length ≤ 1048576) :
    Calls Try.prog 7 #[.slice a l.length cap] w fun e w' => ∃ g, e = .returned (.slice (some ⟨g, 0, none⟩) l.length l.length) ∧ w.heap.size ≤ g ∧ g < w'.heap.size ∧ TestAt w' (some ⟨g, 0, none⟩) l ∧ Blk w' g 41 (l.length * 5) ∧ Ext w w' := by
  have hmk := run_make_blk (P := Try.prog) (t := 27) Try.underlying27 (by kernel_rfl : (Try.prog.info? 41).map (fun i => (i.zero.map Value.cells, i.size, i.bytes)) = some (some #[.int .i64 0, .int .i64 0, .int .i64 0, .int .i64 0, .int .i64 0], 5, 40)) .i64 .i64 l.length (by omega) (by omega) w
  have hB := Blk.new w (madeCells #[.int .i64 0, .int .i64 0, .int .i64 0, .int .i64 0, .int .i64 0] (l.length * 5)) 41
  rw [size_madeCells] at hB
  go_enter Try.func7, Try.ntmps7
  go_wp2_with fail
  have hE := (Ext.refl w).alloc (.cells (madeCells #[.int .i64 0, .int .i64 0, .int .i64 0, .int .i64 0, .int .i64 0] (l.length * 5)) 41)
  clear hmk
  generalize w.alloc (.cells (madeCells #[.int .i64 0, .int .i64 0, .int .i64 0, .int .i64 0, .int .i64 0] (l.length * 5)) 41) = W at *
  obtain ⟨g, hg⟩ : ∃ g, g = w.heap.size := ⟨_, rfl⟩
  have hg0 : w.heap.size ≤ g := by omega
  rw [← hg] at hB ⊢
  clear hg
  go_loopw [4] (fun i wr => ∃ k : Nat, k ≤ l.length ∧ i = .int .i64 k ∧ Blk wr g 41 (l.length * 5) ∧ (∀ i, i < k → ∀ j, j < 5 → wr.cell? ⟨g, i * 5 + j, none⟩ = some ((nth l i).cell j)) ∧ Ext w wr) (fun i _ => l.length - (intOf i).toNat)
  case atStart => exact ⟨0, Nat.zero_le _, rfl, hB, upto_zero, hE⟩
  case round =>
    obtain ⟨k, hk, rfl, hb, hc, he⟩ := hrel
    by_cases hlt : k < l.length
    · obtain ⟨b, off, rfl⟩ := H.base hlt
      obtain ⟨hbl, c0, c1, c2, c3, c4⟩ := Test.at (H.ext he) k hlt
      have hg' := hb.lt
      have f0 := hb.frozen (k * 5)
      obtain ⟨v0, o0⟩ := hb.cell (o := k * 5) (by omega)
      have f1 := hb.frozen (k * 5 + 1)
      obtain ⟨v1, o1⟩ := hb.cell (o := k * 5 + 1) (by omega)
      have f2 := hb.frozen (k * 5 + 2)
      obtain ⟨v2, o2⟩ := hb.cell (o := k * 5 + 2) (by omega)
      have f3 := hb.frozen (k * 5 + 3)
      obtain ⟨v3, o3⟩ := hb.cell (o := k * 5 + 3) (by omega)
      have f4 := hb.frozen (k * 5 + 4)
      obtain ⟨v4, o4⟩ := hb.cell (o := k * 5 + 4) (by omega)
      have HB := Lib.hid hb
      have HC := Lib.hid hc
      clear H hc hb hB hE
      go_wp2_with (go_at_call 26; refine (toTest_any (nth l k) _).mono ?_; rintro e w' ⟨rfl, y, rfl⟩)
      have hF := fill_row (c := fun i j => (nth l i).cell j) [.int .i64 (nth l k).kind, .int .i64 (nth l k).score, .int .i64 (nth l k).quality, .int .i64 (nth l k).depth, .int .i64 (nth l k).hour] (HB.out.ext ((Ext.refl wr).lift y)) (k := k) (m := 5) (by omega) rfl
        (fun i hi j hj => ((Ext.refl wr).lift y).cell (HC.out i hi j hj)) (fun j hj => (by rcases (show j = 0 ∨ j = 1 ∨ j = 2 ∨ j = 3 ∨ j = 4 by omega) with rfl | rfl | rfl | rfl | rfl <;> rfl))
      go_roundw
      case rel => exact ⟨k + 1, by omega, by go_num, hF.1, hF.2, ext_setCells hg0 [.int .i64 (nth l k).kind, .int .i64 (nth l k).score, .int .i64 (nth l k).quality, .int .i64 (nth l k).depth, .int .i64 (nth l k).hour] _ _ (he.lift y)⟩
      case measure => simp [intOf]; omega
    · obtain rfl : k = l.length := by omega
      have HR : Hid (TestAt wr (some ⟨g, 0, none⟩) l ∧ Blk wr g 41 (l.length * 5)) := ⟨fun i hi => ⟨g, 0, rfl, hb.lt, fun j hj => by rw [Nat.zero_add]; exact hc i hi j hj⟩, hb⟩
      clear H hc hb hB hE
      go_wp2_with fail
      go_ret
      exact ⟨g, rfl, hg0, HR.out.2.lt, HR.out.1, HR.out.2, he⟩
set_option maxRecDepth 100000 in
set_option maxHeartbeats 1000000 in
theorem eqTest_same (x : Test) (w : World) :
    Gives Try.prog 34 #[.agg #[.int .i64 x.kind, .int .i64 x.score, .int .i64 x.quality, .int .i64 x.depth, .int .i64 x.hour], .agg #[.int .i64 x.kind, .int .i64 x.score, .int .i64 x.quality, .int .i64 x.depth, .int .i64 x.hour]] w (.bool true) := by
  unfold Gives
  go_enter Try.func34, Try.ntmps34
  go_wp2
  go_ret
  exact ⟨rfl, ((Ext.refl _).alloc _).alloc _⟩
set_option maxRecDepth 100000 in
set_option maxHeartbeats 1000000 in
theorem eqTestS_same (a : Option Addr) (cap : Nat) (a2 : Option Addr) (cap2 : Nat) (l : List Test) (w : World) (H : TestAt w a l) (H2 : TestAt w a2 l) (hlen : l.length ≤ 9223372036854775807) :
    Gives Try.prog 10 #[.slice a l.length cap, .slice a2 l.length cap2] w (.bool true) := by
  unfold Gives
  go_enter Try.func10, Try.ntmps10
  go_wp2_with fail
  go_loopw [5] (fun i wr => ∃ k : Nat, k ≤ l.length ∧ i = .int .i64 k ∧ Ext w wr) (fun i _ => l.length - (intOf i).toNat)
  case atStart => exact ⟨0, Nat.zero_le _, rfl, Ext.refl w⟩
  case round =>
    obtain ⟨k, hk, rfl, he⟩ := hrel
    by_cases hlt : k < l.length
    · obtain ⟨b, off, rfl⟩ := H.base hlt
      obtain ⟨hbl, c0, c1, c2, c3, c4⟩ := Test.at (H.ext he) k hlt
      obtain ⟨b2, off2, rfl⟩ := H2.base hlt
      obtain ⟨hbl2, d0, d1, d2, d3, d4⟩ := Test.at (H2.ext he) k hlt
      clear H H2
      go_wp2_with fail
      refine region_quiet (by kernel_rfl) (by kernel_rfl) ?_
      repeat (any_goals (first | go_big_quiet_step ((exact Gives.quiet (eqTest_same (nth l k) _))) | quiet_step ((exact Gives.quiet (eqTest_same (nth l k) _)))))
      refine wpQuiet_nil ?_
      intro _ hw'
      obtain ⟨y, hw''⟩ := hw'
      subst hw''
      go_wp2
      go_roundw
      case rel => exact ⟨k + 1, by omega, by go_num, he.lift y⟩
      case measure => simp [intOf]; omega
    · clear H H2
      go_wp2_with fail
      go_ret
      exact ⟨rfl, he⟩
/-- What a mark writes at place p. -/
def Test.markC (k : Int) (p : Nat) : Value := if p % 5 = 0 then .int .i64 (k + (p : Int)) else if p % 5 = 1 then .int .i64 (k + (p : Int)) else if p % 5 = 2 then .int .i64 (k + (p : Int)) else if p % 5 = 3 then .int .i64 (k + (p : Int)) else .int .i64 (k + (p : Int))
theorem Test.markC_0 (k : Int) (p : Nat) (h : p % 5 = 0) : Test.markC k p = .int .i64 (k + (p : Int)) := by unfold Test.markC; rw [if_pos (by omega)]
theorem Test.markC_1 (k : Int) (p : Nat) (h : p % 5 = 1) : Test.markC k p = .int .i64 (k + (p : Int)) := by unfold Test.markC; rw [if_neg (by omega), if_pos (by omega)]
theorem Test.markC_2 (k : Int) (p : Nat) (h : p % 5 = 2) : Test.markC k p = .int .i64 (k + (p : Int)) := by unfold Test.markC; rw [if_neg (by omega), if_neg (by omega), if_pos (by omega)]
theorem Test.markC_3 (k : Int) (p : Nat) (h : p % 5 = 3) : Test.markC k p = .int .i64 (k + (p : Int)) := by unfold Test.markC; rw [if_neg (by omega), if_neg (by omega), if_neg (by omega), if_pos (by omega)]
theorem Test.markC_4 (k : Int) (p : Nat) (h : p % 5 = 4) : Test.markC k p = .int .i64 (k + (p : Int)) := by unfold Test.markC; rw [if_neg (by omega), if_neg (by omega), if_neg (by omega), if_neg (by omega)]
set_option maxRecDepth 100000 in
set_option maxHeartbeats 4000000 in
theorem markTestS_any (a : Option Addr) (n cap : Nat) (k : Int) (base : Nat) (w : World) (hO : Own w base 41 5 a n) (hn : n ≤ 1000000000) (h0 : 0 ≤ k) (h1 : k ≤ 100000000000) :
    Calls Try.prog 11 #[.slice a n cap, .int .i64 k] w fun e w' => e = .returned (.int .i64 (k + n * 5)) ∧ Chg (ownA n a) w w' ∧ Own w' base 41 5 a n ∧ RowsAt 5 (fun (i : Nat) j => Test.markC k (i * 5 + j)) w' a (List.range n) := by
  rcases Nat.eq_zero_or_pos n with rfl | hpos
  · clear hO
    go_enter Try.func11, Try.ntmps11
    go_wp2_with fail
    go_loopw [1, 5] (fun kk i wr => kk = .int .i64 k ∧ i = .int .i64 0 ∧ wr = w) (fun _ _ _ => 0)
    case atStart => exact ⟨rfl, rfl, rfl⟩
    case round =>
      obtain ⟨rfl, rfl, rfl⟩ := hrel
      go_wp2_with fail
      go_ret
      exact ⟨ret_int (by simp), Chg.refl _ _, .inl rfl, RowsAt.nil⟩
  simp only [ownA_pos hpos]
  rcases hO with h | ⟨g, N, rfl, hg, hB, hN⟩
  · exact absurd h (by omega)
  go_enter Try.func11, Try.ntmps11
  go_wp2_with fail
  go_loopw [1, 5] (fun kk i wr => ∃ j : Nat, j ≤ n ∧ i = .int .i64 j ∧ kk = .int .i64 (k + j * 5) ∧ Hid (Blk wr g 41 N) ∧ Hid (∀ p, p < j * 5 → wr.cell? ⟨g, p, none⟩ = some (Test.markC k p)) ∧ Chg (some ⟨g, 0, none⟩) w wr) (fun _ i _ => n - (intOf i).toNat)
  case atStart => exact ⟨0, Nat.zero_le _, rfl, by simp, hB, fun p hp => absurd hp (by omega), Chg.refl _ _⟩
  case round =>
    obtain ⟨j, hj, rfl, rfl, HB, HC, he⟩ := hrel
    by_cases hlt : j < n
    · have hg' := HB.out.lt
      have f0 := HB.out.frozen (j * 5)
      obtain ⟨v0, o0⟩ := HB.out.cell (o := j * 5) (by omega)
      have f1 := HB.out.frozen (j * 5 + 1)
      obtain ⟨v1, o1⟩ := HB.out.cell (o := j * 5 + 1) (by omega)
      have f2 := HB.out.frozen (j * 5 + 2)
      obtain ⟨v2, o2⟩ := HB.out.cell (o := j * 5 + 2) (by omega)
      have f3 := HB.out.frozen (j * 5 + 3)
      obtain ⟨v3, o3⟩ := HB.out.cell (o := j * 5 + 3) (by omega)
      have f4 := HB.out.frozen (j * 5 + 4)
      obtain ⟨v4, o4⟩ := HB.out.cell (o := j * 5 + 4) (by omega)
      clear hB
      go_wp2_with fail
      have F0 := fill_one (c := Test.markC k) (k := j * 5) (v := .int .i64 (k + (j : Int) * 5)) (HB.out) (by omega) (HC.out) (by rw [Test.markC_0 k _ (by omega)]; first | (congr 1; omega) | (congr 2; omega) | rfl)
      have F1 := fill_one (c := Test.markC k) (k := j * 5 + 1) (v := .int .i64 (k + (j : Int) * 5 + 1)) (F0.1) (by omega) (F0.2) (by rw [Test.markC_1 k _ (by omega)]; first | (congr 1; omega) | (congr 2; omega) | rfl)
      have F2 := fill_one (c := Test.markC k) (k := j * 5 + 2) (v := .int .i64 (k + (j : Int) * 5 + 1 + 1)) (F1.1) (by omega) (F1.2) (by rw [Test.markC_2 k _ (by omega)]; first | (congr 1; omega) | (congr 2; omega) | rfl)
      have F3 := fill_one (c := Test.markC k) (k := j * 5 + 3) (v := .int .i64 (k + (j : Int) * 5 + 1 + 1 + 1)) (F2.1) (by omega) (F2.2) (by rw [Test.markC_3 k _ (by omega)]; first | (congr 1; omega) | (congr 2; omega) | rfl)
      have F4 := fill_one (c := Test.markC k) (k := j * 5 + 4) (v := .int .i64 (k + (j : Int) * 5 + 1 + 1 + 1 + 1)) (F3.1) (by omega) (F3.2) (by rw [Test.markC_4 k _ (by omega)]; first | (congr 1; omega) | (congr 2; omega) | rfl)
      go_roundw
      case rel => exact ⟨j + 1, by omega, by go_num, by simp only [Value.int.injEq, true_and]; omega, F4.1, fun p hp => F4.2 p (by omega), (((((he.setc _ _).setc _ _).setc _ _).setc _ _).setc _ _)⟩
      case measure => simp [intOf]; omega
    · obtain rfl : j = n := by omega
      have hR : Hid (Own wr base 41 5 (some ⟨g, 0, none⟩) j ∧ RowsAt 5 (fun (i : Nat) q => Test.markC k (i * 5 + q)) wr (some ⟨g, 0, none⟩) (List.range j)) :=
        ⟨.inr ⟨g, N, rfl, hg, HB.out, by omega⟩, fun i hi => ⟨g, 0, rfl, HB.out.lt, fun q hq => by
          have hi' : i < j := by simpa using hi
          rw [nth_range hi', Nat.zero_add]; exact HC.out (i * 5 + q) (by omega)⟩⟩
      clear HB HC hB
      go_wp2_with fail
      go_ret
      exact ⟨rfl, he, hR.out.1, hR.out.2⟩
open Go.ChangeShapes Go.WideShapes Go.ChangeAt
open Go.ChangeMaps (open_string shut_string)
set_option maxRecDepth 100000 in
theorem Test.el {H : Type} {enc : TypeId × Value → H} {W : World} {base : Nat} {spare : Nat → Bool} {held : Bool} {n : Nat} {cs : List Value} {x : DataW H × List MemPlace} (h : DataW.trod enc Try.prog W base spare held n 53 cs = some x) :
    ∃ y : Test, (y.Sz ∧ y.Wf) ∧ ∀ j, j < 5 → cs[j]? = some (y.cell j) := by
  obtain ⟨xs, m, _, rfl, hl, hx, hf⟩ := DataW.trod_struct Try.underlying53 h
  rw [show Try.prog.cellsOf 53 = 5 by kernel_rfl] at hl
  match cs, hl with
  | [c0, c1, c2, c3, c4], _ =>
  match xs, hx with
  | [y0, y1, y2, y3, y4], _ =>
  have kint : Try.prog.cellsOf 2 = 1 := by kernel_rfl
  have f0 : DataW.trod enc Try.prog W base spare held m 2 (List.take (Try.prog.cellsOf 2) (List.drop 0 [c0, c1, c2, c3, c4])) = some y0 := hf 0 _ rfl
  simp only [kint, List.drop_zero, List.take_succ_cons, List.take_zero] at f0
  obtain ⟨v0, e0, _, z0⟩ := DataW.trod_int Try.underlying2 f0
  have f1 : DataW.trod enc Try.prog W base spare held m 2 (List.take (Try.prog.cellsOf 2) (List.drop 1 [c0, c1, c2, c3, c4])) = some y1 := hf 1 _ rfl
  simp only [kint, List.drop_zero, List.drop_succ_cons, List.take_succ_cons, List.take_zero] at f1
  obtain ⟨v1, e1, _, z1⟩ := DataW.trod_int Try.underlying2 f1
  have f2 : DataW.trod enc Try.prog W base spare held m 2 (List.take (Try.prog.cellsOf 2) (List.drop 2 [c0, c1, c2, c3, c4])) = some y2 := hf 2 _ rfl
  simp only [kint, List.drop_zero, List.drop_succ_cons, List.take_succ_cons, List.take_zero] at f2
  obtain ⟨v2, e2, _, z2⟩ := DataW.trod_int Try.underlying2 f2
  have f3 : DataW.trod enc Try.prog W base spare held m 2 (List.take (Try.prog.cellsOf 2) (List.drop 3 [c0, c1, c2, c3, c4])) = some y3 := hf 3 _ rfl
  simp only [kint, List.drop_zero, List.drop_succ_cons, List.take_succ_cons, List.take_zero] at f3
  obtain ⟨v3, e3, _, z3⟩ := DataW.trod_int Try.underlying2 f3
  have f4 : DataW.trod enc Try.prog W base spare held m 2 (List.take (Try.prog.cellsOf 2) (List.drop 4 [c0, c1, c2, c3, c4])) = some y4 := hf 4 _ rfl
  simp only [kint, List.drop_zero, List.drop_succ_cons, List.take_succ_cons, List.take_zero] at f4
  obtain ⟨v4, e4, _, z4⟩ := DataW.trod_int Try.underlying2 f4
  simp only [List.cons.injEq, and_true] at e0 e1 e2 e3 e4
  subst e0 e1 e2 e3 e4
  exact ⟨⟨v0, v1, v2, v3, v4⟩, ⟨trivial, ⟨(wf_bd z0), (wf_bd z1), (wf_bd z2), (wf_bd z3), (wf_bd z4)⟩⟩, fun j hj => by rcases (show j = 0 ∨ j = 1 ∨ j = 2 ∨ j = 3 ∨ j = 4 by omega) with rfl | rfl | rfl | rfl | rfl <;> rfl⟩
set_option maxRecDepth 100000 in
theorem Test.op {H : Type} {enc : TypeId × Value → H} {W : World} {r : Reach} {b0 base : Nat} {spare : Nat → Bool} {held : Bool} {v : Value} {d : DataW H} {p : List MemPlace} (hv : Value.okWide Try.prog W r b0 53 v) (h : DataW.Trod enc Try.prog W base spare held 53 v d p) :
    ∃ y : Test, v = y.val ∧ y.Sz ∧ y.Wf := by
  obtain ⟨cs, rfl, hsz⟩ := okWide_struct Try.underlying53 hv
  rw [show Try.prog.cellsOf 53 = 5 by kernel_rfl] at hsz
  obtain ⟨fuel, hf⟩ := h
  obtain ⟨y, hq, hc⟩ := Test.el hf
  exact ⟨y, by rw [agg_eq y.cell hsz hc]; rfl, hq⟩
end Go.Proofs.Ytdopffhekinbnaa
