/- The law's own helpers on changes, and how one reads. -/
import Derived.Test.YtbfgaimlkoeklaaChange
import Derived.Test.YtbfgaimlkoeklaaHelpSetting
namespace Go.Proofs.Ytbfgaimlkoeklaa
open Go.RowKit
set_option maxRecDepth 100000 in
set_option maxHeartbeats 1000000 in
theorem szChange_any (x : Change) (left : Int) (w : World) (hs : x.Sz) (h0 : 0 ≤ left) (h1 : left ≤ 1000000000000) :
    Calls Try.prog 80 #[.agg #[.int .i64 x.kind, .string x.name, .int .i64 x.value], .int .i64 left] w fun e w' => ∃ r : Int, e = .returned (.int .i64 r) ∧ Ext w w' ∧ -1 ≤ r ∧ r ≤ left ∧ (0 ≤ r → ((x.name.size : Int) ≤ left)) := by
  unfold Change.Sz at hs
  go_enter Try.func80, Try.ntmps80
  go_wp2_with fail
  refine (szSetting_any ⟨x.name, x.value⟩ left _ (show Setting.Sz ⟨x.name, x.value⟩ from hs) h0 h1).mono ?_
  rintro e w' ⟨r', rfl, ⟨y, rfl⟩, q0, q1, q2⟩
  have hq := Lib.hid q2
  clear q2
  by_cases h : r' < 0
  all_goals
    go_wp2_with fail
    go_ret
    exact ⟨_, rfl, (by repeat (first | exact Ext.refl _ | refine Ext.lift ?_ _ | refine Ext.alloc ?_ _)), by omega, by omega, fun h => hq.out (by omega)⟩
set_option maxRecDepth 100000 in
set_option maxHeartbeats 1000000 in
theorem szChangeS_any (a : Option Addr) (cap : Nat) (l : List Change) (left : Int) (w : World) (H : ChangeAt w a l) (hsz : ∀ k, k < l.length → (nth l k).Sz) (hlen : l.length ≤ 9223372036854775807) (h0 : 0 ≤ left) (h1 : left ≤ 1000000000000) :
    Calls Try.prog 32 #[.slice a l.length cap, .int .i64 left] w fun e w' => ∃ r : Int, e = .returned (.int .i64 r) ∧ Ext w w' ∧ -1 ≤ r ∧ r ≤ left ∧ (0 ≤ r → r + (l.length : Int) ≤ left ∧ ∀ k, k < l.length → (((nth l k).name.size : Int) ≤ left)) := by
  by_cases hl : left - l.length < 0
  · go_enter Try.func32, Try.ntmps32
    go_wp2_with fail
    go_ret
    exact ⟨-1, rfl, Ext.refl _, by omega, by omega, fun h => absurd h (by omega)⟩
  go_enter Try.func32, Try.ntmps32
  go_wp2_with fail
  go_loopw [1, 5] (fun lf i wr => ∃ k : Nat, k ≤ l.length ∧ i = .int .i64 k ∧ (∃ r : Int, lf = .int .i64 r ∧ 0 ≤ r ∧ r + (l.length : Int) ≤ left) ∧ Hid (∀ j, j < k → (((nth l j).name.size : Int) ≤ left)) ∧ Ext w wr) (fun _ i _ => l.length - (intOf i).toNat)
  case atStart => exact ⟨0, Nat.zero_le _, rfl, ⟨_, rfl, by omega, by omega⟩, upto_zero, Ext.refl w⟩
  case round =>
    obtain ⟨k, hk, rfl, ⟨r, rfl, r0, r1⟩, hall, he⟩ := hrel
    by_cases hlt : k < l.length
    · obtain ⟨b, off, rfl⟩ := H.base hlt
      obtain ⟨hbl, c0, c1, c2⟩ := Change.at (H.ext he) k hlt
      have hs := hsz k hlt
      clear H hsz
      go_wp2_with fail
      refine (szChange_any (nth l k) _ _ hs (by omega) (by omega)).mono ?_
      rintro e w' ⟨r', rfl, ⟨y, rfl⟩, q0, q1, q2⟩
      have hq := Lib.hid q2
      clear q2
      by_cases h : r' < 0
      · go_wp2_with fail
        go_ret
        exact ⟨-1, rfl, he.lift y, by omega, by omega, fun h => absurd h (by omega)⟩
      · go_wp2_with fail
        go_roundw
        case rel => exact ⟨k + 1, by omega, by go_num, ⟨_, rfl, by omega, by omega⟩, upto_succ hall.out (by have := hq.out (by omega); omega), he.lift y⟩
        case measure => simp [intOf]; omega
    · clear H hsz
      go_wp2_with fail
      go_ret
      exact ⟨r, rfl, he, by omega, by omega, fun _ => ⟨by omega, fun j hj => hall.out j (by omega)⟩⟩
set_option maxRecDepth 100000 in
set_option maxHeartbeats 1000000 in
theorem toChange_any (x : Change) (w : World) :
    Gives Try.prog 84 #[.agg #[.int .i64 x.kind, .string x.name, .int .i64 x.value]] w (.agg #[.int .i64 x.kind, .string x.name, .int .i64 x.value]) := by
  unfold Gives
  go_enter Try.func84, Try.ntmps84
  go_wp2_with fail
  refine (toSetting_any ⟨x.name, x.value⟩ _).mono ?_
  rintro e w' ⟨rfl, y, rfl⟩
  go_wp2_with fail
  exact bodyPost_ret (v := .agg #[.int .i64 x.kind, .string x.name, .int .i64 x.value]) (by simp [results, Try.results84, go_sem]) rfl ⟨rfl, (by repeat (first | with_reducible exact Ext.refl _ | with_reducible refine Ext.lift ?_ _ | with_reducible refine Ext.alloc ?_ _ | with_reducible refine Ext.setCell ?_ (by first | (simp; done) | (simp; omega) | omega) _ | with_reducible refine ext_setCells (by first | (simp; done) | (simp; omega) | omega) _ _ _ ?_))⟩
set_option maxRecDepth 100000 in
set_option maxHeartbeats 2000000 in
theorem toChangeS_any (a : Option Addr) (cap : Nat) (l : List Change) (w : World) (H : ChangeAt w a l) (hlen : l.length ≤ 1048576) :
    Calls Try.prog 34 #[.slice a l.length cap] w fun e w' => ∃ g, e = .returned (.slice (some ⟨g, 0, none⟩) l.length l.length) ∧ w.heap.size ≤ g ∧ g < w'.heap.size ∧ ChangeAt w' (some ⟨g, 0, none⟩) l ∧ Blk w' g 102 (l.length * 3) ∧ Ext w w' := by
  have hmk := run_make_blk (P := Try.prog) (t := 52) Try.underlying52 (by kernel_rfl : (Try.prog.info? 102).map (fun i => (i.zero.map Value.cells, i.size, i.bytes)) = some (some #[.int .i64 0, .string ⟨#[]⟩, .int .i64 0], 3, 32)) .i64 .i64 l.length (by omega) (by omega) w
  have hB := Blk.new w (madeCells #[.int .i64 0, .string ⟨#[]⟩, .int .i64 0] (l.length * 3)) 102
  rw [size_madeCells] at hB
  go_enter Try.func34, Try.ntmps34
  go_wp2_with fail
  have hE := (Ext.refl w).alloc (.cells (madeCells #[.int .i64 0, .string ⟨#[]⟩, .int .i64 0] (l.length * 3)) 102)
  clear hmk
  generalize w.alloc (.cells (madeCells #[.int .i64 0, .string ⟨#[]⟩, .int .i64 0] (l.length * 3)) 102) = W at *
  obtain ⟨g, hg⟩ : ∃ g, g = w.heap.size := ⟨_, rfl⟩
  have hg0 : w.heap.size ≤ g := by omega
  rw [← hg] at hB ⊢
  clear hg
  go_loopw [4] (fun i wr => ∃ k : Nat, k ≤ l.length ∧ i = .int .i64 k ∧ Blk wr g 102 (l.length * 3) ∧ (∀ i, i < k → ∀ j, j < 3 → wr.cell? ⟨g, i * 3 + j, none⟩ = some ((nth l i).cell j)) ∧ Ext w wr) (fun i _ => l.length - (intOf i).toNat)
  case atStart => exact ⟨0, Nat.zero_le _, rfl, hB, upto_zero, hE⟩
  case round =>
    obtain ⟨k, hk, rfl, hb, hc, he⟩ := hrel
    by_cases hlt : k < l.length
    · obtain ⟨b, off, rfl⟩ := H.base hlt
      obtain ⟨hbl, c0, c1, c2⟩ := Change.at (H.ext he) k hlt
      have hg' := hb.lt
      have f0 := hb.frozen (k * 3)
      obtain ⟨v0, o0⟩ := hb.cell (o := k * 3) (by omega)
      have f1 := hb.frozen (k * 3 + 1)
      obtain ⟨v1, o1⟩ := hb.cell (o := k * 3 + 1) (by omega)
      have f2 := hb.frozen (k * 3 + 2)
      obtain ⟨v2, o2⟩ := hb.cell (o := k * 3 + 2) (by omega)
      have HB := Lib.hid hb
      have HC := Lib.hid hc
      clear H hc hb hB hE
      go_wp2_with (go_at_call 84; refine (toChange_any (nth l k) _).mono ?_; rintro e w' ⟨rfl, y, rfl⟩)
      have hF := fill_row (c := fun i j => (nth l i).cell j) [.int .i64 (nth l k).kind, .string (nth l k).name, .int .i64 (nth l k).value] (HB.out.ext ((Ext.refl wr).lift y)) (k := k) (m := 3) (by omega) rfl
        (fun i hi j hj => ((Ext.refl wr).lift y).cell (HC.out i hi j hj)) (fun j hj => (by rcases (show j = 0 ∨ j = 1 ∨ j = 2 by omega) with rfl | rfl | rfl <;> rfl))
      go_roundw
      case rel => exact ⟨k + 1, by omega, by go_num, hF.1, hF.2, ext_setCells hg0 [.int .i64 (nth l k).kind, .string (nth l k).name, .int .i64 (nth l k).value] _ _ (he.lift y)⟩
      case measure => simp [intOf]; omega
    · obtain rfl : k = l.length := by omega
      have HR : Hid (ChangeAt wr (some ⟨g, 0, none⟩) l ∧ Blk wr g 102 (l.length * 3)) := ⟨fun i hi => ⟨g, 0, rfl, hb.lt, fun j hj => by rw [Nat.zero_add]; exact hc i hi j hj⟩, hb⟩
      clear H hc hb hB hE
      go_wp2_with fail
      go_ret
      exact ⟨g, rfl, hg0, HR.out.2.lt, HR.out.1, HR.out.2, he⟩
set_option maxRecDepth 100000 in
set_option maxHeartbeats 1000000 in
theorem eqChange_same (x : Change) (w : World) :
    Gives Try.prog 93 #[.agg #[.int .i64 x.kind, .string x.name, .int .i64 x.value], .agg #[.int .i64 x.kind, .string x.name, .int .i64 x.value]] w (.bool true) := by
  unfold Gives
  have h1 : sEq x.name x.name = true := sEq_iff.2 rfl
  go_enter Try.func93, Try.ntmps93
  go_wp2_with fail
  refine (eqSetting_same ⟨x.name, x.value⟩ _).mono ?_
  rintro e w' ⟨rfl, y, rfl⟩
  go_wp2_with fail
  go_ret
  exact ⟨rfl, (by repeat (first | exact Ext.refl _ | refine Ext.lift ?_ _ | refine Ext.alloc ?_ _))⟩
set_option maxRecDepth 100000 in
set_option maxHeartbeats 1000000 in
theorem eqChangeS_same (a : Option Addr) (cap : Nat) (a2 : Option Addr) (cap2 : Nat) (l : List Change) (w : World) (H : ChangeAt w a l) (H2 : ChangeAt w a2 l) (hlen : l.length ≤ 9223372036854775807) :
    Gives Try.prog 36 #[.slice a l.length cap, .slice a2 l.length cap2] w (.bool true) := by
  unfold Gives
  go_enter Try.func36, Try.ntmps36
  go_wp2_with fail
  go_loopw [5] (fun i wr => ∃ k : Nat, k ≤ l.length ∧ i = .int .i64 k ∧ Ext w wr) (fun i _ => l.length - (intOf i).toNat)
  case atStart => exact ⟨0, Nat.zero_le _, rfl, Ext.refl w⟩
  case round =>
    obtain ⟨k, hk, rfl, he⟩ := hrel
    by_cases hlt : k < l.length
    · obtain ⟨b, off, rfl⟩ := H.base hlt
      obtain ⟨hbl, c0, c1, c2⟩ := Change.at (H.ext he) k hlt
      obtain ⟨b2, off2, rfl⟩ := H2.base hlt
      obtain ⟨hbl2, d0, d1, d2⟩ := Change.at (H2.ext he) k hlt
      clear H H2
      go_wp2_with fail
      refine region_quiet (by kernel_rfl) (by kernel_rfl) ?_
      repeat (any_goals (first | go_big_quiet_step ((exact Gives.quiet (eqChange_same (nth l k) _))) | quiet_step ((exact Gives.quiet (eqChange_same (nth l k) _)))))
      refine wpQuiet_nil ?_
      intro _ hw'
      obtain ⟨y, hw''⟩ := hw'
      subst hw''
      go_wp2
      go_roundw
      case rel => exact ⟨k + 1, by omega, by go_num, he.lift y⟩
      case measure => simp [intOf]; omega
    · clear H H2
      go_wp2_with fail
      go_ret
      exact ⟨rfl, he⟩
/-- What a mark writes at place p. -/
def Change.markC (k : Int) (p : Nat) : Value := if p % 3 = 0 then .int .i64 (k + (p : Int)) else if p % 3 = 1 then .string (markS (k + (p : Int))) else .int .i64 (k + (p : Int))
theorem Change.markC_0 (k : Int) (p : Nat) (h : p % 3 = 0) : Change.markC k p = .int .i64 (k + (p : Int)) := by unfold Change.markC; rw [if_pos (by omega)]
theorem Change.markC_1 (k : Int) (p : Nat) (h : p % 3 = 1) : Change.markC k p = .string (markS (k + (p : Int))) := by unfold Change.markC; rw [if_neg (by omega), if_pos (by omega)]
theorem Change.markC_2 (k : Int) (p : Nat) (h : p % 3 = 2) : Change.markC k p = .int .i64 (k + (p : Int)) := by unfold Change.markC; rw [if_neg (by omega), if_neg (by omega)]
set_option maxRecDepth 100000 in
set_option maxHeartbeats 4000000 in
theorem markChangeS_any (a : Option Addr) (n cap : Nat) (k : Int) (base : Nat) (w : World) (hO : Own w base 102 3 a n) (hn : n ≤ 1000000000) (h0 : 0 ≤ k) (h1 : k ≤ 100000000000) :
    Calls Try.prog 37 #[.slice a n cap, .int .i64 k] w fun e w' => e = .returned (.int .i64 (k + n * 3)) ∧ Chg (ownA n a) w w' ∧ Own w' base 102 3 a n ∧ RowsAt 3 (fun (i : Nat) j => Change.markC k (i * 3 + j)) w' a (List.range n) := by
  rcases Nat.eq_zero_or_pos n with rfl | hpos
  · clear hO
    go_enter Try.func37, Try.ntmps37
    go_wp2_with fail
    go_loopw [1, 5] (fun kk i wr => kk = .int .i64 k ∧ i = .int .i64 0 ∧ wr = w) (fun _ _ _ => 0)
    case atStart => exact ⟨rfl, rfl, rfl⟩
    case round =>
      obtain ⟨rfl, rfl, rfl⟩ := hrel
      go_wp2_with fail
      go_ret
      exact ⟨ret_int (by simp), Chg.refl _ _, .inl rfl, RowsAt.nil⟩
  simp only [ownA_pos hpos]
  rcases hO with h | ⟨g, N, rfl, hg, hB, hN⟩
  · exact absurd h (by omega)
  go_enter Try.func37, Try.ntmps37
  go_wp2_with fail
  go_loopw [1, 5] (fun kk i wr => ∃ j : Nat, j ≤ n ∧ i = .int .i64 j ∧ kk = .int .i64 (k + j * 3) ∧ Hid (Blk wr g 102 N) ∧ Hid (∀ p, p < j * 3 → wr.cell? ⟨g, p, none⟩ = some (Change.markC k p)) ∧ Chg (some ⟨g, 0, none⟩) w wr) (fun _ i _ => n - (intOf i).toNat)
  case atStart => exact ⟨0, Nat.zero_le _, rfl, by simp, hB, fun p hp => absurd hp (by omega), Chg.refl _ _⟩
  case round =>
    obtain ⟨j, hj, rfl, rfl, HB, HC, he⟩ := hrel
    by_cases hlt : j < n
    · have hg' := HB.out.lt
      have f0 := HB.out.frozen (j * 3)
      obtain ⟨v0, o0⟩ := HB.out.cell (o := j * 3) (by omega)
      have f1 := HB.out.frozen (j * 3 + 1)
      obtain ⟨v1, o1⟩ := HB.out.cell (o := j * 3 + 1) (by omega)
      have f2 := HB.out.frozen (j * 3 + 2)
      obtain ⟨v2, o2⟩ := HB.out.cell (o := j * 3 + 2) (by omega)
      clear hB
      go_wp2_with fail
      refine (markText_any _ _ (by omega) (by omega)).mono ?_
      rintro e w' ⟨rfl, y1, rfl⟩
      go_wp2_with fail
      have F0 := fill_one (c := Change.markC k) (k := j * 3) (v := .int .i64 (k + (j : Int) * 3)) (HB.out) (by omega) (HC.out) (by rw [Change.markC_0 k _ (by omega)]; first | (congr 1; omega) | (congr 2; omega) | rfl)
      have B1 := (F0.1).ext ((Ext.refl _).lift y1)
      have C1 := fun p hp => ((Ext.refl _).lift y1).cell (F0.2 p hp)
      have F1 := fill_one (c := Change.markC k) (k := j * 3 + 1) (v := .string (markS (k + (j : Int) * 3 + 1))) (B1) (by omega) (C1) (by rw [Change.markC_1 k _ (by omega)]; first | (congr 1; omega) | (congr 2; omega) | rfl)
      have F2 := fill_one (c := Change.markC k) (k := j * 3 + 2) (v := .int .i64 (k + (j : Int) * 3 + 1 + 1)) (F1.1) (by omega) (F1.2) (by rw [Change.markC_2 k _ (by omega)]; first | (congr 1; omega) | (congr 2; omega) | rfl)
      go_roundw
      case rel => exact ⟨j + 1, by omega, by go_num, by simp only [Value.int.injEq, true_and]; omega, F2.1, fun p hp => F2.2 p (by omega), ((((he.setc _ _).lift y1).setc _ _).setc _ _)⟩
      case measure => simp [intOf]; omega
    · obtain rfl : j = n := by omega
      have hR : Hid (Own wr base 102 3 (some ⟨g, 0, none⟩) j ∧ RowsAt 3 (fun (i : Nat) q => Change.markC k (i * 3 + q)) wr (some ⟨g, 0, none⟩) (List.range j)) :=
        ⟨.inr ⟨g, N, rfl, hg, HB.out, by omega⟩, fun i hi => ⟨g, 0, rfl, HB.out.lt, fun q hq => by
          have hi' : i < j := by simpa using hi
          rw [nth_range hi', Nat.zero_add]; exact HC.out (i * 3 + q) (by omega)⟩⟩
      clear HB HC hB
      go_wp2_with fail
      go_ret
      exact ⟨rfl, he, hR.out.1, hR.out.2⟩
open Go.ChangeShapes Go.WideShapes Go.ChangeAt
open Go.ChangeMaps (open_string shut_string)
set_option maxRecDepth 100000 in
theorem Change.el {H : Type} {enc : TypeId × Value → H} {W : World} {base : Nat} {spare : Nat → Bool} {held : Bool} {n : Nat} {cs : List Value} {x : DataW H × List MemPlace} (h : DataW.trod enc Try.prog W base spare held n 98 cs = some x) :
    ∃ y : Change, (y.Sz ∧ y.Wf) ∧ ∀ j, j < 3 → cs[j]? = some (y.cell j) := by
  obtain ⟨xs, m, _, rfl, hl, hx, hf⟩ := DataW.trod_struct Try.underlying98 h
  rw [show Try.prog.cellsOf 98 = 3 by kernel_rfl] at hl
  match cs, hl with
  | [c0, c1, c2], _ =>
  match xs, hx with
  | [y0, y1], _ =>
  have kint : Try.prog.cellsOf 2 = 1 := by kernel_rfl
  have kset : Try.prog.cellsOf 90 = 2 := by kernel_rfl
  have f0 : DataW.trod enc Try.prog W base spare held m 2 (List.take (Try.prog.cellsOf 2) (List.drop 0 [c0, c1, c2])) = some y0 := hf 0 _ rfl
  simp only [kint, List.drop_zero, List.take_succ_cons, List.take_zero] at f0
  obtain ⟨v0, e0, _, z0⟩ := DataW.trod_int Try.underlying2 f0
  have f1 : DataW.trod enc Try.prog W base spare held m 90 (List.take (Try.prog.cellsOf 90) (List.drop 1 [c0, c1, c2])) = some y1 := hf 1 _ rfl
  simp only [kset, List.drop_zero, List.drop_succ_cons, List.take_succ_cons, List.take_zero] at f1
  obtain ⟨s, ⟨hz, hw⟩, hc⟩ := Setting.el f1
  simp only [List.cons.injEq, and_true] at e0
  subst e0
  have k0 := hc 0 (by decide)
  have k1 := hc 1 (by decide)
  simp only [List.getElem?_cons_zero, List.getElem?_cons_succ, Option.some.injEq] at k0 k1
  subst k0 k1
  exact ⟨⟨v0, s.name, s.value⟩, ⟨hz, ⟨(wf_bd z0), hw⟩⟩, fun j hj => by rcases (show j = 0 ∨ j = 1 ∨ j = 2 by omega) with rfl | rfl | rfl <;> rfl⟩
end Go.Proofs.Ytbfgaimlkoeklaa
