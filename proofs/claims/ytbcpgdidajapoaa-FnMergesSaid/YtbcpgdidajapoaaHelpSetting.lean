/- The law's own helpers on the type Setting, and how one reads. -/
import Derived.Test.YtbcpgdidajapoaaSetting
import Derived.Test.YtbcpgdidajapoaaMark
import Derived.Test.YtbcpgdidajapoaaLift
namespace Go.Proofs.Ytbcpgdidajapoaa
open Go.RowKit
set_option maxRecDepth 100000 in
set_option maxHeartbeats 1000000 in
theorem szSetting_any (x : Setting) (left : Int) (w : World) (hs : x.Sz) (h0 : 0 ≤ left) (h1 : left ≤ 1000000000000) :
    Calls Try.prog 80 #[.agg #[.string x.name, .int .i64 x.value], .int .i64 left] w fun e w' => ∃ r : Int, e = .returned (.int .i64 r) ∧ Ext w w' ∧ -1 ≤ r ∧ r ≤ left ∧ (0 ≤ r → ((x.name.size : Int) ≤ left)) := by
  unfold Setting.Sz at hs
  go_enter Try.func80, Try.ntmps80
  go_wp2
  all_goals
    go_ret
    exact ⟨_, rfl, (Ext.refl _).alloc _, by omega, by omega, fun h => by omega⟩
set_option maxRecDepth 100000 in
set_option maxHeartbeats 1000000 in
theorem szSettingS_any (a : Option Addr) (cap : Nat) (l : List Setting) (left : Int) (w : World) (H : SettingAt w a l) (hsz : ∀ k, k < l.length → (nth l k).Sz) (hlen : l.length ≤ 9223372036854775807) (h0 : 0 ≤ left) (h1 : left ≤ 1000000000000) :
    Calls Try.prog 51 #[.slice a l.length cap, .int .i64 left] w fun e w' => ∃ r : Int, e = .returned (.int .i64 r) ∧ Ext w w' ∧ -1 ≤ r ∧ r ≤ left ∧ (0 ≤ r → r + (l.length : Int) ≤ left ∧ ∀ k, k < l.length → (((nth l k).name.size : Int) ≤ left)) := by
  by_cases hl : left - l.length < 0
  · go_enter Try.func51, Try.ntmps51
    go_wp2_with fail
    go_ret
    exact ⟨-1, rfl, Ext.refl _, by omega, by omega, fun h => absurd h (by omega)⟩
  go_enter Try.func51, Try.ntmps51
  go_wp2_with fail
  go_loopw [1, 5] (fun lf i wr => ∃ k : Nat, k ≤ l.length ∧ i = .int .i64 k ∧ (∃ r : Int, lf = .int .i64 r ∧ 0 ≤ r ∧ r + (l.length : Int) ≤ left) ∧ Hid (∀ j, j < k → (((nth l j).name.size : Int) ≤ left)) ∧ Ext w wr) (fun _ i _ => l.length - (intOf i).toNat)
  case atStart => exact ⟨0, Nat.zero_le _, rfl, ⟨_, rfl, by omega, by omega⟩, upto_zero, Ext.refl w⟩
  case round =>
    obtain ⟨k, hk, rfl, ⟨r, rfl, r0, r1⟩, hall, he⟩ := hrel
    by_cases hlt : k < l.length
    · obtain ⟨b, off, rfl⟩ := H.base hlt
      obtain ⟨hbl, c0, c1⟩ := Setting.at (H.ext he) k hlt
      have hs := hsz k hlt
      clear H hsz
      go_wp2_with fail
      refine (szSetting_any (nth l k) _ _ hs (by omega) (by omega)).mono ?_
      rintro e w' ⟨r', rfl, ⟨y, rfl⟩, q0, q1, q2⟩
      have hq := Lib.hid q2
      clear q2
      by_cases h : r' < 0
      · go_wp2_with fail
        go_ret
        exact ⟨-1, rfl, he.lift y, by omega, by omega, fun h => absurd h (by omega)⟩
      · go_wp2_with fail
        go_roundw
        case rel => exact ⟨k + 1, by omega, by go_num, ⟨_, rfl, by omega, by omega⟩, upto_succ hall.out (by have := hq.out (by omega); omega), he.lift y⟩
        case measure => simp [intOf]; omega
    · clear H hsz
      go_wp2_with fail
      go_ret
      exact ⟨r, rfl, he, by omega, by omega, fun _ => ⟨by omega, fun j hj => hall.out j (by omega)⟩⟩
set_option maxRecDepth 100000 in
set_option maxHeartbeats 1000000 in
theorem toSetting_any (x : Setting) (w : World) :
    Gives Try.prog 81 #[.agg #[.string x.name, .int .i64 x.value]] w (.agg #[.string x.name, .int .i64 x.value]) := by
  unfold Gives
  go_enter Try.func81, Try.ntmps81
  go_wp2
  exact bodyPost_ret (v := .agg #[.string x.name, .int .i64 x.value]) (by simp [results, Try.results81, go_sem]) rfl ⟨rfl, (((Ext.refl _).alloc _).alloc _).alloc _⟩
set_option maxRecDepth 100000 in
set_option maxHeartbeats 2000000 in
theorem toSettingS_any (a : Option Addr) (cap : Nat) (l : List Setting) (w : World) (H : SettingAt w a l) (hlen : l.length ≤ 1048576) :
    Calls Try.prog 59 #[.slice a l.length cap] w fun e w' => ∃ g, e = .returned (.slice (some ⟨g, 0, none⟩) l.length l.length) ∧ w.heap.size ≤ g ∧ g < w'.heap.size ∧ SettingAt w' (some ⟨g, 0, none⟩) l ∧ Blk w' g 74 (l.length * 2) ∧ Ext w w' := by
  have hmk := run_make_blk (P := Try.prog) (t := 33) Try.underlying33 (by kernel_rfl : (Try.prog.info? 74).map (fun i => (i.zero.map Value.cells, i.size, i.bytes)) = some (some #[.string ⟨#[]⟩, .int .i64 0], 2, 24)) .i64 .i64 l.length (by omega) (by omega) w
  have hB := Blk.new w (madeCells #[.string ⟨#[]⟩, .int .i64 0] (l.length * 2)) 74
  rw [size_madeCells] at hB
  go_enter Try.func59, Try.ntmps59
  go_wp2_with fail
  have hE := (Ext.refl w).alloc (.cells (madeCells #[.string ⟨#[]⟩, .int .i64 0] (l.length * 2)) 74)
  clear hmk
  generalize w.alloc (.cells (madeCells #[.string ⟨#[]⟩, .int .i64 0] (l.length * 2)) 74) = W at *
  obtain ⟨g, hg⟩ : ∃ g, g = w.heap.size := ⟨_, rfl⟩
  have hg0 : w.heap.size ≤ g := by omega
  rw [← hg] at hB ⊢
  clear hg
  go_loopw [4] (fun i wr => ∃ k : Nat, k ≤ l.length ∧ i = .int .i64 k ∧ Blk wr g 74 (l.length * 2) ∧ (∀ i, i < k → ∀ j, j < 2 → wr.cell? ⟨g, i * 2 + j, none⟩ = some ((nth l i).cell j)) ∧ Ext w wr) (fun i _ => l.length - (intOf i).toNat)
  case atStart => exact ⟨0, Nat.zero_le _, rfl, hB, upto_zero, hE⟩
  case round =>
    obtain ⟨k, hk, rfl, hb, hc, he⟩ := hrel
    by_cases hlt : k < l.length
    · obtain ⟨b, off, rfl⟩ := H.base hlt
      obtain ⟨hbl, c0, c1⟩ := Setting.at (H.ext he) k hlt
      have hg' := hb.lt
      have f0 := hb.frozen (k * 2)
      obtain ⟨v0, o0⟩ := hb.cell (o := k * 2) (by omega)
      have f1 := hb.frozen (k * 2 + 1)
      obtain ⟨v1, o1⟩ := hb.cell (o := k * 2 + 1) (by omega)
      have HB := Lib.hid hb
      have HC := Lib.hid hc
      clear H hc hb hB hE
      go_wp2_with (go_at_call 81; refine (toSetting_any (nth l k) _).mono ?_; rintro e w' ⟨rfl, y, rfl⟩)
      have hF := fill_row (c := fun i j => (nth l i).cell j) [.string (nth l k).name, .int .i64 (nth l k).value] (HB.out.ext ((Ext.refl wr).lift y)) (k := k) (m := 2) (by omega) rfl
        (fun i hi j hj => ((Ext.refl wr).lift y).cell (HC.out i hi j hj)) (fun j hj => (by rcases (show j = 0 ∨ j = 1 by omega) with rfl | rfl <;> rfl))
      go_roundw
      case rel => exact ⟨k + 1, by omega, by go_num, hF.1, hF.2, ext_setCells hg0 [.string (nth l k).name, .int .i64 (nth l k).value] _ _ (he.lift y)⟩
      case measure => simp [intOf]; omega
    · obtain rfl : k = l.length := by omega
      have HR : Hid (SettingAt wr (some ⟨g, 0, none⟩) l ∧ Blk wr g 74 (l.length * 2)) := ⟨fun i hi => ⟨g, 0, rfl, hb.lt, fun j hj => by rw [Nat.zero_add]; exact hc i hi j hj⟩, hb⟩
      clear H hc hb hB hE
      go_wp2_with fail
      go_ret
      exact ⟨g, rfl, hg0, HR.out.2.lt, HR.out.1, HR.out.2, he⟩
set_option maxRecDepth 100000 in
set_option maxHeartbeats 1000000 in
theorem eqSetting_same (x : Setting) (w : World) :
    Gives Try.prog 86 #[.agg #[.string x.name, .int .i64 x.value], .agg #[.string x.name, .int .i64 x.value]] w (.bool true) := by
  unfold Gives
  have h0 : sEq x.name x.name = true := sEq_iff.2 rfl
  go_enter Try.func86, Try.ntmps86
  go_wp2
  go_ret
  exact ⟨rfl, ((Ext.refl _).alloc _).alloc _⟩
set_option maxRecDepth 100000 in
set_option maxHeartbeats 1000000 in
theorem eqSettingS_same (a : Option Addr) (cap : Nat) (a2 : Option Addr) (cap2 : Nat) (l : List Setting) (w : World) (H : SettingAt w a l) (H2 : SettingAt w a2 l) (hlen : l.length ≤ 9223372036854775807) :
    Gives Try.prog 67 #[.slice a l.length cap, .slice a2 l.length cap2] w (.bool true) := by
  unfold Gives
  go_enter Try.func67, Try.ntmps67
  go_wp2_with fail
  go_loopw [5] (fun i wr => ∃ k : Nat, k ≤ l.length ∧ i = .int .i64 k ∧ Ext w wr) (fun i _ => l.length - (intOf i).toNat)
  case atStart => exact ⟨0, Nat.zero_le _, rfl, Ext.refl w⟩
  case round =>
    obtain ⟨k, hk, rfl, he⟩ := hrel
    by_cases hlt : k < l.length
    · obtain ⟨b, off, rfl⟩ := H.base hlt
      obtain ⟨hbl, c0, c1⟩ := Setting.at (H.ext he) k hlt
      obtain ⟨b2, off2, rfl⟩ := H2.base hlt
      obtain ⟨hbl2, d0, d1⟩ := Setting.at (H2.ext he) k hlt
      clear H H2
      go_wp2_with fail
      refine region_quiet (by kernel_rfl) (by kernel_rfl) ?_
      repeat (any_goals (first | go_big_quiet_step ((exact Gives.quiet (eqSetting_same (nth l k) _))) | quiet_step ((exact Gives.quiet (eqSetting_same (nth l k) _)))))
      refine wpQuiet_nil ?_
      intro _ hw'
      obtain ⟨y, hw''⟩ := hw'
      subst hw''
      go_wp2
      go_roundw
      case rel => exact ⟨k + 1, by omega, by go_num, he.lift y⟩
      case measure => simp [intOf]; omega
    · clear H H2
      go_wp2_with fail
      go_ret
      exact ⟨rfl, he⟩
/-- What a mark writes at place p. -/
def Setting.markC (k : Int) (p : Nat) : Value := if p % 2 = 0 then .string (markS (k + (p : Int))) else .int .i64 (k + (p : Int))
theorem Setting.markC_0 (k : Int) (p : Nat) (h : p % 2 = 0) : Setting.markC k p = .string (markS (k + (p : Int))) := by unfold Setting.markC; rw [if_pos (by omega)]
theorem Setting.markC_1 (k : Int) (p : Nat) (h : p % 2 = 1) : Setting.markC k p = .int .i64 (k + (p : Int)) := by unfold Setting.markC; rw [if_neg (by omega)]
set_option maxRecDepth 100000 in
set_option maxHeartbeats 4000000 in
theorem markSettingS_any (a : Option Addr) (n cap : Nat) (k : Int) (base : Nat) (w : World) (hO : Own w base 74 2 a n) (hn : n ≤ 1000000000) (h0 : 0 ≤ k) (h1 : k ≤ 100000000000) :
    Calls Try.prog 39 #[.slice a n cap, .int .i64 k] w fun e w' => e = .returned (.int .i64 (k + n * 2)) ∧ Chg (ownA n a) w w' ∧ Own w' base 74 2 a n ∧ RowsAt 2 (fun (i : Nat) j => Setting.markC k (i * 2 + j)) w' a (List.range n) := by
  rcases Nat.eq_zero_or_pos n with rfl | hpos
  · clear hO
    go_enter Try.func39, Try.ntmps39
    go_wp2_with fail
    go_loopw [1, 5] (fun kk i wr => kk = .int .i64 k ∧ i = .int .i64 0 ∧ wr = w) (fun _ _ _ => 0)
    case atStart => exact ⟨rfl, rfl, rfl⟩
    case round =>
      obtain ⟨rfl, rfl, rfl⟩ := hrel
      go_wp2_with fail
      go_ret
      exact ⟨ret_int (by simp), Chg.refl _ _, .inl rfl, RowsAt.nil⟩
  simp only [ownA_pos hpos]
  rcases hO with h | ⟨g, N, rfl, hg, hB, hN⟩
  · exact absurd h (by omega)
  go_enter Try.func39, Try.ntmps39
  go_wp2_with fail
  go_loopw [1, 5] (fun kk i wr => ∃ j : Nat, j ≤ n ∧ i = .int .i64 j ∧ kk = .int .i64 (k + j * 2) ∧ Hid (Blk wr g 74 N) ∧ Hid (∀ p, p < j * 2 → wr.cell? ⟨g, p, none⟩ = some (Setting.markC k p)) ∧ Chg (some ⟨g, 0, none⟩) w wr) (fun _ i _ => n - (intOf i).toNat)
  case atStart => exact ⟨0, Nat.zero_le _, rfl, by simp, hB, fun p hp => absurd hp (by omega), Chg.refl _ _⟩
  case round =>
    obtain ⟨j, hj, rfl, rfl, HB, HC, he⟩ := hrel
    by_cases hlt : j < n
    · have hg' := HB.out.lt
      have f0 := HB.out.frozen (j * 2)
      obtain ⟨v0, o0⟩ := HB.out.cell (o := j * 2) (by omega)
      have f1 := HB.out.frozen (j * 2 + 1)
      obtain ⟨v1, o1⟩ := HB.out.cell (o := j * 2 + 1) (by omega)
      clear hB
      go_wp2_with fail
      refine (markText_any _ _ (by omega) (by omega)).mono ?_
      rintro e w' ⟨rfl, y0, rfl⟩
      go_wp2_with fail
      have B0 := (HB.out).ext ((Ext.refl _).lift y0)
      have C0 := fun p hp => ((Ext.refl _).lift y0).cell (HC.out p hp)
      have F0 := fill_one (c := Setting.markC k) (k := j * 2) (v := .string (markS (k + (j : Int) * 2))) (B0) (by omega) (C0) (by rw [Setting.markC_0 k _ (by omega)]; first | (congr 1; omega) | (congr 2; omega) | rfl)
      have F1 := fill_one (c := Setting.markC k) (k := j * 2 + 1) (v := .int .i64 (k + (j : Int) * 2 + 1)) (F0.1) (by omega) (F0.2) (by rw [Setting.markC_1 k _ (by omega)]; first | (congr 1; omega) | (congr 2; omega) | rfl)
      go_roundw
      case rel => exact ⟨j + 1, by omega, by go_num, by simp only [Value.int.injEq, true_and]; omega, F1.1, fun p hp => F1.2 p (by omega), (((he.lift y0).setc _ _).setc _ _)⟩
      case measure => simp [intOf]; omega
    · obtain rfl : j = n := by omega
      have hR : Hid (Own wr base 74 2 (some ⟨g, 0, none⟩) j ∧ RowsAt 2 (fun (i : Nat) q => Setting.markC k (i * 2 + q)) wr (some ⟨g, 0, none⟩) (List.range j)) :=
        ⟨.inr ⟨g, N, rfl, hg, HB.out, by omega⟩, fun i hi => ⟨g, 0, rfl, HB.out.lt, fun q hq => by
          have hi' : i < j := by simpa using hi
          rw [nth_range hi', Nat.zero_add]; exact HC.out (i * 2 + q) (by omega)⟩⟩
      clear HB HC hB
      go_wp2_with fail
      go_ret
      exact ⟨rfl, he, hR.out.1, hR.out.2⟩
set_option maxRecDepth 100000 in
set_option maxHeartbeats 4000000 in
theorem heldSettingS_any (a : Option Addr) (n cap : Nat) (k : Int) (w : World) (H : RowsAt 2 (fun (i : Nat) q => Setting.markC k (i * 2 + q)) w a (List.range n)) (hn : n ≤ 1000000000) (h0 : 0 ≤ k) (h1 : k ≤ 100000000000) :
    Gives Try.prog 40 #[.slice a n cap, .int .i64 k] w (.int .i64 (k + n * 2)) := by
  unfold Gives
  go_enter Try.func40, Try.ntmps40
  go_wp2_with fail
  go_loopw [1, 5] (fun kk i wr => ∃ j : Nat, j ≤ n ∧ i = .int .i64 j ∧ kk = .int .i64 (k + j * 2) ∧ Ext w wr) (fun _ i _ => n - (intOf i).toNat)
  case atStart => exact ⟨0, Nat.zero_le _, rfl, by simp, Ext.refl w⟩
  case round =>
    obtain ⟨j, hj, rfl, rfl, he⟩ := hrel
    by_cases hlt : j < n
    · obtain ⟨b, off, rfl⟩ := H.base (k := j) (by simpa using hlt)
      obtain ⟨hb, hc⟩ := (H.ext he).at j (by simpa using hlt)
      rw [nth_range hlt] at hc
      have c0 : wr.cell? ⟨b, off + j * 2, none⟩ = some (.string (markS (k + (j : Int) * 2))) := by
        have := hc 0 (by omega)
        rw [Setting.markC_0 k _ (by omega)] at this
        refine this.trans ?_; first | rfl | (congr 2; done) | (congr 2; omega) | (congr 3; omega)
      have c1 : wr.cell? ⟨b, off + j * 2 + 1, none⟩ = some (.int .i64 (k + (j : Int) * 2 + 1)) := by
        have := hc 1 (by omega)
        rw [Setting.markC_1 k _ (by omega)] at this
        refine this.trans ?_; first | rfl | (congr 2; done) | (congr 2; omega) | (congr 3; omega)
      have s0 := sEq_iff.2 (rfl : markS (k + (j : Int) * 2) = markS (k + (j : Int) * 2))
      clear H hc
      go_wp2_with fail
      refine region_quiet (by kernel_rfl) (by kernel_rfl) ?_
      repeat (any_goals (first | go_big_quiet_step ((exact Gives.quiet (markText_any _ _ (by omega) (by omega)))) | quiet_step ((exact Gives.quiet (markText_any _ _ (by omega) (by omega))))))
      refine wpQuiet_nil ?_
      intro _ hw'
      obtain ⟨y0, hw''⟩ := hw'
      subst hw''
      go_wp2_with fail
      go_roundw
      case rel => exact ⟨j + 1, by omega, by go_num, by simp only [Value.int.injEq, true_and]; omega, (he.lift y0)⟩
      case measure => simp [intOf]; omega
    · obtain rfl : j = n := by omega
      clear H
      go_wp2_with fail
      go_ret
      exact ⟨rfl, he⟩
open Go.ChangeShapes Go.WideShapes Go.ChangeAt
open Go.ChangeMaps (open_string shut_string)
set_option maxRecDepth 100000 in
theorem Setting.el {H : Type} {enc : TypeId × Value → H} {W : World} {base : Nat} {spare : Nat → Bool} {held : Bool} {n : Nat} {cs : List Value} {x : DataW H × List MemPlace} (h : DataW.trod enc Try.prog W base spare held n 105 cs = some x) :
    ∃ y : Setting, (y.Sz ∧ y.Wf) ∧ ∀ j, j < 2 → cs[j]? = some (y.cell j) := by
  obtain ⟨xs, m, _, rfl, hl, hx, hf⟩ := DataW.trod_struct Try.underlying105 h
  rw [show Try.prog.cellsOf 105 = 2 by kernel_rfl] at hl
  match cs, hl with
  | [c0, c1], _ =>
  match xs, hx with
  | [y0, y1], _ =>
  have kint : Try.prog.cellsOf 2 = 1 := by kernel_rfl
  have kstr : Try.prog.cellsOf 9 = 1 := by kernel_rfl
  have f0 : DataW.trod enc Try.prog W base spare held m 9 (List.take (Try.prog.cellsOf 9) (List.drop 0 [c0, c1])) = some y0 := hf 0 _ rfl
  simp only [kstr, List.drop_zero, List.take_succ_cons, List.take_zero] at f0
  obtain ⟨v0, e0, _, z0⟩ := DataW.trod_string Try.underlying9 f0
  have f1 : DataW.trod enc Try.prog W base spare held m 2 (List.take (Try.prog.cellsOf 2) (List.drop 1 [c0, c1])) = some y1 := hf 1 _ rfl
  simp only [kint, List.drop_zero, List.drop_succ_cons, List.take_succ_cons, List.take_zero] at f1
  obtain ⟨v1, e1, _, z1⟩ := DataW.trod_int Try.underlying2 f1
  simp only [List.cons.injEq, and_true] at e0 e1
  subst e0 e1
  exact ⟨⟨v0, v1⟩, ⟨(by have := z0; unfold maxLen at this; exact this), (wf_bd z1)⟩, fun j hj => by rcases (show j = 0 ∨ j = 1 by omega) with rfl | rfl <;> rfl⟩
set_option maxRecDepth 100000 in
theorem Setting.op {H : Type} {enc : TypeId × Value → H} {W : World} {r : Reach} {b0 base : Nat} {spare : Nat → Bool} {held : Bool} {v : Value} {d : DataW H} {p : List MemPlace} (hv : Value.okWide Try.prog W r b0 105 v) (h : DataW.Trod enc Try.prog W base spare held 105 v d p) :
    ∃ y : Setting, v = y.val ∧ y.Sz ∧ y.Wf := by
  obtain ⟨cs, rfl, hsz⟩ := okWide_struct Try.underlying105 hv
  rw [show Try.prog.cellsOf 105 = 2 by kernel_rfl] at hsz
  obtain ⟨fuel, hf⟩ := h
  obtain ⟨y, hq, hc⟩ := Setting.el hf
  exact ⟨y, by rw [agg_eq y.cell hsz hc]; rfl, hq⟩
end Go.Proofs.Ytbcpgdidajapoaa
