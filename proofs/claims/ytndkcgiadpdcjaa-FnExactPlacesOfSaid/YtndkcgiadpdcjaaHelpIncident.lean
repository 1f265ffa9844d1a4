/- The law's own helpers on the type Incident, and how one reads. -/
import Derived.Test.YtndkcgiadpdcjaaIncident
import Derived.Test.YtndkcgiadpdcjaaMark
import Derived.Test.YtndkcgiadpdcjaaLift
namespace Go.Proofs.Ytndkcgiadpdcjaa
open Go.RowKit
set_option maxRecDepth 100000 in
set_option maxHeartbeats 1000000 in
theorem szIncident_any (x : Incident) (left : Int) (w : World) (hs : x.Sz) (h0 : 0 ≤ left) (h1 : left ≤ 1000000000000) :
    Calls Try.prog 28 #[.agg #[.int .i64 x.day, .string x.place, .string x.cause, .int .i64 x.level, .int .i64 x.caught, .int .i64 x.buried], .int .i64 left] w fun e w' => ∃ r : Int, e = .returned (.int .i64 r) ∧ Ext w w' ∧ -1 ≤ r ∧ r ≤ left ∧ (0 ≤ r → ((x.place.size : Int) ≤ left) ∧ ((x.cause.size : Int) ≤ left)) := by
  unfold Incident.Sz at hs
  go_enter Try.func28, Try.ntmps28
  go_wp2
  all_goals
    go_ret
    exact ⟨_, rfl, (Ext.refl _).alloc _, by omega, by omega, fun h => by omega⟩
set_option maxRecDepth 100000 in
set_option maxHeartbeats 1000000 in
theorem szIncidentS_any (a : Option Addr) (cap : Nat) (l : List Incident) (left : Int) (w : World) (H : IncidentAt w a l) (hsz : ∀ k, k < l.length → (nth l k).Sz) (hlen : l.length ≤ 9223372036854775807) (h0 : 0 ≤ left) (h1 : left ≤ 1000000000000) :
    Calls Try.prog 6 #[.slice a l.length cap, .int .i64 left] w fun e w' => ∃ r : Int, e = .returned (.int .i64 r) ∧ Ext w w' ∧ -1 ≤ r ∧ r ≤ left ∧ (0 ≤ r → r + (l.length : Int) ≤ left ∧ ∀ k, k < l.length → (((nth l k).place.size : Int) ≤ left) ∧ (((nth l k).cause.size : Int) ≤ left)) := by
  by_cases hl : left - l.length < 0
  · go_enter Try.func6, Try.ntmps6
    go_wp2_with fail
    go_ret
    exact ⟨-1, rfl, Ext.refl _, by omega, by omega, fun h => absurd h (by omega)⟩
  go_enter Try.func6, Try.ntmps6
  go_wp2_with fail
  go_loopw [1, 5] (fun lf i wr => ∃ k : Nat, k ≤ l.length ∧ i = .int .i64 k ∧ (∃ r : Int, lf = .int .i64 r ∧ 0 ≤ r ∧ r + (l.length : Int) ≤ left) ∧ Hid (∀ j, j < k → (((nth l j).place.size : Int) ≤ left) ∧ (((nth l j).cause.size : Int) ≤ left)) ∧ Ext w wr) (fun _ i _ => l.length - (intOf i).toNat)
  case atStart => exact ⟨0, Nat.zero_le _, rfl, ⟨_, rfl, by omega, by omega⟩, upto_zero, Ext.refl w⟩
  case round =>
    obtain ⟨k, hk, rfl, ⟨r, rfl, r0, r1⟩, hall, he⟩ := hrel
    by_cases hlt : k < l.length
    · obtain ⟨b, off, rfl⟩ := H.base hlt
      obtain ⟨hbl, c0, c1, c2, c3, c4, c5⟩ := Incident.at (H.ext he) k hlt
      have hs := hsz k hlt
      clear H hsz
      go_wp2_with fail
      refine (szIncident_any (nth l k) _ _ hs (by omega) (by omega)).mono ?_
      rintro e w' ⟨r', rfl, ⟨y, rfl⟩, q0, q1, q2⟩
      have hq := Lib.hid q2
      clear q2
      by_cases h : r' < 0
      · go_wp2_with fail
        go_ret
        exact ⟨-1, rfl, he.lift y, by omega, by omega, fun h => absurd h (by omega)⟩
      · go_wp2_with fail
        go_roundw
        case rel => exact ⟨k + 1, by omega, by go_num, ⟨_, rfl, by omega, by omega⟩, upto_succ hall.out (by have := hq.out (by omega); omega), he.lift y⟩
        case measure => simp [intOf]; omega
    · clear H hsz
      go_wp2_with fail
      go_ret
      exact ⟨r, rfl, he, by omega, by omega, fun _ => ⟨by omega, fun j hj => hall.out j (by omega)⟩⟩
set_option maxRecDepth 100000 in
set_option maxHeartbeats 1000000 in
theorem toIncident_any (x : Incident) (w : World) :
    Gives Try.prog 31 #[.agg #[.int .i64 x.day, .string x.place, .string x.cause, .int .i64 x.level, .int .i64 x.caught, .int .i64 x.buried]] w (.agg #[.int .i64 x.day, .string x.place, .string x.cause, .int .i64 x.level, .int .i64 x.caught, .int .i64 x.buried]) := by
  unfold Gives
  go_enter Try.func31, Try.ntmps31
  go_wp2
  exact bodyPost_ret (v := .agg #[.int .i64 x.day, .string x.place, .string x.cause, .int .i64 x.level, .int .i64 x.caught, .int .i64 x.buried]) (by simp [results, Try.results31, go_sem]) rfl ⟨rfl, (((Ext.refl _).alloc _).alloc _).alloc _⟩
set_option maxRecDepth 100000 in
set_option maxHeartbeats 2000000 in
theorem toIncidentS_any (a : Option Addr) (cap : Nat) (l : List Incident) (w : World) (H : IncidentAt w a l) (hlen : l.length ≤ 1048576) :
    Calls Try.prog 8 #[.slice a l.length cap] w fun e w' => ∃ g, e = .returned (.slice (some ⟨g, 0, none⟩) l.length l.length) ∧ w.heap.size ≤ g ∧ g < w'.heap.size ∧ IncidentAt w' (some ⟨g, 0, none⟩) l ∧ Blk w' g 44 (l.length * 6) ∧ Ext w w' := by
  have hmk := run_make_blk (P := Try.prog) (t := 28) Try.underlying28 (by kernel_rfl : (Try.prog.info? 44).map (fun i => (i.zero.map Value.cells, i.size, i.bytes)) = some (some #[.int .i64 0, .string ⟨#[]⟩, .string ⟨#[]⟩, .int .i64 0, .int .i64 0, .int .i64 0], 6, 64)) .i64 .i64 l.length (by omega) (by omega) w
  have hB := Blk.new w (madeCells #[.int .i64 0, .string ⟨#[]⟩, .string ⟨#[]⟩, .int .i64 0, .int .i64 0, .int .i64 0] (l.length * 6)) 44
  rw [size_madeCells] at hB
  go_enter Try.func8, Try.ntmps8
  go_wp2_with fail
  have hE := (Ext.refl w).alloc (.cells (madeCells #[.int .i64 0, .string ⟨#[]⟩, .string ⟨#[]⟩, .int .i64 0, .int .i64 0, .int .i64 0] (l.length * 6)) 44)
  clear hmk
  generalize w.alloc (.cells (madeCells #[.int .i64 0, .string ⟨#[]⟩, .string ⟨#[]⟩, .int .i64 0, .int .i64 0, .int .i64 0] (l.length * 6)) 44) = W at *
  obtain ⟨g, hg⟩ : ∃ g, g = w.heap.size := ⟨_, rfl⟩
  have hg0 : w.heap.size ≤ g := by omega
  rw [← hg] at hB ⊢
  clear hg
  go_loopw [4] (fun i wr => ∃ k : Nat, k ≤ l.length ∧ i = .int .i64 k ∧ Blk wr g 44 (l.length * 6) ∧ (∀ i, i < k → ∀ j, j < 6 → wr.cell? ⟨g, i * 6 + j, none⟩ = some ((nth l i).cell j)) ∧ Ext w wr) (fun i _ => l.length - (intOf i).toNat)
  case atStart => exact ⟨0, Nat.zero_le _, rfl, hB, upto_zero, hE⟩
  case round =>
    obtain ⟨k, hk, rfl, hb, hc, he⟩ := hrel
    by_cases hlt : k < l.length
    · obtain ⟨b, off, rfl⟩ := H.base hlt
      obtain ⟨hbl, c0, c1, c2, c3, c4, c5⟩ := Incident.at (H.ext he) k hlt
      have hg' := hb.lt
      have f0 := hb.frozen (k * 6)
      obtain ⟨v0, o0⟩ := hb.cell (o := k * 6) (by omega)
      have f1 := hb.frozen (k * 6 + 1)
      obtain ⟨v1, o1⟩ := hb.cell (o := k * 6 + 1) (by omega)
      have f2 := hb.frozen (k * 6 + 2)
      obtain ⟨v2, o2⟩ := hb.cell (o := k * 6 + 2) (by omega)
      have f3 := hb.frozen (k * 6 + 3)
      obtain ⟨v3, o3⟩ := hb.cell (o := k * 6 + 3) (by omega)
      have f4 := hb.frozen (k * 6 + 4)
      obtain ⟨v4, o4⟩ := hb.cell (o := k * 6 + 4) (by omega)
      have f5 := hb.frozen (k * 6 + 5)
      obtain ⟨v5, o5⟩ := hb.cell (o := k * 6 + 5) (by omega)
      have HB := Lib.hid hb
      have HC := Lib.hid hc
      clear H hc hb hB hE
      go_wp2_with (go_at_call 31; refine (toIncident_any (nth l k) _).mono ?_; rintro e w' ⟨rfl, y, rfl⟩)
      have hF := fill_row (c := fun i j => (nth l i).cell j) [.int .i64 (nth l k).day, .string (nth l k).place, .string (nth l k).cause, .int .i64 (nth l k).level, .int .i64 (nth l k).caught, .int .i64 (nth l k).buried] (HB.out.ext ((Ext.refl wr).lift y)) (k := k) (m := 6) (by omega) rfl
        (fun i hi j hj => ((Ext.refl wr).lift y).cell (HC.out i hi j hj)) (fun j hj => (by rcases (show j = 0 ∨ j = 1 ∨ j = 2 ∨ j = 3 ∨ j = 4 ∨ j = 5 by omega) with rfl | rfl | rfl | rfl | rfl | rfl <;> rfl))
      go_roundw
      case rel => exact ⟨k + 1, by omega, by go_num, hF.1, hF.2, ext_setCells hg0 [.int .i64 (nth l k).day, .string (nth l k).place, .string (nth l k).cause, .int .i64 (nth l k).level, .int .i64 (nth l k).caught, .int .i64 (nth l k).buried] _ _ (he.lift y)⟩
      case measure => simp [intOf]; omega
    · obtain rfl : k = l.length := by omega
      have HR : Hid (IncidentAt wr (some ⟨g, 0, none⟩) l ∧ Blk wr g 44 (l.length * 6)) := ⟨fun i hi => ⟨g, 0, rfl, hb.lt, fun j hj => by rw [Nat.zero_add]; exact hc i hi j hj⟩, hb⟩
      clear H hc hb hB hE
      go_wp2_with fail
      go_ret
      exact ⟨g, rfl, hg0, HR.out.2.lt, HR.out.1, HR.out.2, he⟩
set_option maxRecDepth 100000 in
set_option maxHeartbeats 1000000 in
theorem eqIncident_same (x : Incident) (w : World) :
    Gives Try.prog 34 #[.agg #[.int .i64 x.day, .string x.place, .string x.cause, .int .i64 x.level, .int .i64 x.caught, .int .i64 x.buried], .agg #[.int .i64 x.day, .string x.place, .string x.cause, .int .i64 x.level, .int .i64 x.caught, .int .i64 x.buried]] w (.bool true) := by
  unfold Gives
  have h1 : sEq x.place x.place = true := sEq_iff.2 rfl
  have h2 : sEq x.cause x.cause = true := sEq_iff.2 rfl
  go_enter Try.func34, Try.ntmps34
  go_wp2
  go_ret
  exact ⟨rfl, ((Ext.refl _).alloc _).alloc _⟩
set_option maxRecDepth 100000 in
set_option maxHeartbeats 1000000 in
theorem eqIncidentS_same (a : Option Addr) (cap : Nat) (a2 : Option Addr) (cap2 : Nat) (l : List Incident) (w : World) (H : IncidentAt w a l) (H2 : IncidentAt w a2 l) (hlen : l.length ≤ 9223372036854775807) :
    Gives Try.prog 12 #[.slice a l.length cap, .slice a2 l.length cap2] w (.bool true) := by
  unfold Gives
  go_enter Try.func12, Try.ntmps12
  go_wp2_with fail
  go_loopw [5] (fun i wr => ∃ k : Nat, k ≤ l.length ∧ i = .int .i64 k ∧ Ext w wr) (fun i _ => l.length - (intOf i).toNat)
  case atStart => exact ⟨0, Nat.zero_le _, rfl, Ext.refl w⟩
  case round =>
    obtain ⟨k, hk, rfl, he⟩ := hrel
    by_cases hlt : k < l.length
    · obtain ⟨b, off, rfl⟩ := H.base hlt
      obtain ⟨hbl, c0, c1, c2, c3, c4, c5⟩ := Incident.at (H.ext he) k hlt
      obtain ⟨b2, off2, rfl⟩ := H2.base hlt
      obtain ⟨hbl2, d0, d1, d2, d3, d4, d5⟩ := Incident.at (H2.ext he) k hlt
      clear H H2
      go_wp2_with fail
      refine region_quiet (by kernel_rfl) (by kernel_rfl) ?_
      repeat (any_goals (first | go_big_quiet_step ((exact Gives.quiet (eqIncident_same (nth l k) _))) | quiet_step ((exact Gives.quiet (eqIncident_same (nth l k) _)))))
      refine wpQuiet_nil ?_
      intro _ hw'
      obtain ⟨y, hw''⟩ := hw'
      subst hw''
      go_wp2
      go_roundw
      case rel => exact ⟨k + 1, by omega, by go_num, he.lift y⟩
      case measure => simp [intOf]; omega
    · clear H H2
      go_wp2_with fail
      go_ret
      exact ⟨rfl, he⟩
/-- What a mark writes at place p. -/
def Incident.markC (k : Int) (p : Nat) : Value := if p % 6 = 0 then .int .i64 (k + (p : Int)) else if p % 6 = 1 then .string (markS (k + (p : Int))) else if p % 6 = 2 then .string (markS (k + (p : Int))) else if p % 6 = 3 then .int .i64 (k + (p : Int)) else if p % 6 = 4 then .int .i64 (k + (p : Int)) else .int .i64 (k + (p : Int))
theorem Incident.markC_0 (k : Int) (p : Nat) (h : p % 6 = 0) : Incident.markC k p = .int .i64 (k + (p : Int)) := by unfold Incident.markC; rw [if_pos (by omega)]
theorem Incident.markC_1 (k : Int) (p : Nat) (h : p % 6 = 1) : Incident.markC k p = .string (markS (k + (p : Int))) := by unfold Incident.markC; rw [if_neg (by omega), if_pos (by omega)]
theorem Incident.markC_2 (k : Int) (p : Nat) (h : p % 6 = 2) : Incident.markC k p = .string (markS (k + (p : Int))) := by unfold Incident.markC; rw [if_neg (by omega), if_neg (by omega), if_pos (by omega)]
theorem Incident.markC_3 (k : Int) (p : Nat) (h : p % 6 = 3) : Incident.markC k p = .int .i64 (k + (p : Int)) := by unfold Incident.markC; rw [if_neg (by omega), if_neg (by omega), if_neg (by omega), if_pos (by omega)]
theorem Incident.markC_4 (k : Int) (p : Nat) (h : p % 6 = 4) : Incident.markC k p = .int .i64 (k + (p : Int)) := by unfold Incident.markC; rw [if_neg (by omega), if_neg (by omega), if_neg (by omega), if_neg (by omega), if_pos (by omega)]
theorem Incident.markC_5 (k : Int) (p : Nat) (h : p % 6 = 5) : Incident.markC k p = .int .i64 (k + (p : Int)) := by unfold Incident.markC; rw [if_neg (by omega), if_neg (by omega), if_neg (by omega), if_neg (by omega), if_neg (by omega)]
set_option maxRecDepth 100000 in
set_option maxHeartbeats 4000000 in
theorem markIncidentS_any (a : Option Addr) (n cap : Nat) (k : Int) (base : Nat) (w : World) (hO : Own w base 44 6 a n) (hn : n ≤ 1000000000) (h0 : 0 ≤ k) (h1 : k ≤ 100000000000) :
    Calls Try.prog 13 #[.slice a n cap, .int .i64 k] w fun e w' => e = .returned (.int .i64 (k + n * 6)) ∧ Chg (ownA n a) w w' ∧ Own w' base 44 6 a n ∧ RowsAt 6 (fun (i : Nat) j => Incident.markC k (i * 6 + j)) w' a (List.range n) := by
  rcases Nat.eq_zero_or_pos n with rfl | hpos
  · clear hO
    go_enter Try.func13, Try.ntmps13
    go_wp2_with fail
    go_loopw [1, 5] (fun kk i wr => kk = .int .i64 k ∧ i = .int .i64 0 ∧ wr = w) (fun _ _ _ => 0)
    case atStart => exact ⟨rfl, rfl, rfl⟩
    case round =>
      obtain ⟨rfl, rfl, rfl⟩ := hrel
      go_wp2_with fail
      go_ret
      exact ⟨ret_int (by simp), Chg.refl _ _, .inl rfl, RowsAt.nil⟩
  simp only [ownA_pos hpos]
  rcases hO with h | ⟨g, N, rfl, hg, hB, hN⟩
  · exact absurd h (by omega)
  go_enter Try.func13, Try.ntmps13
  go_wp2_with fail
  go_loopw [1, 5] (fun kk i wr => ∃ j : Nat, j ≤ n ∧ i = .int .i64 j ∧ kk = .int .i64 (k + j * 6) ∧ Hid (Blk wr g 44 N) ∧ Hid (∀ p, p < j * 6 → wr.cell? ⟨g, p, none⟩ = some (Incident.markC k p)) ∧ Chg (some ⟨g, 0, none⟩) w wr) (fun _ i _ => n - (intOf i).toNat)
  case atStart => exact ⟨0, Nat.zero_le _, rfl, by simp, hB, fun p hp => absurd hp (by omega), Chg.refl _ _⟩
  case round =>
    obtain ⟨j, hj, rfl, rfl, HB, HC, he⟩ := hrel
    by_cases hlt : j < n
    · have hg' := HB.out.lt
      have f0 := HB.out.frozen (j * 6)
      obtain ⟨v0, o0⟩ := HB.out.cell (o := j * 6) (by omega)
      have f1 := HB.out.frozen (j * 6 + 1)
      obtain ⟨v1, o1⟩ := HB.out.cell (o := j * 6 + 1) (by omega)
      have f2 := HB.out.frozen (j * 6 + 2)
      obtain ⟨v2, o2⟩ := HB.out.cell (o := j * 6 + 2) (by omega)
      have f3 := HB.out.frozen (j * 6 + 3)
      obtain ⟨v3, o3⟩ := HB.out.cell (o := j * 6 + 3) (by omega)
      have f4 := HB.out.frozen (j * 6 + 4)
      obtain ⟨v4, o4⟩ := HB.out.cell (o := j * 6 + 4) (by omega)
      have f5 := HB.out.frozen (j * 6 + 5)
      obtain ⟨v5, o5⟩ := HB.out.cell (o := j * 6 + 5) (by omega)
      clear hB
      go_wp2_with fail
      refine (markText_any _ _ (by omega) (by omega)).mono ?_
      rintro e w' ⟨rfl, y1, rfl⟩
      go_wp2_with fail
      refine (markText_any _ _ (by omega) (by omega)).mono ?_
      rintro e w' ⟨rfl, y2, rfl⟩
      go_wp2_with fail
      have F0 := fill_one (c := Incident.markC k) (k := j * 6) (v := .int .i64 (k + (j : Int) * 6)) (HB.out) (by omega) (HC.out) (by rw [Incident.markC_0 k _ (by omega)]; first | (congr 1; omega) | (congr 2; omega) | rfl)
      have B1 := (F0.1).ext ((Ext.refl _).lift y1)
      have C1 := fun p hp => ((Ext.refl _).lift y1).cell (F0.2 p hp)
      have F1 := fill_one (c := Incident.markC k) (k := j * 6 + 1) (v := .string (markS (k + (j : Int) * 6 + 1))) (B1) (by omega) (C1) (by rw [Incident.markC_1 k _ (by omega)]; first | (congr 1; omega) | (congr 2; omega) | rfl)
      have B2 := (F1.1).ext ((Ext.refl _).lift y2)
      have C2 := fun p hp => ((Ext.refl _).lift y2).cell (F1.2 p hp)
      have F2 := fill_one (c := Incident.markC k) (k := j * 6 + 2) (v := .string (markS (k + (j : Int) * 6 + 1 + 1))) (B2) (by omega) (C2) (by rw [Incident.markC_2 k _ (by omega)]; first | (congr 1; omega) | (congr 2; omega) | rfl)
      have F3 := fill_one (c := Incident.markC k) (k := j * 6 + 3) (v := .int .i64 (k + (j : Int) * 6 + 1 + 1 + 1)) (F2.1) (by omega) (F2.2) (by rw [Incident.markC_3 k _ (by omega)]; first | (congr 1; omega) | (congr 2; omega) | rfl)
      have F4 := fill_one (c := Incident.markC k) (k := j * 6 + 4) (v := .int .i64 (k + (j : Int) * 6 + 1 + 1 + 1 + 1)) (F3.1) (by omega) (F3.2) (by rw [Incident.markC_4 k _ (by omega)]; first | (congr 1; omega) | (congr 2; omega) | rfl)
      have F5 := fill_one (c := Incident.markC k) (k := j * 6 + 5) (v := .int .i64 (k + (j : Int) * 6 + 1 + 1 + 1 + 1 + 1)) (F4.1) (by omega) (F4.2) (by rw [Incident.markC_5 k _ (by omega)]; first | (congr 1; omega) | (congr 2; omega) | rfl)
      go_roundw
      case rel => exact ⟨j + 1, by omega, by go_num, by simp only [Value.int.injEq, true_and]; omega, F5.1, fun p hp => F5.2 p (by omega), ((((((((he.setc _ _).lift y1).setc _ _).lift y2).setc _ _).setc _ _).setc _ _).setc _ _)⟩
      case measure => simp [intOf]; omega
    · obtain rfl : j = n := by omega
      have hR : Hid (Own wr base 44 6 (some ⟨g, 0, none⟩) j ∧ RowsAt 6 (fun (i : Nat) q => Incident.markC k (i * 6 + q)) wr (some ⟨g, 0, none⟩) (List.range j)) :=
        ⟨.inr ⟨g, N, rfl, hg, HB.out, by omega⟩, fun i hi => ⟨g, 0, rfl, HB.out.lt, fun q hq => by
          have hi' : i < j := by simpa using hi
          rw [nth_range hi', Nat.zero_add]; exact HC.out (i * 6 + q) (by omega)⟩⟩
      clear HB HC hB
      go_wp2_with fail
      go_ret
      exact ⟨rfl, he, hR.out.1, hR.out.2⟩
open Go.ChangeShapes Go.WideShapes Go.ChangeAt
open Go.ChangeMaps (open_string shut_string)
set_option maxRecDepth 100000 in
theorem Incident.el {H : Type} {enc : TypeId × Value → H} {W : World} {base : Nat} {spare : Nat → Bool} {held : Bool} {n : Nat} {cs : List Value} {x : DataW H × List MemPlace} (h : DataW.trod enc Try.prog W base spare held n 55 cs = some x) :
    ∃ y : Incident, (y.Sz ∧ y.Wf) ∧ ∀ j, j < 6 → cs[j]? = some (y.cell j) := by
  obtain ⟨xs, m, _, rfl, hl, hx, hf⟩ := DataW.trod_struct Try.underlying55 h
  rw [show Try.prog.cellsOf 55 = 6 by kernel_rfl] at hl
  match cs, hl with
  | [c0, c1, c2, c3, c4, c5], _ =>
  match xs, hx with
  | [y0, y1, y2, y3, y4, y5], _ =>
  have kint : Try.prog.cellsOf 2 = 1 := by kernel_rfl
  have kstr : Try.prog.cellsOf 9 = 1 := by kernel_rfl
  have f0 : DataW.trod enc Try.prog W base spare held m 2 (List.take (Try.prog.cellsOf 2) (List.drop 0 [c0, c1, c2, c3, c4, c5])) = some y0 := hf 0 _ rfl
  simp only [kint, List.drop_zero, List.take_succ_cons, List.take_zero] at f0
  obtain ⟨v0, e0, _, z0⟩ := DataW.trod_int Try.underlying2 f0
  have f1 : DataW.trod enc Try.prog W base spare held m 9 (List.take (Try.prog.cellsOf 9) (List.drop 1 [c0, c1, c2, c3, c4, c5])) = some y1 := hf 1 _ rfl
  simp only [kstr, List.drop_zero, List.drop_succ_cons, List.take_succ_cons, List.take_zero] at f1
  obtain ⟨v1, e1, _, z1⟩ := DataW.trod_string Try.underlying9 f1
  have f2 : DataW.trod enc Try.prog W base spare held m 9 (List.take (Try.prog.cellsOf 9) (List.drop 2 [c0, c1, c2, c3, c4, c5])) = some y2 := hf 2 _ rfl
  simp only [kstr, List.drop_zero, List.drop_succ_cons, List.take_succ_cons, List.take_zero] at f2
  obtain ⟨v2, e2, _, z2⟩ := DataW.trod_string Try.underlying9 f2
  have f3 : DataW.trod enc Try.prog W base spare held m 2 (List.take (Try.prog.cellsOf 2) (List.drop 3 [c0, c1, c2, c3, c4, c5])) = some y3 := hf 3 _ rfl
  simp only [kint, List.drop_zero, List.drop_succ_cons, List.take_succ_cons, List.take_zero] at f3
  obtain ⟨v3, e3, _, z3⟩ := DataW.trod_int Try.underlying2 f3
  have f4 : DataW.trod enc Try.prog W base spare held m 2 (List.take (Try.prog.cellsOf 2) (List.drop 4 [c0, c1, c2, c3, c4, c5])) = some y4 := hf 4 _ rfl
  simp only [kint, List.drop_zero, List.drop_succ_cons, List.take_succ_cons, List.take_zero] at f4
  obtain ⟨v4, e4, _, z4⟩ := DataW.trod_int Try.underlying2 f4
  have f5 : DataW.trod enc Try.prog W base spare held m 2 (List.take (Try.prog.cellsOf 2) (List.drop 5 [c0, c1, c2, c3, c4, c5])) = some y5 := hf 5 _ rfl
  simp only [kint, List.drop_zero, List.drop_succ_cons, List.take_succ_cons, List.take_zero] at f5
  obtain ⟨v5, e5, _, z5⟩ := DataW.trod_int Try.underlying2 f5
  simp only [List.cons.injEq, and_true] at e0 e1 e2 e3 e4 e5
  subst e0 e1 e2 e3 e4 e5
  exact ⟨⟨v0, v1, v2, v3, v4, v5⟩, ⟨⟨(by have := z1; unfold maxLen at this; exact this), (by have := z2; unfold maxLen at this; exact this)⟩, ⟨(wf_bd z0), (wf_bd z3), (wf_bd z4), (wf_bd z5)⟩⟩, fun j hj => by rcases (show j = 0 ∨ j = 1 ∨ j = 2 ∨ j = 3 ∨ j = 4 ∨ j = 5 by omega) with rfl | rfl | rfl | rfl | rfl | rfl <;> rfl⟩
set_option maxRecDepth 100000 in
theorem Incident.op {H : Type} {enc : TypeId × Value → H} {W : World} {r : Reach} {b0 base : Nat} {spare : Nat → Bool} {held : Bool} {v : Value} {d : DataW H} {p : List MemPlace} (hv : Value.okWide Try.prog W r b0 55 v) (h : DataW.Trod enc Try.prog W base spare held 55 v d p) :
    ∃ y : Incident, v = y.val ∧ y.Sz ∧ y.Wf := by
  obtain ⟨cs, rfl, hsz⟩ := okWide_struct Try.underlying55 hv
  rw [show Try.prog.cellsOf 55 = 6 by kernel_rfl] at hsz
  obtain ⟨fuel, hf⟩ := h
  obtain ⟨y, hq, hc⟩ := Incident.el hf
  exact ⟨y, by rw [agg_eq y.cell hsz hc]; rfl, hq⟩
end Go.Proofs.Ytndkcgiadpdcjaa
