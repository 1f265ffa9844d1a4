/- The law's own helpers on areas: how large they are, copies, comparison, marks. -/
import Derived.Test.YtcmgijidehlkjaaSearch
import Derived.Test.YtcmgijidehlkjaaMark
namespace Go.Proofs.Ytcmgijidehlkjaa
open Go.RowKit
set_option maxRecDepth 100000 in
set_option maxHeartbeats 1000000 in
theorem szArea_any (x : Area) (left : Int) (w : World) (hs : x.Sz) (h0 : 0 ≤ left) (h1 : left ≤ 1000000000000) :
    Calls Try.prog 23 #[.agg #[.string x.id, .int .i64 x.chance, .int .i64 x.minutes], .int .i64 left] w fun e w' => ∃ r : Int, e = .returned (.int .i64 r) ∧ Ext w w' ∧ -1 ≤ r ∧ r ≤ left ∧ (0 ≤ r → ((x.id.size : Int) ≤ left)) := by
  unfold Area.Sz at hs
  go_enter Try.func23, Try.ntmps23
  go_wp2
  all_goals
    go_ret
    exact ⟨_, rfl, (Ext.refl _).alloc _, by omega, by omega, fun h => by omega⟩
set_option maxRecDepth 100000 in
set_option maxHeartbeats 1000000 in
theorem szAreaS_any (a : Option Addr) (cap : Nat) (l : List Area) (left : Int) (w : World) (H : AreaAt w a l) (hsz : ∀ k, k < l.length → (nth l k).Sz) (hlen : l.length ≤ 9223372036854775807) (h0 : 0 ≤ left) (h1 : left ≤ 1000000000000) :
    Calls Try.prog 7 #[.slice a l.length cap, .int .i64 left] w fun e w' => ∃ r : Int, e = .returned (.int .i64 r) ∧ Ext w w' ∧ -1 ≤ r ∧ r ≤ left ∧ (0 ≤ r → (l.length : Int) ≤ left ∧ ∀ k, k < l.length → (((nth l k).id.size : Int) ≤ left)) := by
  by_cases hl : left - l.length < 0
  · go_enter Try.func7, Try.ntmps7
    go_wp2_with fail
    go_ret
    exact ⟨-1, rfl, Ext.refl _, by omega, by omega, fun h => absurd h (by omega)⟩
  go_enter Try.func7, Try.ntmps7
  go_wp2_with fail
  go_loopw [1, 5] (fun lf i wr => ∃ k : Nat, k ≤ l.length ∧ i = .int .i64 k ∧ (∃ r : Int, lf = .int .i64 r ∧ 0 ≤ r ∧ r ≤ left) ∧ Hid (∀ j, j < k → (((nth l j).id.size : Int) ≤ left)) ∧ Ext w wr) (fun _ i _ => l.length - (intOf i).toNat)
  case atStart => exact ⟨0, Nat.zero_le _, rfl, ⟨_, rfl, by omega, by omega⟩, upto_zero, Ext.refl w⟩
  case round =>
    obtain ⟨k, hk, rfl, ⟨r, rfl, r0, r1⟩, hall, he⟩ := hrel
    by_cases hlt : k < l.length
    · obtain ⟨b, off, rfl⟩ := H.base hlt
      obtain ⟨hbl, c0, c1, c2⟩ := Area.at (H.ext he) k hlt
      have hs := hsz k hlt
      clear H hsz
      go_wp2_with fail
      refine (szArea_any (nth l k) _ _ hs (by omega) (by omega)).mono ?_
      rintro e w' ⟨r', rfl, ⟨y, rfl⟩, q0, q1, q2⟩
      have hq := Lib.hid q2
      clear q2
      by_cases h : r' < 0
      · go_wp2_with fail
        go_ret
        exact ⟨-1, rfl, he.lift y, by omega, by omega, fun h => absurd h (by omega)⟩
      · go_wp2_with fail
        go_roundw
        case rel => exact ⟨k + 1, by omega, by go_num, ⟨_, rfl, by omega, by omega⟩, upto_succ hall.out (by have := hq.out (by omega); omega), he.lift y⟩
        case measure => simp [intOf]; omega
    · clear H hsz
      go_wp2_with fail
      go_ret
      exact ⟨r, rfl, he, by omega, by omega, fun _ => ⟨by omega, fun j hj => hall.out j (by omega)⟩⟩
set_option maxRecDepth 100000 in
set_option maxHeartbeats 1000000 in
theorem toArea_any (x : Area) (w : World) :
    Gives Try.prog 26 #[.agg #[.string x.id, .int .i64 x.chance, .int .i64 x.minutes]] w (.agg #[.string x.id, .int .i64 x.chance, .int .i64 x.minutes]) := by
  unfold Gives
  go_enter Try.func26, Try.ntmps26
  go_wp2
  exact bodyPost_ret (v := .agg #[.string x.id, .int .i64 x.chance, .int .i64 x.minutes]) (by simp [results, Try.results26, go_sem]) rfl ⟨rfl, (((Ext.refl _).alloc _).alloc _).alloc _⟩
set_option maxRecDepth 100000 in
set_option maxHeartbeats 2000000 in
theorem toAreaS_any (a : Option Addr) (cap : Nat) (l : List Area) (w : World) (H : AreaAt w a l) (hlen : l.length ≤ 1048576) :
    Calls Try.prog 9 #[.slice a l.length cap] w fun e w' => ∃ g, e = .returned (.slice (some ⟨g, 0, none⟩) l.length l.length) ∧ w.heap.size ≤ g ∧ g < w'.heap.size ∧ AreaAt w' (some ⟨g, 0, none⟩) l ∧ Blk w' g 46 (l.length * 3) ∧ Ext w w' := by
  have hmk := run_make_blk (P := Try.prog) (t := 27) Try.underlying27 (by kernel_rfl : (Try.prog.info? 46).map (fun i => (i.zero.map Value.cells, i.size, i.bytes)) = some (some #[.string ⟨#[]⟩, .int .i64 0, .int .i64 0], 3, 32)) .i64 .i64 l.length (by omega) (by omega) w
  have hB := Blk.new w (madeCells #[.string ⟨#[]⟩, .int .i64 0, .int .i64 0] (l.length * 3)) 46
  rw [size_madeCells] at hB
  go_enter Try.func9, Try.ntmps9
  go_wp2_with fail
  have hE := (Ext.refl w).alloc (.cells (madeCells #[.string ⟨#[]⟩, .int .i64 0, .int .i64 0] (l.length * 3)) 46)
  clear hmk
  generalize w.alloc (.cells (madeCells #[.string ⟨#[]⟩, .int .i64 0, .int .i64 0] (l.length * 3)) 46) = W at *
  obtain ⟨g, hg⟩ : ∃ g, g = w.heap.size := ⟨_, rfl⟩
  have hg0 : w.heap.size ≤ g := by omega
  rw [← hg] at hB ⊢
  clear hg
  go_loopw [4] (fun i wr => ∃ k : Nat, k ≤ l.length ∧ i = .int .i64 k ∧ Blk wr g 46 (l.length * 3) ∧ (∀ i, i < k → ∀ j, j < 3 → wr.cell? ⟨g, i * 3 + j, none⟩ = some ((nth l i).cell j)) ∧ Ext w wr) (fun i _ => l.length - (intOf i).toNat)
  case atStart => exact ⟨0, Nat.zero_le _, rfl, hB, upto_zero, hE⟩
  case round =>
    obtain ⟨k, hk, rfl, hb, hc, he⟩ := hrel
    by_cases hlt : k < l.length
    · obtain ⟨b, off, rfl⟩ := H.base hlt
      obtain ⟨hbl, c0, c1, c2⟩ := Area.at (H.ext he) k hlt
      have hg' := hb.lt
      have f0 := hb.frozen (k * 3)
      obtain ⟨v0, o0⟩ := hb.cell (o := k * 3) (by omega)
      have f1 := hb.frozen (k * 3 + 1)
      obtain ⟨v1, o1⟩ := hb.cell (o := k * 3 + 1) (by omega)
      have f2 := hb.frozen (k * 3 + 2)
      obtain ⟨v2, o2⟩ := hb.cell (o := k * 3 + 2) (by omega)
      have HB := Lib.hid hb
      have HC := Lib.hid hc
      clear H hc hb hB hE
      go_wp2_with (go_at_call 26; refine (toArea_any (nth l k) _).mono ?_; rintro e w' ⟨rfl, y, rfl⟩)
      have hF := fill_row (c := fun i j => (nth l i).cell j) [.string (nth l k).id, .int .i64 (nth l k).chance, .int .i64 (nth l k).minutes] (HB.out.ext ((Ext.refl wr).lift y)) (k := k) (m := 3) (by omega) rfl
        (fun i hi j hj => ((Ext.refl wr).lift y).cell (HC.out i hi j hj)) (fun j hj => (by rcases (show j = 0 ∨ j = 1 ∨ j = 2 by omega) with rfl | rfl | rfl <;> rfl))
      go_roundw
      case rel => exact ⟨k + 1, by omega, by go_num, hF.1, hF.2, ext_setCells hg0 [.string (nth l k).id, .int .i64 (nth l k).chance, .int .i64 (nth l k).minutes] _ _ (he.lift y)⟩
      case measure => simp [intOf]; omega
    · obtain rfl : k = l.length := by omega
      have HR : Hid (AreaAt wr (some ⟨g, 0, none⟩) l ∧ Blk wr g 46 (l.length * 3)) := ⟨fun i hi => ⟨g, 0, rfl, hb.lt, fun j hj => by rw [Nat.zero_add]; exact hc i hi j hj⟩, hb⟩
      clear H hc hb hB hE
      go_wp2_with fail
      go_ret
      exact ⟨g, rfl, hg0, HR.out.2.lt, HR.out.1, HR.out.2, he⟩
set_option maxRecDepth 100000 in
set_option maxHeartbeats 1000000 in
theorem eqArea_same (x : Area) (w : World) :
    Gives Try.prog 29 #[.agg #[.string x.id, .int .i64 x.chance, .int .i64 x.minutes], .agg #[.string x.id, .int .i64 x.chance, .int .i64 x.minutes]] w (.bool true) := by
  unfold Gives
  have h0 : sEq x.id x.id = true := sEq_iff.2 rfl
  go_enter Try.func29, Try.ntmps29
  go_wp2
  go_ret
  exact ⟨rfl, ((Ext.refl _).alloc _).alloc _⟩
set_option maxRecDepth 100000 in
set_option maxHeartbeats 1000000 in
theorem eqAreaS_same (a : Option Addr) (cap : Nat) (a2 : Option Addr) (cap2 : Nat) (l : List Area) (w : World) (H : AreaAt w a l) (H2 : AreaAt w a2 l) (hlen : l.length ≤ 9223372036854775807) :
    Gives Try.prog 12 #[.slice a l.length cap, .slice a2 l.length cap2] w (.bool true) := by
  unfold Gives
  go_enter Try.func12, Try.ntmps12
  go_wp2_with fail
  go_loopw [5] (fun i wr => ∃ k : Nat, k ≤ l.length ∧ i = .int .i64 k ∧ Ext w wr) (fun i _ => l.length - (intOf i).toNat)
  case atStart => exact ⟨0, Nat.zero_le _, rfl, Ext.refl w⟩
  case round =>
    obtain ⟨k, hk, rfl, he⟩ := hrel
    by_cases hlt : k < l.length
    · obtain ⟨b, off, rfl⟩ := H.base hlt
      obtain ⟨hbl, c0, c1, c2⟩ := Area.at (H.ext he) k hlt
      obtain ⟨b2, off2, rfl⟩ := H2.base hlt
      obtain ⟨hbl2, d0, d1, d2⟩ := Area.at (H2.ext he) k hlt
      clear H H2
      go_wp2_with fail
      refine region_quiet (by kernel_rfl) (by kernel_rfl) ?_
      repeat (any_goals (first | go_big_quiet_step ((exact Gives.quiet (eqArea_same (nth l k) _))) | quiet_step ((exact Gives.quiet (eqArea_same (nth l k) _)))))
      refine wpQuiet_nil ?_
      intro _ hw'
      obtain ⟨y, hw''⟩ := hw'
      subst hw''
      go_wp2
      go_roundw
      case rel => exact ⟨k + 1, by omega, by go_num, he.lift y⟩
      case measure => simp [intOf]; omega
    · clear H H2
      go_wp2_with fail
      go_ret
      exact ⟨rfl, he⟩
/-- What a mark writes at place p. -/
def Area.markC (k : Int) (p : Nat) : Value := if p % 3 = 0 then .string (markS (k + (p : Int))) else if p % 3 = 1 then .int .i64 (k + (p : Int)) else .int .i64 (k + (p : Int))
theorem Area.markC_0 (k : Int) (p : Nat) (h : p % 3 = 0) : Area.markC k p = .string (markS (k + (p : Int))) := by unfold Area.markC; rw [if_pos (by omega)]
theorem Area.markC_1 (k : Int) (p : Nat) (h : p % 3 = 1) : Area.markC k p = .int .i64 (k + (p : Int)) := by unfold Area.markC; rw [if_neg (by omega), if_pos (by omega)]
theorem Area.markC_2 (k : Int) (p : Nat) (h : p % 3 = 2) : Area.markC k p = .int .i64 (k + (p : Int)) := by unfold Area.markC; rw [if_neg (by omega), if_neg (by omega)]
set_option maxRecDepth 100000 in
set_option maxHeartbeats 4000000 in
theorem markAreaS_any (a : Option Addr) (n cap : Nat) (k : Int) (base : Nat) (w : World) (hO : Own w base 46 3 a n) (hn : n ≤ 1000000000) (h0 : 0 ≤ k) (h1 : k ≤ 100000000000) :
    Calls Try.prog 18 #[.slice a n cap, .int .i64 k] w fun e w' => e = .returned (.int .i64 (k + n * 3)) ∧ Chg (ownA n a) w w' ∧ Own w' base 46 3 a n ∧ RowsAt 3 (fun (i : Nat) j => Area.markC k (i * 3 + j)) w' a (List.range n) := by
  rcases Nat.eq_zero_or_pos n with rfl | hpos
  · clear hO
    go_enter Try.func18, Try.ntmps18
    go_wp2_with fail
    go_loopw [1, 5] (fun kk i wr => kk = .int .i64 k ∧ i = .int .i64 0 ∧ wr = w) (fun _ _ _ => 0)
    case atStart => exact ⟨rfl, rfl, rfl⟩
    case round =>
      obtain ⟨rfl, rfl, rfl⟩ := hrel
      go_wp2_with fail
      go_ret
      exact ⟨ret_int (by simp), Chg.refl _ _, .inl rfl, RowsAt.nil⟩
  simp only [ownA_pos hpos]
  rcases hO with h | ⟨g, N, rfl, hg, hB, hN⟩
  · exact absurd h (by omega)
  go_enter Try.func18, Try.ntmps18
  go_wp2_with fail
  go_loopw [1, 5] (fun kk i wr => ∃ j : Nat, j ≤ n ∧ i = .int .i64 j ∧ kk = .int .i64 (k + j * 3) ∧ Hid (Blk wr g 46 N) ∧ Hid (∀ p, p < j * 3 → wr.cell? ⟨g, p, none⟩ = some (Area.markC k p)) ∧ Chg (some ⟨g, 0, none⟩) w wr) (fun _ i _ => n - (intOf i).toNat)
  case atStart => exact ⟨0, Nat.zero_le _, rfl, by simp, hB, fun p hp => absurd hp (by omega), Chg.refl _ _⟩
  case round =>
    obtain ⟨j, hj, rfl, rfl, HB, HC, he⟩ := hrel
    by_cases hlt : j < n
    · have hg' := HB.out.lt
      have f0 := HB.out.frozen (j * 3)
      obtain ⟨v0, o0⟩ := HB.out.cell (o := j * 3) (by omega)
      have f1 := HB.out.frozen (j * 3 + 1)
      obtain ⟨v1, o1⟩ := HB.out.cell (o := j * 3 + 1) (by omega)
      have f2 := HB.out.frozen (j * 3 + 2)
      obtain ⟨v2, o2⟩ := HB.out.cell (o := j * 3 + 2) (by omega)
      clear hB
      go_wp2_with fail
      refine (markText_any _ _ (by omega) (by omega)).mono ?_
      rintro e w' ⟨rfl, y0, rfl⟩
      go_wp2_with fail
      have B0 := (HB.out).ext ((Ext.refl _).lift y0)
      have C0 := fun p hp => ((Ext.refl _).lift y0).cell (HC.out p hp)
      have F0 := fill_one (c := Area.markC k) (k := j * 3) (v := .string (markS (k + (j : Int) * 3))) (B0) (by omega) (C0) (by rw [Area.markC_0 k _ (by omega)]; first | (congr 1; omega) | (congr 2; omega) | rfl)
      have F1 := fill_one (c := Area.markC k) (k := j * 3 + 1) (v := .int .i64 (k + (j : Int) * 3 + 1)) (F0.1) (by omega) (F0.2) (by rw [Area.markC_1 k _ (by omega)]; first | (congr 1; omega) | (congr 2; omega) | rfl)
      have F2 := fill_one (c := Area.markC k) (k := j * 3 + 2) (v := .int .i64 (k + (j : Int) * 3 + 1 + 1)) (F1.1) (by omega) (F1.2) (by rw [Area.markC_2 k _ (by omega)]; first | (congr 1; omega) | (congr 2; omega) | rfl)
      go_roundw
      case rel => exact ⟨j + 1, by omega, by go_num, by simp only [Value.int.injEq, true_and]; omega, F2.1, fun p hp => F2.2 p (by omega), ((((he.lift y0).setc _ _).setc _ _).setc _ _)⟩
      case measure => simp [intOf]; omega
    · obtain rfl : j = n := by omega
      have hR : Hid (Own wr base 46 3 (some ⟨g, 0, none⟩) j ∧ RowsAt 3 (fun (i : Nat) q => Area.markC k (i * 3 + q)) wr (some ⟨g, 0, none⟩) (List.range j)) :=
        ⟨.inr ⟨g, N, rfl, hg, HB.out, by omega⟩, fun i hi => ⟨g, 0, rfl, HB.out.lt, fun q hq => by
          have hi' : i < j := by simpa using hi
          rw [nth_range hi', Nat.zero_add]; exact HC.out (i * 3 + q) (by omega)⟩⟩
      clear HB HC hB
      go_wp2_with fail
      go_ret
      exact ⟨rfl, he, hR.out.1, hR.out.2⟩
end Go.Proofs.Ytcmgijidehlkjaa
