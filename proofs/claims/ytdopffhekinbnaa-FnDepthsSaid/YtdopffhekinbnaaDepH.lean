/- The law of depths: its own helpers, and the reference's ClassOf. -/
import Derived.Test.YtdopffhekinbnaaClass
import Derived.Test.YtdopffhekinbnaaLists
import Derived.Test.YtdopffhekinbnaaElI
namespace Go.Proofs.Ytdopffhekinbnaa
open Go.RowKit
def absV (n : Int) : Int := if n < 0 then -n else n
theorem b10Long_any (a : Option Addr) (n cap : Nat) (w : World) : Calls Try.prog 14 #[.slice a n cap] w fun e w' => e = .returned (.bool (decide (1048576 < (n : Int)))) ∧ w' = w := by
  go_enter Try.func14, Try.ntmps14
  go_wp2_with fail
  go_ret
  exact ⟨rfl, rfl⟩
theorem b10Abs_any (n : Int) (w : World) (h0 : -1000000 ≤ n) (h1 : n ≤ 1000000) : Calls Try.prog 21 #[.int .i64 n] w fun e w' => e = .returned (.int .i64 (absV n)) ∧ w' = w := by
  unfold absV
  by_cases h : n < 0
  · have hd : decide (n < 0) = true := decide_eq_true h
    rw [if_pos h]
    go_enter Try.func21, Try.ntmps21
    go_wp2_with fail
    go_ret
    exact ⟨rfl, rfl⟩
  · have hd : decide (n < 0) = false := decide_eq_false h
    rw [if_neg h]
    go_enter Try.func21, Try.ntmps21
    go_wp2_with fail
    go_ret
    exact ⟨rfl, rfl⟩
set_option maxRecDepth 100000 in
set_option maxHeartbeats 4000000 in
theorem b10Rises_any (a : Option Addr) (cap : Nat) (l : List Int) (n : Nat) (w : World) (H : IntAt w a l) (hlen : l.length ≤ 1000000) (_ : n ≤ 1000000) (h1 : ∀ i, i < l.length → 0 ≤ nth l i ∧ nth l i < n) (h2 : ∀ i, i + 1 < l.length → nth l i < nth l (i + 1)) :
    Gives Try.prog 16 #[.slice a l.length cap, .int .i64 n] w (.bool true) := by
  unfold Gives
  have hI := Lib.hid h1
  have hU := Lib.hid h2
  clear h1 h2
  go_enter Try.func16, Try.ntmps16
  go_wp2_with fail
  go_loopw [5] (fun i wr => ∃ k : Nat, k ≤ l.length ∧ i = .int .i64 k ∧ Ext w wr) (fun i _ => l.length - (intOf i).toNat)
  case atStart => exact ⟨0, Nat.zero_le _, rfl, Ext.refl w⟩
  case round =>
    obtain ⟨k, hk, rfl, he⟩ := hrel
    by_cases hlt : k < l.length
    · have hRR := RowsAt.ext H he
      obtain ⟨b, off, rfl⟩ := RowsAt.base hRR hlt
      obtain ⟨hb, c0⟩ := IntAt.at hRR k hlt
      obtain ⟨u0, u1⟩ := hI.out k hlt
      have hk1 : decide (k < l.length) = true := decide_eq_true hlt
      have x1 : decide (nth l k < 0) = false := decide_eq_false (by omega)
      have x2 : decide ((n : Int) ≤ nth l k) = false := decide_eq_false (by omega)
      have he := Lib.hid he
      rcases Nat.eq_zero_or_pos k with h0k | h0k
      · have hk0 : decide (0 < k) = false := decide_eq_false (by omega)
        clear hRR h0k H
        go_wp2_with fail
        refine region_quiet (by kernel_rfl) (by kernel_rfl) ?_
        repeat (any_goals (first | go_big_quiet_step ((fail)) | quiet_step ((fail))))
        refine wpQuiet_nil ?_
        intro _ hw'
        obtain ⟨y, hw''⟩ := hw'
        subst hw''
        go_wp2
        go_roundw
        case rel => exact ⟨k + 1, by omega, by go_num, he.out.lift y⟩
        case measure => simp [intOf]; omega
      · obtain ⟨k, rfl⟩ : ∃ m, k = m + 1 := ⟨k - 1, by omega⟩
        obtain ⟨-, c1⟩ := IntAt.at hRR k (by omega)
        have hdn := hU.out k hlt
        have x3 : decide (nth l (k + 1) ≤ nth l k) = false := decide_eq_false (by omega)
        clear hRR H
        go_wp2_with fail
        refine region_quiet (by kernel_rfl) (by kernel_rfl) ?_
        repeat (any_goals (first | go_big_quiet_step ((fail)) | quiet_step ((fail))))
        refine wpQuiet_nil ?_
        intro _ hw'
        obtain ⟨y, hw''⟩ := hw'
        subst hw''
        go_wp2
        go_roundw
        case rel => exact ⟨k + 1 + 1, by omega, by go_num, he.out.lift y⟩
        case measure => simp [intOf]; omega
    · have hk1 : decide (k < l.length) = false := decide_eq_false hlt
      go_wp2_with fail
      go_ret
      exact ⟨rfl, he⟩
set_option maxRecDepth 100000 in
set_option maxHeartbeats 4000000 in
theorem specClassOf_any (x : Test) (w : World) (hx : testB x = true) :
    Gives Try.prog 20 #[.agg #[.int .i64 x.kind, .int .i64 x.score, .int .i64 x.quality, .int .i64 x.depth, .int .i64 x.hour]] w (.tuple #[.int .i64 (classV x), .int .i64 0]) := by
  unfold Gives
  have hx1 := (Ext.refl w).alloc (.cells #[.int .i64 x.kind, .int .i64 x.score, .int .i64 x.quality, .int .i64 x.depth, .int .i64 x.hour] 41)
  have k0 : (w.alloc (.cells #[.int .i64 x.kind, .int .i64 x.score, .int .i64 x.quality, .int .i64 x.depth, .int .i64 x.hour] 41)).cell? ⟨w.heap.size, 0, none⟩ = some (.int .i64 x.kind) := by rw [cell_new]; rfl
  have k1 : (w.alloc (.cells #[.int .i64 x.kind, .int .i64 x.score, .int .i64 x.quality, .int .i64 x.depth, .int .i64 x.hour] 41)).cell? ⟨w.heap.size, 0 + 1, none⟩ = some (.int .i64 x.score) := by rw [cell_new]; rfl
  have k2 : (w.alloc (.cells #[.int .i64 x.kind, .int .i64 x.score, .int .i64 x.quality, .int .i64 x.depth, .int .i64 x.hour] 41)).cell? ⟨w.heap.size, 0 + 2, none⟩ = some (.int .i64 x.quality) := by rw [cell_new]; rfl
  have k3 : (w.alloc (.cells #[.int .i64 x.kind, .int .i64 x.score, .int .i64 x.quality, .int .i64 x.depth, .int .i64 x.hour] 41)).cell? ⟨w.heap.size, 0 + 3, none⟩ = some (.int .i64 x.depth) := by rw [cell_new]; rfl
  have k4 : (w.alloc (.cells #[.int .i64 x.kind, .int .i64 x.score, .int .i64 x.quality, .int .i64 x.depth, .int .i64 x.hour] 41)).cell? ⟨w.heap.size, 0 + 4, none⟩ = some (.int .i64 x.hour) := by rw [cell_new]; rfl
  have HO := Lib.hid (l08One_any w.heap.size 0 x _ k0 k1 k2 k3 k4)
  have HC := Lib.hid fun (W : World) (he : Ext (w.alloc (.cells #[.int .i64 x.kind, .int .i64 x.score, .int .i64 x.quality, .int .i64 x.depth, .int .i64 x.hour] 41)) W) => l08Class_any w.heap.size 0 x W hx (he.cell k0) (he.cell k1) (he.cell k2)
  rw [hx] at HO
  replace hx1 := Lib.hid hx1
  clear k0 k1 k2 k3 k4 hx
  go_enter Try.func20, Try.ntmps20
  go_wp2_with fail
  refine HO.out.mono ?_
  rintro e w1 ⟨rfl, E1⟩
  clear HO
  go_wp2_with fail
  refine (HC.out w1 E1).mono ?_
  rintro e w2 ⟨rfl, E2⟩
  have EE := Lib.hid (hx1.out.trans (E1.trans E2))
  clear HC E1 E2 hx1
  go_wp2_with fail
  go_ret2
  exact ⟨rfl, EE.out⟩
end Go.Proofs.Ytdopffhekinbnaa
