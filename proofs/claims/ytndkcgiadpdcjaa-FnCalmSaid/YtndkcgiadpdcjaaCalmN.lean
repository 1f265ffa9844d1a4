/- b10Long, b10Nums of the laws. -/
import Derived.Test.YtndkcgiadpdcjaaCalmF
namespace Go.Proofs.Ytndkcgiadpdcjaa
open Go.RowKit
theorem b10Long_any (a : Option Addr) (n cap : Nat) (w : World) : Calls Try.prog 20 #[.slice a n cap] w fun e w' => e = .returned (.bool (decide (1048576 < (n : Int)))) ∧ w' = w := by
  go_enter Try.func20, Try.ntmps20
  go_wp2_with fail
  go_ret
  exact ⟨rfl, rfl⟩
set_option maxHeartbeats 2000000 in
theorem b10Nums_same (a : Option Addr) (cap : Nat) (a2 : Option Addr) (cap2 : Nat) (l : List Int) (w : World) (H : IntAt w a l) (H2 : IntAt w a2 l) (hlen : l.length ≤ 9223372036854775807) :
    Gives Try.prog 27 #[.slice a l.length cap, .slice a2 l.length cap2] w (.bool true) := by
  unfold Gives
  go_enter Try.func27, Try.ntmps27
  go_wp2_with fail
  go_loopw [5] (fun i wr => ∃ k : Nat, k ≤ l.length ∧ i = .int .i64 k ∧ Ext w wr) (fun i _ => l.length - (intOf i).toNat)
  case atStart => exact ⟨0, Nat.zero_le _, rfl, Ext.refl w⟩
  case round =>
    obtain ⟨k, hk, rfl, he⟩ := hrel
    by_cases hlt : k < l.length
    · obtain ⟨b, off, rfl⟩ := H.base hlt
      obtain ⟨hb, c0⟩ := IntAt.at (RowsAt.ext H he) k hlt
      obtain ⟨b2, off2, rfl⟩ := H2.base hlt
      obtain ⟨hb2, d0⟩ := IntAt.at (RowsAt.ext H2 he) k hlt
      go_wp2_with fail
      refine region_quiet (by kernel_rfl) (by kernel_rfl) ?_
      repeat (any_goals (first | go_big_quiet_step (fail) | quiet_step (fail)))
      refine wpQuiet_nil ?_
      intro _ hw'
      obtain ⟨y, hw''⟩ := hw'
      subst hw''
      go_wp2_with fail
      go_roundw
      case rel => exact ⟨k + 1, by omega, by go_num, he.lift _⟩
      case measure => simp [intOf]; omega
    · obtain rfl : k = l.length := by omega
      go_wp2_with fail
      go_ret
      exact ⟨rfl, he⟩
end Go.Proofs.Ytndkcgiadpdcjaa
