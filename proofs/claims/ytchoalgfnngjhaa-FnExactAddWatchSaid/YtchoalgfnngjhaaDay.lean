/- Days and levels: their bounds. -/
import Derived.Test.YtchoalgfnngjhaaBasics
namespace Go.Proofs.Ytchoalgfnngjhaa
open Go.RowKit
theorem dayValid_any (n : Int) (w : World) : Calls Try.prog 112 #[.int .i64 n] w fun e w' => e = .returned (.bool (inB n 0 36524)) ∧ w' = w := by
  go_enter Try.func112, Try.ntmps112
  go_wp2_with (go_at_call 114; refine (within_any _ _ _ _).mono ?_; rintro e w' ⟨rfl, rfl⟩)
  go_ret
  exact ⟨rfl, rfl⟩
theorem levelOk_any (n : Int) (w : World) : Calls Try.prog 124 #[.int .i64 n] w fun e w' => e = .returned (.bool (inB n 1 5)) ∧ w' = w := by
  go_enter Try.func124, Try.ntmps124
  go_wp2_with (go_at_call 114; refine (within_any _ _ _ _).mono ?_; rintro e w' ⟨rfl, rfl⟩)
  go_ret
  exact ⟨rfl, rfl⟩
theorem l02Day_any (n : Int) (w : World) : Calls Try.prog 121 #[.int .i64 n] w fun e w' => e = .returned (.bool (inB n 0 36524)) ∧ w' = w := by
  go_enter Try.func121, Try.ntmps121
  go_wp2_with (go_at_call 128; refine (l00In_any _ _ _ _).mono ?_; rintro e w' ⟨rfl, rfl⟩)
  go_ret
  exact ⟨rfl, rfl⟩
theorem l17Is_any (n : Int) (w : World) : Calls Try.prog 122 #[.int .i64 n] w fun e w' => e = .returned (.bool (inB n 1 5)) ∧ w' = w := by
  go_enter Try.func122, Try.ntmps122
  go_wp2_with (go_at_call 128; refine (l00In_any _ _ _ _).mono ?_; rintro e w' ⟨rfl, rfl⟩)
  go_ret
  exact ⟨rfl, rfl⟩
end Go.Proofs.Ytchoalgfnngjhaa
