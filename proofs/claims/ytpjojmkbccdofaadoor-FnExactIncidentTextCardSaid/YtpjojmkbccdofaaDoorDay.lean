/- Days and levels: their bounds. -/
import Derived.Test.YtpjojmkbccdofaaDoorBasics
namespace Go.Proofs.YtpjojmkbccdofaaDoor
open Go.RowKit
theorem dayValid_any (n : Int) (w : World) : Calls Tryd.prog 119 #[.int .i64 n] w fun e w' => e = .returned (.bool (inB n 0 36524)) ∧ w' = w := by
  go_enter Tryd.func119, Tryd.ntmps119
  go_wp2_with (go_at_call 89; refine (within_any _ _ _ _).mono ?_; rintro e w' ⟨rfl, rfl⟩)
  go_ret
  exact ⟨rfl, rfl⟩
theorem levelOk_any (n : Int) (w : World) : Calls Tryd.prog 120 #[.int .i64 n] w fun e w' => e = .returned (.bool (inB n 1 5)) ∧ w' = w := by
  go_enter Tryd.func120, Tryd.ntmps120
  go_wp2_with (go_at_call 89; refine (within_any _ _ _ _).mono ?_; rintro e w' ⟨rfl, rfl⟩)
  go_ret
  exact ⟨rfl, rfl⟩
theorem l02Day_any (n : Int) (w : World) : Calls Tryd.prog 116 #[.int .i64 n] w fun e w' => e = .returned (.bool (inB n 0 36524)) ∧ w' = w := by
  go_enter Tryd.func116, Tryd.ntmps116
  go_wp2_with (go_at_call 84; refine (l00In_any _ _ _ _).mono ?_; rintro e w' ⟨rfl, rfl⟩)
  go_ret
  exact ⟨rfl, rfl⟩
theorem l17Is_any (n : Int) (w : World) : Calls Tryd.prog 117 #[.int .i64 n] w fun e w' => e = .returned (.bool (inB n 1 5)) ∧ w' = w := by
  go_enter Tryd.func117, Tryd.ntmps117
  go_wp2_with (go_at_call 84; refine (l00In_any _ _ _ _).mono ?_; rintro e w' ⟨rfl, rfl⟩)
  go_ret
  exact ⟨rfl, rfl⟩
end Go.Proofs.YtpjojmkbccdofaaDoor
