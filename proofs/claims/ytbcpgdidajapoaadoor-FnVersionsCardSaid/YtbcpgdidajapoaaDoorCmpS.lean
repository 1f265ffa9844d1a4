/- How two texts stand: cmp.Compare. -/
import Derived.Test.YtbcpgdidajapoaaDoorAdd
namespace Go.Proofs.YtbcpgdidajapoaaDoor
open Go.RowKit
/-- How two texts stand. -/
def cmpS (x y : ByteArray) : Int := if sLt x y = true then -1 else if sLt y x = true then 1 else 0
theorem cmpS_lt {x y : ByteArray} : cmpS x y < 0 ↔ sLt x y = true := by
  unfold cmpS; split
  · rename_i h; exact ⟨fun _ => h, fun _ => by decide⟩
  · rename_i h; split <;> exact ⟨fun h2 => absurd h2 (by decide), fun h2 => absurd h2 h⟩
theorem cmpS_eq {x y : ByteArray} : cmpS x y = 0 ↔ x = y := by
  unfold cmpS; split
  · rename_i h; exact ⟨fun h2 => absurd h2 (by decide), fun h2 => by subst h2; rw [sLt_irrefl] at h; cases h⟩
  · rename_i h; split
    · rename_i h1; exact ⟨fun h2 => absurd h2 (by decide), fun h2 => by subst h2; rw [sLt_irrefl] at h1; cases h1⟩
    · rename_i h1; exact ⟨fun _ => sLt_total (by simpa using h) (by simpa using h1), fun _ => rfl⟩
theorem isNaNS_any (x : ByteArray) (w : World) : Calls Tryd.prog 68 #[.string x] w fun e w' => e = .returned (.bool false) ∧ w' = w := by
  go_enter Tryd.func68, Tryd.ntmps68
  go_wp2
  go_ret
  exact ⟨rfl, rfl⟩
theorem CompareS_any (x y : ByteArray) (w : World) : Calls Tryd.prog 54 #[.string x, .string y] w fun e w' => e = .returned (.int .i64 (cmpS x y)) ∧ w' = w := by
  have hv : Hid (cmpS x y = if sLt x y = true then -1 else if sLt y x = true then 1 else 0) := rfl
  cases h1 : sLt x y <;> cases h2 : sLt y x
  all_goals
    first
      | have h3 : sEq x y = true := sEq_iff.2 (sLt_total h1 h2)
      | have h3 : sEq x y = false := by rw [sEq_not]; rintro rfl; first | (rw [sLt_irrefl] at h1; cases h1; done) | (rw [sLt_irrefl] at h2; cases h2; done)
    go_enter Tryd.func54, Tryd.ntmps54
    go_wp2_with (go_at_call 68; refine (isNaNS_any _ _).mono ?_; rintro e w' ⟨rfl, rfl⟩)
    go_ret
    exact ⟨ret_int (by rw [hv.out, h1, h2]; first | rfl | (simp; done)), rfl⟩
end Go.Proofs.YtbcpgdidajapoaaDoor
