/- The source's among: an element of a list of numbers, drawn. -/
import Derived.Test.YtmkmmenkjbmppaaDoorDraw1
namespace Go.Proofs.YtmkmmenkjbmppaaDoor
open Go.RowKit
theorem rows_moved {α : Type} [Inhabited α] {n sb : Nat} {cell : α → Nat → Value} {w w' : World} {a : Option Addr} {l : List α} (h : RowsAt n cell w a l) (hm : Moved sb w w') (hne : ∀ p, a = some p → p.block ≠ sb) : RowsAt n cell w' a l := fun k hk => by
  obtain ⟨b, off, e, hb, hc⟩ := h k hk
  exact ⟨b, off, e, Nat.lt_of_lt_of_le hb hm.size, fun j hj => hm.cell (by have := hne _ e; exact this) (hc j hj)⟩
set_option maxHeartbeats 1000000 in
theorem among_any (w : World) (sb : Nat) (a : Option Addr) (cap : Nat) (code : List Int) (n : Nat) (H : Src w sb a cap code n) (hn : n ≤ 900000000) (la : Option Addr) (lc : Nat) (l : List Int) (HL : IntAt w la l) (h0 : 0 < l.length) (h1 : l.length ≤ 65536) (hne : ∀ p, la = some p → p.block ≠ sb) :
    Calls Tryd.prog 15 #[.pointer (some ⟨sb, 0, none⟩), .slice la l.length lc] w fun e w' => ∃ (x : Int) (k : Nat), e = .returned (.int .i64 x) ∧ x ∈ l ∧ k ≤ 2 ∧ Src w' sb a cap code (n + k) ∧ Moved sb w w' := by
  have HP := Lib.hid (pick_any w sb a cap code n H hn l.length (by omega))
  have HR := Lib.hid fun (w' : World) (hm : Moved sb w w') => rows_moved (n := 1) HL hm hne
  obtain ⟨b, off, rfl⟩ := RowsAt.base HL h0
  clear H HL hne
  go_enter Tryd.func15, Tryd.ntmps15
  go_wp2_with (go_at_call 25; refine HP.out.mono ?_; rintro e w2 ⟨r, k, rfl, r0, r1, hk, hS, hM⟩; obtain ⟨j, rfl⟩ := Int.eq_ofNat_of_zero_le r0; have hj : j < l.length := (by have := r1 (by omega); omega); obtain ⟨hb, c0⟩ := IntAt.at (HR.out _ hM) j hj; have hS := Lib.hid hS; have hM := Lib.hid hM; clear r1)
  go_ret
  exact ⟨_, k, rfl, nth_mem hj, hk, hS.out, hM.out⟩
end Go.Proofs.YtmkmmenkjbmppaaDoor
