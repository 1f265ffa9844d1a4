/- The source's text: an element of a list of texts, drawn. -/
import Derived.Test.YtmkmmenkjbmppaaDoorAmongI
import Derived.Test.YtmkmmenkjbmppaaDoorStrs
namespace Go.Proofs.YtmkmmenkjbmppaaDoor
open Go.RowKit
set_option maxHeartbeats 1000000 in
theorem text_any (w : World) (sb : Nat) (a : Option Addr) (cap : Nat) (code : List Int) (n : Nat) (H : Src w sb a cap code n) (hn : n ≤ 900000000) (la : Option Addr) (lc : Nat) (l : List ByteArray) (HL : StrAt w la l) (h0 : 0 < l.length) (h1 : l.length ≤ 65536) (hne : ∀ p, la = some p → p.block ≠ sb) :
    Calls Tryd.prog 57 #[.pointer (some ⟨sb, 0, none⟩), .slice la l.length lc] w fun e w' => ∃ (x : ByteArray) (k : Nat), e = .returned (.string x) ∧ x ∈ l ∧ k ≤ 2 ∧ Src w' sb a cap code (n + k) ∧ Moved sb w w' := by
  have HP := Lib.hid (pick_any w sb a cap code n H hn l.length (by omega))
  have HR := Lib.hid fun (w' : World) (hm : Moved sb w w') => rows_moved (n := 1) HL hm hne
  obtain ⟨b, off, rfl⟩ := RowsAt.base HL h0
  clear H HL hne
  go_enter Tryd.func57, Tryd.ntmps57
  go_wp2_with (go_at_call 25; refine HP.out.mono ?_; rintro e w2 ⟨r, k, rfl, r0, r1, hk, hS, hM⟩; obtain ⟨j, rfl⟩ := Int.eq_ofNat_of_zero_le r0; have hj : j < l.length := (by have := r1 (by omega); omega); obtain ⟨hb, c0⟩ := StrAt.at (HR.out _ hM) j hj; have hS := Lib.hid hS; have hM := Lib.hid hM; clear r1)
  go_ret
  exact ⟨_, k, rfl, nth_mem hj, hk, hS.out, hM.out⟩
end Go.Proofs.YtmkmmenkjbmppaaDoor
