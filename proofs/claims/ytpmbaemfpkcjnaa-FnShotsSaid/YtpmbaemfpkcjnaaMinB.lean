/- Parts that lie apart hold a minute once, if at all. Plain Lean. -/
import Derived.Test.YtpmbaemfpkcjnaaMinutes
import Derived.Test.YtpmbaemfpkcjnaaBlk
namespace Go.Proofs.Ytpmbaemfpkcjnaa
open Go.RowKit
theorem actN_zero : ∀ {P : List (Int × Int)} {m : Nat}, (∀ p ∈ P, ¬ (p.1 ≤ (m : Int) ∧ (m : Int) < p.2)) → actN P m = 0
  | [], _, _ => rfl
  | p :: P, m, h => by
    show (if _ then 1 else 0) + actN P m = 0
    rw [if_neg (h p (List.mem_cons_self ..)), actN_zero fun q hq => h q (List.mem_cons_of_mem _ hq)]
theorem actN_can : ∀ {P : List (Int × Int)}, Can P → ∀ m : Nat, actN P m ≤ 1
  | [], _, _ => Nat.zero_le _
  | p :: P, h, m => by
    show (if p.1 ≤ (m : Int) ∧ (m : Int) < p.2 then 1 else 0) + actN P m ≤ 1
    split
    · rename_i h1
      rw [actN_zero fun q hq hc => by have := can_head h hq; omega]
      exact Nat.le_refl _
    · have := actN_can h.tail m; omega
theorem actN_cov : ∀ {P : List (Int × Int)} {m : Nat}, 0 < actN P m ↔ cov P m
  | [], m => ⟨fun h => absurd h (Nat.lt_irrefl _), fun ⟨_, h, _⟩ => by cases h⟩
  | p :: P, m => by
    have ih := actN_cov (P := P) (m := m)
    have e : actN (p :: P) m = (if p.1 ≤ (m : Int) ∧ (m : Int) < p.2 then 1 else 0) + actN P m := rfl
    rw [e]
    constructor
    · intro h
      by_cases h1 : p.1 ≤ (m : Int) ∧ (m : Int) < p.2
      · exact ⟨p, List.mem_cons_self .., h1⟩
      · rw [if_neg h1, Nat.zero_add] at h
        obtain ⟨q, hq, h2⟩ := ih.1 h
        exact ⟨q, List.mem_cons_of_mem _ hq, h2⟩
    · rintro ⟨q, hq, h2⟩
      rcases List.mem_cons.1 hq with rfl | hq
      · rw [if_pos h2]; omega
      · have := ih.2 ⟨q, hq, h2⟩; omega
/-- The parts of works, of which no more than c are done at once. -/
theorem blocked_law {n c : Nat} {B W : List (Int × Int)} (hC : Can B) (hc : ∀ m : Nat, cov B m ↔ cov W m) (hB : ∀ p ∈ B, 0 ≤ p.1 ∧ p.1 ≤ p.2 ∧ p.2 ≤ n) (hW : ∀ p ∈ W, 0 ≤ p.1 ∧ p.1 ≤ p.2 ∧ p.2 ≤ n) (h : ∀ m, m < n → actN W m ≤ c) : lenSum B ≤ lenSum W ∧ lenSum W ≤ c * lenSum B := by
  refine parts_law hB hW (fun m _ => ?_) (fun m hm => ?_)
  · have h1 := actN_can hC m
    rcases Nat.eq_zero_or_pos (actN B m) with h2 | h2
    · omega
    · have := actN_cov.2 ((hc m).1 (actN_cov.1 h2)); omega
  · rcases Nat.eq_zero_or_pos (actN W m) with h2 | h2
    · omega
    · have h3 := actN_cov.2 ((hc m).2 (actN_cov.1 h2))
      have h4 := actN_can hC m
      rw [show actN B m = 1 by omega, Nat.mul_one]
      exact h m hm
end Go.Proofs.Ytpmbaemfpkcjnaa
