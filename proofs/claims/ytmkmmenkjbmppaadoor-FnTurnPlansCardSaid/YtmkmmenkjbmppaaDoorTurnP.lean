/- Turns given to people: who may have the next one, in how many ways the others can be given. Plain Lean. -/
import Derived.Test.YtmkmmenkjbmppaaDoorLists
namespace Go.Proofs.YtmkmmenkjbmppaaDoor
open Go.RowKit
/-- Those who had the last turns. -/
def recT (G : Nat) (g : List Int) : List Int := g.drop (g.length + 1 - G)
def mayT (A : List (List Int)) (G : Nat) (g : List Int) (p : Int) : Bool := !hasB (recT G g) p && !hasB (nth A p.toNat) (g.length : Int)
/-- The sum over the first people. -/
def sumT (f : Nat → Nat) : Nat → Nat
  | 0 => 0
  | n + 1 => sumT f n + f n
theorem sumT_congr {f h : Nat → Nat} : ∀ {n : Nat}, (∀ k, k < n → f k = h k) → sumT f n = sumT h n
  | 0, _ => rfl
  | n + 1, e => by unfold sumT; rw [sumT_congr fun k hk => e k (by omega), e n (by omega)]
theorem sumT_pos {f : Nat → Nat} : ∀ {n : Nat}, 0 < sumT f n → ∃ k, k < n ∧ 0 < f k
  | 0, h => absurd h (Nat.lt_irrefl _)
  | n + 1, h => by
    unfold sumT at h
    rcases Nat.eq_zero_or_pos (f n) with h1 | h1
    · obtain ⟨k, hk, h2⟩ := sumT_pos (f := f) (n := n) (by omega)
      exact ⟨k, by omega, h2⟩
    · exact ⟨n, by omega, h1⟩
theorem sumT_le {f : Nat → Nat} {m : Nat} : ∀ {n : Nat}, (∀ k, k < n → f k ≤ m) → sumT f n ≤ n * m
  | 0, _ => by simp [sumT]
  | n + 1, h => by
    have h1 := sumT_le (f := f) (m := m) (n := n) fun k hk => h k (by omega)
    have h2 := h n (by omega)
    unfold sumT
    rw [Nat.succ_mul]; omega
/-- In how many ways the other turns can be given. -/
def cntT (A : List (List Int)) (P G : Nat) : Nat → List Int → Nat
  | 0, _ => 1
  | f + 1, g => sumT (fun p => if mayT A G g (p : Int) = true then cntT A P G f (g ++ [(p : Int)]) else 0) P
theorem cntT_le (A : List (List Int)) (P G : Nat) : ∀ (f : Nat) (g : List Int), cntT A P G f g ≤ P ^ f
  | 0, _ => Nat.le_refl _
  | f + 1, g => by
    unfold cntT
    rw [Nat.pow_succ, Nat.mul_comm]
    exact sumT_le fun k _ => by
      split
      · exact cntT_le A P G f _
      · exact Nat.zero_le _
/-- Who had the last turns, behind one more. -/
def stepR (G n : Nat) (r : List Int) (p : Int) : List Int := if n + 2 ≤ G then r ++ [p] else if G ≤ 1 then [] else r.drop 1 ++ [p]
theorem recT_step {G : Nat} (hG : 1 ≤ G) (g : List Int) (p : Int) : recT G (g ++ [p]) = stepR G g.length (recT G g) p := by
  unfold recT stepR
  rw [List.length_append, List.length_cons, List.length_nil]
  by_cases h1 : g.length + 2 ≤ G
  · rw [if_pos h1, show g.length + (0 + 1) + 1 - G = 0 by omega, show g.length + 1 - G = 0 by omega]; first | done | rfl
  · rw [if_neg h1]
    by_cases h2 : G ≤ 1
    · rw [if_pos h2]
      exact List.drop_of_length_le (by rw [List.length_append]; simp; omega)
    · rw [if_neg h2, List.drop_drop, List.drop_append_of_le_length (by omega)]
      congr 2
      omega
/-- The number of ways hangs on how many turns are given, and on who had the last ones, alone. -/
theorem cntT_rec (A : List (List Int)) (P : Nat) {G : Nat} (hG : 1 ≤ G) : ∀ (f : Nat) (g h : List Int), g.length = h.length → recT G g = recT G h → cntT A P G f g = cntT A P G f h
  | 0, _, _, _, _ => rfl
  | f + 1, g, h, hl, hr => by
    unfold cntT
    refine sumT_congr fun k _ => ?_
    have e : mayT A G g (k : Int) = mayT A G h (k : Int) := by unfold mayT; rw [hr, hl]
    rw [e, cntT_rec A P hG f (g ++ [(k : Int)]) (h ++ [(k : Int)]) (by rw [List.length_append, List.length_append, hl]) (by rw [recT_step hG, recT_step hG, hr, hl])]
theorem cntT_pos {A : List (List Int)} {P G f : Nat} {g : List Int} (h : 0 < cntT A P G (f + 1) g) : ∃ p, p < P ∧ mayT A G g (p : Int) = true ∧ 0 < cntT A P G f (g ++ [(p : Int)]) := by
  unfold cntT at h
  obtain ⟨p, hp, h1⟩ := sumT_pos h
  split at h1
  · rename_i h2; exact ⟨p, hp, h2, h1⟩
  · omega
/-- Turns given one after the other. -/
def wayT (A : List (List Int)) (P G : Nat) (g : List Int) : Prop := ∀ t, t < g.length → (0 ≤ nth g t ∧ nth g t < P) ∧ mayT A G (g.take t) (nth g t) = true
theorem wayT.nil (A : List (List Int)) (P G : Nat) : wayT A P G [] := fun _ h => absurd h (Nat.not_lt_zero _)
theorem wayT.push {A : List (List Int)} {P G : Nat} {g : List Int} (h : wayT A P G g) {p : Int} (h0 : 0 ≤ p) (h1 : p < P) (hm : mayT A G g p = true) : wayT A P G (g ++ [p]) := fun t ht => by
  rcases (show t < g.length ∨ t = g.length by rw [List.length_append] at ht; simp only [List.length_cons, List.length_nil] at ht; omega) with h2 | rfl
  · have e1 : nth (g ++ [p]) t = nth g t := by simp [nth, List.getElem?_append_left h2]
    rw [e1, List.take_append_of_le_length (by omega)]
    exact h t h2
  · have e1 : nth (g ++ [p]) g.length = p := by simp [nth]
    rw [e1, List.take_append_of_le_length (Nat.le_refl _), List.take_length]
    exact ⟨⟨h0, h1⟩, hm⟩
/-- What the law asks of a way. -/
theorem wayT.law {A : List (List Int)} {P G : Nat} {g : List Int} (h : wayT A P G g) {t : Nat} (ht : t < g.length) : (0 ≤ nth g t ∧ nth g t < P) ∧ hasB (nth A (nth g t).toNat) (t : Int) = false ∧ ∀ k, k < t → t - k < G → nth g k ≠ nth g t := by
  obtain ⟨h1, h2⟩ := h t ht
  unfold mayT at h2
  rw [Bool.and_eq_true, Bool.not_eq_true', Bool.not_eq_true', List.length_take, show min t g.length = t by omega] at h2
  refine ⟨h1, h2.2, fun k hk hg e => ?_⟩
  have h3 : nth g k ∈ recT G (g.take t) := by
    unfold recT
    rw [List.length_take, show min t g.length = t by omega]
    refine List.mem_iff_getElem.2 ⟨k - (t + 1 - G), ?_, ?_⟩
    · rw [List.length_drop, List.length_take]; omega
    · rw [List.getElem_drop, List.getElem_take, nth_eq g k (by omega)]
      congr 1
      omega
  have h4 := hasB_iff.2 h3
  rw [e, h2.1] at h4
  cases h4
end Go.Proofs.YtmkmmenkjbmppaaDoor
