/- Parts of the day: the sum of their lengths is how many minutes they hold, each counted as often as it is held. Plain Lean. -/
import Derived.Test.YtpmbaemfpkcjnaaBase
namespace Go.Proofs.Ytpmbaemfpkcjnaa
open Go.RowKit
/-- The sum of the lengths. -/
def lenSum : List (Int × Int) → Int
  | [] => 0
  | p :: L => (p.2 - p.1) + lenSum L
/-- How many parts hold a minute. -/
def actN : List (Int × Int) → Nat → Nat
  | [], _ => 0
  | p :: L, m => (if p.1 ≤ (m : Int) ∧ (m : Int) < p.2 then 1 else 0) + actN L m
/-- The sum over the first minutes. -/
def sumM (f : Nat → Nat) : Nat → Nat
  | 0 => 0
  | n + 1 => sumM f n + f n
theorem sumM_add (f h : Nat → Nat) : ∀ n, sumM (fun m => f m + h m) n = sumM f n + sumM h n
  | 0 => rfl
  | n + 1 => by unfold sumM; rw [sumM_add f h n]; omega
theorem sumM_le {f h : Nat → Nat} : ∀ {n : Nat}, (∀ m, m < n → f m ≤ h m) → sumM f n ≤ sumM h n
  | 0, _ => Nat.le_refl _
  | n + 1, e => by
    unfold sumM
    have := sumM_le (f := f) (h := h) (n := n) fun m hm => e m (by omega)
    have := e n (by omega)
    omega
theorem sumM_congr {f h : Nat → Nat} : ∀ {n : Nat}, (∀ m, m < n → f m = h m) → sumM f n = sumM h n
  | 0, _ => rfl
  | n + 1, e => by unfold sumM; rw [sumM_congr fun m hm => e m (by omega), e n (by omega)]
theorem sumM_mul (c : Nat) (f : Nat → Nat) : ∀ n, sumM (fun m => c * f m) n = c * sumM f n
  | 0 => rfl
  | n + 1 => by unfold sumM; rw [sumM_mul c f n, Nat.mul_add]
theorem sumM_zero : ∀ n, sumM (fun _ => 0) n = 0
  | 0 => rfl
  | n + 1 => by unfold sumM; rw [sumM_zero n]
theorem sumM_one {a b : Int} (ha : 0 ≤ a) (hab : a ≤ b) : ∀ n : Nat, (sumM (fun m => if a ≤ (m : Int) ∧ (m : Int) < b then 1 else 0) n : Int) = if (n : Int) ≤ a then 0 else if (n : Int) ≤ b then n - a else b - a
  | 0 => by rw [if_pos (by omega)]; rfl
  | n + 1 => by
    have ih := sumM_one ha hab n
    show ((sumM _ n + _ : Nat) : Int) = _
    rw [Int.natCast_add, ih]
    push_cast
    by_cases h1 : (n : Int) < a
    · rw [if_pos (by omega), if_neg (by omega), if_pos (by omega)]; rfl
    · by_cases h2 : (n : Int) < b
      · rw [if_pos (show a ≤ (n : Int) ∧ (n : Int) < b by omega), if_neg (show ¬ ((n : Int) + 1 ≤ a) by omega), if_pos (show (n : Int) + 1 ≤ b by omega)]
        split
        · push_cast; omega
        · rw [if_pos (by omega)]; push_cast; omega
      · rw [if_neg (show ¬ (a ≤ (n : Int) ∧ (n : Int) < b) by omega), if_neg (show ¬ ((n : Int) + 1 ≤ a) by omega), if_neg (show ¬ ((n : Int) + 1 ≤ b) by omega)]
        split
        · push_cast; omega
        · split
          · push_cast; omega
          · push_cast; omega
/-- Both ways of counting. -/
theorem sumM_len {n : Nat} : ∀ {L : List (Int × Int)}, (∀ p ∈ L, 0 ≤ p.1 ∧ p.1 ≤ p.2 ∧ p.2 ≤ n) → (sumM (actN L) n : Int) = lenSum L
  | [], _ => by
    have : sumM (actN []) n = 0 := sumM_zero n
    rw [this]; rfl
  | p :: L, h => by
    obtain ⟨h1, h2, h3⟩ := h p (List.mem_cons_self ..)
    have ih := sumM_len (n := n) (L := L) fun q hq => h q (List.mem_cons_of_mem _ hq)
    have e : sumM (actN (p :: L)) n = sumM (fun m => if p.1 ≤ (m : Int) ∧ (m : Int) < p.2 then 1 else 0) n + sumM (actN L) n := sumM_add _ _ n
    have h4 := sumM_one h1 h2 n
    rw [e, Int.natCast_add, ih, h4]
    show _ = (p.2 - p.1) + lenSum L
    by_cases h5 : (n : Int) ≤ p.1
    · rw [if_pos h5]; omega
    · rw [if_neg h5]
      by_cases h6 : (n : Int) ≤ p.2
      · rw [if_pos h6]; omega
      · rw [if_neg h6]
/-- Parts that lie apart hold a minute once, if at all; works hold it at most c times: the sums of lengths. -/
theorem parts_law {n c : Nat} {B W : List (Int × Int)} (hB : ∀ p ∈ B, 0 ≤ p.1 ∧ p.1 ≤ p.2 ∧ p.2 ≤ n) (hW : ∀ p ∈ W, 0 ≤ p.1 ∧ p.1 ≤ p.2 ∧ p.2 ≤ n) (h1 : ∀ m, m < n → actN B m ≤ actN W m) (h2 : ∀ m, m < n → actN W m ≤ c * actN B m) : lenSum B ≤ lenSum W ∧ lenSum W ≤ c * lenSum B := by
  rw [← sumM_len hB, ← sumM_len hW]
  have h3 := sumM_le h1
  have h4 := sumM_le h2
  rw [sumM_mul] at h4
  refine ⟨by omega, ?_⟩
  have h5 : ((sumM (actN W) n : Nat) : Int) ≤ ((c * sumM (actN B) n : Nat) : Int) := by omega
  rw [Int.natCast_mul] at h5
  exact h5
/-- How many crews are free only behind a minute. -/
def busyC (F : List Int) (m : Int) : Nat := F.countP fun x => decide (m < x)
theorem busyC_le (F : List Int) (m : Int) : busyC F m ≤ F.length := List.countP_le_length
theorem busyC_cons (x : Int) (F : List Int) (m : Int) : busyC (x :: F) m = busyC F m + (if m < x then 1 else 0) := by
  unfold busyC
  rw [List.countP_cons]
  simp only [decide_eq_true_eq]
/-- A crew takes a work up to e. -/
theorem busyC_set {e m : Int} : ∀ {F : List Int} {c : Nat}, c < F.length → nth F c ≤ e → busyC F m ≤ busyC (F.set c e) m ∧ (nth F c ≤ m → m < e → busyC (F.set c e) m = busyC F m + 1)
  | [], _, h, _ => absurd h (Nat.not_lt_zero _)
  | x :: F, 0, _, h => by
    have h : x ≤ e := h
    show busyC (x :: F) m ≤ busyC (e :: F) m ∧ (x ≤ m → m < e → busyC (e :: F) m = busyC (x :: F) m + 1)
    rw [busyC_cons, busyC_cons]
    refine ⟨?_, fun h1 h2 => ?_⟩
    · split
      · rw [if_pos (by omega)]; exact Nat.le_refl _
      · omega
    · rw [if_pos h2, if_neg (by omega)]
  | x :: F, c + 1, h, he => by
    have h' : c < F.length := by simpa using h
    obtain ⟨h1, h2⟩ := busyC_set (e := e) (m := m) h' (show nth F c ≤ e from he)
    show busyC (x :: F) m ≤ busyC (x :: F.set c e) m ∧ (nth F c ≤ m → m < e → busyC (x :: F.set c e) m = busyC (x :: F) m + 1)
    rw [busyC_cons, busyC_cons]
    exact ⟨by omega, fun h3 h4 => by have := h2 h3 h4; omega⟩
theorem actN_snoc (p : Int × Int) (m : Nat) : ∀ L : List (Int × Int), actN (L ++ [p]) m = actN L m + (if p.1 ≤ (m : Int) ∧ (m : Int) < p.2 then 1 else 0)
  | [] => by show (if _ then 1 else 0) + 0 = 0 + _; omega
  | q :: L => by
    show (if _ then 1 else 0) + actN (L ++ [p]) m = ((if _ then 1 else 0) + actN L m) + _
    rw [actN_snoc p m L]; omega
/-- No more works at a minute than crews that are busy then: kept by a work more. -/
theorem act_step {W : List (Int × Int)} {F : List Int} (h : ∀ m : Nat, actN W m ≤ busyC F m) {c : Nat} (hc : c < F.length) {b e : Int} (hb : nth F c ≤ b) (hbe : b ≤ e) : ∀ m : Nat, actN (W ++ [(b, e)]) m ≤ busyC (F.set c e) m := fun m => by
  obtain ⟨h1, h2⟩ := busyC_set (e := e) (m := (m : Int)) hc (show nth F c ≤ e by omega)
  have := h m
  rw [actN_snoc]
  split
  · rename_i h3
    have h3 : b ≤ (m : Int) ∧ (m : Int) < e := h3
    rw [h2 (by omega) h3.2]; omega
  · omega
end Go.Proofs.Ytpmbaemfpkcjnaa
