/- The depth that has the most weak tests near it. Plain Lean. -/
import Derived.Test.YtdopffhekinbnaaBase
namespace Go.Proofs.Ytdopffhekinbnaa
open Go.RowKit
/-- How many of the depths are near one. -/
def nearN (D : List Int) (near : Int) (d : Int) : Nat := D.countP fun x => decide (-near ≤ x - d ∧ x - d ≤ near)
/-- b is the least of those depths that have the most, m, near them. -/
def Top (N : Int → Nat) (D : List Int) (b : Int) (m : Nat) : Prop := (D = [] ∧ b = 0 ∧ m = 0) ∨ (b ∈ D ∧ N b = m ∧ ∀ d ∈ D, N d ≤ m ∧ (N d = m → b ≤ d))
theorem Top.ext {N : Int → Nat} {D E : List Int} (h : ∀ x, x ∈ D ↔ x ∈ E) {b c : Int} {m n : Nat} (h1 : Top N D b m) (h2 : Top N E c n) : b = c ∧ m = n := by
  rcases h1 with ⟨rfl, rfl, rfl⟩ | ⟨h3, h4, h5⟩
  · rcases h2 with ⟨-, rfl, rfl⟩ | ⟨h6, -⟩
    · exact ⟨rfl, rfl⟩
    · have := (h c).2 h6; cases this
  · rcases h2 with ⟨rfl, -, -⟩ | ⟨h6, h7, h8⟩
    · have := (h b).1 h3; cases this
    · have h9 := h8 b ((h b).1 h3)
      have h10 := h5 c ((h c).2 h6)
      have hmn : m = n := by omega
      subst hmn
      have := h9.2 h4
      have := h10.2 h7
      omega
/-- One depth more, as the reference goes. -/
theorem Top.step {N : Int → Nat} {D : List Int} {b : Int} {m : Nat} (h : Top N D b m) {d : Int} (hd : 0 < N d) :
    Top N (D ++ [d]) (if m < N d ∨ (N d = m ∧ d < b) then d else b) (if m < N d ∨ (N d = m ∧ d < b) then N d else m) := by
  have hsp : ∀ x, x ∈ D ++ [d] → x ∈ D ∨ x = d := fun x hx => by simpa using hx
  split
  · rename_i hc
    refine .inr ⟨by simp, rfl, fun x hx => ?_⟩
    rcases hsp x hx with h1 | rfl
    · rcases h with ⟨rfl, -, -⟩ | ⟨h3, h4, h5⟩
      · cases h1
      · have := h5 x h1
        refine ⟨by omega, fun he => ?_⟩
        rcases hc with hc | hc
        · omega
        · have := this.2 (by omega); omega
    · exact ⟨Nat.le_refl _, fun _ => Int.le_refl _⟩
  · rename_i hc
    rcases h with ⟨rfl, rfl, rfl⟩ | ⟨h3, h4, h5⟩
    · exact absurd (.inl hd) hc
    · refine .inr ⟨List.mem_append_left _ h3, h4, fun x hx => ?_⟩
      rcases hsp x hx with h1 | rfl
      · exact h5 x h1
      · exact ⟨by omega, fun he => by omega⟩
/-- The same where the depths come in order, as the program goes. -/
theorem Top.step_up {N : Int → Nat} {D : List Int} {b : Int} {m : Nat} (h : Top N D b m) {d : Int} (hd : 0 < N d) (hs : ∀ x ∈ D, x ≤ d) :
    Top N (D ++ [d]) (if m < N d then d else b) (if m < N d then N d else m) := by
  have := h.step hd
  have e : (m < N d ∨ (N d = m ∧ d < b)) ↔ m < N d := by
    constructor
    · rintro (h1 | ⟨h1, h2⟩)
      · exact h1
      · rcases h with ⟨rfl, rfl, rfl⟩ | ⟨h3, -, -⟩
        · omega
        · have := hs b h3; omega
    · exact .inl
  simpa only [e] using this
theorem Top.zero (N : Int → Nat) : Top N [] 0 0 := .inl ⟨rfl, rfl, rfl⟩
theorem nearN_perm {D E : List Int} (h : D.Perm E) (near d : Int) : nearN D near d = nearN E near d := h.countP_eq _
theorem nearN_self {D : List Int} {near d : Int} (h : d ∈ D) (h0 : 0 ≤ near) : 0 < nearN D near d := by
  unfold nearN
  rw [List.countP_pos_iff]
  exact ⟨d, h, by simp; omega⟩
/-- What the reference's loop keeps: the best depth and how many are near it, among the first k of a list. -/
def topTo (N : Int → Nat) : List Int → Int × Nat
  | l => l.foldl (fun s d => if s.2 < N d ∨ (N d = s.2 ∧ d < s.1) then (d, N d) else s) (0, 0)
theorem topTo_snoc (N : Int → Nat) (l : List Int) (d : Int) : topTo N (l ++ [d]) = if (topTo N l).2 < N d ∨ (N d = (topTo N l).2 ∧ d < (topTo N l).1) then (d, N d) else topTo N l := by
  unfold topTo; rw [List.foldl_append]; rfl
theorem topTo_top (N : Int → Nat) : ∀ l : List Int, (∀ d ∈ l, 0 < N d) → Top N l (topTo N l).1 (topTo N l).2 := by
  have key : ∀ r : List Int, (∀ d ∈ r.reverse, 0 < N d) → Top N r.reverse (topTo N r.reverse).1 (topTo N r.reverse).2 := by
    intro r
    induction r with
    | nil => intro _; exact Top.zero N
    | cons d r ih =>
      intro h
      rw [List.reverse_cons] at h ⊢
      have h1 := (ih fun x hx => h x (List.mem_append_left _ hx)).step (d := d) (h d (by simp))
      rw [topTo_snoc]
      split
      · rename_i hc; rw [if_pos hc, if_pos hc] at h1; exact h1
      · rename_i hc; rw [if_neg hc, if_neg hc] at h1; exact h1
  intro l h
  have := key l.reverse
  rw [List.reverse_reverse] at this
  exact this h
/-- The program's loop over the sorted depths keeps the same in the end. -/
def upTo (N : Int → Nat) : List Int → Int × Nat
  | l => l.foldl (fun s d => if s.2 < N d then (d, N d) else s) (0, 0)
theorem upTo_snoc (N : Int → Nat) (l : List Int) (d : Int) : upTo N (l ++ [d]) = if (upTo N l).2 < N d then (d, N d) else upTo N l := by
  unfold upTo; rw [List.foldl_append]; rfl
theorem upTo_top (N : Int → Nat) : ∀ l : List Int, (∀ d ∈ l, 0 < N d) → l.Pairwise (· ≤ ·) → Top N l (upTo N l).1 (upTo N l).2 := by
  have key : ∀ r : List Int, (∀ d ∈ r.reverse, 0 < N d) → r.reverse.Pairwise (· ≤ ·) → Top N r.reverse (upTo N r.reverse).1 (upTo N r.reverse).2 := by
    intro r
    induction r with
    | nil => intro _ _; exact Top.zero N
    | cons d r ih =>
      intro h hs
      rw [List.reverse_cons] at h hs ⊢
      rw [List.pairwise_append] at hs
      have h1 := (ih (fun x hx => h x (List.mem_append_left _ hx)) hs.1).step_up (d := d) (h d (by simp)) (fun x hx => hs.2.2 x hx d (by simp))
      rw [upTo_snoc]
      split
      · rename_i hc; rw [if_pos hc, if_pos hc] at h1; exact h1
      · rename_i hc; rw [if_neg hc, if_neg hc] at h1; exact h1
  intro l h
  have := key l.reverse
  rw [List.reverse_reverse] at this
  exact this h
theorem upTo_topTo {N : Int → Nat} {D S : List Int} (hp : S.Perm D) (hs : S.Pairwise (· ≤ ·)) (h : ∀ d ∈ D, 0 < N d) : upTo N S = topTo N D := by
  have h1 := upTo_top N S (fun d hd => h d ((hp.mem_iff).1 hd)) hs
  have h2 := topTo_top N D h
  obtain ⟨e1, e2⟩ := h1.ext (fun x => hp.mem_iff) h2
  exact Prod.ext e1 e2
end Go.Proofs.Ytdopffhekinbnaa
