/- A text cut at every instance of a byte, and joined again. Plain Lean, no program in sight; no conditions. -/
import Derived.Test.YtfiiaegfikocoaaDoorNum
import Derived.Lib.Split
import Derived.Lib.Join
namespace Go.Proofs.YtfiiaegfikocoaaDoor
open Go.RowKit
def cuts (c : UInt8) : List UInt8 → List (List UInt8)
  | [] => [[]]
  | b :: r => if b = c then [] :: cuts c r else (b :: (cuts c r).headD []) :: (cuts c r).tail
section
variable {c : UInt8}
theorem cuts_none : ∀ {l : List UInt8}, c ∉ l → cuts c l = [l]
  | [], _ => rfl
  | b :: r, h => by
    have hb : b ≠ c := fun e => h (by rw [e]; exact List.mem_cons_self ..)
    rw [cuts, if_neg hb, cuts_none (l := r) (fun hm => h (List.mem_cons_of_mem _ hm))]; rfl
theorem cuts_hit : ∀ {a : List UInt8} (b : List UInt8), c ∉ a → cuts c (a ++ c :: b) = a :: cuts c b
  | [], b, _ => by rw [List.nil_append, cuts, if_pos rfl]
  | x :: a, b, h => by
    have hx : x ≠ c := fun e => h (by rw [e]; exact List.mem_cons_self ..)
    rw [List.cons_append, cuts, if_neg hx, cuts_hit (a := a) b (fun hm => h (List.mem_cons_of_mem _ hm))]; rfl
theorem cuts_ne (l : List UInt8) : cuts c l ≠ [] := by
  cases l with
  | nil => simp [cuts]
  | cons b r => rw [cuts]; split <;> simp
theorem cuts_cases (c : UInt8) (l : List UInt8) : c ∉ l ∨ ∃ a b, l = a ++ c :: b ∧ c ∉ a := by
  by_cases h : c ∈ l
  · exact .inr (List.eq_append_cons_of_mem h)
  · exact .inl h
theorem cuts_len (l : List UInt8) : 1 ≤ (cuts c l).length ∧ (cuts c l).length ≤ l.length + 1 := by
  refine ⟨List.length_pos_iff.2 (cuts_ne l), ?_⟩
  rcases cuts_cases c l with h | ⟨a, b, e, h⟩
  · rw [cuts_none h]; simp
  · have hlt : b.length < l.length := by rw [e, List.length_append, List.length_cons]; omega
    have := (cuts_len b).2
    rw [e, cuts_hit b h, List.length_cons, List.length_append, List.length_cons]
    omega
termination_by l.length
/-- One more byte. -/
theorem cuts_snoc : ∀ (l : List UInt8) (b : UInt8) (ps : List (List UInt8)) (q : List UInt8), cuts c l = ps ++ [q] → cuts c (l ++ [b]) = if b = c then ps ++ [q, []] else ps ++ [q ++ [b]]
  | [], b, ps, q, h => by
    have h1 : ps = [] ∧ q = [] := by
      cases ps with
      | nil => simp [cuts] at h; exact ⟨rfl, h⟩
      | cons p ps => have := congrArg List.length h; simp [cuts] at this
    obtain ⟨rfl, rfl⟩ := h1
    rw [List.nil_append, cuts]
    split <;> simp [cuts]
  | x :: l, b, ps, q, h => by
    obtain ⟨ps', q', e⟩ : ∃ ps' q', cuts c l = ps' ++ [q'] := ⟨(cuts c l).dropLast, (cuts c l).getLast (cuts_ne l), (List.dropLast_concat_getLast _).symm⟩
    have ih := cuts_snoc l b ps' q' e
    rw [List.cons_append, cuts]
    rw [cuts, e] at h
    rw [ih]
    by_cases hx : x = c
    · rw [if_pos hx] at h ⊢
      rw [← List.cons_append] at h
      obtain ⟨rfl, h2⟩ := List.append_inj' h rfl
      simp only [List.cons.injEq, and_true] at h2
      subst h2
      split <;> rfl
    · rw [if_neg hx] at h ⊢
      cases ps' with
      | nil =>
        have h' : [x :: q'] = ps ++ [q] := h
        have h1 : ps = [] ∧ q = x :: q' := by
          cases ps with
          | nil => simp at h'; exact ⟨rfl, h'.symm⟩
          | cons p ps => have := congrArg List.length h'; simp at this
        obtain ⟨rfl, rfl⟩ := h1
        split <;> rfl
      | cons p ps' =>
        have h' : (x :: p) :: ps' ++ [q'] = ps ++ [q] := h
        obtain ⟨rfl, h2⟩ := List.append_inj' h' rfl
        simp only [List.cons.injEq, and_true] at h2
        subst h2
        split <;> rfl
theorem cuts_last (l : List UInt8) : ∃ ps q, cuts c l = ps ++ [q] := ⟨(cuts c l).dropLast, (cuts c l).getLast (cuts_ne l), (List.dropLast_concat_getLast _).symm⟩
theorem join_cons2 (x y : List UInt8) (r : List (List UInt8)) (sep : List UInt8) : Lib.join (x :: y :: r) sep = x ++ sep ++ Lib.join (y :: r) sep := by
  rw [Lib.join_cons, Lib.join_cons]; simp [Lib.joinTail]
theorem join_cuts (l : List UInt8) : Lib.join (cuts c l) [c] = l := by
  rcases cuts_cases c l with h | ⟨a, b, e, h⟩
  · rw [cuts_none h, Lib.join_one]
  · have hlt : b.length < l.length := by rw [e, List.length_append, List.length_cons]; omega
    have ih := join_cuts b
    rw [e, cuts_hit b h]
    cases e : cuts c b with
    | nil => exact absurd e (cuts_ne b)
    | cons y r => rw [join_cons2, ← e, ih]; simp
termination_by l.length
theorem cuts_free (l : List UInt8) : ∀ p ∈ cuts c l, c ∉ p := by
  rcases cuts_cases c l with h | ⟨a, b, e, h⟩
  · rw [cuts_none h]; intro p hp; simp only [List.mem_singleton] at hp; subst hp; exact h
  · have hlt : b.length < l.length := by rw [e, List.length_append, List.length_cons]; omega
    have ih := cuts_free b
    rw [e, cuts_hit b h]
    intro p hp
    rcases List.mem_cons.1 hp with rfl | hp
    · exact h
    · exact ih p hp
termination_by l.length
theorem cuts_join : ∀ (ps : List (List UInt8)), ps ≠ [] → (∀ p ∈ ps, c ∉ p) → cuts c (Lib.join ps [c]) = ps
  | [], h, _ => absurd rfl h
  | [x], _, h => by rw [Lib.join_one]; exact cuts_none (h x (List.mem_cons_self ..))
  | x :: y :: r, _, h => by
    rw [join_cons2, List.append_assoc, List.singleton_append, cuts_hit _ (h x (List.mem_cons_self ..)), cuts_join (y :: r) (by simp) (fun p hp => h p (List.mem_cons_of_mem _ hp))]
/-! ### Go's own -/
theorem index_none1 : ∀ {l : List UInt8}, c ∉ l → Lib.index l [c] = -1
  | [], _ => rfl
  | b :: r, h => by
    have hb : c ≠ b := fun e => h (by rw [e]; exact List.mem_cons_self ..)
    unfold Lib.index
    rw [if_neg (by simp [List.isPrefixOf, hb]), index_none1 (l := r) (fun hm => h (List.mem_cons_of_mem _ hm))]; rfl
theorem index_hit1 : ∀ {a : List UInt8} (b : List UInt8), c ∉ a → Lib.index (a ++ c :: b) [c] = a.length
  | [], b, _ => by
    show Lib.index (c :: b) [c] = 0
    unfold Lib.index
    rw [if_pos (by simp [List.isPrefixOf])]
  | x :: a, b, h => by
    have hx : c ≠ x := fun e => h (by rw [e]; exact List.mem_cons_self ..)
    have ih := index_hit1 (a := a) b (fun hm => h (List.mem_cons_of_mem _ hm))
    rw [List.cons_append]
    unfold Lib.index
    rw [if_neg (by simp [List.isPrefixOf, hx]), ih, if_neg (by rw [beq_iff_eq]; omega)]
    simp
theorem drop_hit (a b : List UInt8) : (a ++ c :: b).drop (a.length + 1) = b := by
  rw [← List.drop_drop, List.drop_left, List.drop_succ_cons, List.drop_zero]
theorem splitK_cuts : ∀ (k : Nat) (l : List UInt8), Lib.splitK [c] 0 k l = if (cuts c l).length ≤ k + 1 then cuts c l else (cuts c l).take k ++ [Lib.join ((cuts c l).drop k) [c]]
  | 0, l => by
    show [l] = _
    rcases cuts_cases c l with h | ⟨a, b, rfl, h⟩
    · rw [cuts_none h, if_pos (by simp)]
    · rw [if_neg]
      · rw [List.take_zero, List.drop_zero, join_cuts, List.nil_append]
      · rw [cuts_hit b h, List.length_cons]
        have := (cuts_len (c := c) b).1
        omega
  | k + 1, l => by
    rcases cuts_cases c l with h | ⟨a, b, rfl, h⟩
    · rw [cuts_none h, if_pos (by simp), Lib.splitK, index_none1 h, if_pos (by decide)]
    · rw [Lib.splitK, index_hit1 b h, if_neg (by rw [beq_iff_eq]; omega), cuts_hit b h]
      rw [show ((a.length : Int)).toNat = a.length by omega, Nat.add_zero, List.take_left]
      rw [show a.length + [c].length = a.length + 1 from rfl, drop_hit, splitK_cuts k b]
      by_cases h2 : (cuts c b).length ≤ k + 1
      · rw [if_pos h2, if_pos (by rw [List.length_cons]; omega)]
      · rw [if_neg h2, if_neg (by rw [List.length_cons]; omega), List.take_succ_cons, List.drop_succ_cons, List.cons_append]
theorem count_cuts (l : List UInt8) : Lib.count l [c] + 1 = (cuts c l).length := by
  rcases cuts_cases c l with h | ⟨a, b, e, h⟩
  · rw [cuts_none h, Lib.count_miss (index_none1 h)]; rfl
  · have hlt : b.length < l.length := by rw [e, List.length_append, List.length_cons]; omega
    have ih := count_cuts b
    have hd : (a ++ c :: b).drop (a.length + [c].length) = b := drop_hit a b
    rw [e, cuts_hit b h, Lib.count_hit (by simp) (index_hit1 b h), hd, show (a :: cuts c b).length = (cuts c b).length + 1 from rfl, ← ih]; omega
termination_by l.length
theorem cut_none {l : List UInt8} (h : c ∉ l) : Lib.cut l [c] = (l, [], false) := by
  unfold Lib.cut; rw [index_none1 h, if_neg (by decide)]
theorem cut_hit {a : List UInt8} (b : List UInt8) (h : c ∉ a) : Lib.cut (a ++ c :: b) [c] = (a, b, true) := by
  unfold Lib.cut
  rw [index_hit1 b h, if_pos (by omega), show ((a.length : Int)).toNat = a.length by omega, List.take_left, show a.length + [c].length = a.length + 1 from rfl, drop_hit]
/-- What Go's Cut hands back, out of the pieces. -/
theorem cut_cuts (l : List UInt8) : ∃ p ps, cuts c l = p :: ps ∧ (Lib.cut l [c]).1 = p ∧ (ps = [] → (Lib.cut l [c]).2.1 = []) ∧ (ps ≠ [] → (Lib.cut l [c]).2.1 = Lib.join ps [c] ∧ cuts c (Lib.cut l [c]).2.1 = ps) := by
  rcases cuts_cases c l with h | ⟨a, b, rfl, h⟩
  · exact ⟨l, [], cuts_none h, by rw [cut_none h], fun _ => by rw [cut_none h], fun e => absurd rfl e⟩
  · exact ⟨a, cuts c b, cuts_hit b h, by rw [cut_hit b h], fun e => absurd e (cuts_ne b), fun _ => by rw [cut_hit b h]; exact ⟨(join_cuts b).symm, rfl⟩⟩
end
/-! ### Lists of numbers -/
def inT (n : Int) : Bool := decide (-1000000000000 ≤ n) && decide (n ≤ 1000000000000)
theorem inT_iff {n : Int} : inT n = true ↔ -1000000000000 ≤ n ∧ n ≤ 1000000000000 := by simp [inT]
/-- All numbers of texts, if all are. -/
def numsP : List (List UInt8) → Option (List Int)
  | [] => some []
  | p :: ps => match numP p with
    | none => none
    | some n => match numsP ps with
      | none => none
      | some l => some (n :: l)
theorem numsP_iff : ∀ {ps : List (List UInt8)} {L : List Int}, numsP ps = some L ↔ L.map Lib.itoa = ps ∧ ∀ n ∈ L, -1000000000000000000 < n ∧ n < 1000000000000000000
  | [], L => by
    simp only [numsP, Option.some.injEq]
    constructor
    · rintro rfl; exact ⟨rfl, by simp⟩
    · rintro ⟨h, -⟩; exact (List.map_eq_nil_iff.1 h).symm
  | p :: ps, L => by
    simp only [numsP]
    constructor
    · intro h
      cases h1 : numP p with
      | none => rw [h1] at h; cases h
      | some n =>
        cases h2 : numsP ps with
        | none => rw [h1, h2] at h; cases h
        | some l =>
          rw [h1, h2] at h
          simp only [Option.some.injEq] at h
          subst h
          obtain ⟨e1, e2⟩ := numP_iff.1 h1
          obtain ⟨e3, e4⟩ := numsP_iff.1 h2
          refine ⟨by rw [List.map_cons, e1, e3], fun m hm => ?_⟩
          rcases List.mem_cons.1 hm with rfl | hm
          · exact e2
          · exact e4 m hm
    · rintro ⟨h1, h2⟩
      cases L with
      | nil => cases h1
      | cons n l =>
        simp only [List.map_cons, List.cons.injEq] at h1
        obtain ⟨rfl, rfl⟩ := h1
        have := h2 n (List.mem_cons_self ..)
        rw [numP_itoa this.1 this.2, numsP_iff.2 ⟨rfl, fun m hm => h2 m (List.mem_cons_of_mem _ hm)⟩]
def listT (L : List Int) : List UInt8 := if L = [] then [45] else Lib.join (L.map Lib.itoa) [44]
/-- The list that a text is that of. -/
def listP (l : List UInt8) : Option (List Int) :=
  if l = [45] then some [] else
  if 64 < (cuts 44 l).length then none else
  match numsP (cuts 44 l) with
  | none => none
  | some L => if L.all inT = true then some L else none
theorem itoa_bytes (n : Int) : ∀ b ∈ Lib.itoa n, b = 45 ∨ isD b = true := by
  intro b hb
  unfold Lib.itoa at hb
  split at hb
  · rcases List.mem_cons.1 hb with rfl | hb
    · exact .inl rfl
    · exact .inr (decDigits_digits _ b hb)
  · exact .inr (decDigits_digits _ b hb)
theorem itoa_free (n : Int) (c : UInt8) (h : c ≠ 45) (h2 : isD c = false) : c ∉ Lib.itoa n := fun hm => by
  rcases itoa_bytes n c hm with h1 | h1
  · exact h h1
  · rw [h1] at h2; cases h2
theorem cuts_listT {L : List Int} (h : L ≠ []) : cuts 44 (Lib.join (L.map Lib.itoa) [44]) = L.map Lib.itoa :=
  cuts_join _ (by intro e; exact h (List.map_eq_nil_iff.1 e)) (fun p hp => by
    rw [List.mem_map] at hp
    obtain ⟨n, -, rfl⟩ := hp
    exact itoa_free n 44 (by decide) (by decide))
theorem listP_iff {l : List UInt8} {L : List Int} : listP l = some L ↔ listT L = l ∧ L.length ≤ 64 ∧ L.all inT = true := by
  unfold listP
  by_cases h : l = [45]
  · rw [if_pos h]
    subst h
    simp only [Option.some.injEq]
    constructor
    · rintro rfl; exact ⟨rfl, by simp, by simp⟩
    · rintro ⟨h1, h2, h3⟩
      unfold listT at h1
      split at h1
      · rename_i h4; exact h4.symm
      · rename_i h4
        exfalso
        have h5 := cuts_listT h4
        rw [h1, cuts_none (by decide)] at h5
        cases L with
        | nil => exact h4 rfl
        | cons n L =>
          simp only [List.map_cons, List.cons.injEq] at h5
          have h6 := h5.1
          rw [List.all_cons, Bool.and_eq_true, inT_iff] at h3
          have := numP_itoa (n := n) (by omega) (by omega)
          rw [← h6] at this
          rw [show numP [45] = none by decide] at this; cases this
  · rw [if_neg h]
    constructor
    · intro h1
      split at h1
      · cases h1
      · rename_i h2
        cases h3 : numsP (cuts 44 l) with
        | none => rw [h3] at h1; cases h1
        | some L' =>
          rw [h3] at h1
          simp only at h1
          split at h1
          · rename_i h4
            simp only [Option.some.injEq] at h1
            subst h1
            obtain ⟨e1, e2⟩ := numsP_iff.1 h3
            have hn : L' ≠ [] := fun e => by subst e; exact cuts_ne l e1.symm
            refine ⟨?_, ?_, h4⟩
            · unfold listT; rw [if_neg hn, e1, join_cuts]
            · have := congrArg List.length e1; rw [List.length_map] at this; omega
          · cases h1
    · rintro ⟨rfl, h2, h3⟩
      have hn : L ≠ [] := fun e => h (by rw [e]; rfl)
      have e : listT L = Lib.join (L.map Lib.itoa) [44] := if_neg hn
      rw [e, cuts_listT hn, if_neg (by rw [List.length_map]; omega)]
      rw [numsP_iff.2 ⟨rfl, fun n hm => by have := inT_iff.1 (List.all_eq_true.1 h3 n hm); omega⟩]
      simp only
      rw [if_pos h3]
theorem listP_nil : listP [] = none := by decide
theorem listT_free (L : List Int) (c : UInt8) (h : c ≠ 45) (h1 : c ≠ 44) (h2 : isD c = false) : c ∉ listT L := by
  unfold listT
  split
  · simp [h]
  · intro hm
    have : ∀ (ps : List (List UInt8)), (∀ p ∈ ps, c ∉ p) → c ∉ Lib.join ps [44] := by
      intro ps
      induction ps with
      | nil => intro _ hm; simp [Lib.join_nil] at hm
      | cons x r ih =>
        intro hp hm
        cases r with
        | nil => rw [Lib.join_one] at hm; exact hp x (List.mem_cons_self ..) hm
        | cons y r =>
          rw [join_cons2] at hm
          simp only [List.mem_append, List.mem_singleton] at hm
          rcases hm with (hm | hm) | hm
          · exact hp x (List.mem_cons_self ..) hm
          · exact h1 hm
          · exact ih (fun p hp' => hp p (List.mem_cons_of_mem _ hp')) hm
    refine this _ (fun p hp => ?_) hm
    rw [List.mem_map] at hp
    obtain ⟨n, -, rfl⟩ := hp
    exact itoa_free n c h h2
end Go.Proofs.YtfiiaegfikocoaaDoor
