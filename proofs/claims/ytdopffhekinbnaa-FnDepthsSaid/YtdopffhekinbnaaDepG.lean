/- What the law of depths asks of groups of tests: plain Lean. -/
import Derived.Test.YtdopffhekinbnaaDepP
namespace Go.Proofs.Ytdopffhekinbnaa
open Go.RowKit
section
variable {α : Type} [Inhabited α] {d : α → Int}
/-- In order. -/
def UpD (d : α → Int) (o : List α) : Prop := o.Pairwise (fun a b => d a ≤ d b)
theorem posD_spec {o : List α} {x : α} : ∀ j, j ≤ o.length → UpD d o → (∀ i, i < posD d o x j → d (nth o i) ≤ d x) ∧ ∀ i, posD d o x j ≤ i → i < j → d x < d (nth o i)
  | 0, _, _ => ⟨fun i h => absurd h (Nat.not_lt_zero _), fun i _ h => absurd h (Nat.not_lt_zero _)⟩
  | j + 1, hj, h => by
    unfold posD
    split
    · rename_i hx
      obtain ⟨h1, h2⟩ := posD_spec (x := x) j (by omega) h
      refine ⟨h1, fun i hi hi2 => ?_⟩
      rcases (show i < j ∨ i = j by omega) with h3 | rfl
      · exact h2 i hi h3
      · exact hx
    · rename_i hx
      refine ⟨fun i hi => ?_, fun i hi hi2 => by omega⟩
      rcases (show i < j ∨ i = j by omega) with h3 | rfl
      · have := List.pairwise_iff_getElem.1 h i j (by omega) (by omega) h3
        rw [← nth_eq o i (by omega), ← nth_eq o j (by omega)] at this
        omega
      · omega
theorem insD_up {o : List α} {x : α} (h : UpD d o) : UpD d (insD d o x) := by
  obtain ⟨h1, h2⟩ := posD_spec (x := x) o.length (Nat.le_refl _) h
  have hp := posD_le d o x o.length
  unfold insD
  generalize posD d o x o.length = p at *
  have ha : ∀ y ∈ o.take p, d y ≤ d x := fun y hy => by
    obtain ⟨i, hi, rfl⟩ := List.getElem_of_mem hy
    rw [List.length_take] at hi
    rw [List.getElem_take, ← nth_eq o i (by omega)]
    exact h1 i (by omega)
  have hb : ∀ y ∈ o.drop p, d x ≤ d y := fun y hy => by
    obtain ⟨i, hi, rfl⟩ := List.getElem_of_mem hy
    rw [List.length_drop] at hi
    rw [List.getElem_drop, ← nth_eq o (p + i) (by omega)]
    exact Int.le_of_lt (h2 (p + i) (by omega) (by omega))
  unfold UpD
  rw [List.pairwise_append, List.pairwise_cons]
  refine ⟨h.sublist (List.take_sublist _ _), ⟨hb, h.sublist (List.drop_sublist _ _)⟩, fun a ha' b hb' => ?_⟩
  rcases List.mem_cons.1 hb' with rfl | hb'
  · exact ha a ha'
  · have := ha a ha'; have := hb b hb'; omega
theorem insAll_up : ∀ (l o : List α), UpD d o → UpD d (insAll d o l)
  | [], _, h => h
  | x :: l, o, h => insAll_up l (insD d o x) (insD_up h)
end
theorem ordD_up (l : List Test) (n : Nat) : UpD (dep l) (ordD l n) := insAll_up _ _ List.Pairwise.nil
/-- Groups that lie apart. -/
def Apart (l : List Test) (near : Int) (L : List (List Int)) : Prop := L.Pairwise (fun X Y => ∀ a ∈ X, ∀ b ∈ Y, near < dep l b - dep l a)
theorem segs_apart {l : List Test} {near : Int} {o : List Int} (h : UpD (dep l) o) : ∀ k, k ≤ o.length → Apart l near (segs l near o k) ∧ ∀ X ∈ segs l near o k, ∀ a ∈ X, ∀ i, i + 1 = k → dep l a ≤ dep l (nth o i)
  | 0, _ => ⟨List.Pairwise.nil, fun _ hX => by cases hX⟩
  | k + 1, hk => by
    obtain ⟨h1, h2⟩ := segs_apart h k (by omega)
    have hle : ∀ i, i < k → dep l (nth o i) ≤ dep l (nth o k) := fun i hi => by
      have := List.pairwise_iff_getElem.1 h i k (by omega) (by omega) hi
      rw [← nth_eq o i (by omega), ← nth_eq o k (by omega)] at this
      exact this
    have hall : ∀ X ∈ segs l near o k, ∀ a ∈ X, dep l a ≤ dep l (nth o k) := fun X hX a ha => by
      rcases Nat.eq_zero_or_pos k with h0 | h0
      · subst h0; cases hX
      · have h3 := h2 X hX a ha (k - 1) (by omega)
        have h4 := hle (k - 1) (by omega)
        omega
    by_cases hc : k = 0 ∨ near < dep l (nth o k) - dep l (nth o (k - 1))
    · rw [segs_new hc]
      refine ⟨?_, fun X hX a ha i hi => ?_⟩
      · unfold Apart
        rw [List.pairwise_append]
        refine ⟨h1, by simp, fun X hX Y hY a ha b hb => ?_⟩
        rw [List.mem_singleton] at hY
        subst hY
        rw [List.mem_singleton] at hb
        subst hb
        rcases hc with h0 | h0
        · subst h0; cases hX
        · rcases Nat.eq_zero_or_pos k with h5 | h5
          · subst h5; cases hX
          · have := h2 X hX a ha (k - 1) (by omega)
            omega
      · obtain rfl : i = k := by omega
        rcases List.mem_append.1 hX with hX | hX
        · exact hall X hX a ha
        · rw [List.mem_singleton] at hX
          subst hX
          rw [List.mem_singleton] at ha
          subst ha
          exact Int.le_refl _
    · have h0 : 0 < k := by
        rcases Nat.eq_zero_or_pos k with h5 | h5
        · exact absurd (.inl h5) hc
        · exact h5
      have hp := (segs_len l near o k).2 h0
      have hs := last_split hp
      rw [segs_old hc, addLast_eq hp]
      have hlast : nth (segs l near o k) ((segs l near o k).length - 1) ∈ segs l near o k := nth_mem (by omega)
      have hne := segs_pos l near o k _ hlast
      refine ⟨?_, fun X hX a ha i hi => ?_⟩
      · unfold Apart at h1 ⊢
        rw [hs, List.pairwise_append] at h1
        rw [List.pairwise_append]
        refine ⟨h1.1, by simp, fun X hX Y hY a ha b hb => ?_⟩
        rw [List.mem_singleton] at hY
        subst hY
        rcases List.mem_append.1 hb with hb | hb
        · exact h1.2.2 X hX _ (List.mem_cons_self ..) a ha b hb
        · rw [List.mem_singleton] at hb
          subst hb
          have h6 := h1.2.2 X hX _ (List.mem_cons_self ..) a ha (nth (nth (segs l near o k) ((segs l near o k).length - 1)) 0) (nth_mem hne)
          have h7 := hall _ hlast _ (nth_mem hne)
          omega
      · obtain rfl : i = k := by omega
        rcases List.mem_append.1 hX with hX | hX
        · exact hall X (by rw [hs]; exact List.mem_append_left _ hX) a ha
        · rw [List.mem_singleton] at hX
          subst hX
          rcases List.mem_append.1 ha with ha | ha
          · exact hall _ hlast a ha
          · rw [List.mem_singleton] at ha
            subst ha
            exact Int.le_refl _
theorem upG_mem {x : List Int} {a : Int} : a ∈ upG x ↔ a ∈ x := by
  unfold upG
  rw [mem_putAll slo_ltI]; simp
/-- What the law asks of the groups. -/
structure GroupsOk (l : List Test) (near : Int) (V : List (List Int)) : Prop where
  len : V.length ≤ l.length
  each : ∀ g, g < V.length → 0 < (nth V g).length ∧ (nth V g).length ≤ l.length
  inn : ∀ g, g < V.length → ∀ i, i < (nth V g).length → 0 ≤ nth (nth V g) i ∧ nth (nth V g) i < l.length
  up : ∀ g, g < V.length → ∀ i, i + 1 < (nth V g).length → nth (nth V g) i < nth (nth V g) (i + 1)
  perm : V.flatten.Perm (ups l.length)
  apart : ∀ g h, h < g → g < V.length → ∀ i, i < (nth V g).length → ∀ k, k < (nth V h).length → near < dep l (nth (nth V g) i) - dep l (nth (nth V h) k)
theorem flat_upG : ∀ (L : List (List Int)), (∀ x ∈ L, x.Nodup) → (L.map upG).flatten.Perm L.flatten
  | [], _ => List.Perm.refl _
  | x :: L, h => by
    rw [List.map_cons, List.flatten_cons, List.flatten_cons]
    refine List.Perm.append ?_ (flat_upG L fun y hy => h y (List.mem_cons_of_mem _ hy))
    rw [← sortI_up' (h x (List.mem_cons_self ..))]
    exact sortI_perm x
theorem groups_ok (l : List Test) (near : Int) : GroupsOk l near ((segs l near (ordD l l.length) l.length).map upG) := by
  have hnd := segs_nodup l near l.length
  have hfl := segs_flat l near (ordD l l.length) l.length (by rw [ordD_len]; exact Nat.le_refl _)
  rw [show (ordD l l.length).take l.length = ordD l l.length from List.take_of_length_le (by rw [ordD_len]; exact Nat.le_refl _)] at hfl
  have hap := (segs_apart (near := near) (ordD_up l l.length) l.length (by rw [ordD_len]; exact Nat.le_refl _)).1
  have hps := segs_pos l near (ordD l l.length) l.length
  have hln := (segs_len l near (ordD l l.length) l.length).1
  generalize segs l near (ordD l l.length) l.length = L at *
  have hnth : ∀ g, g < L.length → nth (L.map upG) g = upG (nth L g) := fun g hg => by
    rw [nth_eq _ g (by rw [List.length_map]; exact hg), List.getElem_map, ← nth_eq L g hg]
  have hlen : ∀ g, g < L.length → (upG (nth L g)).length = (nth L g).length := fun g hg => upG_len (hnd _ (nth_mem hg))
  have hin : ∀ g, g < L.length → ∀ a ∈ nth L g, 0 ≤ a ∧ a < l.length := fun g hg a ha => by
    have : a ∈ L.flatten := List.mem_flatten.2 ⟨_, nth_mem hg, ha⟩
    rw [hfl] at this
    exact ordD_mem.1 this
  refine ⟨by rw [List.length_map]; exact hln, fun g hg => ?_, fun g hg i hi => ?_, fun g hg i hi => ?_, ?_, fun g h hh hg i hi k hk => ?_⟩
  · rw [List.length_map] at hg
    rw [hnth g hg, hlen g hg]
    refine ⟨hps _ (nth_mem hg), ?_⟩
    have h1 : (nth L g).length ≤ L.flatten.length := by
      obtain ⟨A, B, e⟩ := List.append_of_mem (nth_mem hg)
      conv => rhs; rw [e]
      rw [List.flatten_append, List.flatten_cons, List.length_append, List.length_append]; omega
    rw [hfl, ordD_len] at h1
    exact h1
  · rw [List.length_map] at hg
    rw [hnth g hg] at hi ⊢
    exact hin g hg _ (upG_mem.1 (nth_mem hi))
  · rw [List.length_map] at hg
    rw [hnth g hg] at hi ⊢
    have h1 : Inc ltI (upG (nth L g)) := inc_putAll slo_ltI List.Pairwise.nil
    have h2 := List.pairwise_iff_getElem.1 h1 i (i + 1) (by omega) hi (by omega)
    rw [← nth_eq _ i (by omega), ← nth_eq _ (i + 1) hi] at h2
    exact ltI_iff.1 h2
  · refine (flat_upG L hnd).trans ?_
    rw [hfl]
    exact ordD_perm l l.length
  · rw [List.length_map] at hg
    rw [hnth g hg] at hi ⊢
    rw [hnth h (by omega)] at hk ⊢
    have h1 := List.pairwise_iff_getElem.1 hap h g (by omega) hg hh
    rw [← nth_eq L h (by omega), ← nth_eq L g hg] at h1
    exact h1 _ (upG_mem.1 (nth_mem hk)) _ (upG_mem.1 (nth_mem hi))
end Go.Proofs.Ytdopffhekinbnaa
