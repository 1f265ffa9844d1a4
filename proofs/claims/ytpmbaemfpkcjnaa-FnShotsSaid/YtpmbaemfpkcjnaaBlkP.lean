/- BlockedMinutes: the parts of the day at which crews are at work, out of a plan. Plain Lean. -/
import Derived.Test.YtpmbaemfpkcjnaaBlk
import Derived.Test.YtpmbaemfpkcjnaaSlack
import Derived.Test.YtpmbaemfpkcjnaaIIB
namespace Go.Proofs.Ytpmbaemfpkcjnaa
open Go.RowKit
theorem Lst.lower {α : Type} {T n : Nat} {cell : α → Nat → Value} {w : World} {base base' : Nat} {v : Value} {l : List α} (h : Lst T n cell w base v l) (hb : base' ≤ base) : Lst T n cell w base' v l := by
  refine ⟨h.1, ?_⟩
  rcases h.2 with h2 | ⟨g, cap, cur, hv, hg, r⟩
  · exact .inl h2
  · exact .inr ⟨g, cap, cur, hv, Nat.le_trans hb hg, r⟩
theorem BII.lower {w : World} {base base' : Nat} {v : Value} {L : List (List Int)} {vs : List Sl} {gs : Nat → Nat} (h : BII w base v L vs gs) (hb : base' ≤ base) : BII w base' v L vs gs :=
  ⟨h.lst.lower hb, h.len, h.val, fun k hk => Nat.le_trans hb (h.low k hk), h.blk, h.row, h.far, h.apart⟩
theorem intAt_new0 (w : World) (cs : Array Value) (T : TypeId) (l : List Int) (h : ∀ k, k < l.length → cs[k]? = some (.int .i64 (nth l k))) : IntAt (w.alloc (.cells cs T)) (some ⟨w.heap.size, 0, none⟩) l :=
  IntAt.of (by rw [size_new]; omega) fun k hk => by rw [cell_new, Nat.zero_add]; exact h k hk
def OutII (w : World) (L : List (List Int)) (rest : List Value) (e : Ending) (w' : World) : Prop :=
  ∃ v vs gs, e = .returned (.tuple (v :: rest).toArray) ∧ BII w' w.heap.size v L vs gs ∧ Ext w w'
def pr (p : Int × Int) : List Int := [p.1, p.2]
def Work.iv (x : Work) : Int × Int := (x.beg, x.fin)
/-- Someone of the first k is at work at a minute. -/
def busyTo (W : List Work) (m : Nat) : Nat → Bool
  | 0 => false
  | k + 1 => busyTo W m k || (decide ((m : Int) < (nth W k).fin) && decide ((nth W k).beg ≤ m))
theorem busyTo_iff {W : List Work} {m : Nat} : ∀ {k : Nat}, busyTo W m k = true ↔ ∃ j, j < k ∧ (nth W j).beg ≤ m ∧ (m : Int) < (nth W j).fin
  | 0 => ⟨fun h => (by cases h), fun ⟨_, h, _⟩ => absurd h (Nat.not_lt_zero _)⟩
  | k + 1 => by
    unfold busyTo
    rw [Bool.or_eq_true, busyTo_iff, Bool.and_eq_true, decide_eq_true_eq, decide_eq_true_eq]
    constructor
    · rintro (⟨j, hj, h⟩ | ⟨h1, h2⟩)
      · exact ⟨j, by omega, h⟩
      · exact ⟨k, by omega, h2, h1⟩
    · rintro ⟨j, hj, h1, h2⟩
      rcases (show j < k ∨ j = k by omega) with h3 | rfl
      · exact .inl ⟨j, h3, h1, h2⟩
      · exact .inr ⟨h2, h1⟩
def busyW (W : List Work) (m : Nat) : Bool := busyTo W m W.length
theorem busyW_cov {W S : List Work} (hp : S.Perm W) (m : Nat) : busyW W m = true ↔ cov (S.map Work.iv) m := by
  unfold busyW cov
  rw [busyTo_iff]
  constructor
  · rintro ⟨j, hj, h1, h2⟩
    exact ⟨(nth W j).iv, List.mem_map.2 ⟨_, (hp.mem_iff).2 (nth_mem hj), rfl⟩, h1, h2⟩
  · rintro ⟨p, hp', h1, h2⟩
    obtain ⟨x, hx, rfl⟩ := List.mem_map.1 hp'
    obtain ⟨j, hj, e⟩ := List.getElem_of_mem ((hp.mem_iff).1 hx)
    exact ⟨j, hj, by rw [nth_eq W j hj, e]; exact h1, by rw [nth_eq W j hj, e]; exact h2⟩
def blkC (l : List Shot) (ord : List Int) (c : Int) : Int := planC l ord c
def blkV (l : List Shot) (ord : List Int) (c : Int) : List (List Int) := if planC l ord c = 0 then (swp (busyW (planV l ord c)) 1441).1.map pr else []
theorem swp_len (b : Nat → Bool) : ∀ m, (swp b m).1.length ≤ m
  | 0 => Nat.le_refl _
  | m + 1 => by
    have := swp_len b m
    unfold swp
    dsimp only
    split
    · exact Nat.le_succ_of_le this
    · split
      · rw [List.length_append]; simp; omega
      · omega
theorem swp_snd (b : Nat → Bool) (m : Nat) : ((swp b m).2 = -1 ∨ 0 ≤ (swp b m).2) ∧ (swp b m).2 < m := by
  rcases (swp_inv b m).2 with ⟨h, -⟩ | ⟨f, h, hf, -⟩
  · rw [h]; omega
  · rw [h]; omega
theorem nth_map_pr {P : List (Int × Int)} {k : Nat} (h : k < P.length) : nth (P.map pr) k = pr (P[k]) := by
  rw [nth_eq _ _ (by rw [List.length_map]; exact h), List.getElem_map]
theorem blkV_good (l : List Shot) (ord : List Int) (c : Int) : GoodII (blkV l ord c) := by
  unfold blkV
  split
  · have hl := swp_len (busyW (planV l ord c)) 1441
    generalize (swp (busyW (planV l ord c)) 1441).1 = P at hl ⊢
    have two : ∀ k, k < (P.map pr).length → (nth (P.map pr) k).length = 2 := fun k hk => by
      rw [List.length_map] at hk; rw [nth_map_pr hk]; rfl
    have hm : (P.map pr).length ≤ 1441 := by rw [List.length_map]; exact hl
    refine ⟨by omega, ?_, fun k hk => by rw [two k hk]; omega, fun k hk => by rw [two k hk]; omega⟩
    have := tot_le (m := 2) (fun k hk => by rw [two k hk]; exact Nat.le_refl _) (P.map pr).length (Nat.le_refl _)
    omega
  · exact ⟨by simp, by simp [tot], fun k hk => absurd hk (Nat.not_lt_zero _), fun k hk => absurd hk (Nat.not_lt_zero _)⟩
/-- The program's way over the works in the order of their beginnings. -/
theorem swp_sorted {W S : List Work} (hp : S.Perm W) (hs : S.Pairwise (fun a b => a.beg ≤ b.beg)) (hw : ∀ j, j < W.length → 0 ≤ (nth W j).beg ∧ (nth W j).beg < (nth W j).fin ∧ (nth W j).fin ≤ 1440) : (swp (busyW W) 1441).1 = addAll [] (S.map Work.iv) := by
  refine swp_addAll (fun w hw' => ?_) ?_ (fun k => busyW_cov hp k)
  · obtain ⟨x, hx, rfl⟩ := List.mem_map.1 hw'
    obtain ⟨j, hj, e⟩ := List.getElem_of_mem ((hp.mem_iff).1 hx)
    have := hw j hj
    rw [nth_eq W j hj, e] at this
    exact ⟨this.2.1, this.1, this.2.2⟩
  · rw [List.pairwise_map]; exact hs
theorem addAll_snoc (P : List (Int × Int)) (w : Int × Int) : ∀ W : List (Int × Int), addAll P (W ++ [w]) = addW (addAll P W) w := by
  intro W
  induction W generalizing P with
  | nil => rfl
  | cons v W ih => exact ih (addW P v)
/-- A plan's works and the shots they come of. -/
theorem planS_beg {l : List Shot} {ord : List Int} {crews : Nat} (hc : 0 < crews) (h : ShotsOk l ord) : ∀ {k : Nat} {p : Plan}, k ≤ ord.length → planS l ord crews k = some p → ∀ j, j < k → (nth p.works j).fin - (pickS l ord j).mins = (nth p.works j).beg
  | 0, _, _, _, j, hj => absurd hj (Nat.not_lt_zero _)
  | k + 1, q, hk, e, j, hj => by
    have e' : (planS l ord crews k).bind (stepP (pickS l ord k)) = some q := e
    cases hp : planS l ord crews k with
    | none => rw [hp] at e'; cases e'
    | some p =>
      rw [hp] at e'
      obtain ⟨h1, rfl⟩ := stepP_some e'
      have ok := planS_ok hc h (k := k) (by omega) hp
      rcases Nat.lt_or_ge j k with h3 | h3
      · rw [nth_append_left (by rw [ok.wlen]; exact h3)]; exact planS_beg hc h (by omega) hp j h3
      · obtain rfl : j = k := by omega
        generalize hx : (p.works ++ _) = L
        have h9 : nth L j = nth L p.works.length := by rw [ok.wlen]
        rw [h9, ← hx, nth_append_last]
        show max _ _ + _ - _ = max _ _
        omega
theorem planC_works {l : List Shot} {ord : List Int} {c : Int} (h : planC l ord c = 0) : ∀ j, j < (planV l ord c).length → (0 ≤ (nth (planV l ord c) j).beg ∧ (nth (planV l ord c) j).beg < (nth (planV l ord c) j).fin ∧ (nth (planV l ord c) j).fin ≤ 1440) ∧ (nth (planV l ord c) j).fin - (pickS l ord j).mins = (nth (planV l ord c) j).beg := by
  have ha : askS l ord c = 0 := by
    unfold planC at h; split at h
    · assumption
    · assumption
  have hs := ShotsOk.of_ask ha
  have h3 := inB_iff.1 (askS_0 ha).2.2
  obtain ⟨k, hk⟩ := Int.eq_ofNat_of_zero_le (show 0 ≤ c by omega)
  subst hk
  have hb : worksB l ord k = true := by
    unfold planC at h; rw [if_pos ha] at h; split at h
    · assumption
    · cases h
  cases hp : planS l ord k ord.length with
  | none => unfold worksB at hb; rw [hp] at hb; cases hb
  | some p =>
    have hv : planV l ord (k : Int) = p.works := by rw [(planC_0 ha hb).2]; exact (works_some hp).2
    have ok := planS_ok (by omega) hs (Nat.le_refl _) hp
    intro j hj
    rw [hv] at hj ⊢
    rw [ok.wlen] at hj
    exact ⟨ok.works j hj, planS_beg (by omega) hs (Nat.le_refl _) hp j hj⟩
end Go.Proofs.Ytpmbaemfpkcjnaa
