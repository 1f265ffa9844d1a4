/- The search for lists finds a best one, within its steps. Plain Lean. -/
import Derived.Test.YtccbcjopmkmipaaDoorBestTeam
namespace Go.Proofs.YtccbcjopmkmipaaDoor
open Go.RowKit
/-- The nodes of a tree of lists. -/
def nodes (m : Nat) : Nat → Nat
  | 0 => 1
  | d + 1 => 1 + m * nodes m d
section
variable {worth : List Int → Int} {m : Nat}
/-- What a search below a list brings. -/
structure Found (worth : List Int → Int) (m : Nat) (T : List Int → Prop) (s s' : Sr) : Prop where
  up : s.most ≤ s'.most
  all : ∀ t, T t → worth t ≤ s'.most
  one : (s'.most = s.most ∧ s'.best = s.best) ∨ (∃ t, T t ∧ s'.best = t ∧ s'.most = worth t)
def under (m : Nat) (d : Nat) (ord : List Int) (t : List Int) : Prop := ∃ u, u.length = d ∧ InMany m u ∧ t = ord ++ u
def underK (m : Nat) (d : Nat) (ord : List Int) (k : Nat) (t : List Int) : Prop := ∃ x, x < k ∧ under m d (ord ++ [(x : Int)]) t
theorem InMany.cons {u : List Int} {x : Int} (h0 : 0 ≤ x) (h1 : x < m) (h : InMany m u) : InMany m (x :: u) := fun k hk => by
  cases k with
  | zero => exact ⟨h0, h1⟩
  | succ k => exact h k (by simpa using hk)
theorem under_succ {d : Nat} {ord t : List Int} : under m (d + 1) ord t ↔ underK m d ord m t := by
  constructor
  · rintro ⟨u, hu, hm, rfl⟩
    match u, hu with
    | x :: u, hu =>
      have hx := hm 0 (by simp)
      have hx0 : nth (x :: u) 0 = x := rfl
      rw [hx0] at hx
      refine ⟨x.toNat, by omega, u, by simpa using hu, fun k hk => hm (k + 1) (by simpa using hk), ?_⟩
      rw [Int.toNat_of_nonneg hx.1]; simp
  · rintro ⟨x, hx, u, hu, hm, rfl⟩
    exact ⟨(x : Int) :: u, by simp [hu], hm.cons (by omega) (by omega), by simp⟩
theorem loop_found {d : Nat} {ord : List Int} {s : Sr} {rec : List Int → Sr → Sr} (hr : ∀ o s, (nodes m d : Int) ≤ s.left → (rec o s).left = s.left - nodes m d ∧ Found worth m (under m d o) s (rec o s)) :
    ∀ k, ((k * nodes m d : Nat) : Int) ≤ s.left → (loopL false rec ord s k).left = s.left - (k * nodes m d : Nat) ∧ Found worth m (underK m d ord k) s (loopL false rec ord s k)
  | 0, _ => ⟨by simp [loopL], ⟨Int.le_refl _, fun t ⟨x, hx, _⟩ => absurd hx (Nat.not_lt_zero _), .inl ⟨rfl, rfl⟩⟩⟩
  | k + 1, h => by
    have hk : (((k + 1) * nodes m d : Nat) : Int) = (k * nodes m d : Nat) + nodes m d := by rw [Nat.succ_mul]; push_cast; rfl
    obtain ⟨e1, F⟩ := loop_found hr k (ord := ord) (s := s) (by omega)
    show (stepL false rec ord (loopL false rec ord s k) k).left = _ ∧ Found worth m (underK m d ord (k + 1)) s (stepL false rec ord (loopL false rec ord s k) k)
    rw [stepL_go (by rw [e1]; omega) rfl]
    generalize loopL false rec ord s k = a at *
    obtain ⟨e2, G⟩ := hr (ord ++ [(k : Int)]) a (by rw [e1]; omega)
    refine ⟨by rw [e2, e1]; omega, ⟨Int.le_trans F.up G.up, ?_, ?_⟩⟩
    · rintro t ⟨x, hx, ht⟩
      rcases Nat.lt_or_ge x k with h1 | h1
      · exact Int.le_trans (F.all t ⟨x, h1, ht⟩) G.up
      · obtain rfl : x = k := by omega
        exact G.all t ht
    · rcases G.one with ⟨g1, g2⟩ | ⟨t, ht, g1, g2⟩
      · rcases F.one with ⟨f1, f2⟩ | ⟨t, ⟨x, hx, ht⟩, f1, f2⟩
        · exact .inl ⟨g1.trans f1, g2.trans f2⟩
        · exact .inr ⟨t, ⟨x, by omega, ht⟩, g2.trans f1, g1.trans f2⟩
      · exact .inr ⟨t, ⟨k, Nat.lt_succ_self k, ht⟩, g1, g2⟩
theorem nodes_pos (m : Nat) : ∀ d, 1 ≤ nodes m d
  | 0 => Nat.le_refl _
  | d + 1 => by simp only [nodes]; omega
theorem vis_found : ∀ (d : Nat) (ord : List Int) (s : Sr), (nodes m d : Int) ≤ s.left → (visL false worth m d ord s).left = s.left - nodes m d ∧ Found worth m (under m d ord) s (visL false worth m d ord s)
  | 0, ord, s, h => by
    have h : (1 : Int) ≤ s.left := h
    rw [visL_z (by omega)]
    by_cases hw : s.most < worth ord
    · rw [updL_t (s := { s with left := s.left - 1 }) hw]
      exact ⟨rfl, ⟨Int.le_of_lt hw, fun t ⟨u, hu, _, e⟩ => by obtain rfl := List.length_eq_zero_iff.1 hu; rw [e, List.append_nil]; exact Int.le_refl _, .inr ⟨ord, ⟨[], rfl, InMany.nil m, by simp⟩, rfl, rfl⟩⟩⟩
    · rw [updL_f (s := { s with left := s.left - 1 }) hw]
      exact ⟨rfl, ⟨Int.le_refl _, fun t ⟨u, hu, _, e⟩ => by obtain rfl := List.length_eq_zero_iff.1 hu; rw [e, List.append_nil]; show worth ord ≤ s.most; omega, .inl ⟨rfl, rfl⟩⟩⟩
  | d + 1, ord, s, h => by
    have hn : (nodes m (d + 1) : Int) = 1 + (m * nodes m d : Nat) := by simp only [nodes]; push_cast; rfl
    rw [visL_s (by omega)]
    obtain ⟨e, F⟩ := loop_found (worth := worth) (m := m) (d := d) (ord := ord) (s := { s with left := s.left - 1 }) (fun o s hs => vis_found d o s hs) m (by show _ ≤ s.left - 1; omega)
    refine ⟨by rw [e]; show s.left - 1 - _ = _; omega, ⟨F.up, fun t ht => F.all t (under_succ.1 ht), ?_⟩⟩
    rcases F.one with h1 | ⟨t, ht, h1⟩
    · exact .inl h1
    · exact .inr ⟨t, under_succ.2 ht, h1⟩
end
theorem nodes_few {m d : Nat} (hm : 1 ≤ m) (hm4 : m ≤ 4) (hd : d ≤ 5) : nodes m d ≤ 20000 := by
  rcases (show m = 1 ∨ m = 2 ∨ m = 3 ∨ m = 4 by omega) with rfl | rfl | rfl | rfl <;> rcases (show d = 0 ∨ d = 1 ∨ d = 2 ∨ d = 3 ∨ d = 4 ∨ d = 5 by omega) with rfl | rfl | rfl | rfl | rfl | rfl <;> decide
def zs (n : Nat) : List Int := List.replicate n 0
theorem zs_len (n : Nat) : (zs n).length = n := List.length_replicate
theorem zs_at {n k : Nat} (h : k < n) : nth (zs n) k = 0 := by
  rw [nth_eq _ k (by rw [zs_len]; exact h)]; unfold zs; rw [List.getElem_replicate]
theorem zs_in {m n : Nat} (hm : 1 ≤ m) : InMany m (zs n) := fun k hk => by
  rw [zs_len] at hk; rw [zs_at hk]; omega
theorem teams_best {l : List Area} (hv : validAreas l = true) (h5 : l.length ≤ 5) {m : Int} (m1 : 1 ≤ m) (m4 : m ≤ 4) {s : Int} (s0 : 0 ≤ s) (s1 : s ≤ 1000) :
    teamC l m s 20000 = 0 ∧ (teamV l m s 20000).length = l.length ∧ InMany m.toNat (teamV l m s 20000) ∧ teamG l m s 20000 = tW l (teamV l m s 20000) s l.length ∧ ∀ t, t.length = l.length → InMany m.toNat t → tW l t s l.length ≤ teamG l m s 20000 := by
  have hM1 : 1 ≤ m.toNat := by omega
  have hM4 : m.toNat ≤ 4 := by omega
  have hn := nodes_few hM1 hM4 h5
  have hok : teamOk m s 20000 = true := by
    unfold teamOk ordOk
    rw [inB_iff.2 ⟨m1, m4⟩, inB_iff.2 ⟨s0, s1⟩]; rfl
  obtain ⟨e, F⟩ := vis_found (worth := fun o => tW l o s o.length) (m := m.toNat) l.length [] ⟨[], -1, 20000⟩ (by show (nodes m.toNat l.length : Int) ≤ 20000; omega)
  obtain ⟨r, hr⟩ : ∃ r, r = visT l m s 20000 := ⟨_, rfl⟩
  have hr' : visL false (fun o => tW l o s o.length) m.toNat l.length [] ⟨[], -1, 20000⟩ = r := hr.symm
  rw [hr'] at e F
  have hl : 0 ≤ r.left := by rw [e]; show (0 : Int) ≤ 20000 - _; omega
  obtain ⟨c1, c2, c3⟩ := sr_0 hl
  have C : teamC l m s 20000 = 0 := by unfold teamC; rw [hv, hok, ← hr]; exact c1
  have V : teamV l m s 20000 = r.best := by unfold teamV; rw [hv, hok, ← hr]; exact c2
  have G : teamG l m s 20000 = r.most := by unfold teamG; rw [hv, hok, ← hr]; exact c3
  have hall : ∀ t, t.length = l.length → InMany m.toNat t → tW l t s l.length ≤ r.most := fun t ht hm => by
    have := F.all t ⟨t, ht, hm, by simp⟩
    rwa [ht] at this
  have hz0 : 0 ≤ tW l (zs l.length) s l.length := by
    have := ((InMany.teams hv (zs_in hM1) hM4 (zs_len _)).tW_bd s0 (k := l.length) (by rw [zs_len]; exact Nat.le_refl _)).1
    exact this
  have hzm := hall (zs l.length) (zs_len _) (zs_in hM1)
  rw [C, V, G]
  rcases F.one with ⟨h1, -⟩ | ⟨t, ⟨u, hu, hm, rfl⟩, h1, h2⟩
  · have h1 : r.most = -1 := h1
    omega
  · refine ⟨rfl, by rw [h1]; exact hu, by rw [h1]; exact hm, ?_, hall⟩
    rw [h1, h2, hu]
def ident : Nat → List Int
  | 0 => []
  | k + 1 => ident k ++ [(k : Int)]
theorem ident_len : ∀ n, (ident n).length = n
  | 0 => rfl
  | n + 1 => by simp only [ident]; rw [List.length_append, ident_len n]; rfl
theorem ident_at : ∀ {n k : Nat}, k < n → nth (ident n) k = (k : Int)
  | n + 1, k, h => by
    simp only [ident]
    rcases Nat.lt_or_ge k n with h1 | h1
    · rw [nth_pre (by rw [ident_len]; exact h1)]; exact ident_at h1
    · obtain rfl : k = n := by omega
      have := nth_last (ident k) (k : Int)
      rwa [ident_len] at this
theorem ident_mem : ∀ {n : Nat} {x : Int}, x ∈ ident n → 0 ≤ x ∧ x < n
  | 0, _, h => by cases h
  | n + 1, x, h => by
    simp only [ident] at h
    rcases List.mem_append.1 h with h1 | h1
    · have := ident_mem h1; omega
    · rw [List.mem_singleton] at h1; omega
theorem ident_take : ∀ {n k : Nat}, k ≤ n → (ident n).take k = ident k
  | 0, k, h => by obtain rfl : k = 0 := by omega
                  rfl
  | n + 1, k, h => by
    rcases Nat.lt_or_ge k (n + 1) with h1 | h1
    · simp only [ident]
      rw [List.take_append_of_le_length (by rw [ident_len]; omega)]; exact ident_take (by omega)
    · obtain rfl : k = n + 1 := by omega
      rw [List.take_of_length_le (by rw [ident_len]; exact Nat.le_refl _)]
theorem ident_order (n : Nat) : orderB n (ident n) = true := by
  unfold orderB
  rw [ident_len]
  refine allB_iff.2 fun k hk => ?_
  unfold ordAt
  rw [ident_at hk, ident_take (Nat.le_of_lt hk), inB_iff.2 ⟨by omega, by omega⟩]
  have : hasB (ident k) (k : Int) = false := by
    cases h : hasB (ident k) (k : Int)
    · rfl
    · have := ident_mem (hasB_iff.1 h); omega
  rw [this]; rfl
theorem zs_worth (l : List Area) (s : Int) {n : Nat} : ∀ {k : Nat}, k ≤ n → endAt l (ident n) s k = s + tE l (zs n) 0 k ∧ worthAt l (ident n) s k = tW l (zs n) s k
  | 0, _ => by simp [endAt, tE, worthAt, tW]
  | k + 1, h => by
    obtain ⟨h1, h2⟩ := zs_worth l s (n := n) (k := k) (by omega)
    have hp : pickA l (ident n) k = nth l k := by unfold pickA; rw [ident_at (by omega)]; simp
    have hz : nth (zs n) k = 0 := zs_at (by omega)
    have he : endAt l (ident n) s (k + 1) = s + tE l (zs n) 0 (k + 1) := by
      rw [tE_y hz]; simp only [endAt]; rw [h1, hp]; omega
    refine ⟨he, ?_⟩
    show worthAt l (ident n) s k + (pickA l (ident n) k).chance * surv (endAt l (ident n) s (k + 1)) = tW l (zs n) s k + (nth l k).chance * surv (s + tE l (zs n) (nth (zs n) k) (k + 1))
    rw [h2, hp, he, hz]
theorem plain_worth {l : List Area} (hv : validAreas l = true) {s : Int} (s0 : 0 ≤ s) (s1 : s ≤ 1000) : worthV l (ident l.length) s = tW l (zs l.length) s l.length ∧ askI l (ident l.length) (inB s 0 1000) = 0 := by
  have h := askI_0 (l := l) (ord := ident l.length) hv (inB_iff.2 ⟨s0, s1⟩) (ident_order _)
  refine ⟨?_, h.symm⟩
  unfold worthV
  rw [if_pos h.symm, ident_len]; exact (zs_worth l s (Nat.le_refl _)).2
theorem one_zs {t : List Int} (h : InMany 1 t) : t = zs t.length := by
  apply List.ext_getElem
  · rw [zs_len]
  · intro k h1 h2
    have := h k h1
    rw [nth_eq t k h1] at this
    have h3 := zs_at h1
    rw [nth_eq _ k h2] at h3
    rw [h3]; omega
theorem few_best {l : List Area} (hv : validAreas l = true) (h5 : l.length ≤ 5) {s : Int} (s0 : 0 ≤ s) (s1 : s ≤ 1000) : teamC l 1 s 20000 = 0 ∧ teamG l 1 s 20000 = tW l (zs l.length) s l.length := by
  obtain ⟨h1, h2, h3, h4, -⟩ := teams_best hv h5 (m := 1) (by omega) (by omega) s0 s1
  refine ⟨h1, ?_⟩
  have := one_zs h3
  rw [h2] at this
  rw [h4, this]
end Go.Proofs.YtccbcjopmkmipaaDoor
