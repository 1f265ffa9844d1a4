/- Chapter 22: what the works of a plan keep: windows, minutes, parts of the day. Plain Lean. -/
import Derived.Test.YtpmbaemfpkcjnaaMinB
import Derived.Test.YtpmbaemfpkcjnaaBlkP
import Derived.Test.YtpmbaemfpkcjnaaOrder
namespace Go.Proofs.Ytpmbaemfpkcjnaa
open Go.RowKit
/-- The sum of the minutes of the first k shots of an order. -/
def minsTo (l : List Shot) (ord : List Int) : Nat → Int
  | 0 => 0
  | k + 1 => minsTo l ord k + (pickS l ord k).mins
theorem minsTo_bd {l : List Shot} {ord : List Int} (h : ShotsOk l ord) : ∀ {k : Nat}, k ≤ ord.length → 0 ≤ minsTo l ord k ∧ minsTo l ord k ≤ 240 * k
  | 0, _ => by simp [minsTo]
  | k + 1, hk => by
    have := minsTo_bd h (k := k) (by omega)
    have := shotB_bd (h.pick (k := k) (by omega))
    simp only [minsTo]; omega
theorem lenSum_snoc (p : Int × Int) : ∀ L : List (Int × Int), lenSum (L ++ [p]) = lenSum L + (p.2 - p.1)
  | [] => by show (p.2 - p.1) + 0 = 0 + _; omega
  | q :: L => by
    show (q.2 - q.1) + lenSum (L ++ [p]) = ((q.2 - q.1) + lenSum L) + _
    rw [lenSum_snoc p L]; omega
theorem planS_frm {l : List Shot} {ord : List Int} {crews : Nat} (hc : 0 < crews) (h : ShotsOk l ord) : ∀ {k : Nat} {p : Plan}, k ≤ ord.length → planS l ord crews k = some p → ∀ j, j < k → (pickS l ord j).frm ≤ (nth p.works j).beg
  | 0, _, _, _, j, hj => absurd hj (Nat.not_lt_zero _)
  | k + 1, q, hk, e, j, hj => by
    have e' : (planS l ord crews k).bind (stepP (pickS l ord k)) = some q := e
    cases hp : planS l ord crews k with
    | none => rw [hp] at e'; cases e'
    | some p =>
      rw [hp] at e'
      obtain ⟨h1, rfl⟩ := stepP_some e'
      have ok := planS_ok hc h (k := k) (by omega) hp
      rcases Nat.lt_or_ge j k with h3 | h3
      · rw [nth_append_left (by rw [ok.wlen]; exact h3)]; exact planS_frm hc h (by omega) hp j h3
      · obtain rfl : j = k := by omega
        generalize hx : (p.works ++ _) = L
        have h9 : nth L j = nth L p.works.length := by rw [ok.wlen]
        rw [h9, ← hx, nth_append_last]
        show _ ≤ max _ _
        omega
/-- At no minute are more works done than crews are busy; the sum of the works' lengths. -/
theorem planS_act {l : List Shot} {ord : List Int} {crews : Nat} (hc : 0 < crews) (h : ShotsOk l ord) : ∀ {k : Nat} {p : Plan}, k ≤ ord.length → planS l ord crews k = some p → (∀ m : Nat, actN (p.works.map Work.iv) m ≤ busyC p.free m) ∧ lenSum (p.works.map Work.iv) = minsTo l ord k
  | 0, p, _, e => by
    simp only [planS, Option.some.injEq] at e
    subst e
    exact ⟨fun m => Nat.zero_le _, rfl⟩
  | k + 1, q, hk, e => by
    have e' : (planS l ord crews k).bind (stepP (pickS l ord k)) = some q := e
    cases hp : planS l ord crews k with
    | none => rw [hp] at e'; cases e'
    | some p =>
      rw [hp] at e'
      obtain ⟨h1, rfl⟩ := stepP_some e'
      have ok := planS_ok hc h (k := k) (by omega) hp
      have hs := shotB_bd (h.pick (k := k) (by omega))
      have hl := least_lt (l := p.free) (by rw [ok.len]; exact hc)
      obtain ⟨i1, i2⟩ := planS_act hc h (k := k) (by omega) hp
      refine ⟨fun m => ?_, ?_⟩
      · have := act_step i1 hl (b := max (nth p.free (least p.free)) (pickS l ord k).frm) (e := max (nth p.free (least p.free)) (pickS l ord k).frm + (pickS l ord k).mins) (by omega) (by omega) m
        rw [List.map_append]
        exact this
      · rw [List.map_append]
        show lenSum (_ ++ [(max (nth p.free (least p.free)) (pickS l ord k).frm, max (nth p.free (least p.free)) (pickS l ord k).frm + (pickS l ord k).mins)]) = minsTo l ord k + (pickS l ord k).mins
        rw [lenSum_snoc, i2]
        omega
/-- The parts of the day at which someone is at work. -/
theorem swp_parts {W : List Work} (hw : ∀ j, j < W.length → 0 ≤ (nth W j).beg ∧ (nth W j).beg < (nth W j).fin ∧ (nth W j).fin ≤ 1440) : Can (swp (busyW W) 1441).1 ∧ (∀ x : Int, cov (swp (busyW W) 1441).1 x ↔ cov (W.map Work.iv) x) ∧ ∀ p ∈ (swp (busyW W) 1441).1, 0 ≤ p.1 ∧ p.1 ≤ p.2 ∧ p.2 ≤ 1441 := by
  have hm : ∀ p ∈ W.map Work.iv, 0 ≤ p.1 ∧ p.1 < p.2 ∧ p.2 ≤ 1440 := fun p hp => by
    obtain ⟨x, hx, rfl⟩ := List.mem_map.1 hp
    obtain ⟨j, hj, e⟩ := List.getElem_of_mem hx
    have := hw j hj
    rw [nth_eq W j hj, e] at this
    exact this
  have hb : ∀ k : Nat, busyW W k = true ↔ cov (W.map Work.iv) k := fun k => busyW_cov (List.Perm.refl W) k
  obtain ⟨h3, h4⟩ := swp_inv (busyW W) 1441
  have hlast : busyW W 1440 = false := by
    rw [← Bool.not_eq_true, hb]
    rintro ⟨w, h, -, h'⟩
    have := hm w h
    omega
  rcases h4 with ⟨-, -, h5⟩ | ⟨f, -, hf, -, h6, -⟩
  · refine ⟨h3, fun x => ?_, fun p hp => ?_⟩
    · rw [h5]
      constructor
      · rintro ⟨k, hk, rfl, r⟩
        exact (hb k).1 r
      · rintro ⟨w, h, h7, h8⟩
        have := hm w h
        refine ⟨x.toNat, by omega, by omega, (hb _).2 ⟨w, h, by omega, by omega⟩⟩
    · have hlt := h3.1 p hp
      obtain ⟨a, ha, e1, -⟩ := (h5 p.1).1 ⟨p, hp, Int.le_refl _, hlt⟩
      obtain ⟨b, hb', e2, -⟩ := (h5 (p.2 - 1)).1 ⟨p, hp, by omega, by omega⟩
      omega
  · have := h6 1440 (by omega) (by omega)
    rw [hlast] at this; cases this
/-- What a plan with code 0 comes of. -/
theorem planC_plan {l : List Shot} {ord : List Int} {c : Int} (h : planC l ord c = 0) : askS l ord c = 0 ∧ ∃ k : Nat, c = k ∧ 0 < k ∧ k ≤ 3 ∧ worksB l ord k = true ∧ ∃ p, planS l ord k ord.length = some p ∧ planV l ord c = p.works ∧ PlanOk k ord.length p := by
  have ha : askS l ord c = 0 := by
    unfold planC at h; split at h
    · assumption
    · assumption
  have hs := ShotsOk.of_ask ha
  have h3 := inB_iff.1 (askS_0 ha).2.2
  obtain ⟨k, hk⟩ := Int.eq_ofNat_of_zero_le (show 0 ≤ c by omega)
  subst hk
  have hb : worksB l ord k = true := by
    unfold planC at h; rw [if_pos ha] at h; split at h
    · assumption
    · cases h
  refine ⟨ha, k, rfl, by omega, by omega, hb, ?_⟩
  cases hp : planS l ord k ord.length with
  | none => unfold worksB at hb; rw [hp] at hb; cases hb
  | some p => exact ⟨p, rfl, by rw [(planC_0 ha hb).2]; exact (works_some hp).2, planS_ok (by omega) hs (Nat.le_refl _) hp⟩
theorem planC_of {l : List Shot} {ord : List Int} {k : Nat} (h1 : shotList l = true) (h2 : orderB l.length ord = true) (h3 : inB (k : Int) 1 3 = true) (h4 : worksB l ord k = true) : planC l ord k = 0 :=
  (planC_0 (by unfold askS; rw [if_pos h1, if_pos h2, if_pos h3]) h4).1
/-- The parts of the day that a plan blocks. -/
def partsS (l : List Shot) (ord : List Int) (c : Int) : List (Int × Int) := (swp (busyW (planV l ord c)) 1441).1
/-- The sum of the lengths of the first parts. -/
def partTo (P : List (Int × Int)) : Nat → Int
  | 0 => 0
  | k + 1 => partTo P k + ((nth P k).2 - (nth P k).1)
theorem partTo_take (P : List (Int × Int)) : ∀ {k : Nat}, k ≤ P.length → partTo P k = lenSum (P.take k)
  | 0, _ => by rw [List.take_zero]; rfl
  | k + 1, hk => by
    rw [List.take_succ_eq_append_getElem (by omega), lenSum_snoc]
    show partTo P k + _ = _
    rw [partTo_take P (by omega), nth_eq P k (by omega)]
theorem partTo_all (P : List (Int × Int)) : partTo P P.length = lenSum P := by rw [partTo_take P (Nat.le_refl _), List.take_length]
/-- All that the law asks of a plan. -/
theorem plan_law {l : List Shot} {ord : List Int} {c : Int} (h : planC l ord c = 0) :
    (∀ j, j < ord.length → (nth (planV l ord c) j).fin ≤ (pickS l ord j).til ∧ (pickS l ord j).frm + (pickS l ord j).mins ≤ (nth (planV l ord c) j).fin) ∧
    (blkV l ord c = (partsS l ord c).map pr ∧ (partsS l ord c).length ≤ 1441 ∧ (∀ k, k < (partsS l ord c).length → 0 ≤ (nth (partsS l ord c) k).1 ∧ (nth (partsS l ord c) k).1 < (nth (partsS l ord c) k).2 ∧ (nth (partsS l ord c) k).2 ≤ 1441) ∧
      (∀ k, k + 1 < (partsS l ord c).length → (nth (partsS l ord c) k).2 < (nth (partsS l ord c) (k + 1)).1)) ∧
    partTo (partsS l ord c) (partsS l ord c).length ≤ minsTo l ord ord.length ∧ minsTo l ord ord.length ≤ partTo (partsS l ord c) (partsS l ord c).length * c := by
  obtain ⟨ha, k, rfl, hk0, hk3, hb, p, hp, hv, ok⟩ := planC_plan h
  have hs := ShotsOk.of_ask ha
  have hfrm := planS_frm hk0 hs (Nat.le_refl _) hp
  have hbeg := planS_beg hk0 hs (Nat.le_refl _) hp
  have htil := planS_til hk0 hs (Nat.le_refl _) hp
  obtain ⟨hact, hlen⟩ := planS_act hk0 hs (Nat.le_refl _) hp
  have hw : ∀ j, j < p.works.length → 0 ≤ (nth p.works j).beg ∧ (nth p.works j).beg < (nth p.works j).fin ∧ (nth p.works j).fin ≤ 1440 := fun j hj => ok.works j (by rw [← ok.wlen]; exact hj)
  obtain ⟨hcan, hcov, hpb⟩ := swp_parts hw
  have eP : partsS l ord k = (swp (busyW p.works) 1441).1 := by unfold partsS; rw [hv]
  rw [eP, hv]
  have eB : blkV l ord k = (swp (busyW p.works) 1441).1.map pr := by unfold blkV; rw [if_pos h, hv]
  rw [eB]
  have hl := swp_len (busyW p.works) 1441
  generalize (swp (busyW p.works) 1441).1 = P at *
  have hW : ∀ q ∈ p.works.map Work.iv, 0 ≤ q.1 ∧ q.1 ≤ q.2 ∧ q.2 ≤ (1441 : Nat) := fun q hq => by
    obtain ⟨x, hx, rfl⟩ := List.mem_map.1 hq
    obtain ⟨j, hj, e⟩ := List.getElem_of_mem hx
    have := hw j hj
    rw [nth_eq p.works j hj, e] at this
    show 0 ≤ x.beg ∧ x.beg ≤ x.fin ∧ x.fin ≤ _
    omega
  obtain ⟨b1, b2⟩ := blocked_law (n := 1441) (c := k) hcan (fun m => hcov m) hpb hW (fun m _ => by
    have h1 := hact m
    have h2 := busyC_le p.free (m : Int)
    rw [ok.len] at h2
    omega)
  rw [hlen] at b1 b2
  refine ⟨fun j hj => ⟨htil j hj, ?_⟩, ⟨rfl, hl, fun j hj => ?_, fun j hj => ?_⟩, by rw [partTo_all]; exact b1, by rw [partTo_all, Int.mul_comm]; exact b2⟩
  · have := hfrm j hj
    have := hbeg j hj
    omega
  · have h1 := hpb _ (nth_mem hj)
    have h2 := hcan.1 _ (nth_mem hj)
    omega
  · have := List.pairwise_iff_getElem.1 hcan.2 j (j + 1) (by omega) hj (by omega)
    rw [nth_eq P j (by omega), nth_eq P (j + 1) hj]
    exact this
/-- The greatest end. -/
def lastTo (W : List Work) : Nat → Int
  | 0 => 0
  | k + 1 => max (lastTo W k) (nth W k).fin
theorem lastTo_ge (W : List Work) : ∀ {k j : Nat}, j < k → (nth W j).fin ≤ lastTo W k
  | 0, _, h => absurd h (Nat.not_lt_zero _)
  | k + 1, j, h => by
    show _ ≤ max (lastTo W k) (nth W k).fin
    rcases (show j < k ∨ j = k by omega) with h1 | rfl
    · have := lastTo_ge W h1; omega
    · omega
end Go.Proofs.Ytpmbaemfpkcjnaa
