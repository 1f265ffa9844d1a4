/- How two incidents stand: what the program's and the reference's functions say. -/
import Derived.Test.YtmkmmenkjbmppaaDoorIncident
import Derived.Test.YtmkmmenkjbmppaaDoorAdd
namespace Go.Proofs.YtmkmmenkjbmppaaDoor
open Go.RowKit
/-- How two texts stand. -/
def cmpS (x y : ByteArray) : Int := if sLt x y = true then -1 else if sLt y x = true then 1 else 0
theorem cmpS_lt {x y : ByteArray} : cmpS x y < 0 ↔ sLt x y = true := by
  unfold cmpS; split
  · rename_i h; exact ⟨fun _ => h, fun _ => by decide⟩
  · rename_i h; split <;> exact ⟨fun h2 => absurd h2 (by decide), fun h2 => absurd h2 h⟩
theorem cmpS_eq {x y : ByteArray} : cmpS x y = 0 ↔ x = y := by
  unfold cmpS; split
  · rename_i h; exact ⟨fun h2 => absurd h2 (by decide), fun h2 => by subst h2; rw [sLt_irrefl] at h; cases h⟩
  · rename_i h; split
    · rename_i h1; exact ⟨fun h2 => absurd h2 (by decide), fun h2 => by subst h2; rw [sLt_irrefl] at h1; cases h1⟩
    · rename_i h1; exact ⟨fun _ => sLt_total (by simpa using h) (by simpa using h1), fun _ => rfl⟩
theorem cmpI_eq0 {x y : Int} : cmpI x y = 0 ↔ x = y := by unfold cmpI; split <;> (try split) <;> omega
/-- The first number that is not 0. -/
def orI : List Int → Int
  | [] => 0
  | x :: l => if x = 0 then orI l else x
theorem orI_drop {l : List Int} : ∀ {k : Nat}, (∀ j, j < k → nth l j = 0) → k ≤ l.length → orI l = orI (l.drop k)
  | 0, _, _ => by rw [List.drop_zero]
  | k + 1, h, hk => by
    rw [orI_drop (k := k) (fun j hj => h j (by omega)) (by omega), List.drop_eq_getElem_cons (show k < l.length by omega)]
    have := h k (by omega)
    rw [nth_eq l k (by omega)] at this
    rw [this]; rfl
theorem orI_at {l : List Int} {k : Nat} (h : ∀ j, j < k → nth l j = 0) (hk : k < l.length) (h0 : nth l k ≠ 0) : orI l = nth l k := by
  rw [orI_drop h (by omega), List.drop_eq_getElem_cons hk]
  rw [nth_eq l k hk] at h0 ⊢
  unfold orI; rw [if_neg h0]
theorem orI_end {l : List Int} (h : ∀ j, j < l.length → nth l j = 0) : orI l = 0 := by
  rw [orI_drop h (Nat.le_refl _), List.drop_length]; rfl
theorem isNaNS_any (x : ByteArray) (w : World) : Calls Tryd.prog 69 #[.string x] w fun e w' => e = .returned (.bool false) ∧ w' = w := by
  go_enter Tryd.func69, Tryd.ntmps69
  go_wp2
  go_ret
  exact ⟨rfl, rfl⟩
theorem CompareS_any (x y : ByteArray) (w : World) : Calls Tryd.prog 60 #[.string x, .string y] w fun e w' => e = .returned (.int .i64 (cmpS x y)) ∧ w' = w := by
  have hv : Hid (cmpS x y = if sLt x y = true then -1 else if sLt y x = true then 1 else 0) := rfl
  cases h1 : sLt x y <;> cases h2 : sLt y x
  all_goals
    first
      | have h3 : sEq x y = true := sEq_iff.2 (sLt_total h1 h2)
      | have h3 : sEq x y = false := by rw [sEq_not]; rintro rfl; first | (rw [sLt_irrefl] at h1; cases h1; done) | (rw [sLt_irrefl] at h2; cases h2; done)
    go_enter Tryd.func60, Tryd.ntmps60
    go_wp2_with (go_at_call 69; refine (isNaNS_any _ _).mono ?_; rintro e w' ⟨rfl, rfl⟩)
    go_ret
    exact ⟨ret_int (by rw [hv.out, h1, h2]; first | rfl | (simp; done)), rfl⟩
set_option maxRecDepth 100000 in
theorem Or_any (a : Option Addr) (cap : Nat) (l : List Int) (w : World) (H : IntAt w a l) (hlen : l.length ≤ 1048576) : Calls Tryd.prog 59 #[.slice a l.length cap] w fun e w' => e = .returned (.int .i64 (orI l)) ∧ w' = w := by
  go_enter Tryd.func59, Tryd.ntmps59
  go_wp2_with fail
  go_loopw [8] (fun i wr => ∃ k : Nat, k ≤ l.length ∧ i = .int .i64 k ∧ Hid (∀ j, j < k → nth l j = 0) ∧ wr = w) (fun i _ => l.length - (intOf i).toNat)
  case atStart => exact ⟨0, Nat.zero_le _, rfl, upto_zero, rfl⟩
  case round =>
    obtain ⟨k, hk, rfl, hall, rfl⟩ := hrel
    by_cases hlt : k < l.length
    · obtain ⟨b, off, rfl⟩ := H.base hlt
      obtain ⟨hb, c0⟩ := IntAt.at H k hlt
      cases h0 : (nth l k != 0)
      · have hn : Hid (nth l k = 0) := by show nth l k = 0; simpa using h0
        go_wp2_with fail
        go_roundw
        case rel => exact ⟨k + 1, by omega, by go_num, upto_succ hall.out hn.out, by trivial⟩
        case measure => simp [intOf]; omega
      · have hn : Hid (orI l = nth l k) := orI_at hall.out hlt (by simpa using h0)
        go_wp2_with fail
        go_ret
        exact ⟨ret_int hn.out.symm, rfl⟩
    · have hn : Hid (orI l = 0) := orI_end fun j hj => hall.out j (by omega)
      go_wp2_with fail
      go_ret
      exact ⟨ret_int hn.out.symm, rfl⟩
theorem lift_lift (w : World) (x y : Growth) : lift (lift w x) y = lift w ⟨x.blocks ++ y.blocks, y.drawn⟩ := by simp [lift, Array.append_assoc]
def incB (x y : Incident) : Bool := if x.day = y.day then (if x.place = y.place then sLt x.cause y.cause else sLt x.place y.place) else decide (x.day < y.day)
def incK (x y : Incident) : Int := orI [cmpI x.day y.day, cmpS x.place y.place, cmpS x.cause y.cause]
theorem incK_day {x y : Incident} (h : x.day ≠ y.day) : incK x y = cmpI x.day y.day := by
  unfold incK orI; rw [if_neg (fun h2 => h (cmpI_eq0.1 h2))]
theorem incK_place {x y : Incident} (h : x.day = y.day) (h2 : x.place ≠ y.place) : incK x y = cmpS x.place y.place := by
  unfold incK orI; rw [if_pos (cmpI_eq0.2 h)]; unfold orI; rw [if_neg (fun h3 => h2 (cmpS_eq.1 h3))]
theorem incK_cause {x y : Incident} (h : x.day = y.day) (h2 : x.place = y.place) : incK x y = cmpS x.cause y.cause := by
  unfold incK orI; rw [if_pos (cmpI_eq0.2 h)]; unfold orI; rw [if_pos (cmpS_eq.2 h2)]; unfold orI
  split
  · rename_i h3; rw [h3]; rfl
  · rfl
theorem incK_lt {x y : Incident} : incK x y < 0 ↔ incB x y = true := by
  unfold incB
  by_cases h : x.day = y.day
  · rw [if_pos h]
    by_cases h2 : x.place = y.place
    · rw [if_pos h2, incK_cause h h2]; exact cmpS_lt
    · rw [if_neg h2, incK_place h h2]; exact cmpS_lt
  · rw [if_neg h, incK_day h, cmpI_lt, decide_eq_true_eq]
theorem incK_ge (x y : Incident) : decide (0 ≤ incK x y) = !incB x y := by
  cases h : incB x y
  · have : ¬ incK x y < 0 := fun h2 => by rw [incK_lt.1 h2] at h; cases h
    rw [decide_eq_true (by omega)]; rfl
  · have := incK_lt.2 h
    rw [decide_eq_false (by omega)]; rfl
theorem incK_eq {x y : Incident} (h1 : incB x y = false) : (incK x y == 0) = !incB y x := by
  by_cases h : x.day = y.day
  · by_cases h2 : x.place = y.place
    · have e : incB y x = sLt y.cause x.cause := by unfold incB; rw [if_pos h.symm, if_pos h2.symm]
      have e1 : sLt x.cause y.cause = false := by unfold incB at h1; rw [if_pos h, if_pos h2] at h1; exact h1
      rw [e, incK_cause h h2, Bool.eq_iff_iff, beq_iff_eq, cmpS_eq]
      constructor
      · intro h3; rw [h3, sLt_irrefl]; rfl
      · intro h3; exact sLt_total e1 (by simpa using h3)
    · have e : incB y x = sLt y.place x.place := by unfold incB; rw [if_pos h.symm, if_neg (fun h3 => h2 h3.symm)]
      have e1 : sLt x.place y.place = false := by unfold incB at h1; rw [if_pos h, if_neg h2] at h1; exact h1
      rw [e, incK_place h h2, Bool.eq_iff_iff, beq_iff_eq, cmpS_eq]
      constructor
      · intro h3; exact absurd h3 h2
      · intro h3; exact absurd (sLt_total e1 (by simpa using h3)) h2
  · have e : incB y x = decide (y.day < x.day) := by unfold incB; rw [if_neg (fun h3 => h h3.symm)]
    have e1 : ¬ x.day < y.day := by unfold incB at h1; rw [if_neg h] at h1; simpa using h1
    rw [e, incK_day h, Bool.eq_iff_iff, beq_iff_eq, cmpI_eq0]
    constructor
    · intro h3; exact absurd h3 h
    · intro h3; simp at h3; omega
theorem incB_trans {x y z : Incident} (h : incB x y = true) (k : incB y z = true) : incB x z = true := by
  unfold incB at *
  by_cases h1 : x.day = y.day
  · rw [if_pos h1] at h
    by_cases h2 : y.day = z.day
    · rw [if_pos h2] at k; rw [if_pos (h1.trans h2)]
      by_cases h3 : x.place = y.place
      · rw [if_pos h3] at h
        by_cases h4 : y.place = z.place
        · rw [if_pos h4] at k; rw [if_pos (h3.trans h4)]; exact sLt_trans h k
        · rw [if_neg h4] at k; rw [if_neg (fun h5 => h4 (h3.symm.trans h5)), h3]; exact k
      · rw [if_neg h3] at h
        by_cases h4 : y.place = z.place
        · rw [if_neg (fun h5 => h3 (h5.trans h4.symm)), ← h4]; exact h
        · rw [if_neg h4] at k
          have := sLt_trans h k
          rw [if_neg (fun h5 => by rw [h5, sLt_irrefl] at this; cases this)]; exact this
    · rw [if_neg h2] at k; rw [if_neg (fun h5 => h2 (h1.symm.trans h5)), h1]; exact k
  · rw [if_neg h1, decide_eq_true_eq] at h
    by_cases h2 : y.day = z.day
    · rw [if_neg (by omega), decide_eq_true_eq]; omega
    · rw [if_neg h2, decide_eq_true_eq] at k; rw [if_neg (by omega), decide_eq_true_eq]; omega
theorem sorted_rel {α : Type} [Inhabited α] {r : α → α → Bool} (ht : ∀ x y z, r x y = true → r y z = true → r x z = true) {l : List α} (h : ∀ k, k + 1 < l.length → r (nth l k) (nth l (k + 1)) = true) : ∀ i j, i < j → j < l.length → r (nth l i) (nth l j) = true := by
  intro i j hij
  induction j with
  | zero => intro _; omega
  | succ j ih =>
    intro hj
    rcases Nat.lt_or_ge i j with h1 | h1
    · exact ht _ _ _ (ih h1 (by omega)) (h j hj)
    · obtain rfl : i = j := by omega
      exact h i hj
theorem intAt_new0 (w : World) (cs : Array Value) (T : TypeId) (l : List Int) (h : ∀ k, k < l.length → cs[k]? = some (.int .i64 (nth l k))) : IntAt (w.alloc (.cells cs T)) (some ⟨w.heap.size, 0, none⟩) l :=
  IntAt.of (by rw [size_new]; omega) fun k hk => by rw [cell_new, Nat.zero_add]; exact h k hk
end Go.Proofs.YtmkmmenkjbmppaaDoor
