/- Lists of numbers: whether one is among them, whether all are within bounds. What the program's and the reference's functions, and those of Go's package slices, hand back. -/
import Derived.Test.YtpmbaemfpkcjnaaBasics
namespace Go.Proofs.Ytpmbaemfpkcjnaa
open Go.RowKit

def hasB (l : List Int) (n : Int) : Bool := l.contains n
theorem hasB_iff {l : List Int} {n : Int} : hasB l n = true ↔ n ∈ l := by simp [hasB]
theorem hasB_true {l : List Int} {n : Int} {k : Nat} (hk : k < l.length) (h : nth l k = n) : true = hasB l n := (hasB_iff.2 (h ▸ nth_mem hk)).symm
theorem hasB_false {l : List Int} {n : Int} (h : ∀ k, k < l.length → nth l k ≠ n) : false = hasB l n := by
  symm; rw [← Bool.not_eq_true, hasB_iff]; intro hm; obtain ⟨k, hk, e⟩ := mem_nth hm; exact h k hk e
set_option maxHeartbeats 400000 in
theorem l00Has_any (a : Option Addr) (cap : Nat) (l : List Int) (n : Int) (w : World) (H : IntAt w a l) (hlen : l.length ≤ 1000000000000) :
    Calls Try.prog 52 #[.slice a l.length cap, .int .i64 n] w fun e w' => e = .returned (.bool (hasB l n)) ∧ w' = w := by
  go_enter Try.func52, Try.ntmps52
  go_wp2
  go_loop [5] (fun i => ∃ k : Nat, k ≤ l.length ∧ i = .int .i64 k ∧ Hid (∀ j, j < k → nth l j ≠ n)) (fun i => l.length - (intOf i).toNat)
  case atStart => exact ⟨0, Nat.zero_le _, rfl, upto_zero⟩
  case round =>
    obtain ⟨k, hk, rfl, hall⟩ := hrel
    by_cases hlt : k < l.length
    · obtain ⟨b, off, rfl⟩ := H.base hlt
      obtain ⟨hb, c0⟩ := IntAt.at H k hlt
      clear H
      cases h1 : (nth l k == n)
      · have hne : Hid (nth l k ≠ n) := beq_eq_false_iff_ne.1 h1
        go_wp2
        go_round
        case rel => exact ⟨k + 1, by omega, by go_num, upto_succ hall.out hne.out⟩
        case measure => simp [intOf]; omega
      · have hv : Hid (true = hasB l n) := hasB_true hlt (beq_iff_eq.1 h1)
        go_wp2
        go_ret
        exact ⟨ret_bool hv.out, rfl⟩
    · have hv : Hid (false = hasB l n) := hasB_false fun j hj => hall.out j (by omega)
      clear H
      go_wp2
      go_ret
      exact ⟨ret_bool hv.out, rfl⟩
/-- The first place of n in l, or -1. -/
def idxI (l : List Int) (p : Int → Bool) : Int := match l.findIdx? p with | some k => k | none => -1
theorem idxI_hit {l : List Int} {p : Int → Bool} {k : Nat} (hk : k < l.length) (h : p (nth l k) = true) (h0 : ∀ j, j < k → p (nth l j) = false) : (k : Int) = idxI l p := by
  unfold idxI
  rw [show l.findIdx? p = some k by
    rw [List.findIdx?_eq_some_iff_getElem]
    exact ⟨hk, by rw [← nth_eq l k hk]; exact h, fun j hj => by rw [← nth_eq l j (by omega), h0 j hj]; decide⟩]
theorem idxI_miss {l : List Int} {p : Int → Bool} (h0 : ∀ j, j < l.length → p (nth l j) = false) : -1 = idxI l p := by
  unfold idxI
  rw [show l.findIdx? p = none by
    rw [List.findIdx?_eq_none_iff]; intro x hx; obtain ⟨k, hk, rfl⟩ := mem_nth hx; exact h0 k hk]
theorem idxI_pos (l : List Int) (p : Int → Bool) : decide (0 ≤ idxI l p) = l.any p := by
  unfold idxI
  cases h : l.findIdx? p with
  | none =>
    rw [List.findIdx?_eq_none_iff] at h
    have : l.any p = false := by rw [List.any_eq_false]; intro x hx; rw [h x hx]; decide
    rw [this]; rfl
  | some k =>
    rw [List.findIdx?_eq_some_iff_getElem] at h
    obtain ⟨hk, hp, _⟩ := h
    have : l.any p = true := by rw [List.any_eq_true]; exact ⟨_, List.getElem_mem hk, hp⟩
    rw [this]; simp
theorem idxI_bd (l : List Int) (p : Int → Bool) : -1 ≤ idxI l p ∧ idxI l p ≤ l.length := by
  unfold idxI
  cases h : l.findIdx? p with
  | none => simp only []; omega
  | some k => rw [List.findIdx?_eq_some_iff_getElem] at h; have := h.1; simp only []; omega
set_option maxHeartbeats 400000 in
theorem Index_any (a : Option Addr) (cap : Nat) (l : List Int) (n : Int) (w : World) (H : IntAt w a l) (hlen : l.length ≤ 1000000000000) :
    Calls Try.prog 53 #[.slice a l.length cap, .int .i64 n] w fun e w' => e = .returned (.int .i64 (idxI l (fun x => n == x))) ∧ w' = w := by
  go_enter Try.func53, Try.ntmps53
  go_wp2
  go_loop [8] (fun i => ∃ k : Nat, k ≤ l.length ∧ i = .int .i64 k ∧ Hid (∀ j, j < k → (n == nth l j) = false)) (fun i => l.length - (intOf i).toNat)
  case atStart => exact ⟨0, Nat.zero_le _, rfl, upto_zero⟩
  case round =>
    obtain ⟨k, hk, rfl, hall⟩ := hrel
    by_cases hlt : k < l.length
    · obtain ⟨b, off, rfl⟩ := H.base hlt
      obtain ⟨hb, c0⟩ := IntAt.at H k hlt
      clear H
      cases h1 : (n == nth l k)
      · have hne : Hid ((n == nth l k) = false) := h1
        go_wp2
        go_round
        case rel => exact ⟨k + 1, by omega, by go_num, upto_succ hall.out hne.out⟩
        case measure => simp [intOf]; omega
      · have hv : Hid ((k : Int) = idxI l (fun x => n == x)) := idxI_hit (p := fun x => n == x) hlt h1 hall.out
        go_wp2
        go_ret
        exact ⟨ret_int hv.out, rfl⟩
    · have hv : Hid (-1 = idxI l (fun x => n == x)) := idxI_miss (p := fun x => n == x) fun j hj => hall.out j (by omega)
      clear H
      go_wp2
      go_ret
      exact ⟨ret_int hv.out, rfl⟩
theorem Contains_any (a : Option Addr) (cap : Nat) (l : List Int) (n : Int) (w : World) (H : IntAt w a l) (hlen : l.length ≤ 1000000000000) :
    Calls Try.prog 38 #[.slice a l.length cap, .int .i64 n] w fun e w' => e = .returned (.bool (hasB l n)) ∧ w' = w := by
  have hv : Hid (decide (0 ≤ idxI l (fun x => n == x)) = hasB l n) := by
    show _ = _
    rw [idxI_pos, Bool.eq_iff_iff, hasB_iff, List.any_eq_true]
    exact ⟨fun ⟨x, hx, e⟩ => by rw [beq_iff_eq] at e; exact e ▸ hx, fun hm => ⟨n, hm, by simp⟩⟩
  have HH := Lib.hid H
  clear H
  go_enter Try.func38, Try.ntmps38
  go_wp2_with (go_at_call 53; refine (Index_any _ _ l _ _ HH.out hlen).mono ?_; rintro e w' ⟨rfl, rfl⟩)
  go_ret
  exact ⟨ret_bool hv.out, rfl⟩
def allIn (l : List Int) (lo hi : Int) : Bool := l.all fun x => inB x lo hi
theorem allIn_iff {l : List Int} {lo hi : Int} : allIn l lo hi = true ↔ ∀ k, k < l.length → inB (nth l k) lo hi = true := by
  unfold allIn; rw [List.all_eq_true]
  exact ⟨fun h k hk => h _ (nth_mem hk), fun h x hx => by obtain ⟨k, hk, rfl⟩ := mem_nth hx; exact h k hk⟩
end Go.Proofs.Ytpmbaemfpkcjnaa
