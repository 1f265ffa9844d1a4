/- Lists of numbers: whether one is among them, whether all are within bounds. What the program's and the reference's functions, and those of Go's package slices, hand back. -/
import Derived.Test.YtmkmmenkjbmppaaDoorBasics
namespace Go.Proofs.YtmkmmenkjbmppaaDoor
open Go.RowKit

def hasB (l : List Int) (n : Int) : Bool := l.contains n
theorem hasB_iff {l : List Int} {n : Int} : hasB l n = true ↔ n ∈ l := by simp [hasB]
theorem hasB_true {l : List Int} {n : Int} {k : Nat} (hk : k < l.length) (h : nth l k = n) : true = hasB l n := (hasB_iff.2 (h ▸ nth_mem hk)).symm
theorem hasB_false {l : List Int} {n : Int} (h : ∀ k, k < l.length → nth l k ≠ n) : false = hasB l n := by
  symm; rw [← Bool.not_eq_true, hasB_iff]; intro hm; obtain ⟨k, hk, e⟩ := mem_nth hm; exact h k hk e
/-- The first place of n in l, or -1. -/
def idxI (l : List Int) (p : Int → Bool) : Int := match l.findIdx? p with | some k => k | none => -1
theorem idxI_hit {l : List Int} {p : Int → Bool} {k : Nat} (hk : k < l.length) (h : p (nth l k) = true) (h0 : ∀ j, j < k → p (nth l j) = false) : (k : Int) = idxI l p := by
  unfold idxI
  rw [show l.findIdx? p = some k by
    rw [List.findIdx?_eq_some_iff_getElem]
    exact ⟨hk, by rw [← nth_eq l k hk]; exact h, fun j hj => by rw [← nth_eq l j (by omega), h0 j hj]; decide⟩]
theorem idxI_miss {l : List Int} {p : Int → Bool} (h0 : ∀ j, j < l.length → p (nth l j) = false) : -1 = idxI l p := by
  unfold idxI
  rw [show l.findIdx? p = none by
    rw [List.findIdx?_eq_none_iff]; intro x hx; obtain ⟨k, hk, rfl⟩ := mem_nth hx; exact h0 k hk]
theorem idxI_pos (l : List Int) (p : Int → Bool) : decide (0 ≤ idxI l p) = l.any p := by
  unfold idxI
  cases h : l.findIdx? p with
  | none =>
    rw [List.findIdx?_eq_none_iff] at h
    have : l.any p = false := by rw [List.any_eq_false]; intro x hx; rw [h x hx]; decide
    rw [this]; rfl
  | some k =>
    rw [List.findIdx?_eq_some_iff_getElem] at h
    obtain ⟨hk, hp, _⟩ := h
    have : l.any p = true := by rw [List.any_eq_true]; exact ⟨_, List.getElem_mem hk, hp⟩
    rw [this]; simp
theorem idxI_bd (l : List Int) (p : Int → Bool) : -1 ≤ idxI l p ∧ idxI l p ≤ l.length := by
  unfold idxI
  cases h : l.findIdx? p with
  | none => simp only []; omega
  | some k => rw [List.findIdx?_eq_some_iff_getElem] at h; have := h.1; simp only []; omega
set_option maxHeartbeats 400000 in
theorem Index_any (a : Option Addr) (cap : Nat) (l : List Int) (n : Int) (w : World) (H : IntAt w a l) (hlen : l.length ≤ 1000000000000) :
    Calls Tryd.prog 55 #[.slice a l.length cap, .int .i64 n] w fun e w' => e = .returned (.int .i64 (idxI l (fun x => n == x))) ∧ w' = w := by
  go_enter Tryd.func55, Tryd.ntmps55
  go_wp2
  go_loop [8] (fun i => ∃ k : Nat, k ≤ l.length ∧ i = .int .i64 k ∧ Hid (∀ j, j < k → (n == nth l j) = false)) (fun i => l.length - (intOf i).toNat)
  case atStart => exact ⟨0, Nat.zero_le _, rfl, upto_zero⟩
  case round =>
    obtain ⟨k, hk, rfl, hall⟩ := hrel
    by_cases hlt : k < l.length
    · obtain ⟨b, off, rfl⟩ := H.base hlt
      obtain ⟨hb, c0⟩ := IntAt.at H k hlt
      clear H
      cases h1 : (n == nth l k)
      · have hne : Hid ((n == nth l k) = false) := h1
        go_wp2
        go_round
        case rel => exact ⟨k + 1, by omega, by go_num, upto_succ hall.out hne.out⟩
        case measure => simp [intOf]; omega
      · have hv : Hid ((k : Int) = idxI l (fun x => n == x)) := idxI_hit (p := fun x => n == x) hlt h1 hall.out
        go_wp2
        go_ret
        exact ⟨ret_int hv.out, rfl⟩
    · have hv : Hid (-1 = idxI l (fun x => n == x)) := idxI_miss (p := fun x => n == x) fun j hj => hall.out j (by omega)
      clear H
      go_wp2
      go_ret
      exact ⟨ret_int hv.out, rfl⟩
theorem Contains_any (a : Option Addr) (cap : Nat) (l : List Int) (n : Int) (w : World) (H : IntAt w a l) (hlen : l.length ≤ 1000000000000) :
    Calls Tryd.prog 40 #[.slice a l.length cap, .int .i64 n] w fun e w' => e = .returned (.bool (hasB l n)) ∧ w' = w := by
  have hv : Hid (decide (0 ≤ idxI l (fun x => n == x)) = hasB l n) := by
    show _ = _
    rw [idxI_pos, Bool.eq_iff_iff, hasB_iff, List.any_eq_true]
    exact ⟨fun ⟨x, hx, e⟩ => by rw [beq_iff_eq] at e; exact e ▸ hx, fun hm => ⟨n, hm, by simp⟩⟩
  have HH := Lib.hid H
  clear H
  go_enter Tryd.func40, Tryd.ntmps40
  go_wp2_with (go_at_call 55; refine (Index_any _ _ l _ _ HH.out hlen).mono ?_; rintro e w' ⟨rfl, rfl⟩)
  go_ret
  exact ⟨ret_bool hv.out, rfl⟩
set_option maxHeartbeats 400000 in
theorem IndexFunc_any (a : Option Addr) (cap : Nat) (l : List Int) (F : FuncId) (vs : Array Value) (p : Int → Bool) (w : World) (eg : Enters Tryd.prog F) (H : IntAt w a l) (hlen : l.length ≤ 1000000000000)
    (hf : ∀ k w', k < l.length → Ext w w' → Gives Tryd.prog F (#[.int .i64 (nth l k)] ++ vs) w' (.bool (p (nth l k)))) :
    Gives Tryd.prog 63 #[.slice a l.length cap, .func (.func F) #[] vs] w (.int .i64 (idxI l p)) := by
  unfold Gives
  have HF := Lib.hid hf
  clear hf
  unfold Enters at eg
  go_enter Tryd.func63, Tryd.ntmps63
  go_wp2_with fail
  go_loopw [8] (fun i wr => ∃ k : Nat, k ≤ l.length ∧ i = .int .i64 k ∧ Hid (∀ j, j < k → p (nth l j) = false) ∧ Ext w wr) (fun i _ => l.length - (intOf i).toNat)
  case atStart => exact ⟨0, Nat.zero_le _, rfl, upto_zero, Ext.refl w⟩
  case round =>
    obtain ⟨k, hk, rfl, hall, he⟩ := hrel
    by_cases hlt : k < l.length
    · obtain ⟨b, off, rfl⟩ := H.base hlt
      obtain ⟨hb, c0⟩ := IntAt.at (H.ext he) k hlt
      clear H
      cases h1 : p (nth l k)
      · have hne : Hid (p (nth l k) = false) := h1
        go_wp2_with fail
        refine (HF.out k _ hlt he).mono ?_
        rintro e w' ⟨rfl, y, rfl⟩
        rw [h1]
        go_wp2_with fail
        go_roundw
        case rel => exact ⟨k + 1, by omega, by go_num, upto_succ hall.out hne.out, he.lift y⟩
        case measure => simp [intOf]; omega
      · have hv : Hid ((k : Int) = idxI l p) := idxI_hit hlt h1 hall.out
        go_wp2_with fail
        refine (HF.out k _ hlt he).mono ?_
        rintro e w' ⟨rfl, y, rfl⟩
        rw [h1]
        go_wp2_with fail
        go_ret
        exact ⟨ret_int hv.out, he.lift y⟩
    · have hv : Hid (-1 = idxI l p) := idxI_miss fun j hj => hall.out j (by omega)
      clear H
      go_wp2_with fail
      go_ret
      exact ⟨ret_int hv.out, he⟩
theorem ContainsFunc_any (a : Option Addr) (cap : Nat) (l : List Int) (F : FuncId) (vs : Array Value) (p : Int → Bool) (w : World) (eg : Enters Tryd.prog F) (H : IntAt w a l) (hlen : l.length ≤ 1000000000000)
    (hf : ∀ k w', k < l.length → Ext w w' → Gives Tryd.prog F (#[.int .i64 (nth l k)] ++ vs) w' (.bool (p (nth l k)))) :
    Gives Tryd.prog 51 #[.slice a l.length cap, .func (.func F) #[] vs] w (.bool (l.any p)) := by
  unfold Gives
  have hv : Hid (decide (0 ≤ idxI l p) = l.any p) := idxI_pos l p
  have HC := Lib.hid (IndexFunc_any a cap l F vs p w eg H hlen hf)
  clear H hf eg
  go_enter Tryd.func51, Tryd.ntmps51
  go_wp2_with (go_at_call 63; refine HC.out.mono ?_; rintro e w' ⟨rfl, y, rfl⟩)
  go_ret
  exact ⟨ret_bool hv.out, (Ext.refl _).lift y⟩
def allIn (l : List Int) (lo hi : Int) : Bool := l.all fun x => inB x lo hi
theorem allIn_iff {l : List Int} {lo hi : Int} : allIn l lo hi = true ↔ ∀ k, k < l.length → inB (nth l k) lo hi = true := by
  unfold allIn; rw [List.all_eq_true]
  exact ⟨fun h k hk => h _ (nth_mem hk), fun h x hx => by obtain ⟨k, hk, rfl⟩ := mem_nth hx; exact h k hk⟩
set_option maxHeartbeats 400000 in
theorem allWithin_1 (x lo hi : Int) (b1 b2 : Nat) (w : World) (c1 : w.cell? ⟨b1, 0, none⟩ = some (.int .i64 lo)) (c2 : w.cell? ⟨b2, 0, none⟩ = some (.int .i64 hi)) :
    Gives Tryd.prog 52 #[.int .i64 x, .pointer (some ⟨b1, 0, none⟩), .pointer (some ⟨b2, 0, none⟩)] w (.bool (!inB x lo hi)) := by
  apply Gives.same
  go_enter Tryd.func52, Tryd.ntmps52
  go_wp2_with (go_at_call 34; refine (within_any _ _ _ _).mono ?_; rintro e w' ⟨rfl, rfl⟩)
  go_ret
  exact ⟨rfl, rfl⟩
set_option maxHeartbeats 400000 in
theorem allWithin_any (a : Option Addr) (cap : Nat) (l : List Int) (lo hi : Int) (w : World) (H : IntAt w a l) (hlen : l.length ≤ 1000000000000) :
    Gives Tryd.prog 36 #[.slice a l.length cap, .int .i64 lo, .int .i64 hi] w (.bool (allIn l lo hi)) := by
  unfold Gives
  have hv : Hid ((!l.any fun x => !inB x lo hi) = allIn l lo hi) := by
    show _ = _; unfold allIn; rw [List.all_eq_not_any_not]
  have eg : Enters Tryd.prog 52 := enters_of Tryd.func52 (by kernel_rfl) rfl
  have hA := Lib.hid (((Ext.refl w).alloc (.cells #[.int .i64 lo] 2)).alloc (.cells #[.int .i64 hi] 2))
  have c1 : ((w.alloc (.cells #[.int .i64 lo] 2)).alloc (.cells #[.int .i64 hi] 2)).cell? ⟨w.heap.size, 0, none⟩ = some (.int .i64 lo) :=
    ((Ext.refl _).alloc _).cell (by rw [cell_new]; rfl)
  have c2 : ((w.alloc (.cells #[.int .i64 lo] 2)).alloc (.cells #[.int .i64 hi] 2)).cell? ⟨w.heap.size + 1, 0, none⟩ = some (.int .i64 hi) := by
    rw [← size_new w (.cells #[.int .i64 lo] 2), cell_new]; rfl
  have HC := Lib.hid (ContainsFunc_any a cap l 52 #[.pointer (some ⟨w.heap.size, 0, none⟩), .pointer (some ⟨w.heap.size + 1, 0, none⟩)] (fun x => !inB x lo hi) _ eg (H.ext hA.out) hlen
    (fun k w' _ he => allWithin_1 (nth l k) lo hi _ _ w' (he.cell c1) (he.cell c2)))
  clear H c1 c2 eg
  go_enter Tryd.func36, Tryd.ntmps36
  go_wp2_with (go_at_call 51; refine HC.out.mono ?_; rintro e w' ⟨rfl, y, rfl⟩)
  go_ret
  exact ⟨ret_bool hv.out, hA.out.lift y⟩
end Go.Proofs.YtmkmmenkjbmppaaDoor
