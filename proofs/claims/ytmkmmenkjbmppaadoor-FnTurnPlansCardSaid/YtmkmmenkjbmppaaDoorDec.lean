/- Numbers in decimal: the program's Decimal (by Go's strconv) and the reference's own. Both hand back 'decS n'. The table of strconv's must read as the program's text lays it ('Tab'). -/
import Derived.Test.YtmkmmenkjbmppaaDoorBasics
import Derived.Test.YtmkmmenkjbmppaaDoorShelf
import Derived.WalkSmall
namespace Go.Proofs.YtmkmmenkjbmppaaDoor
open Go.RowKit
open Go.Sort (grow)

def decS (n : Int) : ByteArray := ⟨(Lib.itoa n).toArray⟩
/-- The one table that is read. -/
def Tab (w : World) : Prop := Lib.TabIs Tryd.prog w "internal/strconv.uint64pow10" .u64 Lib.pow10Tab
theorem Tab.ext {w w' : World} (h : Tab w) (he : Ext w w') : Tab w' := by
  unfold Tab Lib.TabIs World.var? at *
  cases hg : Tryd.prog.globalNamed "internal/strconv.uint64pow10" with
  | none => rw [hg] at h; cases h
  | some g =>
    rw [hg] at h
    simp only [Option.bind_some] at h ⊢
    have hl : g < w.heap.size := by
      rcases Nat.lt_or_ge g w.heap.size with h1 | h1
      · exact h1
      · rw [Array.getElem?_eq_none h1] at h; cases h
    rw [he.below.block g hl]; exact h
theorem ext_growN (w : World) (k : Nat) (os : Array Obj) : Ext w (grow (w.drewN k) os) := ⟨⟨os, (w.drewN k).drawn⟩, rfl⟩
theorem Decimal_any (n : Int) (w : World) (h0 : -9223372036854775808 ≤ n) (h1 : n ≤ 9223372036854775807) (ht : Tab w) :
    Gives Tryd.prog 37 #[.int .i64 n] w (.string (decS n)) := by
  unfold Gives
  have HF : Hid (Calls Tryd.prog 53 #[.int .i64 n, .int .i64 10] w fun e w' => e = .returned (.string (decS n)) ∧ ∃ k os, w' = grow (w.drewN k) os) := Tryd.strconv_FormatInt_10 n h0 h1 w ht
  clear ht
  go_enter Tryd.func37, Tryd.ntmps37
  go_wp2_with fail
  refine HF.out.mono ?_
  rintro e w' ⟨rfl, k, os, rfl⟩
  have he := Lib.hid (ext_growN w k os)
  generalize grow (w.drewN k) os = W at *
  go_wp2_with fail
  go_ret
  exact ⟨rfl, he.out⟩
/-! ### The reference's own -/
def bv (b : UInt8) : Value := .int .u8 (b.toNat : Int)
def dgt (m : Nat) : UInt8 := UInt8.ofNat (48 + m % 10)
theorem bv_dgt (m : Nat) : bv (dgt m) = .int .u8 (48 + (m : Int) % 10) := by
  unfold bv dgt
  have : (UInt8.ofNat (48 + m % 10)).toNat = 48 + m % 10 := by
    rw [UInt8.toNat_ofNat']; omega
  rw [this]; congr 1
/-- The digits that are still to come. -/
def restD (m : Nat) : List UInt8 := if m = 0 then [] else Lib.decDigits m
theorem restD_step {m : Nat} (h : 0 < m) : restD m = restD (m / 10) ++ [dgt m] := by
  unfold restD
  rw [if_neg (by omega), Lib.decDigits]
  by_cases h1 : m < 10
  · rw [dif_pos h1, if_pos (by omega), List.nil_append]; unfold dgt; rw [Nat.mod_eq_of_lt h1]
  · rw [dif_neg h1, if_neg (by omega)]; rfl
theorem map_snoc {α β : Type} (l : List α) (x : α) (f : α → β) : l.map f ++ [f x] = (l ++ [x]).map f := by simp
theorem oneCell_bv (l : List UInt8) : ∀ u ∈ l.map bv, u.oneCell' = true := by
  intro u hu; simp only [List.mem_map] at hu; obtain ⟨b, _, rfl⟩ := hu; rfl
theorem decDigits_ne (n : Nat) : Lib.decDigits n ≠ [] := by
  rw [Lib.decDigits]; split <;> simp
theorem strOfNums_bytes (l : List UInt8) : strOfNums (l.map fun b => (b.toNat : Int)) = ⟨l.toArray⟩ := by
  unfold strOfNums
  rw [List.map_map]
  congr 2
  rw [List.map_congr_left (g := id) (fun b _ => by simp)]
  simp
theorem drop_rev {l : List UInt8} {j : Nat} (h0 : 0 < j) (h : j ≤ l.length) : (l.drop (j - 1)).reverse = (l.drop j).reverse ++ [nth l (j - 1)] := by
  rw [List.drop_eq_getElem_cons (show j - 1 < l.length by omega), List.reverse_cons, show j - 1 + 1 = j by omega, nth_eq l (j - 1) (by omega)]
theorem getD_bytes {l : List UInt8} {i : Nat} (h : i < l.length) : (l.map fun b => (b.toNat : Int)).getD i 0 = ((nth l i).toNat : Int) := by
  rw [nth_eq l i h]; simp [List.getD, h]
theorem map_get {l : List UInt8} {k : Nat} (h : k < l.length) : (l.map bv)[k]? = some (bv (nth l k)) := by
  rw [List.getElem?_map, List.getElem?_eq_getElem h, nth_eq l k h]; rfl
end Go.Proofs.YtmkmmenkjbmppaaDoor
