/- A name, a space and a list of numbers as text. -/
import Derived.Test.YtfiiaegfikocoaaDoorListText
import Derived.Test.YtfiiaegfikocoaaDoorAnd
import Derived.StillTailTactics
namespace Go.Proofs.YtfiiaegfikocoaaDoor
open Go.RowKit
def withS (id : ByteArray) (l : List Int) : ByteArray := id ++ ⟨#[32]⟩ ++ listS l
theorem listS_size {l : List Int} (h : ∀ k, k < l.length → -9223372036854775808 ≤ nth l k ∧ nth l k ≤ 9223372036854775807) : (listS l).size ≤ 22 * l.length + 1 := by
  unfold listS; split
  · show 1 ≤ _; omega
  · have := joinK_size h (Nat.le_refl _); omega
theorem withS_size {id : ByteArray} {l : List Int} (h : ∀ k, k < l.length → -9223372036854775808 ≤ nth l k ∧ nth l k ≤ 9223372036854775807) : (withS id l).size ≤ id.size + 22 * l.length + 2 := by
  unfold withS; rw [ByteArray.size_append, ByteArray.size_append]; have := listS_size h; have : (⟨#[32]⟩ : ByteArray).size = 1 := rfl; omega
theorem withId_any (id : ByteArray) (a : Option Addr) (cap : Nat) (l : List Int) (w : World) (hi : id.size ≤ 2000000) (H : IntAt w a l) (hw : ∀ k, k < l.length → inB (nth l k) (-1000000000000) 1000000000000 = true) (hlen : l.length ≤ 64) (ht : Tab w) :
    Gives Tryd.prog 32 #[.string id, .slice a l.length cap] w (.string (withS id l)) := by
  have hsz : (listS l).size ≤ 22 * l.length + 1 := listS_size fun k hk => by have := inB_iff.1 (hw k hk); omega
  have h1 : (id ++ ⟨#[32]⟩).size ≤ 2000001 := by rw [ByteArray.size_append]; have : (⟨#[32]⟩ : ByteArray).size = 1 := rfl; omega
  have h2 : (id ++ ⟨#[32]⟩ ++ listS l).size ≤ 2010000 := by rw [ByteArray.size_append]; omega
  have hL := Lib.hid (ListText_any a cap l w H hw hlen ht)
  have hv : Hid (id ++ ⟨#[32]⟩ ++ listS l = withS id l) := rfl
  clear H hw ht
  unfold Gives
  go_enter Tryd.func32, Tryd.ntmps32
  go_wp2_with (go_at_call 54; refine hL.out.mono ?_; rintro e w' ⟨rfl, y, rfl⟩)
  go_ret
  exact ⟨by rw [← hv.out]; rfl, (Ext.refl _).lift y⟩
end Go.Proofs.YtfiiaegfikocoaaDoor
