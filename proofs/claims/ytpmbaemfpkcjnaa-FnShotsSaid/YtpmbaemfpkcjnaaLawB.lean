/- What the laws over two lists of bytes share: how the bytes read, draws, lists side by side. No conditions. -/
import Derived.Test.YtpmbaemfpkcjnaaSrc
import Derived.Test.YtpmbaemfpkcjnaaLst
import Derived.Test.YtpmbaemfpkcjnaaLiftB
namespace Go.Proofs.Ytpmbaemfpkcjnaa
open Go.RowKit
theorem Lst.beside {α : Type} {T n : Nat} {cell : α → Nat → Value} {base : Nat} {w w' : World} {v : Value} {l : List α} {row : Option Nat} (h : Lst T n cell w base v l) (hg : w.grownBy w' row) (hne : ∀ g, v.ownBlock = some g → row ≠ some g) : Lst T n cell w' base v l := by
  refine ⟨h.1, ?_⟩
  rcases h.2 with h2 | ⟨g, cap, cur, hv, hgb, hh, r⟩
  · exact .inl h2
  · have hlt : g < w.heap.size := by
      rcases Nat.lt_or_ge g w.heap.size with h1 | h1
      · exact h1
      · rw [Array.getElem?_eq_none h1] at hh; cases hh
    exact .inr ⟨g, cap, cur, hv, hgb, by rw [hg.block g hlt (fun e => hne g (by rw [hv]; rfl) e.symm)]; exact hh, r⟩
theorem ByteAt.of8 {w : World} {a : Option Addr} {l : List UInt8} (h : RowsAt 1 (fun (x : UInt8) (_ : Nat) => Value.int .u8 x.toNat) w a l) : ByteAt w a (l.map fun x => (x.toNat : Int)) := fun k hk => by
  rw [List.length_map] at hk
  obtain ⟨b, o, e, hb, hc⟩ := h k hk
  refine ⟨b, o, e, hb, fun j hj => ?_⟩
  have := hc j hj
  rw [this, nth_eq (l.map fun x => (x.toNat : Int)) k (by simpa using hk), List.getElem_map, nth_eq l k hk]
theorem byte_range (l : List UInt8) : ∀ k, k < (l.map fun x => (x.toNat : Int)).length → 0 ≤ nth (l.map fun x => (x.toNat : Int)) k ∧ nth (l.map fun x => (x.toNat : Int)) k ≤ 255 := fun k hk => by
  rw [nth_eq _ k hk, List.getElem_map]
  have := (l[k]'(by simpa using hk)).toNat_lt
  omega
end Go.Proofs.Ytpmbaemfpkcjnaa
