/- Versions: one as it lies in memory, and what it is. -/
import Derived.Test.YtbcpgdidajapoaaDoorState
import Derived.Test.YtbcpgdidajapoaaDoorLst
namespace Go.Proofs.YtbcpgdidajapoaaDoor
open Go.RowKit
/-- A version, with the place of its state. -/
structure Version where
  number : Int
  parent : Int
  memo : ByteArray
  addr : Option Addr
  cap : Nat
  state : List Setting
instance : Inhabited Version := ⟨⟨0, 0, ByteArray.empty, none, 0, []⟩⟩
def Version.cell (x : Version) : Nat → Value
  | 0 => .int .i64 x.number
  | 1 => .int .i64 x.parent
  | 2 => .string x.memo
  | _ => .slice x.addr x.state.length x.cap
def Version.val (x : Version) : Value := .agg #[.int .i64 x.number, .int .i64 x.parent, .string x.memo, .slice x.addr x.state.length x.cap]
/-- The state lies where the version says. -/
def Version.In (w : World) (x : Version) : Prop := SettingAt w x.addr x.state
theorem Version.In.ext {w w' : World} {x : Version} (h : x.In w) (he : Ext w w') : x.In w' := RowsAt.ext h he
/-- Sizes of what comes in. -/
def Version.Sz (x : Version) : Prop := x.memo.size ≤ 9223372036854775807 ∧ (∀ k, k < x.state.length → (nth x.state k).Sz) ∧ x.state.length ≤ 9223372036854775807 ∧ x.state.length ≤ x.cap
def Version.Small (x : Version) : Prop := x.memo.size ≤ 1048576 ∧ (∀ k, k < x.state.length → (nth x.state k).Small) ∧ x.state.length ≤ 1048576 ∧ x.state.length ≤ x.cap
/-- The same version, wherever its state lies. -/
def Version.Same (x y : Version) : Prop := x.number = y.number ∧ x.parent = y.parent ∧ x.memo = y.memo ∧ x.state = y.state
def versionB (x : Version) : Bool := inB x.number 1 32 && inB x.parent 0 (x.number - 1) && memoB x.memo && settingList x.state
theorem versionB_bd {x : Version} (h : versionB x = true) : (1 ≤ x.number ∧ x.number ≤ 32) ∧ (0 ≤ x.parent ∧ x.parent ≤ x.number - 1) ∧ x.memo.size ≤ 20 ∧ x.state.length ≤ 24 ∧ ∀ k, k < x.state.length → settingB (nth x.state k) = true := by
  unfold versionB at h; simp only [Bool.and_eq_true, inB_iff] at h
  exact ⟨h.1.1.1, h.1.1.2, memoB_size h.1.2, vAll_len_le h.2, vAll_one h.2⟩
end Go.Proofs.YtbcpgdidajapoaaDoor
