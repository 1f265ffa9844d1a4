/- CommonAncestor: what the program's and the reference's functions hand back. -/
import Derived.Test.YtbcpgdidajapoaaDoorCommon
import Derived.Test.YtbcpgdidajapoaaDoorAdd
namespace Go.Proofs.YtbcpgdidajapoaaDoor
open Go.RowKit
theorem Lst.lit1 (w : World) (base : Nat) (hb : base ≤ w.heap.size) (x : Int) : Lst 2 1 celI (w.alloc (.cells #[.int .i64 x] 2)) base (.slice (some ⟨w.heap.size, 0, none⟩) 1 1) [x] :=
  ⟨rfl, .inr ⟨w.heap.size, 1, #[.int .i64 x], rfl, hb, by show (w.heap.push _)[w.heap.size]? = _; simp, Nat.le_refl _, by unfold maxLen; omega, rfl, rfl⟩⟩
/-- append(dst, src...), src nil or not. -/
theorem wpList_pushA {α : Type} [Inhabited α] {n T : Nat} {cell : α → Nat → Value} {P : Program} {w : World} {ops : Array Oper} {rest : List Oper} {o : Oper} {a : Act} {Q : Exit → Act → World → Prop} {t bytes : Nat} (E : El P t T n bytes) (hcell : ∀ x j, j < n → (cell x j).oneCell' = true) (hgd : o.guard = none) (s x : Operand)
    (ho : o.op = .call { callee := .builtin .append, args := #[s, x], argTypes := #[t, t] }) (base : Nat) (v : Value) (l : List α) (hs : a.eval s = v) (hown : Lst T n cell w base v l)
    (ad : Option Addr) (m c : Nat) (l2 : List α) (hm : l2.length = m) (hx : a.eval x = .slice ad m c) (hR : RowsAt n cell w ad l2)
    (h63 : l.length + m ≤ 9223372036854775807) (hbytes : (l.length + m) * bytes ≤ 140737488355328) (hbase : base ≤ w.heap.size)
    (h : ∀ v' w', Lst T n cell w' base v' (l ++ l2) → Since base w w' → wpList P ops Q rest (a.put o.dst v') w') : wpList P ops Q (o :: rest) a w := by
  cases ad with
  | some ad => exact wpList_pushL E hcell hgd s x ho base v l hs hown ad m c l2 hm hx hR h63 hbytes hbase fun v' w' h1 h2 _ => h v' w' h1 h2
  | none =>
    have h0 : l2 = [] := by
      cases l2 with
      | nil => rfl
      | cons y l2 => obtain ⟨b, off, e, -⟩ := hR 0 (by simp); cases e
    subst h0
    subst hm
    exact wpList_push_none E hgd s x ho base v l hs hown c hx (h v w (by rw [List.append_nil]; exact hown) (Since.of_ext (Ext.refl _)))
theorem int_two (w : World) (x y : Int) : IntAt (w.alloc (.cells #[.int .i64 x, .int .i64 y] 2)) (some ⟨w.heap.size, 0, none⟩) [x, y] :=
  IntAt.of (by rw [size_new]; omega) fun k hk => by
    rw [cell_new, Nat.zero_add]
    rcases (show k = 0 ∨ k = 1 by simp at hk; omega) with rfl | rfl <;> rfl
theorem ret_two {a b x y : Int} (h1 : a = x) (h2 : b = y) : Ending.returned (.tuple #[.int .i64 a, .int .i64 b]) = .returned (.tuple #[.int .i64 x, .int .i64 y]) := by subst h1 h2; rfl
set_option maxRecDepth 100000 in
set_option maxHeartbeats 4000000 in
theorem implCommonAncestor_any (w : World) (a : Option Addr) (cap : Nat) (l : List Version) (H : VersAt w a l) (hsz : ∀ k, k < l.length → (nth l k).Small) (hn : l.length ≤ 1048576) (x y : Int) :
    Gives Tryd.prog 16 #[.slice a l.length cap, .int .i64 x, .int .i64 y] w (.tuple #[.int .i64 (comV (strips l) x y), .int .i64 (vcodeP (strips l) [x, y])]) := by
  unfold Gives
  have HV : Hid (Gives Tryd.prog 39 #[.slice a l.length cap, .slice (some ⟨w.heap.size, 0, none⟩) 2 2] (w.alloc (.cells #[.int .i64 x, .int .i64 y] 2)) (.int .i64 (vcodeP (strips l) [x, y]))) :=
    versionsCode_any _ a cap l (some ⟨w.heap.size, 0, none⟩) 2 [x, y] (H.ext ((Ext.refl _).alloc _)) hsz hn (int_two w x y) (by simp)
  by_cases h0 : vcodeP (strips l) [x, y] = 0
  · have hd : (vcodeP (strips l) [x, y] == 0) = true := beq_iff_eq.2 h0
    have hu : Hid (comV (strips l) x y = comP (strips l) x y) := if_pos h0
    obtain ⟨hh, hall⟩ := vcodeP_zero h0
    have hall2 : inB x 1 l.length = true ∧ inB y 1 l.length = true := by
      rw [strips_len] at hall; unfold allIn at hall; simpa using hall
    have hx := inB_iff.1 hall2.1
    have hy := inB_iff.1 hall2.2
    have HC := Lib.hid fun (w' : World) (he : Ext w w') => commonAncestor_any w' a cap l x y (H.ext he) hh (by omega) hx.2 (by omega) hy.2
    have h0' := Lib.hid h0
    clear h0 hh hall hall2 hx hy H hsz
    rw [h0'.out] at HV hd
    go_enter Tryd.func16, Tryd.ntmps16
    go_wp2_with fail
    refine HV.out.mono ?_
    rintro e w' ⟨rfl, z, rfl⟩
    go_wp2_with (go_at_call 45; refine (HC.out _ (by repeat (first | exact Ext.refl _ | refine Ext.lift ?_ _ | refine Ext.alloc ?_ _))).mono ?_; rintro e w' ⟨rfl, z2, rfl⟩)
    go_ret2
    exact ⟨ret_two hu.out.symm h0'.out.symm, (by repeat (first | exact Ext.refl _ | refine Ext.lift ?_ _ | refine Ext.alloc ?_ _))⟩
  · have hu : Hid (comV (strips l) x y = 0) := if_neg h0
    obtain ⟨c, hc⟩ : ∃ c, c = vcodeP (strips l) [x, y] := ⟨_, rfl⟩
    rw [← hc] at HV h0
    have hd : (c == 0) = false := beq_eq_false_iff_ne.2 h0
    have hc' := Lib.hid hc
    clear h0 H hsz hc
    go_enter Tryd.func16, Tryd.ntmps16
    go_wp2_with fail
    refine HV.out.mono ?_
    rintro e w' ⟨rfl, z, rfl⟩
    go_wp2_with fail
    go_ret2
    exact ⟨ret_two hu.out.symm hc'.out, (by repeat (first | exact Ext.refl _ | refine Ext.lift ?_ _ | refine Ext.alloc ?_ _))⟩
end Go.Proofs.YtbcpgdidajapoaaDoor
