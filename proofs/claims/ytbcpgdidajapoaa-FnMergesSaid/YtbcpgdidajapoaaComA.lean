/- CommonAncestor: what the program's and the reference's functions hand back. -/
import Derived.Test.YtbcpgdidajapoaaCommon
import Derived.Test.YtbcpgdidajapoaaAdd
namespace Go.Proofs.Ytbcpgdidajapoaa
open Go.RowKit
theorem Lst.lit1 (w : World) (base : Nat) (hb : base ≤ w.heap.size) (x : Int) : Lst 2 1 celI (w.alloc (.cells #[.int .i64 x] 2)) base (.slice (some ⟨w.heap.size, 0, none⟩) 1 1) [x] :=
  ⟨rfl, .inr ⟨w.heap.size, 1, #[.int .i64 x], rfl, hb, by show (w.heap.push _)[w.heap.size]? = _; simp, Nat.le_refl _, by unfold maxLen; omega, rfl, rfl⟩⟩
/-- append(dst, src...), src nil or not. -/
theorem wpList_pushA {α : Type} [Inhabited α] {n T : Nat} {cell : α → Nat → Value} {P : Program} {w : World} {ops : Array Oper} {rest : List Oper} {o : Oper} {a : Act} {Q : Exit → Act → World → Prop} {t bytes : Nat} (E : El P t T n bytes) (hcell : ∀ x j, j < n → (cell x j).oneCell' = true) (hgd : o.guard = none) (s x : Operand)
    (ho : o.op = .call { callee := .builtin .append, args := #[s, x], argTypes := #[t, t] }) (base : Nat) (v : Value) (l : List α) (hs : a.eval s = v) (hown : Lst T n cell w base v l)
    (ad : Option Addr) (m c : Nat) (l2 : List α) (hm : l2.length = m) (hx : a.eval x = .slice ad m c) (hR : RowsAt n cell w ad l2)
    (h63 : l.length + m ≤ 9223372036854775807) (hbytes : (l.length + m) * bytes ≤ 140737488355328) (hbase : base ≤ w.heap.size)
    (h : ∀ v' w', Lst T n cell w' base v' (l ++ l2) → Since base w w' → wpList P ops Q rest (a.put o.dst v') w') : wpList P ops Q (o :: rest) a w := by
  cases ad with
  | some ad => exact wpList_pushL E hcell hgd s x ho base v l hs hown ad m c l2 hm hx hR h63 hbytes hbase fun v' w' h1 h2 _ => h v' w' h1 h2
  | none =>
    have h0 : l2 = [] := by
      cases l2 with
      | nil => rfl
      | cons y l2 => obtain ⟨b, off, e, -⟩ := hR 0 (by simp); cases e
    subst h0
    subst hm
    exact wpList_push_none E hgd s x ho base v l hs hown c hx (h v w (by rw [List.append_nil]; exact hown) (Since.of_ext (Ext.refl _)))
theorem int_two (w : World) (x y : Int) : IntAt (w.alloc (.cells #[.int .i64 x, .int .i64 y] 2)) (some ⟨w.heap.size, 0, none⟩) [x, y] :=
  IntAt.of (by rw [size_new]; omega) fun k hk => by
    rw [cell_new, Nat.zero_add]
    rcases (show k = 0 ∨ k = 1 by simp at hk; omega) with rfl | rfl <;> rfl
set_option maxRecDepth 100000 in
set_option maxHeartbeats 4000000 in
theorem l27Common_any (w : World) (a : Option Addr) (cap : Nat) (l : List Version) (x y : Int) (H : VersAt w a l) (hh : histP (strips l) = true) (hx0 : 0 < x) (hx1 : x ≤ l.length) (hy0 : 0 < y) (hy1 : y ≤ l.length) :
    Gives Try.prog 29 #[.slice a l.length cap, .int .i64 x, .int .i64 y] w (.int .i64 (comP (strips l) x y)) := by
  unfold Gives
  have HL := Lib.hid fun (w' : World) (he : Ext w w') (n : Int) => l27Above_any w' a cap l n (H.ext he) hh
  have hl32 := (hist_bd hh).1
  have hlx := lineP_len (strips l) x
  have hly := lineP_len (strips l) y
  have hvx := lineP_pos hh hx0 (by rw [strips_len]; exact hx1)
  have hvy := lineP_pos hh hy0 (by rw [strips_len]; exact hy1)
  have hc : Hid (comP (strips l) x y = comL (x :: (lineP (strips l) x).tail) (y :: (lineP (strips l) y).tail)) := by
    show _ = _; unfold comP; rw [hvx, hvy]; rfl
  obtain ⟨L, hL⟩ : ∃ L, L = (lineP (strips l) x).tail := ⟨_, rfl⟩
  obtain ⟨M, hM⟩ : ∃ M, M = (lineP (strips l) y).tail := ⟨_, rfl⟩
  have hlL : L.length ≤ 32 := by rw [hL, List.length_tail]; omega
  have hlM : M.length ≤ 32 := by rw [hM, List.length_tail]; omega
  rw [← hL, ← hM] at hc
  have HX := Lib.hid fun (w' : World) (he : Ext w w') => HL.out w' he x hx0 hx1
  have HY := Lib.hid fun (w' : World) (he : Ext w w') => HL.out w' he y hy0 hy1
  rw [← hL] at HX
  rw [← hM] at HY
  clear HL hL hM hlx hly hvx hvy H hh
  go_enter Try.func29, Try.ntmps29
  go_wp2_with fail
  refine (HX.out _ (by repeat (first | exact Ext.refl _ | refine Ext.lift ?_ _ | refine Ext.alloc ?_ _))).mono ?_
  rintro e w1 ⟨ma, mc, rfl, hmc, -, HM, E1⟩
  have L1 := Lib.hid ((Lst.lit1 w w.heap.size (Nat.le_refl _) x).ext E1)
  have F1 := Lib.hid (((Ext.refl w).alloc _).trans E1)
  have hz1 := F1.out.size
  have HM1 := Lib.hid HM
  clear HM E1 HX
  go_wp2_with (at_builtin; refine wpList_pushA elI oneI rfl _ _ rfl w.heap.size _ _ (by rfl) L1.out ma L.length mc L rfl (by rfl) HM1.out (by simp; omega) (by simp; omega) hz1 ?_; intro v2 w2 HL2 hs2)
  have L2 := Lib.hid HL2
  have F2 := Lib.hid (hs2.ext F1.out (Nat.le_refl _))
  clear HL2 hs2 L1 F1 HM1 hz1
  go_wp2_with fail
  refine (HY.out _ (by repeat (first | exact F2.out | refine Ext.lift ?_ _ | refine Ext.alloc ?_ _))).mono ?_
  rintro e w3 ⟨na, nc, rfl, hnc, -, HN, E3⟩
  have E23 := Lib.hid (((Ext.refl w2).alloc _).trans E3)
  have L3 := Lib.hid ((Lst.lit1 w2 w2.heap.size (Nat.le_refl _) y).ext E3)
  have hz3 := E23.out.size
  have HN1 := Lib.hid HN
  clear HN E3 HY
  go_wp2_with (at_builtin; refine wpList_pushA elI oneI rfl _ _ rfl w2.heap.size _ _ (by rfl) L3.out na M.length nc M rfl (by rfl) HN1.out (by simp; omega) (by simp; omega) hz3 ?_; intro v4 w4 HL4 hs4)
  have E24 := Lib.hid (hs4.ext E23.out (Nat.le_refl _))
  have L2' := Lib.hid (L2.out.ext E24.out)
  have F4 := Lib.hid (F2.out.trans E24.out)
  obtain ⟨xa, xc, rfl, hxc, -, hXR, -⟩ := L2'.out.shape
  obtain ⟨ya, yc, rfl, hyc, -, hYR, -⟩ := HL4.shape
  have HXR : Hid (IntAt w4 xa (x :: L)) := hXR
  have HYR : Hid (IntAt w4 ya (y :: M)) := hYR
  clear hXR hYR HL4 hs4 L3 E23 HN1 hz3 L2 L2' F2 E24
  obtain ⟨X, hX⟩ : ∃ X, X = x :: L := ⟨_, rfl⟩
  obtain ⟨Y, hY⟩ : ∃ Y, Y = y :: M := ⟨_, rfl⟩
  have hlX : X.length ≤ 33 := by rw [hX]; simp; omega
  have hlY : Y.length ≤ 33 := by rw [hY]; simp; omega
  simp only [List.cons_append, List.nil_append] at *
  rw [← hX] at HXR hc ⊢
  rw [← hY] at HYR hc ⊢
  clear hX hY hxc hyc
  go_wp2_with fail
  go_loopw [9] (fun i wr => ∃ k : Nat, k ≤ X.length ∧ i = .int .i64 k ∧ Hid (comL (X.drop k) Y = comP (strips l) x y) ∧ Ext w4 wr) (fun i _ => X.length - (intOf i).toNat)
  case atStart => exact ⟨0, Nat.zero_le _, rfl, by show _ = _; rw [hc.out]; rfl, Ext.refl _⟩
  case round =>
    obtain ⟨k, hk, rfl, hco, he⟩ := hrel
    by_cases hlt : k < X.length
    · obtain ⟨b, off, rfl⟩ := HXR.out.base hlt
      obtain ⟨hb, c0⟩ := IntAt.at (HXR.out.ext he) k hlt
      have HC : Hid (Calls Try.prog 57 #[.slice ya Y.length yc, .int .i64 (nth X k)] wr fun e w' => e = .returned (.bool (hasB Y (nth X k))) ∧ w' = wr) := l00Has_any ya yc Y (nth X k) wr (HYR.out.ext he) (by omega)
      cases hm : hasB Y (nth X k)
      all_goals
        rw [hm] at HC
      · have hn2 : Hid (comL (X.drop (k + 1)) Y = comP (strips l) x y) := by show _ = _; rw [← hco.out, comL_no hlt hm]
        clear hco hm
        go_wp2_with (go_at_call 57; refine HC.out.mono ?_; rintro e w' ⟨rfl, hw⟩; subst hw)
        go_roundw
        case rel => exact ⟨k + 1, by omega, by go_num, hn2.out, he⟩
        case measure => simp [intOf]; omega
      · have hn2 : Hid (nth X k = comP (strips l) x y) := by show _ = _; rw [← hco.out, comL_yes hlt hm]
        have hE := Lib.hid (F4.out.trans he)
        clear hco hm he
        go_wp2_with (go_at_call 57; refine HC.out.mono ?_; rintro e w' ⟨rfl, hw⟩; subst hw)
        go_ret
        exact ⟨ret_int hn2.out, hE.out⟩
    · have hn2 : Hid (0 = comP (strips l) x y) := by show _ = _; rw [← hco.out, comL_end (by omega)]
      have hE := Lib.hid (F4.out.trans he)
      clear hco he
      go_wp2_with fail
      go_ret
      exact ⟨ret_int hn2.out, hE.out⟩
theorem ret_two {a b x y : Int} (h1 : a = x) (h2 : b = y) : Ending.returned (.tuple #[.int .i64 a, .int .i64 b]) = .returned (.tuple #[.int .i64 x, .int .i64 y]) := by subst h1 h2; rfl
set_option maxRecDepth 100000 in
set_option maxHeartbeats 4000000 in
theorem implCommonAncestor_any (w : World) (a : Option Addr) (cap : Nat) (l : List Version) (H : VersAt w a l) (hsz : ∀ k, k < l.length → (nth l k).Small) (hn : l.length ≤ 1048576) (x y : Int) :
    Gives Try.prog 21 #[.slice a l.length cap, .int .i64 x, .int .i64 y] w (.tuple #[.int .i64 (comV (strips l) x y), .int .i64 (vcodeP (strips l) [x, y])]) := by
  unfold Gives
  have HV : Hid (Gives Try.prog 32 #[.slice a l.length cap, .slice (some ⟨w.heap.size, 0, none⟩) 2 2] (w.alloc (.cells #[.int .i64 x, .int .i64 y] 2)) (.int .i64 (vcodeP (strips l) [x, y]))) :=
    versionsCode_any _ a cap l (some ⟨w.heap.size, 0, none⟩) 2 [x, y] (H.ext ((Ext.refl _).alloc _)) hsz hn (int_two w x y) (by simp)
  by_cases h0 : vcodeP (strips l) [x, y] = 0
  · have hd : (vcodeP (strips l) [x, y] == 0) = true := beq_iff_eq.2 h0
    have hu : Hid (comV (strips l) x y = comP (strips l) x y) := if_pos h0
    obtain ⟨hh, hall⟩ := vcodeP_zero h0
    have hall2 : inB x 1 l.length = true ∧ inB y 1 l.length = true := by
      rw [strips_len] at hall; unfold allIn at hall; simpa using hall
    have hx := inB_iff.1 hall2.1
    have hy := inB_iff.1 hall2.2
    have HC := Lib.hid fun (w' : World) (he : Ext w w') => commonAncestor_any w' a cap l x y (H.ext he) hh (by omega) hx.2 (by omega) hy.2
    have h0' := Lib.hid h0
    clear h0 hh hall hall2 hx hy H hsz
    rw [h0'.out] at HV hd
    go_enter Try.func21, Try.ntmps21
    go_wp2_with fail
    refine HV.out.mono ?_
    rintro e w' ⟨rfl, z, rfl⟩
    go_wp2_with (go_at_call 35; refine (HC.out _ (by repeat (first | exact Ext.refl _ | refine Ext.lift ?_ _ | refine Ext.alloc ?_ _))).mono ?_; rintro e w' ⟨rfl, z2, rfl⟩)
    go_ret2
    exact ⟨ret_two hu.out.symm h0'.out.symm, (by repeat (first | exact Ext.refl _ | refine Ext.lift ?_ _ | refine Ext.alloc ?_ _))⟩
  · have hu : Hid (comV (strips l) x y = 0) := if_neg h0
    obtain ⟨c, hc⟩ : ∃ c, c = vcodeP (strips l) [x, y] := ⟨_, rfl⟩
    rw [← hc] at HV h0
    have hd : (c == 0) = false := beq_eq_false_iff_ne.2 h0
    have hc' := Lib.hid hc
    clear h0 H hsz hc
    go_enter Try.func21, Try.ntmps21
    go_wp2_with fail
    refine HV.out.mono ?_
    rintro e w' ⟨rfl, z, rfl⟩
    go_wp2_with fail
    go_ret2
    exact ⟨ret_two hu.out.symm hc'.out, (by repeat (first | exact Ext.refl _ | refine Ext.lift ?_ _ | refine Ext.alloc ?_ _))⟩
end Go.Proofs.Ytbcpgdidajapoaa
