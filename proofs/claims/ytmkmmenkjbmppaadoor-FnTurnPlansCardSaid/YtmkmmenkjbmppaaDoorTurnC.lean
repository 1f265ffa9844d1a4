/- Turns given to people: in how many ways the other turns can be given: the program's count, with its map of counts. -/
import Derived.Test.YtmkmmenkjbmppaaDoorTurnK
import Derived.Test.YtmkmmenkjbmppaaDoorTurnW
import Derived.Test.YtmkmmenkjbmppaaDoorMoved
import Derived.Test.YtmkmmenkjbmppaaDoorDraw1
import Derived.Test.YtmkmmenkjbmppaaDoorSrch
import Derived.Maps.AppendAt
import Derived.Maps.OwnOps
import Derived.Maps.OwnSet
import Derived.Deep.RegionLaw
namespace Go.Proofs.YtmkmmenkjbmppaaDoor
open Go.RowKit Go.Maps
theorem step_pushAt {α : Type} [Inhabited α] {n T : Nat} {cell : α → Nat → Value} {P : Program} {ops : Array Oper} {o : Oper} {a : Act} {w : World} {K : Act → World → Prop} {Q : Exit → Act → World → Prop} {X : Prop} {t bytes : Nat} (E : El P t T n bytes) (hcell : ∀ x j, j < n → (cell x j).oneCell' = true) (hgd : o.guard = none) (s x : Operand)
    (ho : o.op = .call { callee := .builtin .append, args := #[s, x], argTypes := #[t, t] }) (base : Nat) (v : Value) (l : List α) (hs : a.eval s = v) (hown : Lst T n cell w base v l)
    (ad : Addr) (m c : Nat) (l2 : List α) (hm : l2.length = m) (hx : a.eval x = .slice (some ad) m c) (hR : RowsAt n cell w (some ad) l2)
    (h63 : l.length + m ≤ 9223372036854775807) (hbytes : (l.length + m) * bytes ≤ 140737488355328) (hbase : base ≤ w.heap.size)
    (h : ∀ v' w', Lst T n cell w' base v' (l ++ l2) → w.grownBy w' v.ownBlock → (v'.ownBlock = v.ownBlock ∨ v'.ownBlock = some w.heap.size) → K (a.put o.dst v') w') : if Region.wanted o (yielded ops a.tmps) = true then Oper.wp P o a w K Q else X := by
  have hw : Region.wanted o (yielded ops a.tmps) = true := by simp [Region.wanted, hgd]
  rw [if_pos hw]
  subst hm
  obtain ⟨i, z, h2, h3, h4, h5, h6⟩ := E.inf
  obtain ⟨v', w', hr, g2, g3, -, g5⟩ := run_append_own_at (P := P) w base t o.type T i z n bytes E.und h2 h3 h4 h5 h6 E.pos v l.length (flat n cell l) hown ad l2.length c (flat n cell l2) (flat_length l2) (fun k u hu => by
    have hk : k < l2.length * n := by
      have := (List.getElem?_eq_some_iff.1 hu).1
      rwa [flat_length] at this
    obtain ⟨i, j, hi, hj, rfl⟩ := split_index hk
    rw [flat_get l2 i hi j hj] at hu
    obtain ⟨b, off, e, hb, hc⟩ := hR i hi
    simp only [Option.some.injEq] at e
    subst e
    rw [← hu, addr_add, ← Nat.add_assoc]; exact hc j hj) (fun u hu => by obtain ⟨y, j, _, hj, rfl⟩ := flat_mem hu; exact hcell y j hj) (by unfold maxLen; omega) hbytes hbase
  unfold Oper.wp execOp
  simp only [ho, resolve, invoke, builtin, Sem.run_bind, Sem.run_pure, Result.andThen_ok, List.map_toArray, List.map_cons, List.map_nil, hs, hx, hr]
  refine h v' w' ?_ g3 g5
  unfold Lst
  rw [List.length_append, flat_append]; exact g2
theorem ownsMap_ext {H : Type} {P : Program} {k : TypeId} {R : Value → Option (DataW H × List MemPlace)} {w w' : World} {b n : Nat} {D : DataW H} (h : w.ownsMap P k R b n D) (he : Ext w w') : w'.ownsMap P k R b n D := by
  have hlt := h.lt
  obtain ⟨es, clock, hb, F, hs, hD⟩ := h
  exact ⟨es, clock, (he.below.block b hlt).trans hb, F, hs, hD⟩
theorem ownsMap_grown {H : Type} {P : Program} {k : TypeId} {R : Value → Option (DataW H × List MemPlace)} {w w' : World} {b n : Nat} {D : DataW H} {row : Option Nat} (h : w.ownsMap P k R b n D) (hg : w.grownBy w' row) (hne : row ≠ some b) : w'.ownsMap P k R b n D := by
  have hlt := h.lt
  obtain ⟨es, clock, hb, F, hs, hD⟩ := h
  exact ⟨es, clock, (hg.block b hlt (fun e => hne e.symm)).trans hb, F, hs, hD⟩
/-- The map of counts, of no more than m. -/
def MapT (A : List (List Int)) (P N T mb m : Nat) (W : World) : Prop := ∃ n D, n ≤ m ∧ W.ownsMap Tryd.prog 9 (plainElem (H := Unit) Tryd.prog 2) mb n D ∧ MemoT A P N T D
section
variable {A : List (List Int)} {P N T mb m : Nat} {W W' : World}
theorem MapT.ext (h : MapT A P N T mb m W) (he : Ext W W') : MapT A P N T mb m W' := by
  obtain ⟨n, D, h1, h2, h3⟩ := h
  exact ⟨n, D, h1, ownsMap_ext h2 he, h3⟩
theorem MapT.more {m' : Nat} (h : MapT A P N T mb m W) (hm : m ≤ m') : MapT A P N T mb m' W := by
  obtain ⟨n, D, h1, h2, h3⟩ := h
  exact ⟨n, D, Nat.le_trans h1 hm, h2, h3⟩
theorem MapT.lt (h : MapT A P N T mb m W) : mb < W.heap.size := by
  obtain ⟨n, D, h1, h2, h3⟩ := h
  exact h2.lt
theorem MapT.cell_ne (h : MapT A P N T mb m W) {b o : Nat} {v : Value} (hc : W.cell? ⟨b, o, none⟩ = some v) : b ≠ mb := fun e => by
  subst e
  obtain ⟨n, D, h1, ⟨es, clock, hb, F, hs, hD⟩, h3⟩ := h
  unfold World.cell? at hc
  have hb' : W.heap[(⟨b, o, none⟩ : Addr).block]? = some (.map es clock) := hb
  rw [hb'] at hc
  cases hc
theorem MapT.rows (h : MapT A P N T mb m W) {a : Option Addr} {l : List Int} (hl : IntAt W a l) (hm : Moved mb W W') : IntAt W' a l := fun k hk => by
  obtain ⟨b, off, e, hb, hc⟩ := hl k hk
  exact ⟨b, off, e, Nat.lt_of_lt_of_le hb hm.size, fun j hj => hm.cell (by show b ≠ mb; exact h.cell_ne (hc j hj)) (hc j hj)⟩
end
theorem Moved.of_grown {mb : Nat} {W W' : World} (hg : W.grownBy W' (some mb)) : Moved mb W W' :=
  ⟨fun _ h0 he => he.grown hg (fun k e => by simp only [Option.some.injEq] at e; omega), hg.size, fun g o hne h => by
    have hlt : g < W.heap.size := by
      rcases Nat.lt_or_ge g W.heap.size with h1 | h1
      · exact h1
      · rw [Array.getElem?_eq_none h1] at h; cases h
    rw [hg.block g hlt (fun e => hne (by simpa using e))]; exact h⟩
theorem Lst.lower0 {α : Type} {T n : Nat} {cell : α → Nat → Value} {w : World} {base base' : Nat} {v : Value} {l : List α} (h : Lst T n cell w base v l) (hb : base' ≤ base) : Lst T n cell w base' v l := by
  refine ⟨h.1, ?_⟩
  rcases h.2 with h2 | ⟨g, cap, cur, hv, hg, r⟩
  · exact .inl h2
  · exact .inr ⟨g, cap, cur, hv, Nat.le_trans hb hg, r⟩
/-- What all counts share: the people, the turns, the absences, as they lay before the map was made. -/
structure TurnX (w0 : World) (aa : Option Addr) (A : List (List Int)) (vs : List Sl) (P T N mb : Nat) : Prop where
  abs : IIs w0 aa A vs
  inn : ∀ k, k < A.length → (nth A k).length ≤ 1048576
  alen : A.length = P
  p0 : 1 ≤ P
  p8 : P ≤ 8
  t12 : T ≤ 12
  n0 : 1 ≤ N
  n12 : N ≤ 12
  tab : Tab w0
  low : w0.heap.size ≤ mb
def OneP (P : Nat) (g : List Int) : Prop := ∀ x ∈ g, 0 ≤ x ∧ x < P
theorem OneP.nil (P : Nat) : OneP P [] := fun _ h => absurd h List.not_mem_nil
theorem OneP.d {P : Nat} {g : List Int} (h : OneP P g) (hP : P ≤ 8) : OneD g := fun x hx => by have := h x hx; omega
theorem OneP.push {P : Nat} {g : List Int} (h : OneP P g) {p : Nat} (hp : p < P) : OneP P (g ++ [(p : Int)]) := fun x hx => by
  rcases List.mem_append.1 hx with h1 | h1
  · exact h x h1
  · rw [List.mem_singleton.1 h1]; omega
/-- The ways by the first k people. -/
def partT (A : List (List Int)) (P N f : Nat) (g : List Int) (k : Nat) : Nat := sumT (fun p => if mayT A N g (p : Int) = true then cntT A P N f (g ++ [(p : Int)]) else 0) k
theorem pow_bd {P f : Nat} (hP : P ≤ 8) (hf : f ≤ 12) : P ^ f ≤ 68719476736 := Nat.le_trans (Nat.pow_le_pow_left hP f) (Nat.le_trans (Nat.pow_le_pow_right (by decide) hf) (by decide))
theorem partT_bd {A : List (List Int)} {P N f : Nat} {g : List Int} {k : Nat} (hP : P ≤ 8) (hf : f + 1 ≤ 12) (hk : k ≤ P) : partT A P N f g k ≤ 68719476736 := by
  have h1 : partT A P N f g k ≤ k * P ^ f := sumT_le fun p _ => by
    split
    · exact cntT_le A P N f _
    · exact Nat.zero_le _
  have h2 := pow_bd (P := P) (f := f + 1) hP hf
  rw [Nat.pow_succ] at h2
  have h3 : k * P ^ f ≤ P ^ f * P := by rw [Nat.mul_comm]; exact Nat.mul_le_mul_left _ hk
  omega
theorem partT_y {A : List (List Int)} {P N f : Nat} {g : List Int} {k : Nat} (h : mayT A N g (k : Int) = true) : partT A P N f g (k + 1) = partT A P N f g k + cntT A P N f (g ++ [(k : Int)]) := by
  show partT A P N f g k + (if _ then _ else _) = _; rw [if_pos h]
theorem partT_n {A : List (List Int)} {P N f : Nat} {g : List Int} {k : Nat} (h : mayT A N g (k : Int) = false) : partT A P N f g (k + 1) = partT A P N f g k := by
  show partT A P N f g k + (if _ then _ else _) = _; rw [h, if_neg (by decide)]; rfl
set_option maxRecDepth 100000 in
set_option maxHeartbeats 4000000 in
theorem CloneL_any (a : Option Addr) (cap : Nat) (l : List Int) (w : World) (H : IntAt w a l) (hlen : l.length ≤ 1048576) :
    Calls Tryd.prog 21 #[.slice a l.length cap] w fun e w' => ∃ v, e = .returned v ∧ Lst 2 1 cellI w' w.heap.size v l ∧ Ext w w' := by
  cases a with
  | none =>
    have h0 : l = [] := by
      cases l with
      | nil => rfl
      | cons x r => obtain ⟨b, off, h⟩ := RowsAt.base H (show 0 < (x :: r).length by simp); cases h
    subst h0
    clear H
    have q0 : ∀ W, (binOp .eql 27 (.slice none 0 cap) (.slice none 0 0)).run Tryd.prog W = .ok (.bool true) W := fun W => Lib.run_eql_slice_nil W _ _ none 0 cap 0 0 Tryd.underlying27
    go_enter Tryd.func21, Tryd.ntmps21
    go_wp2_with fail
    go_ret
    exact ⟨_, rfl, Lst.nil _ _, Ext.refl _⟩
  | some ad =>
    have HO := Lib.hid (Lst.new (T := 2) (n := 1) (cell := cellI) w w.heap.size (Nat.le_refl _))
    have HR := Lib.hid (RowsAt.ext H ((Ext.refl w).alloc (.cells #[] 2)))
    clear H
    obtain ⟨ab, ao, asp⟩ := ad
    have q0 : ∀ W, (binOp .eql 27 (.slice (some ⟨ab, ao, asp⟩) l.length cap) (.slice none 0 0)).run Tryd.prog W = .ok (.bool false) W := fun W => Lib.run_eql_slice_nil W _ _ (some ⟨ab, ao, asp⟩) l.length cap 0 0 Tryd.underlying27
    have C1 : Hid (([] : List Int).length + l.length ≤ 9223372036854775807) := by show _ ≤ _; rw [List.length_nil]; omega
    have C2 : Hid ((([] : List Int).length + l.length) * 8 ≤ 140737488355328) := by show _ ≤ _; rw [List.length_nil]; omega
    have hb : Hid (w.heap.size ≤ (w.alloc (.cells #[] 2)).heap.size) := by show _ ≤ _; rw [size_new]; omega
    go_enter Tryd.func21, Tryd.ntmps21
    go_wp2_with (at_builtin; refine wpList_pushL elInt oneInt rfl _ _ rfl w.heap.size _ [] rfl HO.out ⟨ab, ao, asp⟩ l.length cap l rfl rfl HR.out C1.out C2.out hb.out ?_; intro v' w1 HL1 hs1 _)
    have HL2 := Lib.hid HL1
    have hs2 := Lib.hid hs1
    clear HL1 hs1
    go_wp2_with fail
    go_ret
    exact ⟨v', rfl, HL2.out, hs2.out.ext ((Ext.refl w).alloc _) (Nat.le_refl _)⟩
set_option maxRecDepth 100000 in
set_option maxHeartbeats 16000000 in
theorem count_any {w0 : World} {aa : Option Addr} {A : List (List Int)} {vs : List Sl} {ac P T N mb : Nat} (X : TurnX w0 aa A vs P T N mb) : ∀ (f : Nat) (g : List Int) (W : World) (ga : Option Addr) (gc m : Nat), g.length + f = T → OneP P g → IntAt W ga g → g.length ≤ gc → Ext w0 W → MapT A P N T mb m W → m + 9 ^ f ≤ 1000000000000000000 →
    Calls Tryd.prog 17 #[.agg #[.int .i64 (P : Int), .int .i64 (T : Int), .int .i64 (N : Int), .slice aa A.length ac, .map (some mb)], .slice ga g.length gc] W fun e W' => e = .returned (.int .i64 ((cntT A P N f g : Nat) : Int)) ∧ MapT A P N T mb (m + 9 ^ f) W' ∧ Moved mb W W' := by
  intro f
  induction f with
  | zero =>
    intro g W ga gc m hgf hg1 hR hc he0 hM hm
    have heq : ((g.length : Int) == (T : Int)) = true := beq_iff_eq.2 (by omega)
    have hMh := Lib.hid (hM.more (show m ≤ m + 9 ^ 0 by omega))
    clear hR hM hgf
    go_enter Tryd.func17, Tryd.ntmps17
    go_wp2_with fail
    go_ret
    exact ⟨rfl, hMh.out.ext ((Ext.refl _).alloc _), Moved.grow ((Ext.refl _).alloc _)⟩
  | succ f IH =>
    intro g W ga gc m hgf hg1 hR hc he0 hM hm
    have heq : ((g.length : Int) == (T : Int)) = false := beq_eq_false_iff_ne.2 (by omega)
    have hg12 : g.length ≤ 12 := by have := X.t12; omega
    have hf11 : f + 1 ≤ 12 := by have := X.t12; omega
    have hT12 := X.t12
    have hP8 := X.p8
    have hN0 := X.n0
    have hN12 := X.n12
    have hAP := X.alen
    have h9 : 9 ^ (f + 1) = 9 * 9 ^ f := by rw [Nat.pow_succ, Nat.mul_comm]
    have h91 : 1 ≤ 9 ^ f := Nat.pos_of_ne_zero (by have := Nat.pow_pos (n := f) (show 0 < 9 by decide); omega)
    have hmap := hM.lt
    -- the box of the list of turns
    obtain ⟨W1, hW1⟩ : ∃ W1, W1 = W.alloc (.cells #[.int .i64 (P : Int), .int .i64 (T : Int), .int .i64 (N : Int), .slice aa A.length ac, .map (some mb)] 50) := ⟨_, rfl⟩
    have hE1 : Ext W W1 := by rw [hW1]; exact (Ext.refl W).alloc _
    obtain ⟨xb, hxb⟩ : ∃ xb, xb = W.heap.size := ⟨_, rfl⟩
    have hxm : xb ≠ mb := by omega
    have x0 : W1.cell? ⟨xb, 0, none⟩ = some (.int .i64 (P : Int)) := by rw [hW1, hxb, cell_new]; rfl
    have x1 : W1.cell? ⟨xb, 1, none⟩ = some (.int .i64 (T : Int)) := by rw [hW1, hxb, cell_new]; rfl
    have x2 : W1.cell? ⟨xb, 2, none⟩ = some (.int .i64 (N : Int)) := by rw [hW1, hxb, cell_new]; rfl
    have x3 : W1.cell? ⟨xb, 3, none⟩ = some (.slice aa A.length ac) := by rw [hW1, hxb, cell_new]; rfl
    have x4 : W1.cell? ⟨xb, 4, none⟩ = some (.map (some mb)) := by rw [hW1, hxb, cell_new]; rfl
    have hx1 : xb < W1.heap.size := by rw [hW1, hxb, size_new]; omega
    have hR1 := Lib.hid (RowsAt.ext hR hE1)
    have hM1 := Lib.hid (hM.ext hE1)
    have he1 := Lib.hid (he0.trans hE1)
    have hMv1 := Lib.hid (Moved.grow (sb := mb) hE1)
    have HDec := Lib.hid fun x => Decimal_any (g.length : Int) (lift W1 x) (by omega) (by omega) (X.tab.ext (he1.out.lift x))
    have HRec := Lib.hid fun x => recent_any (lift W1 x) P T N aa A.length ac (some mb) ga gc g N rfl (RowsAt.ext hR1.out ((Ext.refl _).lift x)) hc hg12 hN0 hN12
    have hrl : (recT N g).length ≤ 12 := by unfold recT; rw [List.length_drop]; omega
    have h1D := hg1.d hP8
    have HLT := Lib.hid fun x => ListText_any (cutA ga gc (g.length + 1 - N)) (gc - (g.length + 1 - N)) (recT N g) (lift W1 x) (cutA_rows (RowsAt.ext hR1.out ((Ext.refl _).lift x)) (by omega) hc) (fun k hk => by have := h1D.rec (G := N) _ (nth_mem hk); exact inB_iff.2 (by omega)) (by omega) (X.tab.ext (he1.out.lift x))
    obtain ⟨key, hkey0⟩ : ∃ key, key = keyT g.length (recT N g) := ⟨_, rfl⟩
    have hkeyS : Hid (decS (g.length : Int) ++ ⟨#[58]⟩ ++ listS (recT N g) = key) := by rw [hkey0]; rfl
    have hksz : key.size ≤ 1000 := by rw [hkey0]; exact keyT_size (by omega) hrl h1D.rec
    have hs1 := decS_size (g.length : Int) (by omega) (by omega)
    have hs2 : (listS (recT N g)).size ≤ 1000 := by
      have h := hksz
      rw [← hkeyS.out, ByteArray.size_append] at h
      omega
    have hkL : Hid (keyOf Tryd.prog 9 (.string key) = some (.string key.data.toList)) := Go.WideMaps.keyOf_string_mk Tryd.underlying9 (by unfold maxLen; omega)
    obtain ⟨n, D, hnm, hown, hmemo⟩ := hM1.out
    have hval := Lib.hid (hmemo.val g (f + 1) hgf h1D)
    rw [← hkey0] at hval
    have hownh := Lib.hid fun x => ownsMap_ext hown ((Ext.refl W1).lift x)
    have hIH := Lib.hid IH
    have hcs : Hid (cntT A P N (f + 1) g = partT A P N f g P) := rfl
    have hg1h := Lib.hid hg1
    have hkh := Lib.hid hkey0
    have hmemoh := Lib.hid hmemo
    clear IH hR hM he0 hE1 hown h1D hkey0 hg1 hmemo
    replace hW1 := Lib.hid hW1
    replace hxb := Lib.hid hxb
    replace hAP := Lib.hid hAP
    replace hgf := Lib.hid hgf
    replace h9 := Lib.hid h9
    go_enter Tryd.func17, Tryd.ntmps17
    go_wp2_with fail
    rw [← hW1.out, ← hxb.out]
    clear hW1 hxb
    refine region_quiet (by kernel_rfl) (by kernel_rfl) ?_
    repeat (any_goals (first | go_big_quiet_step ((first | (go_at_call 37; exact Gives.quiet (HDec.out _)) | (go_at_call 39; exact Gives.quiet (HRec.out _)) | (go_at_call 38; exact Gives.quiet (HLT.out _)))) | quiet_step ((first | (go_at_call 37; exact Gives.quiet (HDec.out _)) | (go_at_call 39; exact Gives.quiet (HRec.out _)) | (go_at_call 38; exact Gives.quiet (HLT.out _))))))
    refine wpQuiet_nil ?_
    intro _ hw'
    obtain ⟨y, hw''⟩ := hw'
    subst hw''
    rw [hkeyS.out]
    have he2 := Lib.hid (he1.out.trans ((Ext.refl W1).lift y))
    have hR2 := Lib.hid (RowsAt.ext hR1.out ((Ext.refl W1).lift y))
    have hMv2 := Lib.hid (hMv1.out.more ((Ext.refl W1).lift y))
    have hown2 := Lib.hid (hownh.out y)
    replace x0 := ((Ext.refl W1).lift y).cell x0
    replace x1 := ((Ext.refl W1).lift y).cell x1
    replace x2 := ((Ext.refl W1).lift y).cell x2
    replace x3 := ((Ext.refl W1).lift y).cell x3
    replace x4 := ((Ext.refl W1).lift y).cell x4
    replace hx1 := Nat.lt_of_lt_of_le hx1 ((Ext.refl W1).lift y).size
    clear HDec HRec HLT hownh hM1 he1 hMv1 hR1 hkeyS
    generalize lift W1 y = W2 at *
    have hM2 := Lib.hid (show MapT A P N T mb m W2 from ⟨n, D, hnm, hown2.out, hmemoh.out⟩)
    cases hb : Go.Maps.has D (.string key.data.toList)
    case true =>
      have hv := Lib.hid (hval.out hb)
      obtain ⟨t, ht⟩ : ∃ t : Int, t = ((cntT A P N (f + 1) g : Nat) : Int) := ⟨_, rfl⟩
      rw [← ht] at hv
      replace ht := Lib.hid ht
      clear hcs
      go_wp2_with (at_lookup; refine wpList_lookup_own_ok_int _ rfl _ _ 48 rfl 9 2 .i64 (string_keyed Tryd.underlying9) Tryd.underlying48 Tryd.underlying2 (Tryd.zeroValue2 _) mb n D rfl hown2.out _ _ rfl hkL.out ?_; intro c hat _; rw [hv.out] at hat; obtain rfl : t = c := (by injection hat with h7; injection h7); clear hat; rw [hb])
      go_ret
      exact ⟨by rw [← ht.out]; rfl, hM2.out.more (by omega), hMv2.out⟩
    case false =>
      clear hval
      go_wp2_with (at_lookup; refine wpList_lookup_own_ok_int _ rfl _ _ 48 rfl 9 2 .i64 (string_keyed Tryd.underlying9) Tryd.underlying48 Tryd.underlying2 (Tryd.zeroValue2 _) mb n D rfl hown2.out _ _ rfl hkL.out ?_; intro c _ _; rw [hb])
      clear hb hown2 hmemoh
      go_loopw [8, 35] (fun s i wt => ∃ k : Nat, k ≤ P ∧ i = .int .i64 k ∧ s = .int .i64 ((partT A P N f g k : Nat) : Int) ∧ Hid (MapT A P N T mb (m + k * 9 ^ f) wt) ∧ Hid (Moved mb W2 wt)) (fun _ i _ => P - (intOf i).toNat)
      case atStart => exact ⟨0, Nat.zero_le _, rfl, rfl, hM2.out.more (by omega), Moved.refl _ _⟩
      case round =>
        obtain ⟨k, hk, rfl, rfl, hMk, hMv⟩ := hrel
        have he0r := Lib.hid (hMv.out.ext w0 X.low he2.out)
        have y0 := hMv.out.cell (p := ⟨xb, 0, none⟩) (by show xb ≠ mb; exact hxm) x0
        have y1 := hMv.out.cell (p := ⟨xb, 1, none⟩) (by show xb ≠ mb; exact hxm) x1
        have y2 := hMv.out.cell (p := ⟨xb, 2, none⟩) (by show xb ≠ mb; exact hxm) x2
        have y3 := hMv.out.cell (p := ⟨xb, 3, none⟩) (by show xb ≠ mb; exact hxm) x3
        have y4 := hMv.out.cell (p := ⟨xb, 4, none⟩) (by show xb ≠ mb; exact hxm) x4
        have hyl := Nat.lt_of_lt_of_le hx1 hMv.out.size
        have hRr := Lib.hid (hM2.out.rows hR2.out hMv.out)
        by_cases hlt : k < P
        · have hd : decide (k < P) = true := decide_eq_true hlt
          have HMay := Lib.hid (may_any wr P T N aa A vs ac (some mb) ga gc g N rfl hRr.out (X.abs.ext he0r.out) X.inn hc hg12 hN0 hN12 k (by rw [hAP.out]; exact hlt))
          cases hmay : mayT A N g (k : Int)
          · have hpn := Lib.hid (partT_n (P := P) (f := f) hmay)
            rw [hmay] at HMay
            go_wp2_with fail
            refine HMay.out.mono ?_
            rintro e w5 ⟨rfl, E5⟩
            have E5 := Lib.hid E5
            clear HMay
            go_wp2_with fail
            go_roundw
            case rel => exact ⟨k + 1, by omega, by go_num, by rw [hpn.out], (hMk.out.ext E5.out).more (by rw [Nat.succ_mul]; omega), hMv.out.more E5.out⟩
            case measure => simp [intOf]; omega
          · have hpy := Lib.hid (partT_y (P := P) (f := f) hmay)
            have hbd := partT_bd (A := A) (P := P) (N := N) (f := f) (g := g) (k := k + 1) hP8 hf11 (by omega)
            rw [hmay] at HMay
            obtain ⟨c1, hc1⟩ : ∃ c1, c1 = cntT A P N f (g ++ [(k : Int)]) := ⟨_, rfl⟩
            obtain ⟨s1, hs1'⟩ : ∃ s1, s1 = partT A P N f g k := ⟨_, rfl⟩
            rw [← hc1, ← hs1'] at hpy
            rw [hpy.out] at hbd
            rw [← hs1']
            replace hs1' := Lib.hid hs1'
            have hk9 : k * 9 ^ f + 9 ^ f ≤ 8 * 9 ^ f := by
              have := Nat.mul_le_mul_right (9 ^ f) (show k + 1 ≤ 8 by omega)
              rwa [Nat.succ_mul] at this
            have hm9 : m + k * 9 ^ f + 9 ^ f ≤ 1000000000000000000 := by rw [h9.out] at hm; omega
            replace hk9 := Lib.hid hk9
            replace hm9 := Lib.hid hm9
            clear hmay
            go_wp2_with fail
            refine HMay.out.mono ?_
            rintro e w5 ⟨rfl, E5⟩
            clear HMay
            have hM5 := Lib.hid (hMk.out.ext E5)
            have hMv5 := Lib.hid (hMv.out.more E5)
            have he05 := Lib.hid (he0r.out.trans E5)
            have hR5 := Lib.hid (RowsAt.ext hRr.out E5)
            replace y0 := E5.cell y0
            replace y1 := E5.cell y1
            replace y2 := E5.cell y2
            replace y3 := E5.cell y3
            replace y4 := E5.cell y4
            replace hyl := Nat.lt_of_lt_of_le hyl E5.size
            have HCl := Lib.hid fun (W' : World) (he : Ext w5 W') => CloneL_any ga gc g W' (RowsAt.ext hR5.out he) (by omega)
            have HRl := Lib.hid fun (W' : World) (j : Nat) (hj : j = W'.heap.size) => (show IntAt (W'.alloc (.cells #[.int .i64 (k : Int)] 2)) (some ⟨j, 0, none⟩) [(k : Int)] by subst hj; exact rows_new (n := 1) (cell := cellI) (T := 2) W' #[.int .i64 (k : Int)] (k : Int) (fun i hi => by rw [show i = 0 from Nat.lt_one_iff.1 hi]; rfl))
            have HIH := Lib.hid fun (w7 : World) (a7 : Option Addr) (c7 : Nat) (h7 : IntAt w7 a7 (g ++ [(k : Int)])) (hc7 : g.length + 1 ≤ c7) (he7 : Ext w5 w7) => (show Calls Tryd.prog 17 #[.agg #[.int .i64 (P : Int), .int .i64 (T : Int), .int .i64 (N : Int), .slice aa A.length ac, .map (some mb)], .slice a7 (g.length + 1) c7] w7 fun e W' => e = .returned (.int .i64 ((c1 : Nat) : Int)) ∧ MapT A P N T mb (m + k * 9 ^ f + 9 ^ f) W' ∧ Moved mb w7 W' by
              have h := hIH.out (g ++ [(k : Int)]) w7 a7 c7 (m + k * 9 ^ f) (by rw [List.length_append]; simp only [List.length_cons, List.length_nil]; have := hgf.out; omega) (hg1h.out.push hlt) h7 (by rw [List.length_append]; exact hc7) (he05.out.trans he7) (hM5.out.ext he7) hm9.out
              rw [← hc1, show (g ++ [(k : Int)]).length = g.length + 1 by simp] at h
              exact h)
            clear hc1 E5 hMk hMv he0r hRr hR5
            go_wp2_with fail
            go_region_law (first
              | (refine step_callD rfl 17 #[.agg #[.int .i64 (P : Int), .int .i64 (T : Int), .int .i64 (N : Int), .slice aa A.length ac, .map (some mb)], .slice a7 (g.length + 1) c7] (by first | rfl | (go_simp; done) | (go_simp; rfl)) ?_; refine (HIH.out _ a7 c7 (RowsAt.ext hR7.out (by repeat (first | with_reducible exact Ext.refl _ | with_reducible refine Ext.lift ?_ _ | with_reducible refine Ext.alloc ?_ _ | with_reducible refine Ext.drew ?_))) hc7 (by repeat (first | with_reducible exact E57.out | with_reducible refine Ext.lift ?_ _ | with_reducible refine Ext.alloc ?_ _ | with_reducible refine Ext.drew ?_))).mono ?_; rintro e W8 ⟨rfl, hM8, hMv8⟩; refine ⟨_, rfl, ?_⟩; have hM8 := Lib.hid hM8; have hMv8 := Lib.hid (Moved.trans (Moved.grow (by repeat (first | with_reducible exact E57.out | with_reducible refine Ext.lift ?_ _ | with_reducible refine Ext.alloc ?_ _ | with_reducible refine Ext.drew ?_))) hMv8))
              | (refine step_pushAt elInt oneInt rfl _ _ rfl w5.heap.size _ g (by rfl) (hCLh.out.ext (by repeat (first | with_reducible exact Ext.refl _ | with_reducible refine Ext.lift ?_ _ | with_reducible refine Ext.alloc ?_ _ | with_reducible refine Ext.drew ?_))) _ 1 1 [(k : Int)] rfl (by rfl) (by first | exact hl6.out | exact RowsAt.ext hl6.out (by repeat (first | with_reducible exact Ext.refl _ | with_reducible refine Ext.lift ?_ _ | with_reducible refine Ext.alloc ?_ _ | with_reducible refine Ext.drew ?_)) | exact HRl.out _ _ (by first | rfl | (simp [drew_heap]; done) | (simp [drew_heap]; omega)) | exact RowsAt.ext (HRl.out _ _ (by first | rfl | (simp [drew_heap]; done) | (simp [drew_heap]; omega))) (by repeat (first | with_reducible exact Ext.refl _ | with_reducible refine Ext.lift ?_ _ | with_reducible refine Ext.alloc ?_ _ | with_reducible refine Ext.drew ?_))) (by omega) (by omega) (by first | exact (Ext.size (by repeat (first | with_reducible exact E56.out | with_reducible refine Ext.lift ?_ _ | with_reducible refine Ext.alloc ?_ _ | with_reducible refine Ext.drew ?_))) | omega | (simp [drew_heap]; omega)) ?_; intro v7 w7 HL7 hg7 _; obtain ⟨a7, c7, e7, hc7, -, hR7, -⟩ := HL7.shape; rw [show (g ++ [(k : Int)]).length = g.length + 1 by simp] at e7 hc7; subst e7; have hR7 := Lib.hid hR7; have E57 : Hid (Ext w5 w7) := Ext.grown (by repeat (first | with_reducible exact E56.out | with_reducible refine Ext.lift ?_ _ | with_reducible refine Ext.alloc ?_ _ | with_reducible refine Ext.drew ?_)) hg7 (fun q hq => ownBlock_le hCLh.out q hq); have z0 := E57.out.cell y0; have z1 := E57.out.cell y1; have z2 := E57.out.cell y2; have z3 := E57.out.cell y3; have z4 := E57.out.cell y4; have zl := Nat.lt_of_lt_of_le hyl E57.out.size; clear HL7 hg7)
              | (refine step_callD rfl 21 #[.slice ga g.length gc] (by first | rfl | (go_simp; done) | (go_simp; rfl)) ?_; refine (HCl.out _ (by repeat (first | with_reducible exact Ext.refl _ | with_reducible refine Ext.lift ?_ _ | with_reducible refine Ext.alloc ?_ _ | with_reducible refine Ext.drew ?_))).mono ?_; rintro e W6 ⟨cv, rfl, hCL, E6⟩; refine ⟨_, rfl, ?_⟩; have E56 : Hid (Ext w5 W6) := Ext.trans (by repeat (first | with_reducible exact Ext.refl _ | with_reducible refine Ext.lift ?_ _ | with_reducible refine Ext.alloc ?_ _ | with_reducible refine Ext.drew ?_)) E6; have hCLh : Hid (Lst 2 1 cellI W6 w5.heap.size cv g) := Lst.lower0 hCL (by first | exact Nat.le_refl _ | exact Ext.size (by repeat (first | with_reducible exact Ext.refl _ | with_reducible refine Ext.lift ?_ _ | with_reducible refine Ext.alloc ?_ _ | with_reducible refine Ext.drew ?_))); have v0 := E56.out.cell y0; have v1 := E56.out.cell y1; have v2 := E56.out.cell y2; have v3 := E56.out.cell y3; have v4 := E56.out.cell y4; have vl := Nat.lt_of_lt_of_le hyl E56.out.size; (try have hl6 := Lib.hid (RowsAt.ext (HRl.out w5.drew w5.heap.size rfl) E6)); (try have hl6 := Lib.hid (RowsAt.ext (HRl.out w5 w5.heap.size rfl) E6)); clear hCL E6))
            all_goals
              go_wp2_with fail
              go_roundw
              case rel => exact ⟨k + 1, by omega, by go_num, by rw [hpy.out, Int.natCast_add], hM8.out.more (by rw [Nat.succ_mul]; omega), hMv5.out.trans hMv8.out⟩
              case measure => simp [intOf]; omega
        · have hd : decide (k < P) = false := decide_eq_false hlt
          have hkP : k = P := by omega
          have hM9 : Hid (MapT A P N T mb (m + 8 * 9 ^ f) wr) := hMk.out.more (by have := Nat.mul_le_mul_right (9 ^ f) (show k ≤ 8 by omega); omega)
          have hbd := partT_bd (A := A) (P := P) (N := N) (f := f) (g := g) (k := k) hP8 hf11 hk
          have htot : Hid (partT A P N f g k = cntT A P N (f + 1) g) := by rw [hkP]; exact hcs.out.symm
          rw [htot.out] at hbd
          rw [htot.out]
          obtain ⟨n9, D9, hn9, hown9, hmemo9⟩ := hM9.out
          have hput := Lib.hid (hmemo9.put hN0 (show T < 100 by omega) (f := f + 1) hgf.out (hg1h.out.d hP8))
          rw [← hkh.out] at hput
          have hown9 := Lib.hid hown9
          have hkm : n9 < maxLen := by unfold maxLen; rw [h9.out] at hm; omega
          obtain ⟨t, ht⟩ : ∃ t, t = cntT A P N (f + 1) g := ⟨_, rfl⟩
          rw [← ht] at hput hbd ⊢
          replace ht := Lib.hid ht
          have hwf : Hid ((Lit.int .i64 (t : Int)).wf = true) := by
            have h9 := wrap64_wf (t : Int)
            rw [show wrap64 (t : Int) = t by unfold wrap64; omega] at h9
            exact h9
          replace hn9 := Lib.hid hn9
          clear hkP hmemo9 hMk hM9 htot
          go_wp2_with (at_mapUpdate; refine wpList_mapUpdate_own _ rfl _ _ _ 48 rfl 9 2 (string_keyed Tryd.underlying9) Tryd.underlying48 _ mb n9 D9 rfl hown9.out hkm _ _ _ rfl rfl hkL.out (.lit (.int .i64 (t : Int))) [] (plainElem_int Tryd.underlying2 hwf.out) ?_; intro w3 hown3 hgrow3; have hown4 := Lib.hid hown3; have hMv4 := Lib.hid (hMv.out.trans (Moved.of_grown hgrow3)); clear hown3 hgrow3)
          go_ret
          exact ⟨by rw [← ht.out]; rfl, ⟨n9 + 1, _, by have := hn9.out; rw [h9.out]; omega, hown4.out, hput.out⟩, hMv2.out.trans hMv4.out⟩
end Go.Proofs.YtmkmmenkjbmppaaDoor
