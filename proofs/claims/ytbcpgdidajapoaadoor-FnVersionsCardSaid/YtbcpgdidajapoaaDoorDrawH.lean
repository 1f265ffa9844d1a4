/- The history that the reference draws. -/
import Derived.Test.YtbcpgdidajapoaaDoorMrgP
import Derived.Test.YtbcpgdidajapoaaDoorAdd
import Derived.Test.YtbcpgdidajapoaaDoorGrow
import Derived.Test.YtbcpgdidajapoaaDoorLists
import Derived.Laws.BitsLemmas
import Derived.Test.YtbcpgdidajapoaaDoorLst
import Derived.Deep.RegionLaw
import Derived.Test.YtbcpgdidajapoaaDoorSet
import Derived.Test.YtbcpgdidajapoaaDoorOwnV
import Derived.Test.YtbcpgdidajapoaaDoorComA
import Derived.Test.YtbcpgdidajapoaaDoorLine
import Derived.Test.YtbcpgdidajapoaaDoorCommitP
import Derived.Test.YtbcpgdidajapoaaDoorMark
import Derived.Test.YtbcpgdidajapoaaDoorLift
import Derived.Test.YtbcpgdidajapoaaDoorVGrow
namespace Go.Proofs.YtbcpgdidajapoaaDoor
open Go.RowKit
def nmS (i : Nat) : ByteArray := match i with
  | 0 => ⟨#[97]⟩
  | 1 => ⟨#[98]⟩
  | 2 => ⟨#[99]⟩
  | 3 => ⟨#[100]⟩
  | 4 => ⟨#[101]⟩
  | _ => ⟨#[102]⟩
theorem nat6 {k : Nat} (h : k < 6) : k = 0 ∨ k = 1 ∨ k = 2 ∨ k = 3 ∨ k = 4 ∨ k = 5 := by omega
theorem nmS_lt {i k : Nat} (h : i < k) (hk : k < 6) : sLt (nmS i) (nmS k) = true := by
  rcases nat6 hk with rfl | rfl | rfl | rfl | rfl | rfl <;> rcases nat6 (Nat.lt_trans h hk) with rfl | rfl | rfl | rfl | rfl | rfl <;> first | omega | kernel_rfl
theorem nmS_name {k : Nat} (hk : k < 6) : nameB (nmS k) = true := by
  rcases nat6 hk with rfl | rfl | rfl | rfl | rfl | rfl <;> kernel_rfl
/-- A valid state of few settings. -/
structure GoodD (l : List Setting) (m : Nat) : Prop where
  inc : IncK Setting.name sLt l
  each : ∀ y ∈ l, settingB y = true
  len : l.length ≤ m
theorem incS_nth {l : List Setting} (h : IncK Setting.name sLt l) {i j : Nat} (hij : i < j) (hj : j < l.length) : sLt (nth l i).name (nth l j).name = true := by
  unfold IncK Inc at h
  have := List.pairwise_iff_getElem.1 h i j (by rw [List.length_map]; omega) (by rw [List.length_map]; exact hj) hij
  rw [List.getElem_map, List.getElem_map] at this
  rw [nth_eq l i (by omega), nth_eq l j hj]; exact this
theorem GoodD.valid {l : List Setting} {m : Nat} (h : GoodD l m) (hm : m ≤ 24) : settingList l = true := by
  have hl := h.len
  unfold settingList vAll
  rw [decide_eq_true (by omega), allB_end (fun k hk => ?_)]; · rfl
  have h1 := h.each _ (nth_mem hk)
  rcases Nat.eq_zero_or_pos k with h0 | h0
  · exact vOk_true0 h1 h0
  · exact vOk_true1 h1 (incS_nth h.inc (by omega) hk)
theorem GoodD.of {l : List Setting} (h : settingList l = true) : GoodD l l.length := by
  refine ⟨?_, fun y hy => ?_, Nat.le_refl _⟩
  · have hs : ∀ d i, i + 1 + d < l.length → sLt (nth l i).name (nth l (i + 1 + d)).name = true := fun d => by
      induction d with
      | zero => exact fun i hi => vAll_ord (show vAll _ _ 24 l = true from h) i hi
      | succ d ih => exact fun i hi => sLt_trans (ih i (by omega)) (vAll_ord (show vAll _ _ 24 l = true from h) (i + 1 + d) (by omega))
    unfold IncK Inc
    refine List.pairwise_iff_getElem.2 fun i j hi hj hij => ?_
    rw [List.length_map] at hi hj
    rw [List.getElem_map, List.getElem_map, ← nth_eq l i hi, ← nth_eq l j hj]
    have := hs (j - i - 1) i (by omega)
    rwa [show i + 1 + (j - i - 1) = j by omega] at this
  · obtain ⟨k, hk, rfl⟩ := mem_nth hy
    exact state_one h hk
theorem GoodD.mono {l : List Setting} {m n : Nat} (h : GoodD l m) (hn : m ≤ n) : GoodD l n := ⟨h.inc, h.each, Nat.le_trans h.len hn⟩
theorem GoodD.nil (m : Nat) : GoodD [] m := ⟨List.Pairwise.nil, fun _ h => (by cases h), Nat.zero_le _⟩
theorem settingB_of {n : ByteArray} {v : Int} (hn : nameB n = true) (h0 : 0 ≤ v) (h1 : v ≤ 1000) : settingB ⟨n, v⟩ = true := by
  unfold settingB; rw [hn, inB_iff.2 ⟨h0, h1⟩]; rfl
theorem GoodD.set {l : List Setting} {m : Nat} (h : GoodD l m) {e : Setting} (he : settingB e = true) : GoodD (setK Setting.name sLt e l) (m + 1) := by
  refine ⟨setK_inc sloS h.inc, fun y hy => ?_, ?_⟩
  · rcases setK_mem hy with rfl | hy
    · exact he
    · exact h.each y hy
  · have := h.len
    rw [setK_len sloS h.inc]; split <;> omega
theorem GoodD.del {l : List Setting} {m : Nat} (h : GoodD l m) (k : Nat) : GoodD (l.take k ++ l.drop (k + 1)) m := by
  refine ⟨incK_del h.inc k, fun y hy => ?_, ?_⟩
  · rcases List.mem_append.1 hy with hy | hy
    · exact h.each y (List.mem_of_mem_take hy)
    · exact h.each y (List.mem_of_mem_drop hy)
  · have := h.len
    rw [List.length_append, List.length_take, List.length_drop]; omega
theorem GoodD.push {l : List Setting} {m : Nat} (h : GoodD l m) {e : Setting} (he : settingB e = true) (hl : ∀ y ∈ l, sLt y.name e.name = true) : GoodD (l ++ [e]) (m + 1) := by
  refine ⟨?_, fun y hy => ?_, ?_⟩
  · unfold IncK Inc
    rw [List.map_append, List.pairwise_append]
    refine ⟨h.inc, by simp, fun a ha b hb => ?_⟩
    obtain ⟨y, hy, rfl⟩ := List.mem_map.1 ha
    simp only [List.map_cons, List.map_nil, List.mem_singleton] at hb
    subst hb
    exact hl y hy
  · rcases List.mem_append.1 hy with hy | hy
    · exact h.each y hy
    · rw [List.mem_singleton] at hy; subst hy; exact he
  · have := h.len
    rw [List.length_append]; simp only [List.length_cons, List.length_nil]; omega
/-- What is drawn of the first k names. -/
structure DrawnS (l : List Setting) (k : Nat) : Prop where
  good : GoodD l k
  low : ∀ y ∈ l, ∃ i, i < k ∧ y.name = nmS i
theorem DrawnS.nil : DrawnS [] 0 := ⟨GoodD.nil 0, fun _ h => (by cases h)⟩
theorem DrawnS.more {l : List Setting} {k : Nat} (h : DrawnS l k) : DrawnS l (k + 1) := ⟨h.good.mono (Nat.le_succ _), fun y hy => by obtain ⟨i, hi, e⟩ := h.low y hy; exact ⟨i, by omega, e⟩⟩
theorem DrawnS.push {l : List Setting} {k : Nat} (h : DrawnS l k) (hk : k < 6) {v : Int} (h0 : 0 ≤ v) (h1 : v ≤ 1000) : DrawnS (l ++ [⟨nmS k, v⟩]) (k + 1) :=
  ⟨h.good.push (settingB_of (nmS_name hk) h0 h1) (fun y hy => by obtain ⟨i, hi, e⟩ := h.low y hy; rw [e]; exact nmS_lt hi hk), fun y hy => by
    rcases List.mem_append.1 hy with hy | hy
    · obtain ⟨i, hi, e⟩ := h.low y hy; exact ⟨i, by omega, e⟩
    · rw [List.mem_singleton] at hy; subst hy; exact ⟨k, Nat.lt_succ_self k, rfl⟩⟩
end Go.Proofs.YtbcpgdidajapoaaDoor
namespace Go.Proofs.YtbcpgdidajapoaaDoor
open Go.RowKit
abbrev cellB : Int → Nat → Value := fun (x : Int) (_ : Nat) => Value.int .u8 x
abbrev ByteAt (w : World) (a : Option Addr) (l : List Int) : Prop := RowsAt 1 cellB w a l
theorem ByteAt.at {w : World} {b off : Nat} {l : List Int} (h : ByteAt w (some ⟨b, off, none⟩) l) (k : Nat) (hk : k < l.length) : b < w.heap.size ∧ w.cell? ⟨b, off + k, none⟩ = some (.int .u8 (nth l k)) :=
  let h' := RowsAt.at h k hk; ⟨h'.1, by have := h'.2 0 (by decide); rwa [Nat.mul_one] at this⟩
/-- Of the memory only block sb has turned, and it may have grown. -/
structure Moved (sb : Nat) (w w' : World) : Prop where
  ext : ∀ w0, w0.heap.size ≤ sb → Ext w0 w → Ext w0 w'
  size : w.heap.size ≤ w'.heap.size
  obj : ∀ g o, g ≠ sb → w.heap[g]? = some o → w'.heap[g]? = some o
theorem Ext.obj {w w' : World} (he : Ext w w') {g : Nat} {o : Obj} (h : w.heap[g]? = some o) : w'.heap[g]? = some o := by
  obtain ⟨x, rfl⟩ := he
  have hg : g < w.heap.size := by
    rcases Nat.lt_or_ge g w.heap.size with h1 | h1
    · exact h1
    · rw [Array.getElem?_eq_none h1] at h; cases h
  rw [lift_block _ _ _ hg]; exact h
theorem Moved.refl (sb : Nat) (w : World) : Moved sb w w := ⟨fun _ _ h => h, Nat.le_refl _, fun _ _ _ h => h⟩
theorem Moved.trans {sb : Nat} {w w' w'' : World} (h1 : Moved sb w w') (h2 : Moved sb w' w'') : Moved sb w w'' :=
  ⟨fun w0 h0 h => h2.ext w0 h0 (h1.ext w0 h0 h), Nat.le_trans h1.size h2.size, fun g o hg h => h2.obj g o hg (h1.obj g o hg h)⟩
theorem Moved.grow {sb : Nat} {w w' : World} (he : Ext w w') : Moved sb w w' := ⟨fun _ _ h => h.trans he, he.size, fun _ _ _ h => Ext.obj he h⟩
theorem Moved.setCell (sb o : Nat) (w : World) (v : Value) : Moved sb w (w.setCell ⟨sb, o, none⟩ v) :=
  ⟨fun _ h0 h => h.setCell (p := ⟨sb, o, none⟩) h0 v, by simp, fun g _ hg h => by rw [heap_setCell_other w ⟨sb, o, none⟩ g _ hg]; exact h⟩
theorem Moved.cell {sb : Nat} {w w' : World} (h : Moved sb w w') {p : Addr} {v : Value} (hp : p.block ≠ sb) (hc : w.cell? p = some v) : w'.cell? p = some v := by
  unfold World.cell? at *
  cases hh : w.heap[p.block]? with
  | none => rw [hh] at hc; cases hc
  | some o => rw [hh] at hc; rw [h.obj _ _ hp hh]; exact hc
/-- A source: its bytes, how many are drawn. -/
structure Src (w : World) (sb : Nat) (a : Option Addr) (cap : Nat) (code : List Int) (n : Nat) : Prop where
  blk : Blk w sb 82 3
  c0 : w.cell? ⟨sb, 0, none⟩ = some (.slice a code.length cap)
  c1 : w.cell? ⟨sb, 1, none⟩ = some (.int .i64 n)
  c2 : ∃ sd : Int, w.cell? ⟨sb, 2, none⟩ = some (.int .u64 sd) ∧ 0 ≤ sd ∧ sd ≤ 18446744073709551615
  bytes : ByteAt w a code
  range : ∀ k, k < code.length → 0 ≤ nth code k ∧ nth code k ≤ 255
  few : code.length ≤ 1048576
  apart : ∀ p, a = some p → 0 < code.length → p.block ≠ sb
theorem ByteAt.set {w : World} {a : Option Addr} {l : List Int} {sb o : Nat} {v : Value} (h : ByteAt w a l) (hne : ∀ p, a = some p → 0 < l.length → p.block ≠ sb) : ByteAt (w.setCell ⟨sb, o, none⟩ v) a l := by
  intro k hk
  obtain ⟨b, off, e, hb, hc⟩ := h k hk
  exact ⟨b, off, e, by simpa using hb, fun q hq => by rw [cell_other _ (by rintro ⟨h1, -⟩; exact hne _ e (by omega) h1.symm)]; exact hc q hq⟩
theorem Src.lt {w : World} {sb : Nat} {a : Option Addr} {cap : Nat} {code : List Int} {n : Nat} (h : Src w sb a cap code n) : sb < w.heap.size := h.blk.lt
theorem Src.ext {w w' : World} {sb : Nat} {a : Option Addr} {cap : Nat} {code : List Int} {n : Nat} (h : Src w sb a cap code n) (he : Ext w w') : Src w' sb a cap code n :=
  ⟨h.blk.ext he, he.cell h.c0, he.cell h.c1, by obtain ⟨sd, h1, h2⟩ := h.c2; exact ⟨sd, he.cell h1, h2⟩, RowsAt.ext h.bytes he, h.range, h.few, h.apart⟩
theorem Src.step {w : World} {sb : Nat} {a : Option Addr} {cap : Nat} {code : List Int} {n : Nat} (h : Src w sb a cap code n) {sd : Int} (h0 : 0 ≤ sd) (h1 : sd ≤ 18446744073709551615) :
    Src ((w.setCell ⟨sb, 1, none⟩ (.int .i64 ((n : Int) + 1))).setCell ⟨sb, 2, none⟩ (.int .u64 sd)) sb a cap code (n + 1) := by
  refine ⟨(h.blk.set _ _ _).set _ _ _, ?_, ?_, ⟨sd, (h.blk.set _ _ _).same (by decide) _, h0, h1⟩, ByteAt.set (ByteAt.set h.bytes h.apart) h.apart, h.range, h.few, h.apart⟩
  · rw [cell_other _ (by omega), cell_other _ (by omega)]; exact h.c0
  · rw [cell_other _ (by omega), h.blk.same (by decide)]; rfl
theorem moved2 (w : World) (sb : Nat) (u v : Value) : Moved sb w ((w.setCell ⟨sb, 1, none⟩ u).setCell ⟨sb, 2, none⟩ v) := (Moved.setCell sb 1 w u).trans (Moved.setCell sb 2 _ v)
theorem wrap_u64_bd (x : Int) : 0 ≤ IntKind.u64.wrap x ∧ IntKind.u64.wrap x ≤ 18446744073709551615 := by
  rw [IntKind.wrap_u64]; omega
theorem and255 {x : Int} (h0 : 0 ≤ x) (h1 : x ≤ 18446744073709551615) : 0 ≤ wrap64 (bits .and .u64 (x / 1099511627776) 255) ∧ wrap64 (bits .and .u64 (x / 1099511627776) 255) ≤ 255 := by
  have h := bits_mask .u64 63 (by decide) (fun n a b => by rw [IntKind.wrap_u64]; omega) 8 (by decide) (x / 1099511627776) (by omega) (by omega)
  have e : ((2 : Int) ^ 8 - 1) = 255 := by decide
  have e2 : ((2 : Int) ^ 8) = 256 := by decide
  rw [e, e2] at h
  rw [h]
  have e3 : wrap64 (x / 1099511627776 % 256) = x / 1099511627776 % 256 := by unfold wrap64; omega
  rw [e3]; omega
set_option maxRecDepth 100000 in
set_option maxHeartbeats 2000000 in
theorem next_any (w : World) (sb : Nat) (a : Option Addr) (cap : Nat) (code : List Int) (n : Nat) (H : Src w sb a cap code n) (hn : n ≤ 1000000000) :
    Calls Tryd.prog 66 #[.pointer (some ⟨sb, 0, none⟩)] w fun e w' => ∃ r : Int, e = .returned (.int .i64 r) ∧ 0 ≤ r ∧ r ≤ 255 ∧ Src w' sb a cap code (n + 1) ∧ Moved sb w w' := by
  have HS := Lib.hid H
  have c0 := H.c0
  have c1 := H.c1
  obtain ⟨sd, c2, hs0, hs1⟩ := H.c2
  have hb := H.lt
  have hf1 := H.blk.frozen 1
  have hf2 := H.blk.frozen 2
  have hfew := H.few
  have hrange := Lib.hid H.range
  have hbytes := Lib.hid H.bytes
  clear H
  rcases Nat.lt_or_ge n code.length with hlt | hlt
  · obtain ⟨cb, co, rfl⟩ := hbytes.out.base hlt
    obtain ⟨hcb, d0⟩ := ByteAt.at hbytes.out n hlt
    obtain ⟨r0, r1⟩ := hrange.out n hlt
    go_enter Tryd.func66, Tryd.ntmps66
    go_wp2_with fail
    refine region_quiet (by kernel_rfl) (by kernel_rfl) ?_
    repeat (any_goals (first | go_big_quiet_step ((fail)) | quiet_step ((fail))))
    refine wpQuiet_nil ?_
    intro _ hw'
    obtain ⟨y, hw''⟩ := hw'
    subst hw''
    obtain ⟨y1, hy⟩ : ∃ z, z = y := ⟨_, rfl⟩
    subst hy
    go_wp2_with fail
    refine region_quiet (by kernel_rfl) (by kernel_rfl) ?_
    repeat (any_goals (first | go_big_quiet_step ((fail)) | quiet_step ((fail))))
    refine wpQuiet_nil ?_
    intro _ hw'
    obtain ⟨y, hw''⟩ := hw'
    subst hw''
    go_wp2_with fail
    obtain ⟨s2, hs2⟩ : ∃ s2, s2 = IntKind.u64.wrap (IntKind.u64.wrap (IntKind.u64.wrap (sd * 6364136223846793005) + nth code n) + 1442695040888963407) := ⟨_, rfl⟩
    have hsb : 0 ≤ s2 ∧ s2 ≤ 18446744073709551615 := by rw [hs2]; exact wrap_u64_bd _
    rw [← hs2]
    have H2 := Lib.hid ((HS.out.ext (show Ext w (lift (lift w y1) y) from (by repeat (first | exact Ext.refl _ | refine Ext.lift ?_ _ | refine Ext.alloc ?_ _)))).step (sd := s2) hsb.1 hsb.2)
    have M2 := Lib.hid ((Moved.grow (sb := sb) (show Ext w (lift (lift w y1) y) from (by repeat (first | exact Ext.refl _ | refine Ext.lift ?_ _ | refine Ext.alloc ?_ _)))).trans (moved2 (lift (lift w y1) y) sb (.int .i64 ((n : Int) + 1)) (.int .u64 s2)))
    clear hs2 HS c0 c1 c2 hb hf1 hf2
    generalize (((lift (lift w y1) y).setCell ⟨sb, 1, none⟩ (.int .i64 ((n : Int) + 1))).setCell ⟨sb, 2, none⟩ (.int .u64 s2)) = W at *
    have c0 := H2.out.c0
    have c1 := H2.out.c1
    obtain ⟨sd3, c2, hs3, hs4⟩ := H2.out.c2
    have hb := H2.out.lt
    rw [Int.natCast_add] at c1
    clear d0
    refine region_quiet (by kernel_rfl) (by kernel_rfl) ?_
    repeat (any_goals (first | go_big_quiet_step ((fail)) | quiet_step ((fail))))
    refine wpQuiet_nil ?_
    intro _ hw'
    obtain ⟨y, hw''⟩ := hw'
    subst hw''
    go_wp2_with fail
    go_ret
    exact ⟨_, rfl, r0, r1, H2.out.ext (by repeat (first | exact Ext.refl _ | refine Ext.lift ?_ _ | refine Ext.alloc ?_ _)), M2.out.trans (Moved.grow (by repeat (first | exact Ext.refl _ | refine Ext.lift ?_ _ | refine Ext.alloc ?_ _)))⟩
  · go_enter Tryd.func66, Tryd.ntmps66
    go_wp2_with fail
    refine region_quiet (by kernel_rfl) (by kernel_rfl) ?_
    repeat (any_goals (first | go_big_quiet_step ((fail)) | quiet_step ((fail))))
    refine wpQuiet_nil ?_
    intro _ hw'
    obtain ⟨y, hw''⟩ := hw'
    subst hw''
    go_wp2_with fail
    obtain ⟨s2, hs2⟩ : ∃ s2, s2 = IntKind.u64.wrap (IntKind.u64.wrap (IntKind.u64.wrap (sd * 6364136223846793005)) + 1442695040888963407) := ⟨_, rfl⟩
    have hsb : 0 ≤ s2 ∧ s2 ≤ 18446744073709551615 := by rw [hs2]; exact wrap_u64_bd _
    rw [← hs2]
    have H2 := Lib.hid ((HS.out.ext (show Ext w (lift w y) from (by repeat (first | exact Ext.refl _ | refine Ext.lift ?_ _ | refine Ext.alloc ?_ _)))).step (sd := s2) hsb.1 hsb.2)
    have M2 := Lib.hid ((Moved.grow (sb := sb) (show Ext w (lift w y) from (by repeat (first | exact Ext.refl _ | refine Ext.lift ?_ _ | refine Ext.alloc ?_ _)))).trans (moved2 (lift w y) sb (.int .i64 ((n : Int) + 1)) (.int .u64 s2)))
    clear hs2 HS c0 c1 c2 hb hf1 hf2
    generalize (((lift w y).setCell ⟨sb, 1, none⟩ (.int .i64 ((n : Int) + 1))).setCell ⟨sb, 2, none⟩ (.int .u64 s2)) = W at *
    have c0 := H2.out.c0
    have c1 := H2.out.c1
    obtain ⟨sd3, c2, hs3, hs4⟩ := H2.out.c2
    have hb := H2.out.lt
    rw [Int.natCast_add] at c1
    refine region_quiet (by kernel_rfl) (by kernel_rfl) ?_
    repeat (any_goals (first | go_big_quiet_step ((fail)) | quiet_step ((fail))))
    refine wpQuiet_nil ?_
    intro _ hw'
    obtain ⟨y, hw''⟩ := hw'
    subst hw''
    go_wp2_with fail
    go_ret
    obtain ⟨q0, q1⟩ := and255 hs3 hs4
    exact ⟨_, rfl, q0, q1, H2.out.ext (by repeat (first | exact Ext.refl _ | refine Ext.lift ?_ _ | refine Ext.alloc ?_ _)), M2.out.trans (Moved.grow (by repeat (first | exact Ext.refl _ | refine Ext.lift ?_ _ | refine Ext.alloc ?_ _)))⟩
set_option maxRecDepth 100000 in
set_option maxHeartbeats 2000000 in
theorem pick_any (w : World) (sb : Nat) (a : Option Addr) (cap : Nat) (code : List Int) (n : Nat) (H : Src w sb a cap code n) (hn : n ≤ 900000000) (m : Int) (hm : m ≤ 65536) :
    Calls Tryd.prog 47 #[.pointer (some ⟨sb, 0, none⟩), .int .i64 m] w fun e w' => ∃ (r : Int) (k : Nat), e = .returned (.int .i64 r) ∧ 0 ≤ r ∧ (1 ≤ m → r < m) ∧ k ≤ 2 ∧ Src w' sb a cap code (n + k) ∧ Moved sb w w' := by
  have HS := Lib.hid H
  clear H
  rcases Int.lt_or_le 1 m with h1 | h1
  case inr =>
    go_enter Tryd.func47, Tryd.ntmps47
    go_wp2_with fail
    go_ret
    exact ⟨0, 0, rfl, Int.le_refl _, fun h => by omega, by omega, HS.out, Moved.refl _ _⟩
  rcases Int.lt_or_le 200 m with h2 | h2
  · go_enter Tryd.func47, Tryd.ntmps47
    go_wp2_with fail
    refine (next_any w sb a cap code n HS.out (by omega)).mono ?_
    rintro e w1 ⟨r1, rfl, p0, p1, S1, M1⟩
    have S1 := Lib.hid S1
    have M1 := Lib.hid M1
    go_wp2_with fail
    refine (next_any w1 sb a cap code (n + 1) S1.out (by omega)).mono ?_
    rintro e w2 ⟨r2, rfl, p2, p3, S2, M2⟩
    have S2 := Lib.hid S2
    have M2 := Lib.hid (M1.out.trans M2)
    go_wp2_with fail
    go_ret
    refine ⟨_, 2, rfl, ?_, fun _ => ?_, by omega, S2.out, M2.out⟩
    · first | exact Int.emod_nonneg _ (by omega) | (rw [Int.tmod_eq_emod_of_nonneg (by omega)]; exact Int.emod_nonneg _ (by omega))
    · first | exact Int.emod_lt_of_pos _ (by omega) | (rw [Int.tmod_eq_emod_of_nonneg (by omega)]; exact Int.emod_lt_of_pos _ (by omega))
  · go_enter Tryd.func47, Tryd.ntmps47
    go_wp2_with fail
    refine (next_any w sb a cap code n HS.out (by omega)).mono ?_
    rintro e w1 ⟨r1, rfl, p0, p1, S1, M1⟩
    have S1 := Lib.hid S1
    have M1 := Lib.hid M1
    go_wp2_with fail
    go_ret
    refine ⟨_, 1, rfl, ?_, fun _ => ?_, by omega, S1.out, M1.out⟩
    · first | exact Int.emod_nonneg _ (by omega) | (rw [Int.tmod_eq_emod_of_nonneg (by omega)]; exact Int.emod_nonneg _ (by omega))
    · first | exact Int.emod_lt_of_pos _ (by omega) | (rw [Int.tmod_eq_emod_of_nonneg (by omega)]; exact Int.emod_lt_of_pos _ (by omega))
set_option maxRecDepth 100000 in
theorem l00From_any (w : World) (a : Option Addr) (cap : Nat) (code : List Int) (H : ByteAt w a code) (hr : ∀ k, k < code.length → 0 ≤ nth code k ∧ nth code k ≤ 255) (hf : code.length ≤ 1048576) :
    Calls Tryd.prog 20 #[.slice a code.length cap] w fun e w' => ∃ sb, e = .returned (.pointer (some ⟨sb, 0, none⟩)) ∧ w.heap.size ≤ sb ∧ Src w' sb a cap code 0 ∧ Ext w w' := by
  have HB := Lib.hid H
  have HR := Lib.hid hr
  have HA : Hid (∀ p, a = some p → 0 < code.length → p.block < w.heap.size) := fun p hp h0 => by
    obtain ⟨b, o, e, hb, -⟩ := H 0 h0
    rw [hp] at e
    simp only [Option.some.injEq] at e
    rw [e]; exact hb
  clear H hr
  go_enter Tryd.func20, Tryd.ntmps20
  go_wp2_with fail
  go_ret
  refine ⟨_, rfl, Nat.le_refl _, ⟨Blk.new _ _ _, by rw [cell_new]; rfl, by rw [cell_new]; rfl, ⟨0, by rw [cell_new]; rfl, by omega, by omega⟩, RowsAt.ext HB.out ((Ext.refl _).alloc _), HR.out, hf, fun p hp h0 => ?_⟩, (Ext.refl _).alloc _⟩
  have := HA.out p hp h0
  omega
set_option maxRecDepth 100000 in
set_option maxHeartbeats 2000000 in
theorem r8At_any (w : World) (a : Option Addr) (cap : Nat) (code : List Int) (H : ByteAt w a code) (hr : ∀ k, k < code.length → 0 ≤ nth code k ∧ nth code k ≤ 255) (_ : code.length ≤ 1048576) (k : Nat) (m : Int) (hm : m ≤ 65536) :
    Calls Tryd.prog 11 #[.slice a code.length cap, .int .i64 k, .int .i64 m] w fun e w' => ∃ r : Int, e = .returned (.int .i64 r) ∧ 0 ≤ r ∧ (1 ≤ m → r < m) ∧ Ext w w' := by
  have HB := Lib.hid H
  have HR := Lib.hid hr
  clear H hr
  rcases Int.lt_or_le 1 m with h1 | h1
  case inr =>
    go_enter Tryd.func11, Tryd.ntmps11
    go_wp2_with fail
    go_ret
    exact ⟨0, rfl, Int.le_refl _, fun h => by omega, Ext.refl _⟩
  rcases Nat.lt_or_ge k code.length with h2 | h2
  · obtain ⟨cb, co, rfl⟩ := HB.out.base h2
    obtain ⟨hcb, d0⟩ := ByteAt.at HB.out k h2
    obtain ⟨r0, r1⟩ := HR.out k h2
    go_enter Tryd.func11, Tryd.ntmps11
    go_wp2_with fail
    go_ret
    refine ⟨_, rfl, ?_, fun _ => ?_, (by repeat (first | exact Ext.refl _ | refine Ext.lift ?_ _ | refine Ext.alloc ?_ _))⟩
    · first | exact Int.emod_nonneg _ (by omega) | (rw [Int.tmod_eq_emod_of_nonneg (by omega)]; exact Int.emod_nonneg _ (by omega))
    · first | exact Int.emod_lt_of_pos _ (by omega) | (rw [Int.tmod_eq_emod_of_nonneg (by omega)]; exact Int.emod_lt_of_pos _ (by omega))
  · go_enter Tryd.func11, Tryd.ntmps11
    go_wp2_with fail
    go_ret
    exact ⟨0, rfl, Int.le_refl _, fun h => by omega, Ext.refl _⟩
end Go.Proofs.YtbcpgdidajapoaaDoor
namespace Go.Proofs.YtbcpgdidajapoaaDoor
open Go.RowKit
theorem Moved.blk {sb : Nat} {w w' : World} (h : Moved sb w w') {g T n : Nat} (hg : g ≠ sb) (hB : Blk w g T n) : Blk w' g T n := by
  obtain ⟨cs, hc, e⟩ := hB
  exact ⟨cs, h.obj g _ hg hc, e⟩
theorem Moved.fresh {sb : Nat} {w w' : World} (h : Moved sb w w') {b o : Nat} (hb : w.heap.size ≤ b) (v : Value) : Moved sb w (w'.setCell ⟨b, o, none⟩ v) := by
  refine ⟨fun w0 h0 he => (h.ext w0 h0 he).setCell (p := ⟨b, o, none⟩) (Nat.le_trans he.size hb) v, by simpa using h.size, fun g x hg hx => ?_⟩
  have hlt : g < w.heap.size := by
    rcases Nat.lt_or_ge g w.heap.size with h1 | h1
    · exact h1
    · rw [Array.getElem?_eq_none h1] at hx; cases hx
  rw [heap_setCell_other w' ⟨b, o, none⟩ g _ (by show g ≠ b; omega)]
  exact h.obj g x hg hx
theorem Moved.more {sb : Nat} {w w' w'' : World} (h : Moved sb w w') (he : Ext w' w'') : Moved sb w w'' := h.trans (Moved.grow he)
theorem Src.other {w0 w : World} {sb : Nat} {a : Option Addr} {cap : Nat} {code : List Int} {n : Nat} (h : Src w sb a cap code n) (h0 : ByteAt w0 a code) {b o : Nat} (hb : w0.heap.size ≤ b) (hne : b ≠ sb) (v : Value) : Src (w.setCell ⟨b, o, none⟩ v) sb a cap code n := by
  refine ⟨h.blk.set _ _ _, ?_, ?_, ?_, ?_, h.range, h.few, h.apart⟩
  · rw [cell_other _ (by omega)]; exact h.c0
  · rw [cell_other _ (by omega)]; exact h.c1
  · obtain ⟨sd, h1, h2⟩ := h.c2
    exact ⟨sd, by rw [cell_other _ (by omega)]; exact h1, h2⟩
  · intro k hk
    obtain ⟨b1, o1, e1, hb1, -⟩ := h0 k hk
    obtain ⟨b2, o2, e2, hb2, hc2⟩ := h.bytes k hk
    rw [e1] at e2
    simp only [Option.some.injEq, Addr.mk.injEq, and_true] at e2
    obtain ⟨rfl, rfl⟩ := e2
    exact ⟨b1, o1, e1, by simpa using hb2, fun q hq => by rw [cell_other _ (by omega)]; exact hc2 q hq⟩
theorem Lst.moved {α : Type} {T n : Nat} {cell : α → Nat → Value} {sb base : Nat} {w w' : World} {v : Value} {l : List α} (h : Lst T n cell w base v l) (hm : Moved sb w w') (hb : sb < base) : Lst T n cell w' base v l := by
  refine ⟨h.1, ?_⟩
  rcases h.2 with h2 | ⟨g, cap, cur, hv, hg, hh, r⟩
  · exact .inl h2
  · exact .inr ⟨g, cap, cur, hv, hg, hm.obj g _ (by omega) hh, r⟩
theorem Moved.grown {sb : Nat} {w w2 w3 : World} {row : Option Nat} (h : Moved sb w w2) (hg : w2.grownBy w3 row) (hr : ∀ k, row = some k → w.heap.size ≤ k) : Moved sb w w3 := by
  refine ⟨fun w0 h0 he => (h.ext w0 h0 he).grown hg (fun k hk => Nat.le_trans he.size (hr k hk)), Nat.le_trans h.size hg.size, fun g x hn hx => ?_⟩
  have hlt : g < w.heap.size := by
    rcases Nat.lt_or_ge g w.heap.size with h1 | h1
    · exact h1
    · rw [Array.getElem?_eq_none h1] at hx; cases hx
  rw [hg.block g (Nat.lt_of_lt_of_le hlt h.size) (fun e => by have := hr g e.symm; omega)]
  exact h.obj g x hn hx
theorem Src.grown {w w' : World} {sb : Nat} {a : Option Addr} {cap : Nat} {code : List Int} {n : Nat} {row : Option Nat} {base : Nat} {w0 : World} (h : Src w sb a cap code n) (hg : w.grownBy w' row) (hr : ∀ g, row = some g → base ≤ g) (hb : sb < base) (h0 : ByteAt w0 a code) (hw : w0.heap.size ≤ base) : Src w' sb a cap code n := by
  have hne : row ≠ some sb := fun e => by have := hr _ e; omega
  refine ⟨h.blk.grown hg hne, cell_grown h.c0 hg hne, cell_grown h.c1 hg hne, ?_, ?_, h.range, h.few, h.apart⟩
  · obtain ⟨sd, h1, h2⟩ := h.c2
    exact ⟨sd, cell_grown h1 hg hne, h2⟩
  · intro k hk
    obtain ⟨b1, o1, e1, hb1, -⟩ := h0 k hk
    obtain ⟨b2, o2, e2, hb2, hc2⟩ := h.bytes k hk
    rw [e1] at e2
    simp only [Option.some.injEq, Addr.mk.injEq, and_true] at e2
    obtain ⟨rfl, rfl⟩ := e2
    exact ⟨b1, o1, e1, Nat.lt_of_lt_of_le hb2 hg.size, fun q hq => cell_grown (hc2 q hq) hg (fun e => by have := hr _ e; omega)⟩
end Go.Proofs.YtbcpgdidajapoaaDoor
namespace Go.Proofs.YtbcpgdidajapoaaDoor
open Go.RowKit
theorem step_callD {P : Program} {ops : Array Oper} {o : Oper} {a : Act} {w : World} {K : Act → World → Prop} {Q : Exit → Act → World → Prop} {X : Prop} (hgd : o.guard = none) (f : FuncId) (args : Array Value) (hrun : (execOp a.eval o).run P w = .ok (.enter f args) w)
    (hc : Calls P f args w fun e w' => ∃ v, e = .returned v ∧ K (a.put o.dst v) w') : if Region.wanted o (yielded ops a.tmps) = true then Oper.wp P o a w K Q else X := by
  have hw : Region.wanted o (yielded ops a.tmps) = true := by simp [Region.wanted, hgd]
  rw [if_pos hw]
  unfold Oper.wp
  rw [hrun]
  exact hc.mono fun e w' ⟨v, he, hk⟩ => by subst he; exact hk
set_option maxRecDepth 100000 in
theorem one_any (w : World) (sb : Nat) (a : Option Addr) (cap : Nat) (code : List Int) (n : Nat) (H : Src w sb a cap code n) (hn : n ≤ 900000000) (m : Int) (hm : m ≤ 65536) :
    Calls Tryd.prog 49 #[.pointer (some ⟨sb, 0, none⟩), .int .i64 m] w fun e w' => ∃ (b : Bool) (k : Nat), e = .returned (.bool b) ∧ k ≤ 2 ∧ Src w' sb a cap code (n + k) ∧ Moved sb w w' := by
  have HP := Lib.hid (pick_any w sb a cap code n H hn m hm)
  clear H
  go_enter Tryd.func49, Tryd.ntmps49
  go_wp2_with fail
  refine HP.out.mono ?_
  rintro e w' ⟨r, k, rfl, p0, p1, hk, S, M⟩
  have S := Lib.hid S
  have M := Lib.hid M
  clear HP p1
  go_wp2_with fail
  go_ret
  exact ⟨_, k, rfl, hk, S.out, M.out⟩
end Go.Proofs.YtbcpgdidajapoaaDoor
namespace Go.Proofs.YtbcpgdidajapoaaDoor
open Go.RowKit
theorem Lst.low {α : Type} {T n b0 b1 : Nat} {cell : α → Nat → Value} {w : World} {v : Value} {l : List α} (h : Lst T n cell w b1 v l) (hb : b0 ≤ b1) : Lst T n cell w b0 v l := by
  refine ⟨h.1, ?_⟩
  rcases h.2 with h2 | ⟨g, cap, cur, hv, hg, r⟩
  · exact .inl h2
  · exact .inr ⟨g, cap, cur, hv, Nat.le_trans hb hg, r⟩
/-- A list in a block of the call's own, told by its elements. -/
theorem Lst.of_rows {α : Type} [Inhabited α] {T n base g cap : Nat} {cell : α → Nat → Value} {w : World} {l : List α} (hB : Blk w g T (cap * n)) (hb : base ≤ g) (hR : RowsAt n cell w (some ⟨g, 0, none⟩) l) (hc : l.length ≤ cap) (hm : cap ≤ maxLen) : Lst T n cell w base (.slice (some ⟨g, 0, none⟩) l.length cap) l := by
  obtain ⟨cur, hh, hs⟩ := hB
  refine ⟨flat_length l, .inr ⟨g, cap, cur, rfl, hb, hh, hc, hm, hs, ?_⟩⟩
  have hle : l.length * n ≤ cur.toList.length := by
    have h1 : l.length * n ≤ cap * n := Nat.mul_le_mul_right n hc
    have h2 : cur.toList.length = cap * n := by rw [← hs]; exact Array.length_toList
    omega
  apply List.ext_getElem?
  intro i
  by_cases hi : i < l.length * n
  · obtain ⟨k, j, hk, hj, rfl⟩ := split_index hi
    rw [List.getElem?_take, if_pos hi, flat_get l k hk j hj, Array.getElem?_toList]
    obtain ⟨b, off, e, _, hcell⟩ := hR k hk
    simp only [Option.some.injEq, Addr.mk.injEq, and_true] at e
    obtain ⟨rfl, rfl⟩ := e
    have := hcell j hj
    unfold World.cell? at this
    rw [hh] at this
    simpa using this
  · rw [List.getElem?_eq_none (show (cur.toList.take (l.length * n)).length ≤ i by rw [List.length_take]; omega), List.getElem?_eq_none (show (flat n cell l).length ≤ i by rw [flat_length]; omega)]
/-- The parts of a list that is not empty. -/
theorem Lst.parts {α : Type} [Inhabited α] {T n base : Nat} {cell : α → Nat → Value} {w : World} {v : Value} {l : List α} (h : Lst T n cell w base v l) (hl : 0 < l.length) : ∃ g cap, v = .slice (some ⟨g, 0, none⟩) l.length cap ∧ base ≤ g ∧ Blk w g T (cap * n) ∧ RowsAt n cell w (some ⟨g, 0, none⟩) l ∧ l.length ≤ cap ∧ cap ≤ maxLen := by
  have hsh := h.shape
  rcases h.2 with ⟨hv, hx⟩ | ⟨g, cap, cur, hv, hg, hh, hc, hm, hs, ht⟩
  · have : l.length = 0 := hx
    omega
  · refine ⟨g, cap, hv, hg, ⟨cur, hh, hs⟩, ?_, hc, hm⟩
    obtain ⟨a, cap', e, -, -, hR, -⟩ := hsh
    rw [hv] at e
    simp only [Value.slice.injEq] at e
    rw [e.1]; exact hR
/-- An element of the list is written. -/
theorem Lst.put {α : Type} [Inhabited α] {T n base : Nat} {cell : α → Nat → Value} {w : World} {g cap : Nat} {l : List α} (hg : base ≤ g) (hB : Blk w g T (cap * n)) (hR : RowsAt n cell w (some ⟨g, 0, none⟩) l) (hc : l.length ≤ cap) (hm : cap ≤ maxLen) {k : Nat} (hk : k < l.length) (y : α) (vs : List Value) (hl : vs.length = n) (hv : ∀ j, j < n → vs[j]? = some (cell y j)) :
    Lst T n cell (w.setCells g (k * n) vs) base (.slice (some ⟨g, 0, none⟩) (l.set k y).length cap) (l.set k y) :=
  Lst.of_rows (hB.setCells g vs _ w) hg (RowsAt.set hR hB (Nat.mul_le_mul_right n hc) hk vs hl hv) (by rw [List.length_set]; exact hc) hm
/-- A list cut to its first elements. -/
theorem Lst.cutTo {α : Type} [Inhabited α] {T n base : Nat} {cell : α → Nat → Value} {w : World} {g cap : Nat} {l : List α} (hg : base ≤ g) (hB : Blk w g T (cap * n)) (hR : RowsAt n cell w (some ⟨g, 0, none⟩) l) (hc : l.length ≤ cap) (hm : cap ≤ maxLen) {k : Nat} (hk : k ≤ l.length) : Lst T n cell w base (.slice (some ⟨g, 0, none⟩) k cap) (l.take k) := by
  have := Lst.of_rows (T := T) (base := base) hB hg (hR.take k) (by rw [List.length_take]; omega) hm
  rwa [List.length_take, Nat.min_eq_left hk] at this
/-- A cell of another block is written. -/
theorem Lst.setN {α : Type} {T n base b o : Nat} {cell : α → Nat → Value} {w : World} {v : Value} {l : List α} (h : Lst T n cell w base v l) (hb : ∀ g, v.ownBlock = some g → g ≠ b) (u : Value) : Lst T n cell (w.setCell ⟨b, o, none⟩ u) base v l := by
  refine ⟨h.1, ?_⟩
  rcases h.2 with h2 | ⟨g, cap, cur, hv, hg, hh, r⟩
  · exact .inl h2
  · exact .inr ⟨g, cap, cur, hv, hg, by rw [heap_setCell_other w ⟨b, o, none⟩ g u (by show g ≠ b; exact hb g (by rw [hv]; rfl))]; exact hh, r⟩
end Go.Proofs.YtbcpgdidajapoaaDoor
namespace Go.Proofs.YtbcpgdidajapoaaDoor
open Go.RowKit
set_option maxRecDepth 100000 in
set_option maxHeartbeats 8000000 in
theorem l27DrawState_any (w : World) (sb : Nat) (a : Option Addr) (cap : Nat) (code : List Int) (n : Nat) (H : Src w sb a cap code n) (hn : n ≤ 700000000) :
    Calls Tryd.prog 22 #[.pointer (some ⟨sb, 0, none⟩)] w fun e w' => ∃ (v : Value) (l : List Setting) (k : Nat), e = .returned v ∧ k ≤ 20 ∧ GoodD l 5 ∧ Lst 57 2 Setting.cell w' w.heap.size v l ∧ Src w' sb a cap code (n + k) ∧ Moved sb w w' := by
  have hlt0 := H.lt
  have HBY := Lib.hid H.bytes
  have hO := Lst.new (T := 57) (n := 2) (cell := Setting.cell) (α := Setting) (w.alloc (.cells #[.string (nmS 0), .string (nmS 1), .string (nmS 2), .string (nmS 3), .string (nmS 4)] 9)) (w.heap.size + 1) (by rw [size_new]; exact Nat.le_refl _)
  rw [size_new] at hO
  have hE : Ext w ((w.alloc (.cells #[.string (nmS 0), .string (nmS 1), .string (nmS 2), .string (nmS 3), .string (nmS 4)] 9)).alloc (.cells #[] 57)) := ((Ext.refl w).alloc _).alloc _
  have hN : Hid (∀ j, j < 5 → ((w.alloc (.cells #[.string (nmS 0), .string (nmS 1), .string (nmS 2), .string (nmS 3), .string (nmS 4)] 9)).alloc (.cells #[] 57)).cell? ⟨w.heap.size, j, none⟩ = some (.string (nmS j))) := fun j hj => by
    refine ((Ext.refl _).alloc _).cell ?_
    rw [cell_new]
    rcases nat6 (show j < 6 by omega) with rfl | rfl | rfl | rfl | rfl | rfl <;> first | rfl | omega
  have hO := Lib.hid hO
  have hE := Lib.hid hE
  have HS := Lib.hid H
  clear H
  go_enter Tryd.func22, Tryd.ntmps22
  go_wp2_with fail
  go_loopw [4, 5] (fun o i wr => ∃ (k q : Nat) (L : List Setting), k ≤ 5 ∧ i = .int .i64 k ∧ q ≤ 4 * k ∧ Hid (DrawnS L k) ∧ Hid (Lst 57 2 Setting.cell wr (w.heap.size + 1) o L) ∧ Hid (Src wr sb a cap code (n + q)) ∧ Hid (Moved sb w wr) ∧ Hid (∀ j, j < 5 → wr.cell? ⟨w.heap.size, j, none⟩ = some (.string (nmS j)))) (fun _ i _ => 5 - (intOf i).toNat)
  case atStart => exact ⟨0, 0, [], by omega, rfl, by omega, DrawnS.nil, hO.out, HS.out.ext hE.out, Moved.grow hE.out, hN.out⟩
  case round =>
    clear hO hE HS hN
    obtain ⟨k, q, L, hk, rfl, hq, HD, HO, HS, HM, HN⟩ := hrel
    obtain ⟨ad, oc, rfl, hoc, hom, hR, -⟩ := HO.out.shape
    have hLl := HD.out.good.len
    have hsz := HM.out.size
    have hsl := HS.out.lt
    clear hR
    by_cases hlt : k < 5
    · have HD1 := Lib.hid HD.out.more
      go_wp2_with fail
      refine (one_any wr sb a cap code (n + q) HS.out (by omega) 2 (by omega)).mono ?_
      rintro e W1 ⟨b1, k1, rfl, hk1, S1, M1⟩
      have S1 := Lib.hid S1
      have d1 := M1.cell (p := ⟨w.heap.size, k, none⟩) (by show w.heap.size ≠ sb; omega) (HN.out k hlt)
      have HN1 : Hid (∀ j, j < 5 → W1.cell? ⟨w.heap.size, j, none⟩ = some (.string (nmS j))) := fun j hj => M1.cell (by show w.heap.size ≠ sb; omega) (HN.out j hj)
      have HO1 := Lib.hid (HO.out.moved M1 (by omega))
      have HM1 := Lib.hid (HM.out.trans M1)
      have hb1 := block_lt d1
      clear HS HO HM HN M1
      cases b1
      · go_wp2_with fail
        go_roundw
        case rel => exact ⟨k + 1, q + k1, L, by omega, by go_num, by omega, HD1.out, HO1.out, by rw [← Nat.add_assoc]; exact S1.out, HM1.out, HN1.out⟩
        case measure => simp [intOf]; omega
      · go_wp2_with fail
        go_region_law (first
          | (refine step_callD rfl 47 #[.pointer (some ⟨sb, 0, none⟩), .int .i64 1001] (by first | rfl | (go_simp; done) | (go_simp; rfl)) ?_; refine (pick_any _ sb a cap code (n + q + k1) (S1.out.ext ((Ext.refl _).drew)) (by omega) 1001 (by omega)).mono ?_; rintro e W3 ⟨r2, q2, rfl, p2, p3, hq2, S3, M3⟩; refine ⟨_, rfl, ?_⟩; have p3 := p3 (by omega); have S3 := Lib.hid S3; have M3 := Lib.hid ((Moved.grow ((Ext.refl W1).drew)).trans M3); have y1 := M3.out.cell (p := ⟨w.heap.size, k, none⟩) (by show w.heap.size ≠ sb; omega) d1; have yl := block_lt y1; have hx := Lib.hid ((Ext.refl W3).alloc (.cells #[.string (nmS k), .int .i64 r2] 57)); have HO2 := Lib.hid ((HO1.out.moved M3.out (by omega)).ext hx.out); have HR2 : Hid (SettingAt (W3.alloc (.cells #[.string (nmS k), .int .i64 r2] 57)) (some ⟨W3.heap.size, 0, none⟩) [⟨nmS k, r2⟩]) := rows_new (n := 2) (cell := Setting.cell) (T := 57) W3 #[.string (nmS k), .int .i64 r2] ⟨nmS k, r2⟩ (fun j hj => by rcases (show j = 0 ∨ j = 1 by omega) with rfl | rfl <;> rfl); have hz2 : w.heap.size + 1 ≤ W3.heap.size := by have := M3.out.size; omega)
          | (refine step_pushAt elSetting oneSetting rfl _ _ rfl (w.heap.size + 1) _ L (by rfl) HO2.out _ 1 1 [⟨nmS k, r2⟩] rfl (by rfl) HR2.out (by omega) (by omega) (by rw [size_new]; omega) ?_; intro v' w3 HL hg3 _))
        all_goals
          have HL3 := Lib.hid HL
          have HD2 := Lib.hid (HD.out.push (show k < 6 by omega) p2 (show r2 ≤ 1000 by omega))
          have S3' := Lib.hid (S3.out.ext hx.out)
          have HM2 := Lib.hid ((HM1.out.trans M3.out).more hx.out)
          have HN2 : Hid (∀ j, j < 5 → (W3.alloc (.cells #[.string (nmS k), .int .i64 r2] 57)).cell? ⟨w.heap.size, j, none⟩ = some (.string (nmS j))) := fun j hj => hx.out.cell (M3.out.cell (by show w.heap.size ≠ sb; omega) (HN1.out j hj))
          have hrow : ∀ g, (Value.slice ad L.length oc).ownBlock = some g → w.heap.size + 1 ≤ g := fun g e => ownBlock_le HO2.out g e
          have S4 := Lib.hid (show Src w3 sb a cap code (n + q + k1 + q2) from S3'.out.grown hg3 hrow (by omega) HBY.out (Nat.le_succ _))
          have HM3 := Lib.hid (HM2.out.grown hg3 (fun g e => by have := hrow g e; omega))
          have HN3 : Hid (∀ j, j < 5 → w3.cell? ⟨w.heap.size, j, none⟩ = some (.string (nmS j))) := fun j hj => cell_grown (HN2.out j hj) hg3 (fun e => by have := hrow _ e; omega)
          clear d1 hb1 HO1 HM1 HN1 S1 S3 M3 HD HD1 hx HL hg3 hrow HO2 HR2 S3' HM2 HN2 y1 yl
          go_wp2_with fail
          go_roundw
          case rel => exact ⟨k + 1, q + k1 + q2, L ++ [(⟨nmS k, r2⟩ : Setting)], by omega, by go_num, by omega, HD2.out, HL3.out, by rw [← Nat.add_assoc, ← Nat.add_assoc]; exact S4.out, HM3.out, HN3.out⟩
          case measure => simp [intOf]; omega
    · obtain rfl : k = 5 := by omega
      have HO2 := Lib.hid (HO.out.low (Nat.le_succ _))
      clear HO HN
      go_wp2_with fail
      go_ret
      exact ⟨_, L, q, rfl, by omega, HD.out.good, HO2.out, HS.out, HM.out⟩
end Go.Proofs.YtbcpgdidajapoaaDoor
namespace Go.Proofs.YtbcpgdidajapoaaDoor
open Go.RowKit
theorem Own.moved {sb : Nat} {w w' : World} {base T m n : Nat} {a : Option Addr} (h : Own w base T m a n) (hm : Moved sb w w') (hb : sb < base) : Own w' base T m a n := by
  rcases h with h | ⟨g, N, e, hg, hB, hn⟩
  · exact .inl h
  · exact .inr ⟨g, N, e, hg, hm.blk (by omega) hB, hn⟩
theorem RowsAt.movedO {α : Type} [Inhabited α] {m : Nat} {cell : α → Nat → Value} {sb : Nat} {w w' : World} {a : Option Addr} {l : List α} (h : RowsAt m cell w a l) (hm : Moved sb w w') (hb : ∀ g o s, ownA l.length a = some ⟨g, o, s⟩ → g ≠ sb) : RowsAt m cell w' a l := fun k hk => by
  obtain ⟨b, off, e, hl, hc⟩ := h k hk
  have hne := hb b off none (by rw [ownA_pos (by omega), e])
  exact ⟨b, off, e, Nat.lt_of_lt_of_le hl hm.size, fun j hj => hm.cell (by show b ≠ sb; exact hne) (hc j hj)⟩
theorem Own.far {w : World} {base T m n sb : Nat} {a : Option Addr} (h : Own w base T m a n) (hb : sb < base) : ∀ g o s, ownA n a = some ⟨g, o, s⟩ → g ≠ sb := fun g o s e => by
  have := (h.block e).1; omega
/-- A state that is drawn, in memory of its own. -/
def OutSt (w : World) (sb : Nat) (a : Option Addr) (cap : Nat) (code : List Int) (n d m : Nat) (e : Ending) (w' : World) : Prop :=
  ∃ (sa : Option Addr) (sc : Nat) (l : List Setting) (k : Nat), e = .returned (.slice sa l.length sc) ∧ l.length ≤ sc ∧ k ≤ d ∧ GoodD l m ∧ Own w' w.heap.size 57 2 sa l.length ∧ SettingAt w' sa l ∧ Src w' sb a cap code (n + k) ∧ Moved sb w w'
theorem drawState_out (w : World) (sb : Nat) (a : Option Addr) (cap : Nat) (code : List Int) (n : Nat) (H : Src w sb a cap code n) (hn : n ≤ 700000000) :
    Calls Tryd.prog 22 #[.pointer (some ⟨sb, 0, none⟩)] w (OutSt w sb a cap code n 20 5) := by
  refine (l27DrawState_any w sb a cap code n H hn).mono ?_
  rintro e w' ⟨v, l, k, rfl, hk, hg, hL, hS, hM⟩
  obtain ⟨ad, oc, rfl, hoc, -, hR, hO⟩ := hL.shape
  exact ⟨ad, oc, l, k, rfl, hoc, hk, hg, hO, hR, hS, hM⟩
set_option maxRecDepth 100000 in
set_option maxHeartbeats 16000000 in
theorem l27Changed_any (w : World) (sb : Nat) (a : Option Addr) (cap : Nat) (code : List Int) (n : Nat) (H : Src w sb a cap code n) (hn : n ≤ 700000000) (la : Option Addr) (lc : Nat) (l : List Setting) (HA : SettingAt w la l) (m : Nat) (hG : GoodD l m) (hm : m ≤ 100) :
    Calls Tryd.prog 23 #[.pointer (some ⟨sb, 0, none⟩), .slice la l.length lc] w (OutSt w sb a cap code n 40 (m + 3)) := by
  have hlt0 := H.lt
  have hll := hG.len
  have HS := Lib.hid H
  have HG := Lib.hid hG
  have HN := Lib.hid (Lst.new (T := 57) (n := 2) (cell := Setting.cell) (α := Setting) w w.heap.size (Nat.le_refl _))
  have hE1 := Lib.hid ((Ext.refl w).alloc (.cells #[] 57))
  have HR := Lib.hid (RowsAt.ext HA hE1.out)
  clear H HA hG
  go_enter Tryd.func23, Tryd.ntmps23
  try dsimp only
  repeat (first | (at_builtin; refine Hid.out ?_) | go_values | go_skip | go_guarded | go_step | go_upon | go_back)
  refine Lib.hid ?_
  refine wpList_pushA elSetting oneSetting rfl _ _ rfl w.heap.size _ [] (by rfl) HN.out la l.length lc l rfl (by rfl) HR.out (by simp; omega) (by simp; omega) (by rw [size_new]; omega) ?_
  intro v1 w1 L1 hs1
  obtain ⟨oa, oc, rfl, hoc, -, hOR, hOO⟩ := L1.shape
  have hE2 := hs1 w hE1.out (Nat.le_refl _)
  have hOR : Hid (SettingAt w1 oa l) := hOR
  have hOO : Hid (Own w1 w.heap.size 57 2 oa l.length) := hOO
  have hoc : l.length ≤ oc := hoc
  obtain ⟨nb, hnb⟩ : ∃ nb, nb = w1.heap.size := ⟨_, rfl⟩
  obtain ⟨W2, hW2⟩ : ∃ W2, W2 = w1.alloc (.cells #[.string (nmS 0), .string (nmS 1), .string (nmS 2), .string (nmS 3), .string (nmS 4), .string (nmS 5)] 9) := ⟨_, rfl⟩
  have hx2 : Ext w1 W2 := by rw [hW2]; exact (Ext.refl _).alloc _
  have hN2 : Hid (∀ i, i < 6 → W2.cell? ⟨nb, i, none⟩ = some (.string (nmS i))) := fun i hi => by
    rw [hW2, hnb, cell_new]
    rcases nat6 hi with rfl | rfl | rfl | rfl | rfl | rfl <;> rfl
  have hnw : w.heap.size ≤ nb := by rw [hnb]; exact hE2.size
  have hns : nb ≠ sb := by omega
  have HS2 := Lib.hid (HS.out.ext (hE2.trans hx2))
  have hO2 := Lib.hid (hOO.out.ext hx2)
  have hR2 := Lib.hid (RowsAt.ext hOR.out hx2)
  have HM2 := Lib.hid (Moved.grow (sb := sb) (hE2.trans hx2))
  clear L1 hs1 HN hE1 HR HS hOR hOO
  go_wp2_with fail
  have hnbq := hnb
  first | rw [← hnb] | skip
  have eW2 : w1.alloc (.cells #[.string ⟨#[97]⟩, .string ⟨#[98]⟩, .string ⟨#[99]⟩, .string ⟨#[100]⟩, .string ⟨#[101]⟩, .string ⟨#[102]⟩] 9) = W2 := hW2.symm
  rw [eW2]
  clear eW2 hW2 hnb hnbq hx2 hE2
  refine (pick_any W2 sb a cap code n HS2.out (by omega) 4 (by omega)).mono ?_
  rintro e W3 ⟨r0, q0, rfl, p0, p1, hq0, S3, M3⟩
  have p1 := p1 (by omega)
  obtain ⟨j0, rfl⟩ := Int.eq_ofNat_of_zero_le p0
  have S3 := Lib.hid S3
  have hO3 := Lib.hid (hO2.out.moved M3 (by omega))
  have hR3 := Lib.hid (RowsAt.movedO hR2.out M3 (hO2.out.far (by omega)))
  have hN3 : Hid (∀ i, i < 6 → W3.cell? ⟨nb, i, none⟩ = some (.string (nmS i))) := fun i hi => M3.cell (by show nb ≠ sb; exact hns) (hN2.out i hi)
  have M3 := Lib.hid (HM2.out.trans M3)
  clear HS2 hO2 hR2 hN2 HM2
  go_wp2_with fail
  go_loopw [5, 7] (fun o i wr => ∃ (j q : Nat) (xa : Option Addr) (xc : Nat) (L : List Setting), j ≤ 3 ∧ i = .int .i64 j ∧ o = .slice xa L.length xc ∧ L.length ≤ xc ∧ q ≤ 2 + 6 * (3 - j) ∧ GoodD L (m + 3 - j) ∧ Hid (Own wr w.heap.size 57 2 xa L.length) ∧ Hid (SettingAt wr xa L) ∧ Hid (Src wr sb a cap code (n + q)) ∧ Hid (Moved sb w wr) ∧ Hid (∀ i, i < 6 → wr.cell? ⟨nb, i, none⟩ = some (.string (nmS i)))) (fun _ i _ => (intOf i).toNat)
  case atStart => exact ⟨j0, q0, oa, oc, l, by omega, rfl, rfl, hoc, by omega, HG.out.mono (by omega), hO3.out, hR3.out, S3.out, M3.out, hN3.out⟩
  case round =>
    clear S3 hO3 hR3 hN3 M3 HG hoc hll
    obtain ⟨j, q, xa, xc, L, hj, rfl, rfl, hxc, hq, hG, HO, HR, HS, HM, HN⟩ := hrel
    have hLl := hG.len
    have HG := Lib.hid hG
    have hsz := HM.out.size
    clear hG
    rcases Nat.eq_zero_or_pos j with h0 | h0
    · subst h0
      go_wp2_with fail
      go_ret
      exact ⟨xa, xc, L, q, rfl, hxc, by omega, HG.out.mono (by omega), HO.out, HR.out, HS.out, HM.out⟩
    · go_wp2_with fail
      refine (pick_any wr sb a cap code (n + q) HS.out (by omega) 6 (by omega)).mono ?_
      rintro e W1 ⟨r1, q1, rfl, p2, p3, hq1, S1, M1⟩
      have p3 := p3 (by omega)
      obtain ⟨i, rfl⟩ := Int.eq_ofNat_of_zero_le p2
      have hi : i < 6 := by omega
      have HS1 := Lib.hid S1
      have HO1 := Lib.hid (HO.out.moved M1 (by omega))
      have HR1 := Lib.hid (RowsAt.movedO HR.out M1 (HO.out.far (by omega)))
      have HN1 : Hid (∀ i, i < 6 → W1.cell? ⟨nb, i, none⟩ = some (.string (nmS i))) := fun i hi => M1.cell (by show nb ≠ sb; exact hns) (HN.out i hi)
      have HM1 := Lib.hid (HM.out.trans M1)
      have d0 := HN1.out i hi
      have hdb := block_lt d0
      have hat := Lib.hid (l27At_any xa xc L (nmS i) W1 HR1.out (by omega))
      have hib := idxK_bd (nm := Setting.name) (nmS i) L
      change -1 ≤ idxS (nmS i) L ∧ idxS (nmS i) L < L.length at hib
      obtain ⟨X, hX⟩ : ∃ X, X = idxS (nmS i) L := ⟨_, rfl⟩
      rw [← hX] at hat hib
      obtain ⟨hib0, hib1⟩ := hib
      have hz1 := HM1.out.size
      clear hX S1 M1 HS HO HR HN HM p2
      go_wp2_with fail
      refine hat.out.mono ?_
      rintro e W1' ⟨rfl, hW⟩
      subst hW
      clear hat d0 hdb
      rcases Int.lt_or_le X 0 with hneg | hpos
      · have hd : decide (0 ≤ X) = false := decide_eq_false (by omega)
        go_wp2_with fail
        refine (pick_any W1' sb a cap code (n + q + q1) HS1.out (by omega) 1001 (by omega)).mono ?_
        rintro e W2 ⟨r2, q2, rfl, p4, p5, hq2, S2, M2⟩
        have p5 := p5 (by omega)
        have HS2 := Lib.hid S2
        have hset := Lib.hid (l27Set_any W2 xa xc L ⟨nmS i, r2⟩ (RowsAt.movedO HR1.out M2 (HO1.out.far (by omega))) (by omega))
        have HN2 : Hid (∀ i, i < 6 → W2.cell? ⟨nb, i, none⟩ = some (.string (nmS i))) := fun i hi => M2.cell (by show nb ≠ sb; exact hns) (HN1.out i hi)
        have HM2 := Lib.hid (HM1.out.trans M2)
        have hG2 := Lib.hid (HG.out.set (settingB_of (nmS_name hi) p4 (show r2 ≤ 1000 by omega)))
        clear HS1 HO1 HR1 HN1 HM1 HG S2 M2
        go_wp2_with fail
        refine hset.out.mono ?_
        rintro e W4 ⟨ya, yc, rfl, hyc, hYO, hYR, hYE⟩
        have hYR := Lib.hid hYR
        have hYO := Lib.hid (hYO.low HM2.out.size)
        have hYM := Lib.hid (HM2.out.more hYE)
        have hYS := Lib.hid (HS2.out.ext hYE)
        have hYN : Hid (∀ i, i < 6 → W4.cell? ⟨nb, i, none⟩ = some (.string (nmS i))) := fun i hi => hYE.cell (HN2.out i hi)
        obtain ⟨P, hP⟩ : ∃ P, P = setS ⟨nmS i, r2⟩ L := ⟨_, rfl⟩
        change GoodD (setS ⟨nmS i, r2⟩ L) _ at hG2
        rw [← hP] at hyc hYR hYO hG2 ⊢
        clear hP hset HN2 HM2 HS2 hYE
        go_wp2_with fail
        go_roundw
        case rel => exact ⟨j - 1, q + q1 + q2, ya, yc, P, by omega, by go_num, rfl, hyc, by omega, hG2.mono (by omega), hYO.out, hYR.out, by rw [← Nat.add_assoc, ← Nat.add_assoc]; exact hYS.out, hYM.out, hYN.out⟩
        case measure => simp [intOf]; omega
      · obtain ⟨t, rfl⟩ := Int.eq_ofNat_of_zero_le hpos
        have htl : t < L.length := by omega
        have hd : decide (0 ≤ (t : Int)) = true := decide_eq_true hpos
        go_wp2_with fail
        refine (one_any W1' sb a cap code (n + q + q1) HS1.out (by omega) 2 (by omega)).mono ?_
        rintro e W2 ⟨b2, q2, rfl, hq2, S2, M2⟩
        have HR2 := Lib.hid (RowsAt.movedO HR1.out M2 (HO1.out.far (by omega)))
        have HO2 := Lib.hid (HO1.out.moved M2 (by omega))
        have HS2 := Lib.hid S2
        have HN2 : Hid (∀ i, i < 6 → W2.cell? ⟨nb, i, none⟩ = some (.string (nmS i))) := fun i hi => M2.cell (by show nb ≠ sb; exact hns) (HN1.out i hi)
        have HM2 := Lib.hid (HM1.out.trans M2)
        have hz2 := HM2.out.size
        clear HS1 HO1 HR1 HN1 HM1 S2 M2
        cases b2
        · go_wp2_with fail
          refine (pick_any W2 sb a cap code (n + q + q1 + q2) HS2.out (by omega) 1001 (by omega)).mono ?_
          rintro e W3 ⟨r2, q3, rfl, p4, p5, hq3, S3, M3⟩
          have p5 := p5 (by omega)
          have HS3 := Lib.hid S3
          have hset := Lib.hid (l27Set_any W3 xa xc L ⟨nmS i, r2⟩ (RowsAt.movedO HR2.out M3 (HO2.out.far (by omega))) (by omega))
          have HN3 : Hid (∀ i, i < 6 → W3.cell? ⟨nb, i, none⟩ = some (.string (nmS i))) := fun i hi => M3.cell (by show nb ≠ sb; exact hns) (HN2.out i hi)
          have HM3 := Lib.hid (HM2.out.trans M3)
          have hG2 := Lib.hid (HG.out.set (settingB_of (nmS_name hi) p4 (show r2 ≤ 1000 by omega)))
          clear HS2 HO2 HR2 HN2 HM2 HG S3 M3
          go_wp2_with fail
          refine hset.out.mono ?_
          rintro e W4 ⟨ya, yc, rfl, hyc, hYO, hYR, hYE⟩
          have hYR := Lib.hid hYR
          have hYO := Lib.hid (hYO.low HM3.out.size)
          have hYM := Lib.hid (HM3.out.more hYE)
          have hYS := Lib.hid (HS3.out.ext hYE)
          have hYN : Hid (∀ i, i < 6 → W4.cell? ⟨nb, i, none⟩ = some (.string (nmS i))) := fun i hi => hYE.cell (HN3.out i hi)
          obtain ⟨P, hP⟩ : ∃ P, P = setS ⟨nmS i, r2⟩ L := ⟨_, rfl⟩
          change GoodD (setS ⟨nmS i, r2⟩ L) _ at hG2
          rw [← hP] at hyc hYR hYO hG2 ⊢
          clear hP hset HN3 HM3 HS3 hYE
          go_wp2_with fail
          go_roundw
          case rel => exact ⟨j - 1, q + q1 + q2 + q3, ya, yc, P, by omega, by go_num, rfl, hyc, by omega, hG2.mono (by omega), hYO.out, hYR.out, by rw [← Nat.add_assoc, ← Nat.add_assoc, ← Nat.add_assoc]; exact hYS.out, hYM.out, hYN.out⟩
          case measure => simp [intOf]; omega
        · obtain ⟨xb, xo, rfl⟩ := HR2.out.base htl
          have HS1 := HS2
          have HN1 := HN2
          have HM1 := HM2
          have hsz1 := hz2
          have hwM : W2.heap.size ≤ W2.heap.size := Nat.le_refl _
          clear HS2 HN2 HM2 HO2
          have HNl := Lib.hid (Lst.new (T := 57) (n := 2) (cell := Setting.cell) (α := Setting) W2 W2.heap.size (Nat.le_refl _))
          have hx1 := Lib.hid ((Ext.refl W2).alloc (.cells #[] 57))
          have HRt : Hid (SettingAt (W2.alloc (.cells #[] 57)) (some ⟨xb, xo, none⟩) (L.take t)) := (RowsAt.ext HR2.out hx1.out).take t
          have htk : Hid ((L.take t).length = t) := by show _ = _; rw [List.length_take]; omega
          have htd : Hid ((L.drop (t + 1)).length = L.length - (t + 1)) := by show _ = _; rw [List.length_drop]
          try dsimp only
          repeat (first | (at_builtin; refine Hid.out ?_) | go_values | go_skip | go_guarded | go_step | go_upon | go_back)
          refine Lib.hid ?_
          refine wpList_pushL elSetting oneSetting rfl _ _ rfl W2.heap.size _ [] rfl HNl.out _ t _ (L.take t) htk.out rfl HRt.out (by simp; omega) (by simp; omega) (by rw [size_new]; omega) ?_
          intro v1 w7 L1 hs1 hg1
          have hx2 := Lib.hid (hs1 W2 hx1.out (Nat.le_refl _))
          have hw7 := hx2.out.size
          have L1h : Hid (Lst 57 2 Setting.cell w7 W2.heap.size v1 (L.take t)) := L1
          have HRd : Hid (∀ q, q = xo + (t + 1) * 2 → SettingAt w7 (some ⟨xb, q, none⟩) (L.drop (t + 1))) := fun q hq => by
            subst hq
            exact RowsAt.drop (RowsAt.ext HR2.out hx2.out) (t + 1)
          clear L1 hs1 hg1 HNl hx1 HRt HR2
          obtain ⟨P, hP⟩ : ∃ P, P = L.take t ++ L.drop (t + 1) := ⟨_, rfl⟩
          replace hP := Lib.hid hP
          by_cases hcc : xc = t + 1
          · have hd0 : Hid (L.drop (t + 1) = []) := List.eq_nil_of_length_eq_zero (by rw [htd.out]; omega)
            have hLm : L.length = t + 1 := by omega
            clear HRd
            try dsimp only
            repeat (first | (at_builtin; refine Hid.out ?_) | go_values | go_skip | go_guarded | go_step | go_upon | go_back)
            refine Lib.hid ?_
            first
              | refine wpList_pushL elSetting oneSetting rfl _ _ rfl W2.heap.size _ (L.take t) rfl L1h.out _ 0 _ [] rfl rfl RowsAt.nil (by rw [htk.out]; omega) (by rw [htk.out]; omega) hw7 ?_
              | refine wpList_pushL elSetting oneSetting rfl _ _ rfl W2.heap.size _ (L.take t) rfl L1h.out _ (L.length - (t + 1)) _ [] (by simp; omega) rfl RowsAt.nil (by rw [htk.out]; omega) (by rw [htk.out]; omega) hw7 ?_
              | refine wpList_pushL elSetting oneSetting rfl _ _ rfl W2.heap.size _ (L.take t) rfl L1h.out _ (t + 1 - (t + 1)) _ [] (by simp) rfl RowsAt.nil (by rw [htk.out]; omega) (by rw [htk.out]; omega) hw7 ?_
            intro v3 w9 L5 hs5 hg5
            have L5 : Lst 57 2 Setting.cell w9 W2.heap.size v3 P := by rw [hP.out, hd0.out]; exact L5
            have hE9 := hs5 W2 hx2.out (Nat.le_refl _)
            clear hd0 hLm hcc htd htk L1h hx2 hg5
            obtain ⟨ya, yc, rfl, hyc, -, hYR, hYO⟩ := L5.shape
            have hYR := Lib.hid hYR
            have hYO := Lib.hid (hYO.low (Nat.le_trans hsz1 hwM))
            have hYM := Lib.hid (HM1.out.more hE9)
            have hYS := Lib.hid (HS1.out.ext hE9)
            have hYN : Hid (∀ i, i < 6 → w9.cell? ⟨nb, i, none⟩ = some (.string (nmS i))) := fun i hi => hE9.cell (HN1.out i hi)
            clear L5 hs5 hE9 HM1 HS1 HN1
            go_wp2_with fail
            go_roundw
            case rel => exact ⟨j - 1, q + q1 + q2, ya, yc, P, by omega, by go_num, rfl, hyc, by omega, by rw [hP.out]; exact (HG.out.del t).mono (by omega), hYO.out, hYR.out, by rw [← Nat.add_assoc, ← Nat.add_assoc]; exact hYS.out, hYM.out, hYN.out⟩
            case measure => simp [intOf]; omega
          · try dsimp only
            repeat (first | (at_builtin; refine Hid.out ?_) | go_values | go_skip | go_guarded | go_step | go_upon | go_back)
            refine Lib.hid ?_
            refine wpList_pushL elSetting oneSetting rfl _ _ rfl W2.heap.size _ (L.take t) rfl L1h.out _ (L.length - (t + 1)) _ (L.drop (t + 1)) htd.out rfl (HRd.out _ (by first | rfl | omega)) (by rw [htk.out]; omega) (by rw [htk.out]; omega) hw7 ?_
            intro v3 w9 L5 hs5 hg5
            rw [← hP.out] at L5
            have hE9 := hs5 W2 hx2.out (Nat.le_refl _)
            clear hcc htd htk L1h hx2 hg5 HRd
            obtain ⟨ya, yc, rfl, hyc, -, hYR, hYO⟩ := L5.shape
            have hYR := Lib.hid hYR
            have hYO := Lib.hid (hYO.low (Nat.le_trans hsz1 hwM))
            have hYM := Lib.hid (HM1.out.more hE9)
            have hYS := Lib.hid (HS1.out.ext hE9)
            have hYN : Hid (∀ i, i < 6 → w9.cell? ⟨nb, i, none⟩ = some (.string (nmS i))) := fun i hi => hE9.cell (HN1.out i hi)
            clear L5 hs5 hE9 HM1 HS1 HN1
            go_wp2_with fail
            go_roundw
            case rel => exact ⟨j - 1, q + q1 + q2, ya, yc, P, by omega, by go_num, rfl, hyc, by omega, by rw [hP.out]; exact (HG.out.del t).mono (by omega), hYO.out, hYR.out, by rw [← Nat.add_assoc, ← Nat.add_assoc]; exact hYS.out, hYM.out, hYN.out⟩
            case measure => simp [intOf]; omega
end Go.Proofs.YtbcpgdidajapoaaDoor
namespace Go.Proofs.YtbcpgdidajapoaaDoor
open Go.RowKit
theorem mergeTo_flat (a b c : List Setting) (N : List ByteArray) : ∀ k, k ≤ N.length → mergeTo a b c N k = (N.take k).flatMap (fun n => setAt n (merAt a b c n))
  | 0, _ => rfl
  | k + 1, h => by
    show mergeTo a b c N k ++ setAt (nth N k) (merAt a b c (nth N k)) = _
    rw [mergeTo_flat a b c N k (by omega), take_snoc' (show k < N.length by omega), List.flatMap_append]
    simp
theorem mergeL_flat (a b c : List Setting) : mergeL a b c = (names3 a b c).flatMap (fun n => setAt n (merAt a b c n)) := by
  unfold mergeL
  rw [mergeTo_flat _ _ _ _ _ (Nat.le_refl _), List.take_length]
theorem flat_congr {f g : ByteArray → List Setting} : ∀ {N : List ByteArray}, (∀ n ∈ N, f n = g n) → N.flatMap f = N.flatMap g
  | [], _ => rfl
  | n :: N, h => by
    rw [List.flatMap_cons, List.flatMap_cons, h n (List.mem_cons_self ..), flat_congr fun m hm => h m (List.mem_cons_of_mem _ hm)]
theorem names3_inc (a b c : List Setting) : Inc sLt (names3 a b c) := inc_putAll sloS List.Pairwise.nil
theorem thg_ne {n : ByteArray} {y : Setting} {l : List Setting} (h : y.name ≠ n) : thg (y :: l) n = thg l n := if_neg h
theorem thg_out {n : ByteArray} {l : List Setting} (h : ∀ y ∈ l, y.name ≠ n) : thg l n = none := thg_none fun _ hj => h _ (nth_mem hj)
/-- A state, read at names in order that hold its own ones. -/
theorem gather : ∀ {N : List ByteArray} {l : List Setting}, Inc sLt N → IncK Setting.name sLt l → (∀ y ∈ l, y.name ∈ N) → N.flatMap (fun n => setAt n (thg l n)) = l
  | [], [], _, _, _ => rfl
  | [], y :: l, _, _, h => by have := h y (List.mem_cons_self ..); cases this
  | n :: N, [], hN, _, _ => by
    unfold Inc at hN
    rw [List.pairwise_cons] at hN
    rw [List.flatMap_cons, gather (N := N) (l := []) hN.2 List.Pairwise.nil (fun _ h => by cases h)]
    rfl
  | n :: N, y :: l, hN, hl, h => by
    unfold Inc at hN
    rw [List.pairwise_cons] at hN
    unfold IncK Inc at hl
    rw [List.map_cons, List.pairwise_cons] at hl
    have hgt : ∀ z ∈ l, sLt y.name z.name = true := fun z hz => hl.1 _ (List.mem_map.2 ⟨z, hz, rfl⟩)
    rw [List.flatMap_cons]
    by_cases hy : y.name = n
    · have e1 : setAt n (thg (y :: l) n) = [y] := by
        rw [show thg (y :: l) n = some y.value from if_pos hy]
        show [(⟨n, y.value⟩ : Setting)] = [y]
        rw [← hy]
      have e2 : N.flatMap (fun m => setAt m (thg (y :: l) m)) = N.flatMap (fun m => setAt m (thg l m)) := flat_congr fun m hm => by
        have : y.name ≠ m := fun e => by have h2 := hN.1 m hm; rw [← e, ← hy, sloS.irr] at h2; cases h2
        rw [thg_ne this]
      rw [e1, e2, gather hN.2 hl.2 (fun z hz => ?_)]; · rfl
      rcases List.mem_cons.1 (h z (List.mem_cons_of_mem _ hz)) with e | e
      · have h2 := hgt z hz; rw [e, hy, sloS.irr] at h2; cases h2
      · exact e
    · have hyN : y.name ∈ N := by
        rcases List.mem_cons.1 (h y (List.mem_cons_self ..)) with e | e
        · exact absurd e hy
        · exact e
      have hlow : ∀ z ∈ y :: l, z.name ≠ n := fun z hz e => by
        rcases List.mem_cons.1 hz with rfl | hz
        · exact hy e
        · have h2 := hgt z hz
          have h3 := sloS.tra _ _ _ (hN.1 _ hyN) h2
          rw [e, sloS.irr] at h3; cases h3
      rw [thg_out hlow, gather hN.2 (by unfold IncK Inc; rw [List.map_cons, List.pairwise_cons]; exact hl) (fun z hz => ?_)]; · rfl
      rcases List.mem_cons.1 (h z hz) with e | e
      · exact absurd e (hlow z hz)
      · exact e
theorem pick_1 (x y : Option Int) : pickM x y x = y := by
  unfold pickM; split
  · rename_i h; exact h.symm
  · rfl
theorem pick_2 (x z : Option Int) : pickM x x z = z := if_pos rfl
theorem pick_3 (x y : Option Int) : pickM x y y = y := by unfold pickM; split <;> rfl
theorem conf_1 (x y : Option Int) : conf x y x = false := by unfold conf; simp
theorem conf_2 (x z : Option Int) : conf x x z = false := by unfold conf; simp
theorem conf_3 (x y : Option Int) : conf x y y = false := by unfold conf; simp
theorem conf_comm (x y z : Option Int) : conf x y z = conf x z y := by
  unfold conf
  by_cases h1 : y = z <;> by_cases h2 : y = x <;> by_cases h3 : z = x <;> simp_all [eq_comm]
theorem pick_comm {x y z : Option Int} (h : conf x y z = false) : pickM x y z = pickM x z y := by
  unfold conf at h
  unfold pickM
  by_cases h1 : y = z <;> by_cases h2 : y = x <;> by_cases h3 : z = x <;> simp_all
theorem names3_comm (x y z : List Setting) : names3 x y z = names3 x z y :=
  Inc.ext sloS (names3_inc _ _ _) (names3_inc _ _ _) fun n => by
    rw [names3_mem, names3_mem]
    constructor
    · rintro ⟨y, h, e⟩; exact ⟨y, by rcases h with h | h | h <;> simp [h], e⟩
    · rintro ⟨y, h, e⟩; exact ⟨y, by rcases h with h | h | h <;> simp [h], e⟩
theorem confl_comm (x y z : List Setting) : confl x y z = confl x z y := by
  unfold confl
  rw [names3_comm x y z]
  refine List.filter_congr fun n _ => ?_
  unfold confAt; exact conf_comm _ _ _
theorem mergeL_comm {x y z : List Setting} (h : confl x y z = []) : mergeL x y z = mergeL x z y := by
  rw [mergeL_flat, mergeL_flat, names3_comm x y z]
  refine flat_congr fun n hn => ?_
  have h2 : confAt x y z n = false := by
    cases e : confAt x y z n
    · rfl
    · have : n ∈ confl x y z := List.mem_filter.2 ⟨by rw [names3_comm]; exact hn, e⟩
      rw [h] at this; cases this
  unfold merAt
  rw [pick_comm h2]
theorem merge_own {x y z l : List Setting} (hl : settingList l = true) (hc : ∀ n, confAt x y z n = false) (hm : ∀ n, merAt x y z n = thg l n) (hs : ∀ w ∈ l, w ∈ x ∨ w ∈ y ∨ w ∈ z) : mrgC x y z = 0 ∧ mrgV x y z = l := by
  have h1 : confl x y z = [] := by
    unfold confl
    rw [List.filter_eq_nil_iff]
    intro n _ h2
    rw [hc n] at h2; cases h2
  have h2 : mergeL x y z = l := by
    rw [mergeL_flat, ← gather (names3_inc x y z) (GoodD.of hl).inc (fun w hw => names3_mem.2 ⟨w, hs w hw, rfl⟩)]
    refine flat_congr fun n _ => ?_
    rw [hm n]
  obtain ⟨h3, h4⟩ := mrg_0 (a := x) (b := y) (c := z) (by rw [h1]; rfl) (by rw [h2]; exact state_len hl)
  exact ⟨h3, by rw [h4, h2]⟩
theorem ok3_of {a b c : List Setting} (ha : settingList a = true) (hb : settingList b = true) (hc : settingList c = true) : ok3 a b c = true := by unfold ok3; rw [ha, hb, hc]; rfl
/-- A merge of a state with its own base. -/
theorem merge_left {x l : List Setting} (hx : settingList x = true) (hl : settingList l = true) : mergeC x l x = 0 ∧ mergeV x l x = l := by
  obtain ⟨-, -, h1, h2⟩ := confl_good (ok3_of hx hl hx)
  rw [h1, h2]
  exact merge_own hl (fun n => conf_1 _ _) (fun n => pick_1 _ _) fun w hw => .inr (.inl hw)
theorem merge_right {x l : List Setting} (hx : settingList x = true) (hl : settingList l = true) : mergeC x x l = 0 ∧ mergeV x x l = l := by
  obtain ⟨-, -, h1, h2⟩ := confl_good (ok3_of hx hx hl)
  rw [h1, h2]
  exact merge_own hl (fun n => conf_2 _ _) (fun n => pick_2 _ _) fun w hw => .inr (.inr hw)
theorem merge_both {x l : List Setting} (hx : settingList x = true) (hl : settingList l = true) : mergeC x l l = 0 ∧ mergeV x l l = l := by
  obtain ⟨-, -, h1, h2⟩ := confl_good (ok3_of hx hl hl)
  rw [h1, h2]
  exact merge_own hl (fun n => conf_3 _ _) (fun n => pick_3 _ _) fun w hw => .inr (.inl hw)
theorem setAt_inc {f : ByteArray → Option Int} : ∀ {N : List ByteArray}, ((N.flatMap fun n => setAt n (f n)).map Setting.name).Sublist N
  | [] => List.Sublist.refl _
  | n :: N => by
    rw [List.flatMap_cons, List.map_append]
    have h := setAt_inc (f := f) (N := N)
    cases e : f n
    · exact h.cons n
    · exact h.cons_cons n
theorem mergeL_good {x y z : List Setting} (h : ok3 x y z = true) : GoodD (mergeL x y z) (mergeL x y z).length := by
  refine ⟨?_, fun w hw => ?_, Nat.le_refl _⟩
  · rw [mergeL_flat]
    exact List.Pairwise.sublist setAt_inc (names3_inc x y z)
  · rw [mergeL_flat, List.mem_flatMap] at hw
    obtain ⟨n, hn, hw⟩ := hw
    have hnm := names3_name h hn
    obtain ⟨hx, hy, hz⟩ := ok3_split h
    cases e : merAt x y z n with
    | none => rw [e] at hw; cases hw
    | some v =>
      rw [e] at hw
      have hw : w = ⟨n, v⟩ := List.mem_singleton.1 hw
      subst hw
      have hb : 0 ≤ v ∧ v ≤ 1000 := by
        unfold merAt pickM at e
        split at e
        · exact thg_bd hz e
        · exact thg_bd hy e
      exact settingB_of hnm hb.1 hb.2
/-- Two merges with the sides exchanged. -/
theorem merge_swap {x y z : List Setting} (h : ok3 x y z = true) : conflC x y z = 0 ∧ conflC x z y = 0 ∧ conflV x z y = conflV x y z ∧ mergeC x z y = mergeC x y z ∧ (mergeC x y z = 6 ↔ 0 < (conflV x y z).length) ∧ (mergeC x y z = 0 → mergeV x z y = mergeV x y z ∧ settingList (mergeV x y z) = true) := by
  obtain ⟨hx, hy, hz⟩ := ok3_split h
  obtain ⟨h1, h2, h3, h4⟩ := confl_good h
  obtain ⟨k1, k2, k3, k4⟩ := confl_good (ok3_of hx hz hy)
  rw [h1, h2, h3, h4, k1, k2, k3, k4]
  refine ⟨rfl, rfl, confl_comm _ _ _, ?_, ?_, ?_⟩
  · unfold mrgC
    rw [confl_comm x z y]
    by_cases hc : confl x y z = []
    · rw [mergeL_comm hc]
    · rw [if_pos hc, if_pos hc]
  · unfold mrgC
    by_cases hc : confl x y z = []
    · rw [hc, if_neg (by simp)]
      constructor
      · intro e; split at e <;> omega
      · intro e; exact absurd e (by simp)
    · rw [if_pos hc]
      exact ⟨fun _ => List.length_pos_iff.2 hc, fun _ => rfl⟩
  · intro h0
    have hc : confl x y z = [] := by
      cases e : confl x y z with
      | nil => rfl
      | cons n N => rw [(mrg_6 (a := x) (b := y) (c := z) (by rw [e]; simp)).1] at h0; cases h0
    have hle : (mergeL x y z).length ≤ 24 := by
      rcases Nat.lt_or_ge 24 (mergeL x y z).length with h9 | h9
      · rw [(mrg_5 (a := x) (b := y) (c := z) (by rw [hc]; rfl) h9).1] at h0; cases h0
      · exact h9
    have e1 := (mrg_0 (a := x) (b := y) (c := z) (by rw [hc]; rfl) hle).2
    have e2 := (mrg_0 (a := x) (b := z) (c := y) (by rw [confl_comm, hc]; rfl) (by rw [← mergeL_comm hc]; exact hle)).2
    rw [e1, e2, mergeL_comm hc]
    exact ⟨rfl, by rw [← mergeL_comm hc]; exact (mergeL_good h).valid hle⟩
/-- Lists that fall. -/
theorem comL_spec {M : List Int} : ∀ {L : List Int}, L.Pairwise (fun a b => b < a) → (comL L M = 0 ∧ ∀ y ∈ L, hasB M y = false) ∨ (comL L M ∈ L ∧ hasB M (comL L M) = true ∧ ∀ y ∈ L, hasB M y = true → y ≤ comL L M)
  | [], _ => .inl ⟨rfl, fun _ h => by cases h⟩
  | x :: L, h => by
    rw [List.pairwise_cons] at h
    cases hx : hasB M x
    · have e : comL (x :: L) M = comL L M := if_neg (by rw [hx]; decide)
      rw [e]
      rcases comL_spec (M := M) h.2 with ⟨h1, h2⟩ | ⟨h1, h2, h3⟩
      · exact .inl ⟨h1, fun y hy => by
        rcases List.mem_cons.1 hy with rfl | hy
        · exact hx
        · exact h2 y hy⟩
      · exact .inr ⟨List.mem_cons_of_mem _ h1, h2, fun y hy hm => by
          rcases List.mem_cons.1 hy with rfl | hy
          · rw [hx] at hm; cases hm
          · exact h3 y hy hm⟩
    · have e : comL (x :: L) M = x := if_pos hx
      rw [e]
      exact .inr ⟨List.mem_cons_self .., hx, fun y hy _ => by
        rcases List.mem_cons.1 hy with rfl | hy
        · exact Int.le_refl _
        · exact Int.le_of_lt (h.1 y hy)⟩
theorem lineF_low {P : List VerP} (h : histP P = true) : ∀ (f : Nat) (n : Int), n ≤ P.length → (∀ x ∈ lineF P f n, 0 < x ∧ x ≤ n) ∧ (lineF P f n).Pairwise (fun a b => b < a)
  | 0, n, _ => ⟨fun _ hx => (by cases hx), List.Pairwise.nil⟩
  | f + 1, n, hn => by
    by_cases h0 : 0 < n
    · have e : lineF P (f + 1) n = n :: lineF P f (nth P (n.toNat - 1)).parent := if_pos h0
      have hp := par_bd h h0 hn
      obtain ⟨h1, h2⟩ := lineF_low h f (nth P (n.toNat - 1)).parent (by omega)
      rw [e]
      refine ⟨fun x hx => ?_, List.pairwise_cons.2 ⟨fun x hx => ?_, h2⟩⟩
      · rcases List.mem_cons.1 hx with rfl | hx
        · omega
        · have := h1 x hx; omega
      · have := h1 x hx; omega
    · have e : lineF P (f + 1) n = [] := if_neg h0
      rw [e]
      exact ⟨fun _ hx => (by cases hx), List.Pairwise.nil⟩
theorem comP_comm {P : List VerP} (h : histP P = true) {a b : Int} (ha : a ≤ P.length) (hb : b ≤ P.length) : comP P a b = comP P b a := by
  obtain ⟨p1, p2⟩ := lineF_low h a.toNat a ha
  obtain ⟨q1, q2⟩ := lineF_low h b.toNat b hb
  have hm : ∀ (M : List Int) (y : Int), hasB M y = true ↔ y ∈ M := fun M y => hasB_iff
  unfold comP lineP
  rcases comL_spec (M := lineF P b.toNat b) p2 with ⟨h1, h2⟩ | ⟨h1, h2, h3⟩ <;> rcases comL_spec (M := lineF P a.toNat a) q2 with ⟨k1, k2⟩ | ⟨k1, k2, k3⟩
  · rw [h1, k1]
  · have := h2 _ ((hm _ _).1 k2)
    rw [(hm _ _).2 k1] at this; cases this
  · have := k2 _ ((hm _ _).1 h2)
    rw [(hm _ _).2 h1] at this; cases this
  · have e1 := h3 _ ((hm _ _).1 k2) ((hm _ _).2 k1)
    have e2 := k3 _ ((hm _ _).1 h2) ((hm _ _).2 h1)
    omega
theorem comP_low {P : List VerP} (h : histP P = true) {a b : Int} (h0 : 0 ≤ a) (ha : a ≤ P.length) : 0 ≤ comP P a b ∧ comP P a b ≤ a := by
  obtain ⟨p1, p2⟩ := lineF_low h a.toNat a ha
  unfold comP lineP
  rcases comL_spec (M := lineF P b.toNat b) p2 with ⟨h1, h2⟩ | ⟨h1, h2, h3⟩
  · omega
  · have := p1 _ h1; omega
/-- A history with a version more. -/
theorem hist_more {P : List VerP} (h : histP P = true) (hl : P.length < 32) {p : Int} (h0 : 0 ≤ p) (h1 : p ≤ P.length) {m : ByteArray} (hm : memoB m = true) {s : List Setting} (hs : settingList s = true) : histP (P ++ [⟨(P.length : Int) + 1, p, m, s⟩]) = true := by
  obtain ⟨-, h3⟩ := histP_bd h
  unfold histP
  rw [List.length_append, decide_eq_true (show P.length + [(⟨(P.length : Int) + 1, p, m, s⟩ : VerP)].length ≤ 32 by simp; omega), Bool.true_and]
  refine allB_end fun k hk => ?_
  simp only [List.length_cons, List.length_nil] at hk
  unfold okP
  rcases (show k < P.length ∨ k = P.length by omega) with h5 | h5
  · obtain ⟨e1, e2, e3, e4⟩ := h3 k h5
    rw [nth_pre h5, e1, inB_iff.2 e2, e3, e4]
    simp
  · subst h5
    rw [nth_last]
    simp only
    rw [inB_iff.2 ⟨h0, h1⟩, hm, hs]
    simp
end Go.Proofs.YtbcpgdidajapoaaDoor
namespace Go.Proofs.YtbcpgdidajapoaaDoor
open Go.RowKit
abbrev cellS : ByteArray → Nat → Value := fun (x : ByteArray) (_ : Nat) => Value.string x
abbrev StrAt (w : World) (a : Option Addr) (l : List ByteArray) : Prop := RowsAt 1 cellS w a l
theorem oneStr : ∀ (x : ByteArray) (j : Nat), j < 1 → (cellS x j).oneCell' = true := fun _ _ _ => rfl
theorem StrAt.at {w : World} {b off : Nat} {l : List ByteArray} (h : StrAt w (some ⟨b, off, none⟩) l) (k : Nat) (hk : k < l.length) : b < w.heap.size ∧ w.cell? ⟨b, off + k, none⟩ = some (.string (nth l k)) :=
  let h' := RowsAt.at h k hk; ⟨h'.1, by have := h'.2 0 (by decide); rwa [Nat.mul_one] at this⟩
theorem rows_str {T : TypeId} (w : World) (x : ByteArray) {n : Nat} (hn : n = w.heap.size) : StrAt (w.alloc (.cells #[.string x] T)) (some ⟨n, 0, none⟩) [x] := by
  subst hn
  refine rows_new (n := 1) (cell := cellS) w #[.string x] x (fun j hj => ?_)
  obtain rfl : j = 0 := by omega
  rfl
theorem elStrs : El Tryd.prog 85 9 1 16 := El.mk' Tryd.underlying85 (by kernel_rfl) (by decide)
end Go.Proofs.YtbcpgdidajapoaaDoor
namespace Go.Proofs.YtbcpgdidajapoaaDoor
open Go.RowKit
theorem rows_moved {α : Type} [Inhabited α] {n sb : Nat} {cell : α → Nat → Value} {w w' : World} {a : Option Addr} {l : List α} (h : RowsAt n cell w a l) (hm : Moved sb w w') (hne : ∀ p, a = some p → p.block ≠ sb) : RowsAt n cell w' a l := fun k hk => by
  obtain ⟨b, off, e, hb, hc⟩ := h k hk
  exact ⟨b, off, e, Nat.lt_of_lt_of_le hb hm.size, fun j hj => hm.cell (by have := hne _ e; exact this) (hc j hj)⟩
set_option maxHeartbeats 1000000 in
theorem text_any (w : World) (sb : Nat) (a : Option Addr) (cap : Nat) (code : List Int) (n : Nat) (H : Src w sb a cap code n) (hn : n ≤ 900000000) (la : Option Addr) (lc : Nat) (l : List ByteArray) (HL : StrAt w la l) (h0 : 0 < l.length) (h1 : l.length ≤ 65536) (hne : ∀ p, la = some p → p.block ≠ sb) :
    Calls Tryd.prog 48 #[.pointer (some ⟨sb, 0, none⟩), .slice la l.length lc] w fun e w' => ∃ (x : ByteArray) (k : Nat), e = .returned (.string x) ∧ x ∈ l ∧ k ≤ 2 ∧ Src w' sb a cap code (n + k) ∧ Moved sb w w' := by
  have HP := Lib.hid (pick_any w sb a cap code n H hn l.length (by omega))
  have HR := Lib.hid fun (w' : World) (hm : Moved sb w w') => rows_moved (n := 1) HL hm hne
  obtain ⟨b, off, rfl⟩ := RowsAt.base HL h0
  clear H HL hne
  go_enter Tryd.func48, Tryd.ntmps48
  go_wp2_with (go_at_call 47; refine HP.out.mono ?_; rintro e w2 ⟨r, k, rfl, r0, r1, hk, hS, hM⟩; obtain ⟨j, rfl⟩ := Int.eq_ofNat_of_zero_le r0; have hj : j < l.length := (by have := r1 (by omega); omega); obtain ⟨hb, c0⟩ := StrAt.at (HR.out _ hM) j hj; have hS := Lib.hid hS; have hM := Lib.hid hM; clear r1)
  go_ret
  exact ⟨_, k, rfl, nth_mem hj, hk, hS.out, hM.out⟩
end Go.Proofs.YtbcpgdidajapoaaDoor
namespace Go.Proofs.YtbcpgdidajapoaaDoor
open Go.ChangeShapes Go.WideShapes Go.ChangeAt Go.RowKit
theorem byte_el {H : Type} {enc : TypeId × Value → H} {W : World} {base : Nat} {spare : Nat → Bool} {held : Bool} {n : Nat} {cs : List Value} {x : DataW H × List MemPlace} (h : DataW.trod enc Tryd.prog W base spare held n 5 cs = some x) :
    ∃ y : UInt8, True ∧ ∀ j, j < 1 → cs[j]? = some ((fun (x : UInt8) (_ : Nat) => Value.int .u8 x.toNat) y j) := by
  obtain ⟨v, e, _, z⟩ := DataW.trod_int Tryd.underlying5 h
  subst e
  have hb : 0 ≤ v ∧ v ≤ 255 := by simpa [Lit.wf, IntKind.min, IntKind.max, IntKind.signed, IntKind.bits] using z
  refine ⟨UInt8.ofNat v.toNat, trivial, fun j hj => ?_⟩
  obtain rfl : j = 0 := by omega
  have e : ((UInt8.ofNat v.toNat).toNat : Int) = v := by
    rw [UInt8.toNat_ofNat']; omega
  show some (Value.int .u8 v) = some (Value.int .u8 ((UInt8.ofNat v.toNat).toNat : Int))
  rw [e]
end Go.Proofs.YtbcpgdidajapoaaDoor
namespace Go.Proofs.YtbcpgdidajapoaaDoor
open Go.RowKit
theorem Lst.beside {α : Type} {T n : Nat} {cell : α → Nat → Value} {base : Nat} {w w' : World} {v : Value} {l : List α} {row : Option Nat} (h : Lst T n cell w base v l) (hg : w.grownBy w' row) (hne : ∀ g, v.ownBlock = some g → row ≠ some g) : Lst T n cell w' base v l := by
  refine ⟨h.1, ?_⟩
  rcases h.2 with h2 | ⟨g, cap, cur, hv, hgb, hh, r⟩
  · exact .inl h2
  · have hlt : g < w.heap.size := by
      rcases Nat.lt_or_ge g w.heap.size with h1 | h1
      · exact h1
      · rw [Array.getElem?_eq_none h1] at hh; cases hh
    exact .inr ⟨g, cap, cur, hv, hgb, by rw [hg.block g hlt (fun e => hne g (by rw [hv]; rfl) e.symm)]; exact hh, r⟩
theorem ByteAt.of8 {w : World} {a : Option Addr} {l : List UInt8} (h : RowsAt 1 (fun (x : UInt8) (_ : Nat) => Value.int .u8 x.toNat) w a l) : ByteAt w a (l.map fun x => (x.toNat : Int)) := fun k hk => by
  rw [List.length_map] at hk
  obtain ⟨b, o, e, hb, hc⟩ := h k hk
  refine ⟨b, o, e, hb, fun j hj => ?_⟩
  have := hc j hj
  rw [this, nth_eq (l.map fun x => (x.toNat : Int)) k (by simpa using hk), List.getElem_map, nth_eq l k hk]
theorem byte_range (l : List UInt8) : ∀ k, k < (l.map fun x => (x.toNat : Int)).length → 0 ≤ nth (l.map fun x => (x.toNat : Int)) k ∧ nth (l.map fun x => (x.toNat : Int)) k ≤ 255 := fun k hk => by
  rw [nth_eq _ k hk, List.getElem_map]
  have := (l[k]'(by simpa using hk)).toNat_lt
  omega
theorem r8At_q (w : World) (a : Option Addr) (cap : Nat) (code : List Int) (H : ByteAt w a code) (hr : ∀ k, k < code.length → 0 ≤ nth code k ∧ nth code k ≤ 255) (hf : code.length ≤ 1048576) (q : Int) (hq : 0 ≤ q) (m : Int) (hm : m ≤ 65536) :
    Calls Tryd.prog 11 #[.slice a code.length cap, .int .i64 q, .int .i64 m] w fun e w' => ∃ r : Int, e = .returned (.int .i64 r) ∧ 0 ≤ r ∧ (1 ≤ m → r < m) ∧ Ext w w' := by
  have := r8At_any w a cap code H hr hf q.toNat m hm
  rwa [Int.toNat_of_nonneg hq] at this
set_option maxRecDepth 100000 in
theorem r8Long_any (a0 a1 : Option Addr) (n0 n1 c0 c1 : Nat) (w : World) (h0 : n0 ≤ 9223372036854775807) (h1 : n1 ≤ 9223372036854775807) :
    Calls Tryd.prog 4 #[.slice a0 n0 c0, .slice a1 n1 c1] w fun e w' => ∃ b, e = .returned (.bool b) ∧ (b = false → n0 ≤ 1048576 ∧ n1 ≤ 1048576) ∧ w' = w := by
  rcases Nat.lt_or_ge 1048576 n0 with h | h
  · go_enter Tryd.func4, Tryd.ntmps4
    go_wp2_with fail
    go_ret
    exact .inr ⟨rfl, rfl⟩
  · go_enter Tryd.func4, Tryd.ntmps4
    go_wp2_with fail
    go_ret
    exact ⟨_, rfl, fun h => by simp at h; omega, rfl⟩
end Go.Proofs.YtbcpgdidajapoaaDoor
namespace Go.Proofs.YtbcpgdidajapoaaDoor
open Go.RowKit
/-- The state of a draw that began in w: the source, what else holds. -/
structure Dr (w W : World) (sb : Nat) (a : Option Addr) (cap : Nat) (code : List Int) (n : Nat) : Prop where
  src : Src W sb a cap code n
  mv : Moved sb w W
  by0 : ByteAt w a code
  lt : sb < w.heap.size
section
variable {w W W' : World} {sb : Nat} {a : Option Addr} {cap : Nat} {code : List Int} {n : Nat}
theorem Dr.start (h : Src w sb a cap code n) : Dr w w sb a cap code n := ⟨h, Moved.refl _ _, h.bytes, h.lt⟩
theorem Dr.ext (h : Dr w W sb a cap code n) (he : Ext W W') : Dr w W' sb a cap code n := ⟨h.src.ext he, h.mv.more he, h.by0, h.lt⟩
theorem Dr.step {k : Nat} (h : Dr w W sb a cap code n) (hs : Src W' sb a cap code (n + k)) (hm : Moved sb W W') : Dr w W' sb a cap code (n + k) := ⟨hs, h.mv.trans hm, h.by0, h.lt⟩
theorem Dr.set {b o : Nat} (h : Dr w W sb a cap code n) (hb : w.heap.size ≤ b) (v : Value) : Dr w (W.setCell ⟨b, o, none⟩ v) sb a cap code n :=
  ⟨h.src.other h.by0 hb (by have := h.lt; omega) v, h.mv.fresh hb v, h.by0, h.lt⟩
theorem Dr.size (h : Dr w W sb a cap code n) : w.heap.size ≤ W.heap.size := h.mv.size
theorem Dr.grown {row : Option Nat} (h : Dr w W sb a cap code n) (hg : W.grownBy W' row) (hr : ∀ g, row = some g → w.heap.size ≤ g) : Dr w W' sb a cap code n :=
  ⟨h.src.grown hg hr h.lt h.by0 (Nat.le_refl _), h.mv.grown hg hr, h.by0, h.lt⟩
end
theorem rows_lit {α : Type} [Inhabited α] {cell : α → Nat → Value} {T : TypeId} (w : World) (cs : Array Value) (l : List α) (h : ∀ k, k < l.length → cs[k]? = some (cell (nth l k) 0)) {n : Nat} (hn : n = w.heap.size) : RowsAt 1 cell (w.alloc (.cells cs T)) (some ⟨n, 0, none⟩) l := fun k hk => by
  subst hn
  exact ⟨_, _, rfl, by rw [size_new]; omega, fun j hj => by
    obtain rfl : j = 0 := by omega
    simp only [Nat.mul_one, Nat.zero_add, Nat.add_zero]; rw [cell_new]; exact h k hk⟩
/-- A list of versions that a draw builds. -/
structure VDr (w : World) (base : Nat) (v : Value) (l : List Version) : Prop where
  lst : Lst 48 4 Version.cell w base v l
  inn : ∀ k, k < l.length → Own w base 57 2 (nth l k).addr (nth l k).state.length
  row : ∀ k, k < l.length → SettingAt w (nth l k).addr (nth l k).state
  cap : ∀ k, k < l.length → (nth l k).state.length ≤ (nth l k).cap
  far : ∀ k, k < l.length → ∀ g o s, ownA (nth l k).state.length (nth l k).addr = some ⟨g, o, s⟩ → v.ownBlock ≠ some g
section
variable {w w' : World} {base : Nat} {v : Value} {l : List Version}
theorem VDr.nil (h : Lst 48 4 Version.cell w base v []) : VDr w base v [] :=
  ⟨h, fun _ h => absurd h (Nat.not_lt_zero _), fun _ h => absurd h (Nat.not_lt_zero _), fun _ h => absurd h (Nat.not_lt_zero _), fun _ h => absurd h (Nat.not_lt_zero _)⟩
theorem VDr.ext (h : VDr w base v l) (he : Ext w w') : VDr w' base v l := ⟨h.lst.ext he, fun k hk => (h.inn k hk).ext he, fun k hk => RowsAt.ext (h.row k hk) he, h.cap, h.far⟩
theorem VDr.moved {sb : Nat} (h : VDr w base v l) (hm : Moved sb w w') (hb : sb < base) : VDr w' base v l :=
  ⟨h.lst.moved hm hb, fun k hk => (h.inn k hk).moved hm hb, fun k hk => RowsAt.movedO (h.row k hk) hm ((h.inn k hk).far hb), h.cap, h.far⟩
theorem VDr.push {W w3 : World} {v3 : Value} {x : Version} (h : VDr W base v l) (hO : Own W base 57 2 x.addr x.state.length) (hR : SettingAt W x.addr x.state) (hcp : x.state.length ≤ x.cap) (hx : ∀ g o s, ownA x.state.length x.addr = some ⟨g, o, s⟩ → v.ownBlock ≠ some g)
    (hL : Lst 48 4 Version.cell w3 base v3 (l ++ [x])) (hgr : W.grownBy w3 v.ownBlock) (hat : v3.ownBlock = v.ownBlock ∨ v3.ownBlock = some W.heap.size) : VDr w3 base v3 (l ++ [x]) := by
  have hsp : ∀ k, k < (l ++ [x]).length → k < l.length ∨ k = l.length := fun k hk => by rw [List.length_append] at hk; simp only [List.length_cons, List.length_nil] at hk; omega
  refine ⟨hL, fun k hk => ?_, fun k hk => ?_, fun k hk => ?_, fun k hk g o s e => ?_⟩
  · rcases hsp k hk with h1 | rfl
    · rw [nth_pre h1]; exact (h.inn k h1).grown hgr (h.far k h1)
    · rw [nth_last]; exact hO.grown hgr hx
  · rcases hsp k hk with h1 | rfl
    · rw [nth_pre h1]; exact RowsAt.grownO (h.row k h1) hgr (h.far k h1)
    · rw [nth_last]; exact RowsAt.grownO hR hgr hx
  · rcases hsp k hk with h1 | rfl
    · rw [nth_pre h1]; exact h.cap k h1
    · rw [nth_last]; exact hcp
  · rcases hsp k hk with h1 | rfl
    · rw [nth_pre h1] at e
      have := ((h.inn k h1).block e).2
      rcases hat with e2 | e2
      · rw [e2]; exact h.far k h1 g o s e
      · rw [e2]; intro e3; simp only [Option.some.injEq] at e3; omega
    · rw [nth_last] at e
      have := (hO.block e).2
      rcases hat with e2 | e2
      · rw [e2]; exact hx g o s e
      · rw [e2]; intro e3; simp only [Option.some.injEq] at e3; omega
theorem Own.aside {w : World} {base T m n b o : Nat} {a : Option Addr} {u : Value} (h : Own w base T m a n) : Own (w.setCell ⟨b, o, none⟩ u) base T m a n := by
  rcases h with h | ⟨g, N, e, hg, hB, hn⟩
  · exact .inl h
  · exact .inr ⟨g, N, e, hg, hB.set _ _ _, hn⟩
theorem RowsAt.asideO {α : Type} [Inhabited α] {m b o : Nat} {cell : α → Nat → Value} {w : World} {a : Option Addr} {l : List α} {u : Value} (h : RowsAt m cell w a l) (hb : ∀ g o s, ownA l.length a = some ⟨g, o, s⟩ → g ≠ b) : RowsAt m cell (w.setCell ⟨b, o, none⟩ u) a l := fun k hk => by
  obtain ⟨g, off, e, hl, hc⟩ := h k hk
  have hne := hb g off none (by rw [ownA_pos (by omega), e])
  exact ⟨g, off, e, by simpa using hl, fun j hj => by rw [cell_other _ (by omega)]; exact hc j hj⟩
theorem Lst.aside {α : Type} {T n base b o : Nat} {cell : α → Nat → Value} {w : World} {v u : Value} {l : List α} (h : Lst T n cell w base v l) (hb : ∀ g, v.ownBlock = some g → g ≠ b) : Lst T n cell (w.setCell ⟨b, o, none⟩ u) base v l := by
  refine ⟨h.1, ?_⟩
  rcases h.2 with h2 | ⟨g, cap, cur, hv, hg, hh, r⟩
  · exact .inl h2
  · exact .inr ⟨g, cap, cur, hv, hg, by rw [heap_setCell_other w ⟨b, o, none⟩ g _ (hb g (by rw [hv]; rfl))]; exact hh, r⟩
theorem VDr.aside {b o : Nat} {u : Value} (h : VDr w base v l) (hb : (∀ g, v.ownBlock = some g → g ≠ b) ∧ ∀ k, k < l.length → ∀ g o s, ownA (nth l k).state.length (nth l k).addr = some ⟨g, o, s⟩ → g ≠ b) : VDr (w.setCell ⟨b, o, none⟩ u) base v l :=
  ⟨h.lst.aside hb.1, fun k hk => (h.inn k hk).aside, fun k hk => (h.row k hk).asideO (hb.2 k hk), h.cap, h.far⟩
theorem VDr.at (h : VDr w base v l) : ∃ a cap, v = .slice a l.length cap ∧ l.length ≤ cap ∧ VersAt w a l := by
  obtain ⟨a, cap, e, hc, -, hR, -⟩ := h.lst.shape
  exact ⟨a, cap, e, hc, hR, h.row, h.cap⟩
end
/-- A history that is drawn. -/
structure GoodH (l : List Version) : Prop where
  hist : histP (strips l) = true
  st : ∀ k, k < l.length → GoodD (nth l k).state (5 + 3 * k)
theorem GoodH.nil : GoodH [] := ⟨by decide, fun _ h => absurd h (Nat.not_lt_zero _)⟩
theorem GoodH.push {l : List Version} (h : GoodH l) (hl : l.length ≤ 4) {p : Nat} (hp : p ≤ l.length) {m : ByteArray} (hm : memoB m = true) {sa : Option Addr} {sc : Nat} {s : List Setting} (hs : GoodD s (5 + 3 * l.length)) : GoodH (l ++ [⟨(l.length : Int) + 1, p, m, sa, sc, s⟩]) := by
  refine ⟨?_, fun k hk => ?_⟩
  · have := hist_more h.hist (by rw [strips_len]; omega) (p := p) (by omega) (by rw [strips_len]; omega) hm (hs.valid (by omega))
    rw [strips_append]
    rw [strips_len] at this
    exact this
  · rcases (show k < l.length ∨ k = l.length by rw [List.length_append] at hk; simp only [List.length_cons, List.length_nil] at hk; omega) with h1 | rfl
    · rw [nth_pre h1]; exact h.st k h1
    · rw [nth_last]; exact hs
set_option maxRecDepth 100000 in
set_option maxHeartbeats 16000000 in
theorem l27Draw_any (w : World) (sb : Nat) (a : Option Addr) (cap : Nat) (code : List Int) (n : Nat) (H : Src w sb a cap code n) (hn : n ≤ 1000000) :
    Calls Tryd.prog 21 #[.pointer (some ⟨sb, 0, none⟩)] w fun e w' => ∃ (v : Value) (l : List Version) (k : Nat), e = .returned v ∧ k ≤ 500 ∧ l.length ≤ 5 ∧ GoodH l ∧ VDr w' w.heap.size v l ∧ Src w' sb a cap code (n + k) ∧ Moved sb w w' := by
  have hsl := H.lt
  have HV := Lib.hid (VDr.nil (Lst.new (T := 48) (n := 4) (cell := Version.cell) (α := Version) w w.heap.size (Nat.le_refl _)))
  have HD := Lib.hid ((Dr.start H).ext ((Ext.refl w).alloc (.cells #[] 48)))
  clear H
  go_enter Tryd.func21, Tryd.ntmps21
  go_wp2_with fail
  refine (pick_any _ sb a cap code n HD.out.src (by omega) 6 (by omega)).mono ?_
  rintro e W1 ⟨r1, q1, rfl, p0, p1, hq1, S1, M1⟩
  replace p1 := p1 (by omega)
  obtain ⟨j0, rfl⟩ := Int.eq_ofNat_of_zero_le p0
  replace HV := Lib.hid (HV.out.moved M1 (by omega))
  replace HD := Lib.hid (HD.out.step S1 M1)
  clear S1 M1
  go_wp2_with fail
  go_loopw [3, 4] (fun o i wr => ∃ (j q : Nat) (L : List Version), j ≤ 5 ∧ i = .int .i64 j ∧ q ≤ 2 + 70 * (5 - j) ∧ L.length + j ≤ 5 ∧ Hid (GoodH L) ∧ Hid (VDr wr w.heap.size o L) ∧ Hid (Dr w wr sb a cap code (n + q))) (fun _ i _ => (intOf i).toNat)
  case atStart => exact ⟨j0, q1, [], by omega, rfl, by omega, by simp; omega, GoodH.nil, HV.out, HD.out⟩
  case round =>
    clear HV HD
    obtain ⟨j, q, L, hj, rfl, hq, hLj, hG, HV, HD⟩ := hrel
    obtain ⟨oa, oc, rfl, hoc, hA⟩ := HV.out.at
    have hA := Lib.hid hA
    rcases Nat.eq_zero_or_pos j with h0 | h0
    · subst h0
      go_wp2_with fail
      go_ret
      exact ⟨_, L, q, rfl, by omega, by omega, hG.out, HV.out, HD.out.src, HD.out.mv⟩
    · go_wp2_with fail
      refine (pick_any wr sb a cap code (n + q) HD.out.src (by omega) (L.length + 1) (by omega)).mono ?_
      rintro e W2 ⟨r2, q2, rfl, p2, p3, hq2, S2, M2⟩
      replace p3 := p3 (by omega)
      obtain ⟨pn, rfl⟩ := Int.eq_ofNat_of_zero_le p2
      have hpn : pn ≤ L.length := by omega
      replace HV := Lib.hid (HV.out.moved M2 hsl)
      replace HD := Lib.hid (HD.out.step S2 M2)
      clear S2 M2 hA p2 p3
      go_wp2_with fail
      refine (drawState_out W2 sb a cap code (n + q + q2) HD.out.src (by omega)).mono ?_
      rintro e W3 ⟨sa, sc, S, q3, rfl, hsc, hq3, hGS, hSO, hSR, S2, M2⟩
      have hGS := Lib.hid hGS
      have hz2 := HD.out.size
      have hvl : Hid (∀ g, (Value.slice oa L.length oc).ownBlock = some g → g < W2.heap.size) := fun g e => HV.out.lst.lt g e
      replace HV := Lib.hid (HV.out.moved M2 hsl)
      replace HD := Lib.hid (HD.out.step S2 M2)
      clear S2 M2
      rcases Nat.eq_zero_or_pos pn with h1 | h1
      · subst h1
        have hfarx : Hid (∀ g o s, ownA S.length sa = some ⟨g, o, s⟩ → (Value.slice oa L.length oc).ownBlock ≠ some g) := fun g o s e e2 => by
          have := (hSO.block e).1; have := hvl.out g e2; omega
        replace hSO := Lib.hid (hSO.low hz2)
        have hSR := Lib.hid hSR
        have hGS := Lib.hid (hGS.out.mono (show 5 ≤ 5 + 3 * L.length by omega))
        obtain ⟨W9, hW9⟩ : ∃ W9, W9 = W3 := ⟨_, rfl⟩
        subst hW9
        go_wp2_with fail
        have hx1 := (Ext.refl W9).alloc (.cells #[.int .i64 ((L.length : Int) + 1), .int .i64 0, .string ⟨#[]⟩, .slice sa S.length sc] 48)
        have hBx := Lib.hid (Blk.new W9 #[.int .i64 ((L.length : Int) + 1), .int .i64 0, .string ⟨#[]⟩, .slice sa S.length sc] 48)
        have hC0 : (W9.alloc (.cells #[.int .i64 ((L.length : Int) + 1), .int .i64 0, .string ⟨#[]⟩, .slice sa S.length sc] 48)).cell? ⟨W9.heap.size, 0, none⟩ = some (.int .i64 ((L.length : Int) + 1)) := by rw [cell_new]; rfl
        have hC1 : (W9.alloc (.cells #[.int .i64 ((L.length : Int) + 1), .int .i64 0, .string ⟨#[]⟩, .slice sa S.length sc] 48)).cell? ⟨W9.heap.size, 1, none⟩ = some (.int .i64 0) := by rw [cell_new]; rfl
        have hC3 : (W9.alloc (.cells #[.int .i64 ((L.length : Int) + 1), .int .i64 0, .string ⟨#[]⟩, .slice sa S.length sc] 48)).cell? ⟨W9.heap.size, 3, none⟩ = some (.slice sa S.length sc) := by rw [cell_new]; rfl
        have hz9 := HD.out.size
        have hVlt : Hid ((∀ g, (Value.slice oa L.length oc).ownBlock = some g → g < W9.heap.size) ∧ ∀ k, k < L.length → ∀ g o s, ownA (nth L k).state.length (nth L k).addr = some ⟨g, o, s⟩ → g < W9.heap.size) := ⟨fun g e => HV.out.lst.lt g e, fun k hk g o s e => ((HV.out.inn k hk).block e).2⟩
        have hSlt : Hid (∀ g o s, ownA S.length sa = some ⟨g, o, s⟩ → g < W9.heap.size) := fun g o s e => (hSO.out.block e).2
        replace HD := Lib.hid (HD.out.ext hx1)
        replace HV := Lib.hid (HV.out.ext hx1)
        replace hSO := Lib.hid (hSO.out.ext hx1)
        replace hSR := Lib.hid (RowsAt.ext hSR.out hx1)
        obtain ⟨xb, hxb⟩ : ∃ xb, xb = W9.heap.size := ⟨_, rfl⟩
        have hxw : w.heap.size ≤ xb := by omega
        have hxs : xb ≠ sb := by omega
        obtain ⟨Wx, hWx⟩ : ∃ Wx, Wx = W9.alloc (.cells #[.int .i64 ((L.length : Int) + 1), .int .i64 0, .string ⟨#[]⟩, .slice sa S.length sc] 48) := ⟨_, rfl⟩
        have hxz : W9.heap.size + 1 = Wx.heap.size := by rw [hWx, size_new]
        rw [← hWx, ← hxb] at hBx hC0 hC1 hC3
        rw [← hWx] at HD HV hSO hSR
        clear hx1
        replace hC0 := Lib.hid hC0
        replace hC1 := Lib.hid hC1
        replace hC3 := Lib.hid hC3
        have hxfar : Hid ((∀ g, (Value.slice oa L.length oc).ownBlock = some g → g ≠ xb) ∧ ∀ k, k < L.length → ∀ g o s, ownA (nth L k).state.length (nth L k).addr = some ⟨g, o, s⟩ → g ≠ xb) := ⟨fun g e => by have := hVlt.out.1 g e; omega, fun k hk g o s e => by have := hVlt.out.2 k hk g o s e; omega⟩
        have hxf2 : Hid (∀ g o s, ownA S.length sa = some ⟨g, o, s⟩ → g ≠ xb) := fun g o s e => by have := hSlt.out g o s e; omega
        clear hVlt hSlt
        replace hWx := Lib.hid hWx
        replace hxb := Lib.hid hxb
        replace hxz := Lib.hid hxz
        rw [hxz.out, ← hWx.out, ← hxb.out]
        clear hxz hWx hxb
        have HT := rows_lit (cell := cellS) (T := 9) Wx #[.string ⟨#[]⟩, .string ⟨#[110, 101, 119]⟩, .string ⟨#[97, 32, 98]⟩] [⟨#[]⟩, ⟨#[110, 101, 119]⟩, ⟨#[97, 32, 98]⟩] (fun k hk => by rcases (show k = 0 ∨ k = 1 ∨ k = 2 by simp at hk; omega) with rfl | rfl | rfl <;> rfl) rfl
        have hx := (Ext.refl Wx).alloc (.cells #[.string ⟨#[]⟩, .string ⟨#[110, 101, 119]⟩, .string ⟨#[97, 32, 98]⟩] 9)
        refine (text_any _ sb a cap code (n + q + q2 + q3) (HD.out.src.ext hx) (by omega) (some ⟨Wx.heap.size, 0, none⟩) 3 _ HT (by simp) (by simp) (fun p e => by cases e; have := HD.out.src.lt; show Wx.heap.size ≠ sb; omega)).mono ?_
        rintro e W5 ⟨t, q8, rfl, ht, hq8, S8, M8⟩
        replace ht := (show ∀ x ∈ ([⟨#[]⟩, ⟨#[110, 101, 119]⟩, ⟨#[97, 32, 98]⟩] : List ByteArray), memoB x = true by decide) t ht
        have hB5 : Blk W5 xb 48 4 := M8.blk (g := xb) hxs (hBx.out.ext hx)
        have d0 := M8.cell (p := ⟨xb, 0, none⟩) hxs (hx.cell hC0.out)
        have d1 := M8.cell (p := ⟨xb, 1, none⟩) hxs (hx.cell hC1.out)
        have d3 := M8.cell (p := ⟨xb, 3, none⟩) hxs (hx.cell hC3.out)
        replace HD := Lib.hid ((HD.out.ext hx).step S8 M8)
        replace HV := Lib.hid ((HV.out.ext hx).moved M8 hsl)
        replace hSR := Lib.hid (RowsAt.movedO (RowsAt.ext hSR.out hx) M8 ((hSO.out.ext hx).far hsl))
        replace hSO := Lib.hid ((hSO.out.ext hx).moved M8 hsl)
        clear S8 M8 HT hx hC0 hC1 hC3 hBx
        have dl := hB5.lt
        have df := hB5.frozen 2
        obtain ⟨u2, d2⟩ := hB5.cell (o := 2) (by decide)
        obtain ⟨x, hxv⟩ : ∃ x : Version, x = ⟨(L.length : Int) + 1, (0 : Nat), t, sa, sc, S⟩ := ⟨_, rfl⟩
        have hx6 := (Ext.refl (W5.setCell ⟨xb, 2, none⟩ (.string t))).alloc (.cells #[.int .i64 ((L.length : Int) + 1), .int .i64 0, .string t, .slice sa S.length sc] 48)
        have HR2 : Hid (RowsAt 4 Version.cell ((W5.setCell ⟨xb, 2, none⟩ (.string t)).alloc (.cells #[.int .i64 ((L.length : Int) + 1), .int .i64 0, .string t, .slice sa S.length sc] 48)) (some ⟨W5.heap.size, 0, none⟩) [x]) := by
          have h9 := rows_new (n := 4) (cell := Version.cell) (T := 48) (W5.setCell ⟨xb, 2, none⟩ (.string t)) #[.int .i64 ((L.length : Int) + 1), .int .i64 0, .string t, .slice sa S.length sc] x (fun j hj => by rw [hxv]; rcases (show j = 0 ∨ j = 1 ∨ j = 2 ∨ j = 3 by omega) with rfl | rfl | rfl | rfl <;> rfl)
          rwa [show (W5.setCell ⟨xb, 2, none⟩ (.string t)).heap.size = W5.heap.size by simp] at h9
        have hxs0 : Hid (x.state.length = S.length ∧ x.addr = sa ∧ x.cap = sc ∧ x.state = S) := by rw [hxv]; exact ⟨rfl, rfl, rfl, rfl⟩
        have hGx : Hid (GoodH (L ++ [x])) := by rw [hxv]; exact hG.out.push (by omega) (Nat.zero_le _) ht hGS.out
        clear hxv
        have hB6 : Hid ((W5.setCell ⟨xb, 2, none⟩ (.string t)).heap.size = W5.heap.size) := by show _ = _; simp
        obtain ⟨U, hU⟩ : ∃ U, U = W5.setCell ⟨xb, 2, none⟩ (.string t) := ⟨_, rfl⟩
        have HDU := Lib.hid (HD.out.set (o := 2) hxw (.string t))
        have HVU : Hid (VDr U w.heap.size (.slice oa L.length oc) L) := by rw [hU]; exact HV.out.aside hxfar.out
        have hSOU : Hid (Own U w.heap.size 57 2 sa S.length) := by rw [hU]; exact Own.aside hSO.out
        have hSRU : Hid (SettingAt U sa S) := by rw [hU]; exact RowsAt.asideO hSR.out hxf2.out
        rw [← hU] at hx6 HR2 HDU hB6
        replace HD := Lib.hid (HDU.out.ext hx6)
        replace HV := Lib.hid (HVU.out.ext hx6)
        replace hSO := Lib.hid (hSOU.out.ext hx6)
        replace hSR := Lib.hid (RowsAt.ext hSRU.out hx6)
        rw [hU] at HD HV hSO hSR HR2
        have hz6 : Hid (w.heap.size ≤ ((W5.setCell ⟨xb, 2, none⟩ (.string t)).alloc (.cells #[.int .i64 ((L.length : Int) + 1), .int .i64 0, .string t, .slice sa S.length sc] 48)).heap.size) := by show _ ≤ _; rw [size_new, ← hU, hB6.out]; have := HDU.out.size; have := HD.out.size; rw [← hU, size_new, hB6.out] at this; omega
        clear hU HDU HVU hSOU hSRU hx6 hB6
        try dsimp only
        repeat (first | (at_builtin; refine Hid.out ?_) | go_values | go_skip | go_guarded | go_step | go_upon | go_back)
        refine Lib.hid ?_
        refine wpList_pushAt elVersion oneVersion rfl _ _ rfl w.heap.size _ L (by rfl) HV.out.lst _ 1 1 [x] rfl (by rfl) HR2.out (by omega) (by omega) hz6.out ?_
        intro v7 w7 L7 g7 hat7
        have hrow : ∀ g, (Value.slice oa L.length oc).ownBlock = some g → w.heap.size ≤ g := fun g e => HV.out.lst.ge g e
        replace HD := Lib.hid (HD.out.grown g7 hrow)
        have HV7 := Lib.hid (HV.out.push (x := x) (by rw [hxs0.out.2.2.2, hxs0.out.2.1]; exact hSO.out) (by rw [hxs0.out.2.2.2, hxs0.out.2.1]; exact hSR.out) (by rw [hxs0.out.1, hxs0.out.2.2.1]; exact hsc) (by rw [hxs0.out.2.2.2, hxs0.out.2.1]; exact hfarx.out) L7 g7 hat7)
        have hL7 : (L ++ [x]).length ≤ L.length + 1 := by rw [List.length_append]; exact Nat.le_refl _
        clear L7 g7 hat7 hrow HV hSO hSR HR2 hxs0 d0 d1 d2 d3 dl df hB5
        go_wp2_with fail
        go_roundw
        case rel => exact ⟨j - 1, q + q2 + q3 + q8, L ++ [x], by omega, by go_num, by omega, by omega, hGx.out, HV7.out, by rw [show n + (q + q2 + q3 + q8) = n + q + q2 + q3 + q8 by omega]; exact HD.out⟩
        case measure => simp [intOf]; omega
      · obtain ⟨pm, rfl⟩ : ∃ pm, pn = pm + 1 := ⟨pn - 1, by omega⟩
        have hpl : pm < L.length := by omega
        obtain ⟨oa', oc', e', -, hA⟩ := HV.out.at
        obtain ⟨rfl, -, rfl⟩ : oa = oa' ∧ L.length = L.length ∧ oc = oc' := by simpa using e'
        obtain ⟨b, off, rfl⟩ := RowsAt.base hA.row hpl
        obtain ⟨hb, c0, c1, c2, c3⟩ := Version.at hA.row pm hpl
        have HC := Lib.hid (l27Changed_any W3 sb a cap code (n + q + q2 + q3) HD.out.src (by omega) (nth L pm).addr (nth L pm).cap (nth L pm).state (hA.inn pm hpl) (5 + 3 * pm) (hG.out.st pm hpl) (by omega))
        clear hGS hSO hSR hA c0 c1 c2 e' hsc
        go_wp2_with fail
        refine HC.out.mono ?_
        rintro e W9 ⟨sa, sc, S, q4, rfl, hsc, hq4, hGS, hSO, hSR, S2, M2⟩
        have hz3 := HD.out.size
        have hvl2 : Hid (∀ g, (Value.slice (some ⟨b, off, none⟩) L.length oc).ownBlock = some g → g < W3.heap.size) := fun g e => HV.out.lst.lt g e
        replace HV := Lib.hid (HV.out.moved M2 hsl)
        replace HD := Lib.hid (HD.out.step S2 M2)
        have hfarx : Hid (∀ g o s, ownA S.length sa = some ⟨g, o, s⟩ → (Value.slice (some ⟨b, off, none⟩) L.length oc).ownBlock ≠ some g) := fun g o s e e2 => by
          have := (hSO.block e).1; have := hvl2.out g e2; omega
        replace hSO := Lib.hid (hSO.low hz3)
        replace hSR := Lib.hid hSR
        replace hGS := Lib.hid (hGS.mono (show 5 + 3 * pm + 3 ≤ 5 + 3 * L.length by omega))
        clear S2 M2 HC hvl hvl2 hb c3
        obtain ⟨oa, hoa⟩ : ∃ oa, oa = some (⟨b, off, none⟩ : Addr) := ⟨_, rfl⟩
        rw [← hoa] at HV hfarx ⊢
        clear hoa
        go_wp2_with fail
        have hx1 := (Ext.refl W9).alloc (.cells #[.int .i64 ((L.length : Int) + 1), .int .i64 ((pm : Int) + 1), .string ⟨#[]⟩, .slice sa S.length sc] 48)
        have hBx := Lib.hid (Blk.new W9 #[.int .i64 ((L.length : Int) + 1), .int .i64 ((pm : Int) + 1), .string ⟨#[]⟩, .slice sa S.length sc] 48)
        have hC0 : (W9.alloc (.cells #[.int .i64 ((L.length : Int) + 1), .int .i64 ((pm : Int) + 1), .string ⟨#[]⟩, .slice sa S.length sc] 48)).cell? ⟨W9.heap.size, 0, none⟩ = some (.int .i64 ((L.length : Int) + 1)) := by rw [cell_new]; rfl
        have hC1 : (W9.alloc (.cells #[.int .i64 ((L.length : Int) + 1), .int .i64 ((pm : Int) + 1), .string ⟨#[]⟩, .slice sa S.length sc] 48)).cell? ⟨W9.heap.size, 1, none⟩ = some (.int .i64 ((pm : Int) + 1)) := by rw [cell_new]; rfl
        have hC3 : (W9.alloc (.cells #[.int .i64 ((L.length : Int) + 1), .int .i64 ((pm : Int) + 1), .string ⟨#[]⟩, .slice sa S.length sc] 48)).cell? ⟨W9.heap.size, 3, none⟩ = some (.slice sa S.length sc) := by rw [cell_new]; rfl
        have hz9 := HD.out.size
        have hVlt : Hid ((∀ g, (Value.slice oa L.length oc).ownBlock = some g → g < W9.heap.size) ∧ ∀ k, k < L.length → ∀ g o s, ownA (nth L k).state.length (nth L k).addr = some ⟨g, o, s⟩ → g < W9.heap.size) := ⟨fun g e => HV.out.lst.lt g e, fun k hk g o s e => ((HV.out.inn k hk).block e).2⟩
        have hSlt : Hid (∀ g o s, ownA S.length sa = some ⟨g, o, s⟩ → g < W9.heap.size) := fun g o s e => (hSO.out.block e).2
        replace HD := Lib.hid (HD.out.ext hx1)
        replace HV := Lib.hid (HV.out.ext hx1)
        replace hSO := Lib.hid (hSO.out.ext hx1)
        replace hSR := Lib.hid (RowsAt.ext hSR.out hx1)
        obtain ⟨xb, hxb⟩ : ∃ xb, xb = W9.heap.size := ⟨_, rfl⟩
        have hxw : w.heap.size ≤ xb := by omega
        have hxs : xb ≠ sb := by omega
        obtain ⟨Wx, hWx⟩ : ∃ Wx, Wx = W9.alloc (.cells #[.int .i64 ((L.length : Int) + 1), .int .i64 ((pm : Int) + 1), .string ⟨#[]⟩, .slice sa S.length sc] 48) := ⟨_, rfl⟩
        have hxz : W9.heap.size + 1 = Wx.heap.size := by rw [hWx, size_new]
        rw [← hWx, ← hxb] at hBx hC0 hC1 hC3
        rw [← hWx] at HD HV hSO hSR
        clear hx1
        replace hC0 := Lib.hid hC0
        replace hC1 := Lib.hid hC1
        replace hC3 := Lib.hid hC3
        have hxfar : Hid ((∀ g, (Value.slice oa L.length oc).ownBlock = some g → g ≠ xb) ∧ ∀ k, k < L.length → ∀ g o s, ownA (nth L k).state.length (nth L k).addr = some ⟨g, o, s⟩ → g ≠ xb) := ⟨fun g e => by have := hVlt.out.1 g e; omega, fun k hk g o s e => by have := hVlt.out.2 k hk g o s e; omega⟩
        have hxf2 : Hid (∀ g o s, ownA S.length sa = some ⟨g, o, s⟩ → g ≠ xb) := fun g o s e => by have := hSlt.out g o s e; omega
        clear hVlt hSlt
        replace hWx := Lib.hid hWx
        replace hxb := Lib.hid hxb
        replace hxz := Lib.hid hxz
        rw [hxz.out, ← hWx.out, ← hxb.out]
        clear hxz hWx hxb
        have HT := rows_lit (cell := cellS) (T := 9) Wx #[.string ⟨#[]⟩, .string ⟨#[110, 101, 119]⟩, .string ⟨#[97, 32, 98]⟩] [⟨#[]⟩, ⟨#[110, 101, 119]⟩, ⟨#[97, 32, 98]⟩] (fun k hk => by rcases (show k = 0 ∨ k = 1 ∨ k = 2 by simp at hk; omega) with rfl | rfl | rfl <;> rfl) rfl
        have hx := (Ext.refl Wx).alloc (.cells #[.string ⟨#[]⟩, .string ⟨#[110, 101, 119]⟩, .string ⟨#[97, 32, 98]⟩] 9)
        refine (text_any _ sb a cap code (n + q + q2 + q3 + q4) (HD.out.src.ext hx) (by omega) (some ⟨Wx.heap.size, 0, none⟩) 3 _ HT (by simp) (by simp) (fun p e => by cases e; have := HD.out.src.lt; show Wx.heap.size ≠ sb; omega)).mono ?_
        rintro e W5 ⟨t, q8, rfl, ht, hq8, S8, M8⟩
        replace ht := (show ∀ x ∈ ([⟨#[]⟩, ⟨#[110, 101, 119]⟩, ⟨#[97, 32, 98]⟩] : List ByteArray), memoB x = true by decide) t ht
        have hB5 : Blk W5 xb 48 4 := M8.blk (g := xb) hxs (hBx.out.ext hx)
        have d0 := M8.cell (p := ⟨xb, 0, none⟩) hxs (hx.cell hC0.out)
        have d1 := M8.cell (p := ⟨xb, 1, none⟩) hxs (hx.cell hC1.out)
        have d3 := M8.cell (p := ⟨xb, 3, none⟩) hxs (hx.cell hC3.out)
        replace HD := Lib.hid ((HD.out.ext hx).step S8 M8)
        replace HV := Lib.hid ((HV.out.ext hx).moved M8 hsl)
        replace hSR := Lib.hid (RowsAt.movedO (RowsAt.ext hSR.out hx) M8 ((hSO.out.ext hx).far hsl))
        replace hSO := Lib.hid ((hSO.out.ext hx).moved M8 hsl)
        clear S8 M8 HT hx hC0 hC1 hC3 hBx
        have dl := hB5.lt
        have df := hB5.frozen 2
        obtain ⟨u2, d2⟩ := hB5.cell (o := 2) (by decide)
        obtain ⟨x, hxv⟩ : ∃ x : Version, x = ⟨(L.length : Int) + 1, (pm + 1 : Nat), t, sa, sc, S⟩ := ⟨_, rfl⟩
        have hx6 := (Ext.refl (W5.setCell ⟨xb, 2, none⟩ (.string t))).alloc (.cells #[.int .i64 ((L.length : Int) + 1), .int .i64 ((pm : Int) + 1), .string t, .slice sa S.length sc] 48)
        have HR2 : Hid (RowsAt 4 Version.cell ((W5.setCell ⟨xb, 2, none⟩ (.string t)).alloc (.cells #[.int .i64 ((L.length : Int) + 1), .int .i64 ((pm : Int) + 1), .string t, .slice sa S.length sc] 48)) (some ⟨W5.heap.size, 0, none⟩) [x]) := by
          have h9 := rows_new (n := 4) (cell := Version.cell) (T := 48) (W5.setCell ⟨xb, 2, none⟩ (.string t)) #[.int .i64 ((L.length : Int) + 1), .int .i64 ((pm : Int) + 1), .string t, .slice sa S.length sc] x (fun j hj => by rw [hxv]; rcases (show j = 0 ∨ j = 1 ∨ j = 2 ∨ j = 3 by omega) with rfl | rfl | rfl | rfl <;> rfl)
          rwa [show (W5.setCell ⟨xb, 2, none⟩ (.string t)).heap.size = W5.heap.size by simp] at h9
        have hxs0 : Hid (x.state.length = S.length ∧ x.addr = sa ∧ x.cap = sc ∧ x.state = S) := by rw [hxv]; exact ⟨rfl, rfl, rfl, rfl⟩
        have hGx : Hid (GoodH (L ++ [x])) := by rw [hxv]; exact hG.out.push (by omega) hpn ht hGS.out
        clear hxv
        have hB6 : Hid ((W5.setCell ⟨xb, 2, none⟩ (.string t)).heap.size = W5.heap.size) := by show _ = _; simp
        obtain ⟨U, hU⟩ : ∃ U, U = W5.setCell ⟨xb, 2, none⟩ (.string t) := ⟨_, rfl⟩
        have HDU := Lib.hid (HD.out.set (o := 2) hxw (.string t))
        have HVU : Hid (VDr U w.heap.size (.slice oa L.length oc) L) := by rw [hU]; exact HV.out.aside hxfar.out
        have hSOU : Hid (Own U w.heap.size 57 2 sa S.length) := by rw [hU]; exact Own.aside hSO.out
        have hSRU : Hid (SettingAt U sa S) := by rw [hU]; exact RowsAt.asideO hSR.out hxf2.out
        rw [← hU] at hx6 HR2 HDU hB6
        replace HD := Lib.hid (HDU.out.ext hx6)
        replace HV := Lib.hid (HVU.out.ext hx6)
        replace hSO := Lib.hid (hSOU.out.ext hx6)
        replace hSR := Lib.hid (RowsAt.ext hSRU.out hx6)
        rw [hU] at HD HV hSO hSR HR2
        have hz6 : Hid (w.heap.size ≤ ((W5.setCell ⟨xb, 2, none⟩ (.string t)).alloc (.cells #[.int .i64 ((L.length : Int) + 1), .int .i64 ((pm : Int) + 1), .string t, .slice sa S.length sc] 48)).heap.size) := by show _ ≤ _; rw [size_new, ← hU, hB6.out]; have := HDU.out.size; have := HD.out.size; rw [← hU, size_new, hB6.out] at this; omega
        clear hU HDU HVU hSOU hSRU hx6 hB6
        try dsimp only
        repeat (first | (at_builtin; refine Hid.out ?_) | go_values | go_skip | go_guarded | go_step | go_upon | go_back)
        refine Lib.hid ?_
        refine wpList_pushAt elVersion oneVersion rfl _ _ rfl w.heap.size _ L (by rfl) HV.out.lst _ 1 1 [x] rfl (by rfl) HR2.out (by omega) (by omega) hz6.out ?_
        intro v7 w7 L7 g7 hat7
        have hrow : ∀ g, (Value.slice oa L.length oc).ownBlock = some g → w.heap.size ≤ g := fun g e => HV.out.lst.ge g e
        replace HD := Lib.hid (HD.out.grown g7 hrow)
        have HV7 := Lib.hid (HV.out.push (x := x) (by rw [hxs0.out.2.2.2, hxs0.out.2.1]; exact hSO.out) (by rw [hxs0.out.2.2.2, hxs0.out.2.1]; exact hSR.out) (by rw [hxs0.out.1, hxs0.out.2.2.1]; exact hsc) (by rw [hxs0.out.2.2.2, hxs0.out.2.1]; exact hfarx.out) L7 g7 hat7)
        have hL7 : (L ++ [x]).length ≤ L.length + 1 := by rw [List.length_append]; exact Nat.le_refl _
        clear L7 g7 hat7 hrow HV hSO hSR HR2 hxs0 d0 d1 d2 d3 dl df hB5
        go_wp2_with fail
        go_roundw
        case rel => exact ⟨j - 1, q + q2 + q3 + q4 + q8, L ++ [x], by omega, by go_num, by omega, by omega, hGx.out, HV7.out, by rw [show n + (q + q2 + q3 + q4 + q8) = n + q + q2 + q3 + q4 + q8 by omega]; exact HD.out⟩
        case measure => simp [intOf]; omega
set_option maxRecDepth 100000 in
set_option maxHeartbeats 4000000 in
theorem R8State_any (w : World) (a : Option Addr) (cap : Nat) (code : List Int) (H : ByteAt w a code) (hr : ∀ k, k < code.length → 0 ≤ nth code k ∧ nth code k ≤ 255) (hf : code.length ≤ 1048576) :
    Calls Tryd.prog 6 #[.slice a code.length cap] w fun e w' => ∃ (sa : Option Addr) (sc : Nat) (l : List Setting), e = .returned (.slice sa l.length sc) ∧ l.length ≤ sc ∧ GoodD l 5 ∧ SettingAt w' sa l ∧ Ext w w' := by
  have HF := Lib.hid (l00From_any w a cap code H hr hf)
  clear H hr
  go_enter Tryd.func6, Tryd.ntmps6
  go_wp2_with fail
  refine HF.out.mono ?_
  rintro e W0 ⟨sb, rfl, hsb, S0, E0⟩
  have S0 := Lib.hid S0
  have E0 := Lib.hid E0
  clear HF
  go_wp2_with fail
  refine (drawState_out W0 sb a cap code 0 S0.out (by omega)).mono ?_
  rintro e W1 ⟨sa, sc, l, k, rfl, hsc, hk, hg, -, hR, -, M1⟩
  have hR := Lib.hid hR
  have EE := Lib.hid (M1.ext w hsb E0.out)
  clear M1 S0
  go_wp2_with fail
  go_ret
  exact ⟨sa, sc, l, rfl, hsc, hg, hR.out, EE.out⟩
set_option maxRecDepth 100000 in
set_option maxHeartbeats 4000000 in
theorem R8Changed_any (w : World) (a : Option Addr) (cap : Nat) (code : List Int) (H : ByteAt w a code) (hr : ∀ k, k < code.length → 0 ≤ nth code k ∧ nth code k ≤ 255) (hf : code.length ≤ 1048576) (la : Option Addr) (lc : Nat) (l : List Setting) (HA : SettingAt w la l) (m : Nat) (hG : GoodD l m) (hm : m ≤ 100) :
    Calls Tryd.prog 7 #[.slice a code.length cap, .slice la l.length lc] w fun e w' => ∃ (sa : Option Addr) (sc : Nat) (s : List Setting), e = .returned (.slice sa s.length sc) ∧ s.length ≤ sc ∧ GoodD s (m + 3) ∧ SettingAt w' sa s ∧ Ext w w' := by
  have HF := Lib.hid (l00From_any w a cap code H hr hf)
  have HA := Lib.hid HA
  clear H hr
  go_enter Tryd.func7, Tryd.ntmps7
  go_wp2_with fail
  refine HF.out.mono ?_
  rintro e W0 ⟨sb, rfl, hsb, S0, E0⟩
  have S0 := Lib.hid S0
  have E0 := Lib.hid E0
  clear HF
  go_wp2_with fail
  refine (l27Changed_any W0 sb a cap code 0 S0.out (by omega) la lc l (RowsAt.ext HA.out E0.out) m hG hm).mono ?_
  rintro e W1 ⟨sa, sc, s, k, rfl, hsc, hk, hg, -, hR, -, M1⟩
  have hR := Lib.hid hR
  have EE := Lib.hid (M1.ext w hsb E0.out)
  clear M1 S0
  go_wp2_with fail
  go_ret
  exact ⟨sa, sc, s, rfl, hsc, hg, hR.out, EE.out⟩
set_option maxRecDepth 100000 in
set_option maxHeartbeats 4000000 in
theorem R8History_any (w : World) (a : Option Addr) (cap : Nat) (code : List Int) (H : ByteAt w a code) (hr : ∀ k, k < code.length → 0 ≤ nth code k ∧ nth code k ≤ 255) (hf : code.length ≤ 1048576) :
    Calls Tryd.prog 5 #[.slice a code.length cap] w fun e w' => ∃ (va : Option Addr) (vc : Nat) (l : List Version), e = .returned (.slice va l.length vc) ∧ l.length ≤ vc ∧ l.length ≤ 5 ∧ GoodH l ∧ VersAt w' va l ∧ Ext w w' := by
  have HF := Lib.hid (l00From_any w a cap code H hr hf)
  clear H hr
  go_enter Tryd.func5, Tryd.ntmps5
  go_wp2_with fail
  refine HF.out.mono ?_
  rintro e W0 ⟨sb, rfl, hsb, S0, E0⟩
  have S0 := Lib.hid S0
  have E0 := Lib.hid E0
  clear HF
  go_wp2_with fail
  refine (l27Draw_any W0 sb a cap code 0 S0.out (by omega)).mono ?_
  rintro e W1 ⟨v, l, k, rfl, hk, hl, hG, hV, -, M1⟩
  obtain ⟨va, vc, rfl, hvc, hA⟩ := hV.at
  have hA := Lib.hid hA
  have hG := Lib.hid hG
  have EE := Lib.hid (M1.ext w hsb E0.out)
  clear M1 S0 hV
  go_wp2_with fail
  go_ret
  exact ⟨va, vc, l, rfl, hvc, hl, hG.out, hA.out, EE.out⟩
end Go.Proofs.YtbcpgdidajapoaaDoor
