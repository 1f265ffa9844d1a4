/- The source of draws of the reference: next and pick: what they hand back lies within bounds, and of the memory only the source's own object turns. -/
import Derived.Test.YtmkmmenkjbmppaaDoorGrow
import Derived.Test.YtmkmmenkjbmppaaDoorLists
import Derived.Laws.BitsLemmas
namespace Go.Proofs.YtmkmmenkjbmppaaDoor
open Go.RowKit
abbrev cellB : Int → Nat → Value := fun (x : Int) (_ : Nat) => Value.int .u8 x
abbrev ByteAt (w : World) (a : Option Addr) (l : List Int) : Prop := RowsAt 1 cellB w a l
theorem ByteAt.at {w : World} {b off : Nat} {l : List Int} (h : ByteAt w (some ⟨b, off, none⟩) l) (k : Nat) (hk : k < l.length) : b < w.heap.size ∧ w.cell? ⟨b, off + k, none⟩ = some (.int .u8 (nth l k)) :=
  let h' := RowsAt.at h k hk; ⟨h'.1, by have := h'.2 0 (by decide); rwa [Nat.mul_one] at this⟩
/-- Of the memory only block sb has turned, and it may have grown. -/
structure Moved (sb : Nat) (w w' : World) : Prop where
  ext : ∀ w0, w0.heap.size ≤ sb → Ext w0 w → Ext w0 w'
  size : w.heap.size ≤ w'.heap.size
  obj : ∀ g o, g ≠ sb → w.heap[g]? = some o → w'.heap[g]? = some o
theorem Ext.obj {w w' : World} (he : Ext w w') {g : Nat} {o : Obj} (h : w.heap[g]? = some o) : w'.heap[g]? = some o := by
  obtain ⟨x, rfl⟩ := he
  have hg : g < w.heap.size := by
    rcases Nat.lt_or_ge g w.heap.size with h1 | h1
    · exact h1
    · rw [Array.getElem?_eq_none h1] at h; cases h
  rw [lift_block _ _ _ hg]; exact h
theorem Moved.refl (sb : Nat) (w : World) : Moved sb w w := ⟨fun _ _ h => h, Nat.le_refl _, fun _ _ _ h => h⟩
theorem Moved.trans {sb : Nat} {w w' w'' : World} (h1 : Moved sb w w') (h2 : Moved sb w' w'') : Moved sb w w'' :=
  ⟨fun w0 h0 h => h2.ext w0 h0 (h1.ext w0 h0 h), Nat.le_trans h1.size h2.size, fun g o hg h => h2.obj g o hg (h1.obj g o hg h)⟩
theorem Moved.grow {sb : Nat} {w w' : World} (he : Ext w w') : Moved sb w w' := ⟨fun _ _ h => h.trans he, he.size, fun _ _ _ h => Ext.obj he h⟩
theorem Moved.setCell (sb o : Nat) (w : World) (v : Value) : Moved sb w (w.setCell ⟨sb, o, none⟩ v) :=
  ⟨fun _ h0 h => h.setCell (p := ⟨sb, o, none⟩) h0 v, by simp, fun g _ hg h => by rw [heap_setCell_other w ⟨sb, o, none⟩ g _ hg]; exact h⟩
theorem Moved.cell {sb : Nat} {w w' : World} (h : Moved sb w w') {p : Addr} {v : Value} (hp : p.block ≠ sb) (hc : w.cell? p = some v) : w'.cell? p = some v := by
  unfold World.cell? at *
  cases hh : w.heap[p.block]? with
  | none => rw [hh] at hc; cases hc
  | some o => rw [hh] at hc; rw [h.obj _ _ hp hh]; exact hc
/-- A source: its bytes, how many are drawn. -/
structure Src (w : World) (sb : Nat) (a : Option Addr) (cap : Nat) (code : List Int) (n : Nat) : Prop where
  blk : Blk w sb 70 3
  c0 : w.cell? ⟨sb, 0, none⟩ = some (.slice a code.length cap)
  c1 : w.cell? ⟨sb, 1, none⟩ = some (.int .i64 n)
  c2 : ∃ sd : Int, w.cell? ⟨sb, 2, none⟩ = some (.int .u64 sd) ∧ 0 ≤ sd ∧ sd ≤ 18446744073709551615
  bytes : ByteAt w a code
  range : ∀ k, k < code.length → 0 ≤ nth code k ∧ nth code k ≤ 255
  few : code.length ≤ 1048576
  apart : ∀ p, a = some p → 0 < code.length → p.block ≠ sb
theorem ByteAt.set {w : World} {a : Option Addr} {l : List Int} {sb o : Nat} {v : Value} (h : ByteAt w a l) (hne : ∀ p, a = some p → 0 < l.length → p.block ≠ sb) : ByteAt (w.setCell ⟨sb, o, none⟩ v) a l := by
  intro k hk
  obtain ⟨b, off, e, hb, hc⟩ := h k hk
  exact ⟨b, off, e, by simpa using hb, fun q hq => by rw [cell_other _ (by rintro ⟨h1, -⟩; exact hne _ e (by omega) h1.symm)]; exact hc q hq⟩
theorem Src.lt {w : World} {sb : Nat} {a : Option Addr} {cap : Nat} {code : List Int} {n : Nat} (h : Src w sb a cap code n) : sb < w.heap.size := h.blk.lt
theorem Src.ext {w w' : World} {sb : Nat} {a : Option Addr} {cap : Nat} {code : List Int} {n : Nat} (h : Src w sb a cap code n) (he : Ext w w') : Src w' sb a cap code n :=
  ⟨h.blk.ext he, he.cell h.c0, he.cell h.c1, by obtain ⟨sd, h1, h2⟩ := h.c2; exact ⟨sd, he.cell h1, h2⟩, RowsAt.ext h.bytes he, h.range, h.few, h.apart⟩
theorem Src.step {w : World} {sb : Nat} {a : Option Addr} {cap : Nat} {code : List Int} {n : Nat} (h : Src w sb a cap code n) {sd : Int} (h0 : 0 ≤ sd) (h1 : sd ≤ 18446744073709551615) :
    Src ((w.setCell ⟨sb, 1, none⟩ (.int .i64 ((n : Int) + 1))).setCell ⟨sb, 2, none⟩ (.int .u64 sd)) sb a cap code (n + 1) := by
  refine ⟨(h.blk.set _ _ _).set _ _ _, ?_, ?_, ⟨sd, (h.blk.set _ _ _).same (by decide) _, h0, h1⟩, ByteAt.set (ByteAt.set h.bytes h.apart) h.apart, h.range, h.few, h.apart⟩
  · rw [cell_other _ (by omega), cell_other _ (by omega)]; exact h.c0
  · rw [cell_other _ (by omega), h.blk.same (by decide)]; rfl
theorem moved2 (w : World) (sb : Nat) (u v : Value) : Moved sb w ((w.setCell ⟨sb, 1, none⟩ u).setCell ⟨sb, 2, none⟩ v) := (Moved.setCell sb 1 w u).trans (Moved.setCell sb 2 _ v)
theorem wrap_u64_bd (x : Int) : 0 ≤ IntKind.u64.wrap x ∧ IntKind.u64.wrap x ≤ 18446744073709551615 := by
  rw [IntKind.wrap_u64]; omega
theorem and255 {x : Int} (h0 : 0 ≤ x) (h1 : x ≤ 18446744073709551615) : 0 ≤ wrap64 (bits .and .u64 (x / 1099511627776) 255) ∧ wrap64 (bits .and .u64 (x / 1099511627776) 255) ≤ 255 := by
  have h := bits_mask .u64 63 (by decide) (fun n a b => by rw [IntKind.wrap_u64]; omega) 8 (by decide) (x / 1099511627776) (by omega) (by omega)
  have e : ((2 : Int) ^ 8 - 1) = 255 := by decide
  have e2 : ((2 : Int) ^ 8) = 256 := by decide
  rw [e, e2] at h
  rw [h]
  have e3 : wrap64 (x / 1099511627776 % 256) = x / 1099511627776 % 256 := by unfold wrap64; omega
  rw [e3]; omega
set_option maxRecDepth 100000 in
set_option maxHeartbeats 2000000 in
theorem next_any (w : World) (sb : Nat) (a : Option Addr) (cap : Nat) (code : List Int) (n : Nat) (H : Src w sb a cap code n) (hn : n ≤ 1000000000) :
    Calls Tryd.prog 45 #[.pointer (some ⟨sb, 0, none⟩)] w fun e w' => ∃ r : Int, e = .returned (.int .i64 r) ∧ 0 ≤ r ∧ r ≤ 255 ∧ Src w' sb a cap code (n + 1) ∧ Moved sb w w' := by
  have HS := Lib.hid H
  have c0 := H.c0
  have c1 := H.c1
  obtain ⟨sd, c2, hs0, hs1⟩ := H.c2
  have hb := H.lt
  have hf1 := H.blk.frozen 1
  have hf2 := H.blk.frozen 2
  have hfew := H.few
  have hrange := Lib.hid H.range
  have hbytes := Lib.hid H.bytes
  clear H
  rcases Nat.lt_or_ge n code.length with hlt | hlt
  · obtain ⟨cb, co, rfl⟩ := hbytes.out.base hlt
    obtain ⟨hcb, d0⟩ := ByteAt.at hbytes.out n hlt
    obtain ⟨r0, r1⟩ := hrange.out n hlt
    go_enter Tryd.func45, Tryd.ntmps45
    go_wp2_with fail
    refine region_quiet (by kernel_rfl) (by kernel_rfl) ?_
    repeat (any_goals (first | go_big_quiet_step ((fail)) | quiet_step ((fail))))
    refine wpQuiet_nil ?_
    intro _ hw'
    obtain ⟨y, hw''⟩ := hw'
    subst hw''
    obtain ⟨y1, hy⟩ : ∃ z, z = y := ⟨_, rfl⟩
    subst hy
    go_wp2_with fail
    refine region_quiet (by kernel_rfl) (by kernel_rfl) ?_
    repeat (any_goals (first | go_big_quiet_step ((fail)) | quiet_step ((fail))))
    refine wpQuiet_nil ?_
    intro _ hw'
    obtain ⟨y, hw''⟩ := hw'
    subst hw''
    go_wp2_with fail
    obtain ⟨s2, hs2⟩ : ∃ s2, s2 = IntKind.u64.wrap (IntKind.u64.wrap (IntKind.u64.wrap (sd * 6364136223846793005) + nth code n) + 1442695040888963407) := ⟨_, rfl⟩
    have hsb : 0 ≤ s2 ∧ s2 ≤ 18446744073709551615 := by rw [hs2]; exact wrap_u64_bd _
    rw [← hs2]
    have H2 := Lib.hid ((HS.out.ext (show Ext w (lift (lift w y1) y) from (by repeat (first | exact Ext.refl _ | refine Ext.lift ?_ _ | refine Ext.alloc ?_ _)))).step (sd := s2) hsb.1 hsb.2)
    have M2 := Lib.hid ((Moved.grow (sb := sb) (show Ext w (lift (lift w y1) y) from (by repeat (first | exact Ext.refl _ | refine Ext.lift ?_ _ | refine Ext.alloc ?_ _)))).trans (moved2 (lift (lift w y1) y) sb (.int .i64 ((n : Int) + 1)) (.int .u64 s2)))
    clear hs2 HS c0 c1 c2 hb hf1 hf2
    generalize (((lift (lift w y1) y).setCell ⟨sb, 1, none⟩ (.int .i64 ((n : Int) + 1))).setCell ⟨sb, 2, none⟩ (.int .u64 s2)) = W at *
    have c0 := H2.out.c0
    have c1 := H2.out.c1
    obtain ⟨sd3, c2, hs3, hs4⟩ := H2.out.c2
    have hb := H2.out.lt
    rw [Int.natCast_add] at c1
    clear d0
    refine region_quiet (by kernel_rfl) (by kernel_rfl) ?_
    repeat (any_goals (first | go_big_quiet_step ((fail)) | quiet_step ((fail))))
    refine wpQuiet_nil ?_
    intro _ hw'
    obtain ⟨y, hw''⟩ := hw'
    subst hw''
    go_wp2_with fail
    go_ret
    exact ⟨_, rfl, r0, r1, H2.out.ext (by repeat (first | exact Ext.refl _ | refine Ext.lift ?_ _ | refine Ext.alloc ?_ _)), M2.out.trans (Moved.grow (by repeat (first | exact Ext.refl _ | refine Ext.lift ?_ _ | refine Ext.alloc ?_ _)))⟩
  · go_enter Tryd.func45, Tryd.ntmps45
    go_wp2_with fail
    refine region_quiet (by kernel_rfl) (by kernel_rfl) ?_
    repeat (any_goals (first | go_big_quiet_step ((fail)) | quiet_step ((fail))))
    refine wpQuiet_nil ?_
    intro _ hw'
    obtain ⟨y, hw''⟩ := hw'
    subst hw''
    go_wp2_with fail
    obtain ⟨s2, hs2⟩ : ∃ s2, s2 = IntKind.u64.wrap (IntKind.u64.wrap (IntKind.u64.wrap (sd * 6364136223846793005)) + 1442695040888963407) := ⟨_, rfl⟩
    have hsb : 0 ≤ s2 ∧ s2 ≤ 18446744073709551615 := by rw [hs2]; exact wrap_u64_bd _
    rw [← hs2]
    have H2 := Lib.hid ((HS.out.ext (show Ext w (lift w y) from (by repeat (first | exact Ext.refl _ | refine Ext.lift ?_ _ | refine Ext.alloc ?_ _)))).step (sd := s2) hsb.1 hsb.2)
    have M2 := Lib.hid ((Moved.grow (sb := sb) (show Ext w (lift w y) from (by repeat (first | exact Ext.refl _ | refine Ext.lift ?_ _ | refine Ext.alloc ?_ _)))).trans (moved2 (lift w y) sb (.int .i64 ((n : Int) + 1)) (.int .u64 s2)))
    clear hs2 HS c0 c1 c2 hb hf1 hf2
    generalize (((lift w y).setCell ⟨sb, 1, none⟩ (.int .i64 ((n : Int) + 1))).setCell ⟨sb, 2, none⟩ (.int .u64 s2)) = W at *
    have c0 := H2.out.c0
    have c1 := H2.out.c1
    obtain ⟨sd3, c2, hs3, hs4⟩ := H2.out.c2
    have hb := H2.out.lt
    rw [Int.natCast_add] at c1
    refine region_quiet (by kernel_rfl) (by kernel_rfl) ?_
    repeat (any_goals (first | go_big_quiet_step ((fail)) | quiet_step ((fail))))
    refine wpQuiet_nil ?_
    intro _ hw'
    obtain ⟨y, hw''⟩ := hw'
    subst hw''
    go_wp2_with fail
    go_ret
    obtain ⟨q0, q1⟩ := and255 hs3 hs4
    exact ⟨_, rfl, q0, q1, H2.out.ext (by repeat (first | exact Ext.refl _ | refine Ext.lift ?_ _ | refine Ext.alloc ?_ _)), M2.out.trans (Moved.grow (by repeat (first | exact Ext.refl _ | refine Ext.lift ?_ _ | refine Ext.alloc ?_ _)))⟩
set_option maxRecDepth 100000 in
set_option maxHeartbeats 2000000 in
theorem pick_any (w : World) (sb : Nat) (a : Option Addr) (cap : Nat) (code : List Int) (n : Nat) (H : Src w sb a cap code n) (hn : n ≤ 900000000) (m : Int) (hm : m ≤ 65536) :
    Calls Tryd.prog 25 #[.pointer (some ⟨sb, 0, none⟩), .int .i64 m] w fun e w' => ∃ (r : Int) (k : Nat), e = .returned (.int .i64 r) ∧ 0 ≤ r ∧ (1 ≤ m → r < m) ∧ k ≤ 2 ∧ Src w' sb a cap code (n + k) ∧ Moved sb w w' := by
  have HS := Lib.hid H
  clear H
  rcases Int.lt_or_le 1 m with h1 | h1
  case inr =>
    go_enter Tryd.func25, Tryd.ntmps25
    go_wp2_with fail
    go_ret
    exact ⟨0, 0, rfl, Int.le_refl _, fun h => by omega, by omega, HS.out, Moved.refl _ _⟩
  rcases Int.lt_or_le 200 m with h2 | h2
  · go_enter Tryd.func25, Tryd.ntmps25
    go_wp2_with fail
    refine (next_any w sb a cap code n HS.out (by omega)).mono ?_
    rintro e w1 ⟨r1, rfl, p0, p1, S1, M1⟩
    have S1 := Lib.hid S1
    have M1 := Lib.hid M1
    go_wp2_with fail
    refine (next_any w1 sb a cap code (n + 1) S1.out (by omega)).mono ?_
    rintro e w2 ⟨r2, rfl, p2, p3, S2, M2⟩
    have S2 := Lib.hid S2
    have M2 := Lib.hid (M1.out.trans M2)
    go_wp2_with fail
    go_ret
    refine ⟨_, 2, rfl, ?_, fun _ => ?_, by omega, S2.out, M2.out⟩
    · first | exact Int.emod_nonneg _ (by omega) | (rw [Int.tmod_eq_emod_of_nonneg (by omega)]; exact Int.emod_nonneg _ (by omega))
    · first | exact Int.emod_lt_of_pos _ (by omega) | (rw [Int.tmod_eq_emod_of_nonneg (by omega)]; exact Int.emod_lt_of_pos _ (by omega))
  · go_enter Tryd.func25, Tryd.ntmps25
    go_wp2_with fail
    refine (next_any w sb a cap code n HS.out (by omega)).mono ?_
    rintro e w1 ⟨r1, rfl, p0, p1, S1, M1⟩
    have S1 := Lib.hid S1
    have M1 := Lib.hid M1
    go_wp2_with fail
    go_ret
    refine ⟨_, 1, rfl, ?_, fun _ => ?_, by omega, S1.out, M1.out⟩
    · first | exact Int.emod_nonneg _ (by omega) | (rw [Int.tmod_eq_emod_of_nonneg (by omega)]; exact Int.emod_nonneg _ (by omega))
    · first | exact Int.emod_lt_of_pos _ (by omega) | (rw [Int.tmod_eq_emod_of_nonneg (by omega)]; exact Int.emod_lt_of_pos _ (by omega))
set_option maxRecDepth 100000 in
theorem l00From_any (w : World) (a : Option Addr) (cap : Nat) (code : List Int) (H : ByteAt w a code) (hr : ∀ k, k < code.length → 0 ≤ nth code k ∧ nth code k ≤ 255) (hf : code.length ≤ 1048576) :
    Calls Tryd.prog 13 #[.slice a code.length cap] w fun e w' => ∃ sb, e = .returned (.pointer (some ⟨sb, 0, none⟩)) ∧ w.heap.size ≤ sb ∧ Src w' sb a cap code 0 ∧ Ext w w' := by
  have HB := Lib.hid H
  have HR := Lib.hid hr
  have HA : Hid (∀ p, a = some p → 0 < code.length → p.block < w.heap.size) := fun p hp h0 => by
    obtain ⟨b, o, e, hb, -⟩ := H 0 h0
    rw [hp] at e
    simp only [Option.some.injEq] at e
    rw [e]; exact hb
  clear H hr
  go_enter Tryd.func13, Tryd.ntmps13
  go_wp2_with fail
  go_ret
  refine ⟨_, rfl, Nat.le_refl _, ⟨Blk.new _ _ _, by rw [cell_new]; rfl, by rw [cell_new]; rfl, ⟨0, by rw [cell_new]; rfl, by omega, by omega⟩, RowsAt.ext HB.out ((Ext.refl _).alloc _), HR.out, hf, fun p hp h0 => ?_⟩, (Ext.refl _).alloc _⟩
  have := HA.out p hp h0
  omega
end Go.Proofs.YtmkmmenkjbmppaaDoor
