/- A history with a further version: what the program's withVersion and the reference's l27Own and l27Add hand back. -/
import Derived.Test.YtbcpgdidajapoaaDoorCommitP
import Derived.Test.YtbcpgdidajapoaaDoorVGrow
import Derived.Test.YtbcpgdidajapoaaDoorComA
import Derived.Deep.RegionLaw
namespace Go.Proofs.YtbcpgdidajapoaaDoor
open Go.RowKit
theorem OVer.low {w : World} {base base' : Nat} {a : Option Addr} {l : List Version} (h : OVer w base a l) (hb : base' ≤ base) : OVer w base' a l := ⟨h.own.low hb, h.slc, fun k hk => (h.inn k hk).low hb, h.far, h.apart⟩
theorem VRes.low {w : World} {base base' : Nat} {a : Option Addr} {l : List Version} (h : VRes w base a l) (hb : base' ≤ base) : VRes w base' a l := ⟨h.at', h.own.low hb⟩
theorem strips_take {l : List Version} {j : Nat} (h : j < l.length) : (strips l).take (j + 1) = (strips l).take j ++ [(nth l j).strip] := by
  rw [List.take_succ_eq_append_getElem (by rw [strips_len]; exact h), ← nth_strips h, nth_eq _ _ (by rw [strips_len]; exact h)]
/-- A version, its state in an elder block, has been appended: the list can be read. -/
theorem VGrow.snoc_at {w W w3 : World} {base : Nat} {v v3 : Value} {l : List Version} {x : Version} (h : VGrow w base v l) (hE : Ext w W) (hR : SettingAt W x.addr x.state) (hcp : x.state.length ≤ x.cap) (hlow : ∀ g o s, ownA x.state.length x.addr = some ⟨g, o, s⟩ → g < base)
    (hL : Lst 48 4 Version.cell w3 base v3 (l ++ [x])) (hgr : W.grownBy w3 v.ownBlock) : ∃ a cap, v3 = .slice a (l ++ [x]).length cap ∧ (l ++ [x]).length ≤ cap ∧ VersAt w3 a (l ++ [x]) := by
  obtain ⟨a, cap, e, hc, -, hr, -⟩ := hL.shape
  have hsp : ∀ k, k < (l ++ [x]).length → k < l.length ∨ k = l.length := fun k hk => by rw [List.length_append] at hk; simp only [List.length_cons, List.length_nil] at hk; omega
  refine ⟨a, cap, e, hc, ⟨hr, fun k hk => ?_, fun k hk => ?_⟩⟩
  · rcases hsp k hk with h1 | rfl
    · rw [nth_pre h1]; exact RowsAt.grownO (RowsAt.ext (h.row k h1) hE) hgr (h.far k h1)
    · rw [nth_last]; exact RowsAt.grownO hR hgr fun g o s e e2 => by have := hlow g o s e; have := h.lst.ge _ e2; omega
  · rcases hsp k hk with h1 | rfl
    · rw [nth_pre h1]; exact h.cap k h1
    · rw [nth_last]; exact hcp
set_option maxRecDepth 100000 in
set_option maxHeartbeats 4000000 in
theorem withVersion_any (w : World) (a : Option Addr) (cap : Nat) (l : List Version) (H : VersAt w a l) (hl : l.length ≤ 32) (hin : ∀ k, k < l.length → (nth l k).state.length ≤ 1000) (p : Int) (m : ByteArray) (sa : Option Addr) (sc : Nat) (s : List Setting) (HS : SettingAt w sa s) (hs : s.length ≤ 1000) (hsc : s.length ≤ sc) :
    Calls Tryd.prog 38 #[.slice a l.length cap, .int .i64 p, .string m, .slice sa s.length sc] w (OutVS w (addVers (strips l) p m s) [.int .i64 (addCode (strips l))]) := by
  by_cases h32 : l.length = 32
  · have hv : Hid (addVers (strips l) p m s = [] ∧ addCode (strips l) = 5) := ⟨if_pos (by rw [strips_len]; exact h32), if_pos (by rw [strips_len]; exact h32)⟩
    have hd : ((l.length : Int) == 32) = true := by rw [h32]; rfl
    clear H HS h32 hin
    go_enter Tryd.func38, Tryd.ntmps38
    go_wp2_with fail
    go_ret2
    rw [hv.out.1, hv.out.2]
    exact OutVS.nil none 0 rfl (by repeat (first | exact Ext.refl _ | refine Ext.lift ?_ _ | refine Ext.alloc ?_ _))
  have hd : ((l.length : Int) == 32) = false := by rw [beq_eq_false_iff_ne]; omega
  have hv : Hid (addVers (strips l) p m s = strips l ++ [⟨(l.length : Int) + 1, p, m, s⟩] ∧ addCode (strips l) = 0) := ⟨by unfold addVers; rw [if_neg (by rw [strips_len]; exact h32), strips_len], if_neg (by rw [strips_len]; exact h32)⟩
  obtain ⟨x, hx⟩ : ∃ x : Version, x = ⟨(l.length : Int) + 1, p, m, sa, sc, s⟩ := ⟨_, rfl⟩
  obtain ⟨L, hL⟩ : ∃ L, L = l ++ [x] := ⟨_, rfl⟩
  have hsp : ∀ k, k < L.length → k < l.length ∨ k = l.length := fun k hk => by rw [hL, List.length_append] at hk; simp only [List.length_cons, List.length_nil] at hk; omega
  have hL33 : L.length ≤ 33 := by rw [hL, List.length_append]; simp; omega
  have hLs : Hid (strips L = addVers (strips l) p m s) := by show _ = _; rw [hL, strips_append, hv.out.1, hx]; rfl
  have hLin : Hid (∀ k, k < L.length → (nth L k).state.length ≤ 1000) := fun k hk => by
    rcases hsp k hk with h1 | rfl
    · rw [hL, nth_pre h1]; exact hin k h1
    · rw [hL, nth_last, hx]; exact hs
  have HVA : Hid (∀ w2 a2, Ext w w2 → RowsAt 4 Version.cell w2 a2 L → VersAt w2 a2 L) := fun w2 a2 he hr => ⟨hr, fun k hk => by
    rcases hsp k hk with h1 | rfl
    · rw [hL, nth_pre h1]; exact RowsAt.ext (H.inn k h1) he
    · rw [hL, nth_last, hx]; exact RowsAt.ext HS he, fun k hk => by
    rcases hsp k hk with h1 | rfl
    · rw [hL, nth_pre h1]; exact H.cap k h1
    · rw [hL, nth_last, hx]; exact hsc⟩
  have HC := Lib.hid (CloneVersion_any a cap l w H.row (by omega))
  have R1 : Hid (∀ w1 : World, RowsAt 4 Version.cell (w1.alloc (.cells #[.int .i64 ((l.length : Int) + 1), .int .i64 p, .string m, .slice sa s.length sc] 48)) (some ⟨w1.heap.size, 0, none⟩) [x]) := fun w1 => rows_new w1 _ x (fun j hj => by
    rw [hx]
    rcases (show j = 0 ∨ j = 1 ∨ j = 2 ∨ j = 3 by omega) with rfl | rfl | rfl | rfl <;> rfl)
  have hLh := Lib.hid hL
  clear H HS h32 hin hx hsp hL
  go_enter Tryd.func38, Tryd.ntmps38
  go_wp2_with fail
  refine HC.out.mono ?_
  rintro e w1 ⟨v1, rfl, HL1, E1⟩
  have L1 := Lib.hid (HL1.ext ((Ext.refl w1).alloc (.cells #[.int .i64 ((l.length : Int) + 1), .int .i64 p, .string m, .slice sa s.length sc] 48)))
  have hz1 : w.heap.size ≤ (w1.alloc (.cells #[.int .i64 ((l.length : Int) + 1), .int .i64 p, .string m, .slice sa s.length sc] 48)).heap.size := by rw [size_new]; have := E1.size; omega
  have F1 := Lib.hid (E1.alloc (.cells #[.int .i64 ((l.length : Int) + 1), .int .i64 p, .string m, .slice sa s.length sc] 48))
  clear HL1 E1 HC
  try dsimp only
  repeat (first | (at_builtin; refine Hid.out ?_) | go_values | go_skip | go_guarded | go_step | go_upon | go_back)
  refine Lib.hid ?_
  refine wpList_pushL elVersion oneVersion rfl _ _ rfl w.heap.size _ l (by rfl) L1.out _ 1 1 [x] rfl (by rfl) (R1.out w1) (by omega) (by omega) hz1 ?_
  intro v2 w2 HL2 hs2 _
  rw [← hLh.out] at HL2
  obtain ⟨a2, cap2, rfl, hc2, hm2, hR2, -⟩ := HL2.shape
  have E2 := Lib.hid (hs2.ext F1.out (Nat.le_refl _))
  have VA := Lib.hid (HVA.out w2 a2 E2.out hR2)
  clear HL2 hs2 hR2 L1 R1 F1 HVA hz1
  go_wp2_with fail
  go_loopw [10, 28] (fun o i wr => ∃ (j : Nat) (acc : List Version), j ≤ L.length ∧ i = .int .i64 j ∧ acc.length = j ∧ Hid (strips acc = (strips L).take j) ∧ Hid (VGrow wr w2.heap.size o acc) ∧ Ext w2 wr) (fun _ i _ => L.length - (intOf i).toNat)
  case atStart => exact ⟨0, [], Nat.zero_le _, rfl, rfl, rfl, VGrow.none0 (Lst.nil _ _), Ext.refl _⟩
  case round =>
    obtain ⟨j, acc, hj, rfl, hal, hst, HG, he⟩ := hrel
    have hbw := he.size
    by_cases hlt : j < L.length
    · obtain ⟨b, off, rfl⟩ := VA.out.row.base hlt
      obtain ⟨hb, c0, c1, c2, c3⟩ := Version.at (VA.out.row.ext he) j hlt
      obtain ⟨W, hW⟩ : ∃ W, W = wr.alloc (.cells #[.int .i64 (nth L j).number, .int .i64 (nth L j).parent, .string (nth L j).memo, .slice (nth L j).addr (nth L j).state.length (nth L j).cap] 48) := ⟨_, rfl⟩
      have hWE : Ext wr W := by rw [hW]; exact (Ext.refl wr).alloc _
      have x0 : W.cell? ⟨wr.heap.size, 0, none⟩ = some (.int .i64 (nth L j).number) := by rw [hW, cell_new]; rfl
      have x1 : W.cell? ⟨wr.heap.size, 1, none⟩ = some (.int .i64 (nth L j).parent) := by rw [hW, cell_new]; rfl
      have x2 : W.cell? ⟨wr.heap.size, 2, none⟩ = some (.string (nth L j).memo) := by rw [hW, cell_new]; rfl
      have x3 : W.cell? ⟨wr.heap.size, 3, none⟩ = some (.slice (nth L j).addr (nth L j).state.length (nth L j).cap) := by rw [hW, cell_new]; rfl
      have hxl : wr.heap.size < W.heap.size := by rw [hW, size_new]; omega
      have hBl : Hid (Blk W wr.heap.size 48 4) := by show Blk _ _ _ _; rw [hW]; exact Blk.new _ _ _
      have hil := hLin.out j hlt
      have HC := Lib.hid (CloneSetting_any (nth L j).addr (nth L j).cap (nth L j).state W (RowsAt.ext (VA.out.inn j hlt) (he.trans hWE)) (by omega))
      have hW' := Lib.hid hW
      go_wp2_with fail
      rw [← hW]
      clear hW hW' c0 c1 c2 c3 hb
      refine HC.out.mono ?_
      rintro e W2 ⟨v3, rfl, HL3, E3⟩
      clear HC
      obtain ⟨sa3, sc3, rfl, hsc3, hsm3, hR3, hO3⟩ := HL3.shape
      have y0 := E3.cell x0
      have y1 := E3.cell x1
      have y2 := E3.cell x2
      have y3 := E3.cell x3
      have yl := Nat.lt_of_lt_of_le hxl E3.size
      have f3 := (hBl.out.ext E3).frozen 3
      have hC1 : Hid (Chg (some ⟨wr.heap.size, 0, none⟩) W2 (W2.setCell ⟨wr.heap.size, 3, none⟩ (.slice sa3 (nth L j).state.length sc3))) := (Chg.refl _ _).setc _ _
      have hne : Hid (∀ g o s, ownA (nth L j).state.length sa3 = some ⟨g, o, s⟩ → ∀ g' o' s', (some ⟨wr.heap.size, 0, none⟩ : Option Addr) = some ⟨g', o', s'⟩ → g ≠ g') := fun g o s e g' o' s' e' => by
        have := (hO3.block e).1
        simp only [Option.some.injEq, Addr.mk.injEq] at e'
        omega
      have hO4 : Hid (Own ((W2.setCell ⟨wr.heap.size, 3, none⟩ (.slice sa3 (nth L j).state.length sc3)).alloc (.cells #[.int .i64 (nth L j).number, .int .i64 (nth L j).parent, .string (nth L j).memo, .slice sa3 (nth L j).state.length sc3] 48)) wr.heap.size 57 2 sa3 (nth L j).state.length) := ((hO3.chg hC1.out hne.out).ext ((Ext.refl _).alloc _)).low (Nat.le_of_lt hxl)
      have hR4 : Hid (SettingAt ((W2.setCell ⟨wr.heap.size, 3, none⟩ (.slice sa3 (nth L j).state.length sc3)).alloc (.cells #[.int .i64 (nth L j).number, .int .i64 (nth L j).parent, .string (nth L j).memo, .slice sa3 (nth L j).state.length sc3] 48)) sa3 (nth L j).state) := RowsAt.ext (RowsAt.chgO hR3 hC1.out hne.out) ((Ext.refl _).alloc _)
      have hE4 : Hid (Ext wr ((W2.setCell ⟨wr.heap.size, 3, none⟩ (.slice sa3 (nth L j).state.length sc3)).alloc (.cells #[.int .i64 (nth L j).number, .int .i64 (nth L j).parent, .string (nth L j).memo, .slice sa3 (nth L j).state.length sc3] 48))) := ((hWE.trans E3).setCell (p := ⟨wr.heap.size, 3, none⟩) (Nat.le_refl _) _).alloc _
      have L4 := Lib.hid (HG.out.lst.ext hE4.out)
      obtain ⟨x', hx'⟩ : ∃ x' : Version, x' = ⟨(nth L j).number, (nth L j).parent, (nth L j).memo, sa3, sc3, (nth L j).state⟩ := ⟨_, rfl⟩
      have hx := Lib.hid hx'
      clear hx'
      have hszS : Hid ((W2.setCell ⟨wr.heap.size, 3, none⟩ (.slice sa3 (nth L j).state.length sc3)).heap.size = W2.heap.size) := by show _ = _; simp
      have hRw : Hid (RowsAt 4 Version.cell ((W2.setCell ⟨wr.heap.size, 3, none⟩ (.slice sa3 (nth L j).state.length sc3)).alloc (.cells #[.int .i64 (nth L j).number, .int .i64 (nth L j).parent, .string (nth L j).memo, .slice sa3 (nth L j).state.length sc3] 48)) (some ⟨W2.heap.size, 0, none⟩) [x']) := by
        have h9 := rows_new (n := 4) (cell := Version.cell) (T := 48) (W2.setCell ⟨wr.heap.size, 3, none⟩ (.slice sa3 (nth L j).state.length sc3)) #[.int .i64 (nth L j).number, .int .i64 (nth L j).parent, .string (nth L j).memo, .slice sa3 (nth L j).state.length sc3] x' (fun q hq => by
          rw [hx.out]
          rcases (show q = 0 ∨ q = 1 ∨ q = 2 ∨ q = 3 by omega) with rfl | rfl | rfl | rfl <;> rfl)
        rw [hszS.out] at h9
        exact h9
      clear hC1 hne hO3 hR3 HL3 E3 hBl hWE x0 x1 x2 x3 hxl
      try dsimp only
      repeat (first | (at_builtin; refine Hid.out ?_) | go_values | go_skip | go_guarded | go_step | go_upon | go_back)
      refine Lib.hid ?_
      refine wpList_pushAt elVersion oneVersion rfl _ _ rfl _ _ acc (by rfl) L4.out _ 1 1 [x'] rfl (by rfl) hRw.out (by omega) (by omega) (by have := hE4.out.size; omega) ?_
      intro v5 w5 HL5 hg5 hat5
      have G5 := Lib.hid (HG.out.push hbw hE4.out (by rw [hx.out]; exact hO4.out) (by rw [hx.out]; exact hR4.out) (by rw [hx.out]; exact hsc3) HL5 hg5 hat5)
      have hst5 : Hid (strips (acc ++ [x']) = (strips L).take (j + 1)) := by show _ = _; rw [strips_append, hst.out, strips_take hlt, hx.out]; rfl
      have hac5 : (acc ++ [x']).length = j + 1 := by rw [List.length_append, hal]; rfl
      have E5 : Hid (Ext w2 w5) := (he.trans hE4.out).grown hg5 (fun q hq => L4.out.ge q hq)
      clear HL5 hg5 hat5 HG L4 hRw hO4 hR4 hE4 he
      go_wp2_with fail
      go_roundw
      case rel => exact ⟨j + 1, acc ++ [x'], by omega, by go_num, hac5, hst5.out, G5.out, E5.out⟩
      case measure => simp [intOf]; omega
    · obtain rfl : j = L.length := by omega
      obtain ⟨a', cap', rfl, hc', hV⟩ := HG.out.out
      have hV2 := Lib.hid (hV.low E2.out.size)
      have hE := Lib.hid (E2.out.trans he)
      clear hV HG he
      go_wp2_with fail
      go_ret2
      rw [hv.out.2]
      exact ⟨a', cap', acc, rfl, by rw [hst.out, List.take_of_length_le (by rw [strips_len]; exact Nat.le_refl _), hLs.out], hc', hV2.out, hE.out⟩
end Go.Proofs.YtbcpgdidajapoaaDoor
