/- The areas that the reference draws: the walks. -/
import Derived.Test.YtccbcjopmkmipaaDoorDrawA
namespace Go.Proofs.YtccbcjopmkmipaaDoor
open Go.RowKit
theorem elArea : El Tryd.prog 24 37 3 32 := El.mk' Tryd.underlying24 (by kernel_rfl) (by decide)
theorem oneArea : ∀ (x : Area) (j : Nat), j < 3 → (Area.cell x j).oneCell' = true := fun x j hj => by rcases (show j = 0 ∨ j = 1 ∨ j = 2 by omega) with rfl | rfl | rfl <;> rfl
set_option maxRecDepth 100000 in
set_option maxHeartbeats 8000000 in
theorem l25Draw_any (w : World) (sb : Nat) (a : Option Addr) (cap : Nat) (code : List Int) (n : Nat) (H : Src w sb a cap code n) (hn : n ≤ 700000000) :
    Calls Tryd.prog 17 #[.pointer (some ⟨sb, 0, none⟩)] w fun e w' => ∃ (o : Option Addr) (oc : Nat) (l : List Area), e = .returned (.slice o l.length oc) ∧ l.length ≤ oc ∧ Drawn l 5 ∧ AreaAt w' o l ∧ Moved sb w w' := by
  have hlt0 := H.lt
  have HBY := Lib.hid H.bytes
  have hO := Lst.new (T := 37) (n := 3) (cell := Area.cell) (α := Area) (w.alloc (.cells #[.string (nmA 0), .string (nmA 1), .string (nmA 2), .string (nmA 3), .string (nmA 4)] 9)) (w.heap.size + 1) (by rw [size_new]; exact Nat.le_refl _)
  rw [size_new] at hO
  have hE : Ext w ((w.alloc (.cells #[.string (nmA 0), .string (nmA 1), .string (nmA 2), .string (nmA 3), .string (nmA 4)] 9)).alloc (.cells #[] 37)) := ((Ext.refl w).alloc _).alloc _
  have hN : Hid (∀ j, j < 5 → ((w.alloc (.cells #[.string (nmA 0), .string (nmA 1), .string (nmA 2), .string (nmA 3), .string (nmA 4)] 9)).alloc (.cells #[] 37)).cell? ⟨w.heap.size, j, none⟩ = some (.string (nmA j))) := fun j hj => by
    refine ((Ext.refl _).alloc _).cell ?_
    rw [cell_new]
    rcases nat5 hj with rfl | rfl | rfl | rfl | rfl <;> rfl
  have hO := Lib.hid hO
  have hE := Lib.hid hE
  have HS := Lib.hid H
  clear H
  go_enter Tryd.func17, Tryd.ntmps17
  go_wp2_with fail
  go_loopw [4, 5] (fun o i wr => ∃ (k q : Nat) (L : List Area), k ≤ 5 ∧ i = .int .i64 k ∧ q ≤ 6 * k ∧ Hid (Drawn L k) ∧ Hid (Lst 37 3 Area.cell wr (w.heap.size + 1) o L) ∧ Hid (Src wr sb a cap code (n + q)) ∧ Hid (Moved sb w wr) ∧ Hid (∀ j, j < 5 → wr.cell? ⟨w.heap.size, j, none⟩ = some (.string (nmA j)))) (fun _ i _ => 5 - (intOf i).toNat)
  case atStart => exact ⟨0, 0, [], by omega, rfl, by omega, Drawn.nil, hO.out, HS.out.ext hE.out, Moved.grow hE.out, hN.out⟩
  case round =>
    clear hO hE HS hN
    obtain ⟨k, q, L, hk, rfl, hq, HD, HO, HS, HM, HN⟩ := hrel
    obtain ⟨ad, oc, rfl, hoc, hom, hR, -⟩ := HO.out.shape
    have hR := Lib.hid hR
    have hLl := HD.out.len
    have hsz := HM.out.size
    have hsl := HS.out.lt
    by_cases hlt : k < 5
    · have d0 := HN.out k hlt
      have hb0 := block_lt d0
      have HD1 := Lib.hid HD.out.more
      go_wp2_with fail
      refine (pick_any wr sb a cap code (n + q) HS.out (by omega) 3 (by omega)).mono ?_
      rintro e W1 ⟨r1, k1, rfl, p0, p1, hk1, S1, M1⟩
      have S1 := Lib.hid S1
      have d1 := M1.cell (p := ⟨w.heap.size, k, none⟩) (by show w.heap.size ≠ sb; omega) d0
      have HN1 : Hid (∀ j, j < 5 → W1.cell? ⟨w.heap.size, j, none⟩ = some (.string (nmA j))) := fun j hj => M1.cell (by show w.heap.size ≠ sb; omega) (HN.out j hj)
      have HO1 := Lib.hid (HO.out.moved M1 (by omega))
      have HM1 := Lib.hid (HM.out.trans M1)
      have hb1 := block_lt d1
      clear d0 hb0 HS HO HM HN hR p1 M1
      rcases Int.lt_or_le 0 r1 with hr | hr
      · go_wp2_with fail
        refine (l25DrawOne_any W1 sb a cap code (n + q + k1) S1.out (by omega) (nmA k)).mono ?_
        rintro e W2 ⟨c, m, k2, rfl, c0, c1, m0, m1, hk2, S2, M2⟩
        have HD2 := Lib.hid (HD.out.push hlt c0 c1 m0 m1)
        have hx := Lib.hid ((Ext.refl W2).alloc (.cells #[.string (nmA k), .int .i64 c, .int .i64 m] 37))
        have HO2 := Lib.hid ((HO1.out.moved M2 (by omega)).ext hx.out)
        have HR2 : Hid (AreaAt (W2.alloc (.cells #[.string (nmA k), .int .i64 c, .int .i64 m] 37)) (some ⟨W2.heap.size, 0, none⟩) [⟨nmA k, c, m⟩]) :=
          rows_new (n := 3) (cell := Area.cell) (T := 37) W2 #[.string (nmA k), .int .i64 c, .int .i64 m] ⟨nmA k, c, m⟩ (fun j hj => by rcases (show j = 0 ∨ j = 1 ∨ j = 2 by omega) with rfl | rfl | rfl <;> rfl)
        have S3 := Lib.hid (S2.ext hx.out)
        have HM2 := Lib.hid ((HM1.out.trans M2).more hx.out)
        have HN2 : Hid (∀ j, j < 5 → (W2.alloc (.cells #[.string (nmA k), .int .i64 c, .int .i64 m] 37)).cell? ⟨w.heap.size, j, none⟩ = some (.string (nmA j))) := fun j hj => hx.out.cell (M2.cell (by show w.heap.size ≠ sb; omega) (HN1.out j hj))
        have hz2 : w.heap.size + 1 ≤ W2.heap.size := by have := M2.size; omega
        clear d1 hb1 HO1 HM1 HN1 S1 S2 M2 HD HD1 hx
        try dsimp only
        repeat (first | (at_builtin; refine Hid.out ?_) | go_values | go_skip | go_guarded | go_step | go_upon | go_back)
        refine Lib.hid ?_
        refine wpList_pushL elArea oneArea rfl _ _ rfl (w.heap.size + 1) _ L (by rfl) HO2.out _ 1 1 [⟨nmA k, c, m⟩] rfl (by rfl) HR2.out (by omega) (by omega) (by rw [size_new]; omega) ?_
        intro v' w3 HL hs3 hg3
        have HL3 := Lib.hid HL
        have hrow : ∀ g, (Value.slice ad L.length oc).ownBlock = some g → w.heap.size + 1 ≤ g := fun g e => ownBlock_le HO2.out g e
        have S4 := Lib.hid (show Src w3 sb a cap code (n + q + k1 + k2) from S3.out.grown hg3 hrow (by omega) HBY.out (Nat.le_succ _))
        have HM3 := Lib.hid (HM2.out.grown hg3 (fun g e => by have := hrow g e; omega))
        have HN3 : Hid (∀ j, j < 5 → w3.cell? ⟨w.heap.size, j, none⟩ = some (.string (nmA j))) := fun j hj => cell_grown (HN2.out j hj) hg3 (fun e => by have := hrow _ e; omega)
        clear HL hs3 hg3 hrow HO2 HR2 S3 HM2 HN2
        go_wp2_with fail
        go_roundw
        case rel => exact ⟨k + 1, q + k1 + k2, L ++ [(⟨nmA k, c, m⟩ : Area)], by omega, by go_num, by omega, HD2.out, HL3.out, by rw [← Nat.add_assoc, ← Nat.add_assoc]; exact S4.out, HM3.out, HN3.out⟩
        case measure => simp [intOf]; omega
      · go_wp2_with fail
        go_roundw
        case rel => exact ⟨k + 1, q + k1, L, by omega, by go_num, by omega, HD1.out, HO1.out, by rw [← Nat.add_assoc]; exact S1.out, HM1.out, HN1.out⟩
        case measure => simp [intOf]; omega
    · obtain rfl : k = 5 := by omega
      clear HO HS HN
      go_wp2_with fail
      go_ret
      exact ⟨ad, oc, L, rfl, hoc, HD.out, hR.out, HM.out⟩
end Go.Proofs.YtccbcjopmkmipaaDoor
