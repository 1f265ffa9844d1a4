/- KindsUsed: what the program and the reference hand back. -/
import Derived.Test.YtahfjoadpipghaaPut
import Derived.Test.YtahfjoadpipghaaSortI
import Derived.Test.YtahfjoadpipghaaTestV
namespace Go.Proofs.Ytahfjoadpipghaa
open Go.RowKit
def kindsTo (l : List Test) (k : Nat) : List Int := (l.take k).map Test.kind
theorem kindsTo_succ {l : List Test} {k : Nat} (h : k < l.length) : kindsTo l (k + 1) = kindsTo l k ++ [(nth l k).kind] := by
  unfold kindsTo; rw [List.take_succ_eq_append_getElem h, List.map_append, nth_eq l k h]; rfl
theorem kindsTo_len {l : List Test} {k : Nat} (h : k ≤ l.length) : (kindsTo l k).length = k := by unfold kindsTo; rw [List.length_map, List.length_take]; omega
theorem kindsTo_all (l : List Test) : kindsTo l l.length = l.map Test.kind := by unfold kindsTo; rw [List.take_length]
def kindsC (l : List Test) : Int := if testList l = true then 0 else 1
def kindsV (l : List Test) : List Int := if testList l = true then putAll ltI [] (l.map Test.kind) else []
theorem kindsV_len (l : List Test) : (kindsV l).length ≤ 16 := by
  unfold kindsV; split
  · rename_i h
    have := length_putAll (lt := ltI) (l.map Test.kind) []
    have h2 := testList_len h
    rw [List.length_map] at this
    simp only [List.length_nil] at this
    omega
  · simp
theorem kinds_bad {l : List Test} (h : testList l = false) : kindsC l = 1 ∧ kindsV l = [] := ⟨if_neg (by rw [h]; decide), if_neg (by rw [h]; decide)⟩
theorem kinds_good {l : List Test} (h : testList l = true) : kindsC l = 0 ∧ kindsV l = putAll ltI [] (kindsTo l l.length) := ⟨if_pos h, by rw [kindsTo_all]; exact if_pos h⟩
set_option maxRecDepth 100000 in
set_option maxHeartbeats 4000000 in
theorem specKindsUsed_any (w : World) (a : Option Addr) (cap : Nat) (l : List Test) (H : TestAt w a l) (hsz : ∀ k, k < l.length → (nth l k).Small) (hn : l.length ≤ 1048576) (hcap : l.length ≤ cap) :
    Calls Try.prog 9 #[.slice a l.length cap] w (OutR 1 (fun (x : Int) (_ : Nat) => Value.int .i64 x) w (kindsV l) [.int .i64 (kindsC l)]) := by
  have _ := hcap
  have HA := Lib.hid H
  have HV := Lib.hid fun (w' : World) (he : Ext w w') => l08Ok_any a cap l w' (H.ext he) hsz hn
  clear H hsz
  cases h1 : testList l
  · have hv := Lib.hid (kinds_bad h1)
    rw [h1] at HV
    clear h1
    go_enter Try.func9, Try.ntmps9
    go_wp2_with (go_at_call 42; refine (HV.out _ (by repeat (first | exact Ext.refl _ | refine Ext.lift ?_ _ | refine Ext.alloc ?_ _))).mono ?_; rintro e w' ⟨rfl, y, rfl⟩)
    go_ret2
    rw [hv.out.1, hv.out.2]
    exact (OutS.nil (T := 2) none 0 rfl (by repeat (first | exact Ext.refl _ | refine Ext.lift ?_ _ | refine Ext.alloc ?_ _))).read
  rw [h1] at HV
  have hv := Lib.hid (kinds_good h1)
  have hl16 := testList_len h1
  clear h1
  go_enter Try.func9, Try.ntmps9
  go_wp2_with (go_at_call 42; refine (HV.out _ (by repeat (first | exact Ext.refl _ | refine Ext.lift ?_ _ | refine Ext.alloc ?_ _))).mono ?_; rintro e w' ⟨rfl, y, rfl⟩)
  clear HV
  go_loopw [4, 5] (fun o i wr => ∃ (j : Nat) (a' : Option Addr) (cap' : Nat) (acc : List Int), j ≤ l.length ∧ i = .int .i64 j ∧ o = .slice a' acc.length cap' ∧ acc.length ≤ cap' ∧ acc.length ≤ j ∧ Hid (acc = putAll ltI [] (kindsTo l j)) ∧ Hid (IntAt wr a' acc) ∧ Ext w wr) (fun _ i _ => l.length - (intOf i).toNat)
  case atStart => exact ⟨0, _, 0, [], Nat.zero_le _, rfl, rfl, Nat.le_refl _, Nat.le_refl _, rfl, (show IntAt _ _ _ from RowsAt.nil), (by repeat (first | exact Ext.refl _ | refine Ext.lift ?_ _ | refine Ext.alloc ?_ _))⟩
  case round =>
    obtain ⟨j, a', cap', acc, hj, rfl, rfl, hc', hal, hst, HR, he⟩ := hrel
    by_cases hlt : j < l.length
    · obtain ⟨b, off, rfl⟩ := HA.out.base hlt
      obtain ⟨hb, c0, c1, c2, c3, c4⟩ := Test.at (HA.out.ext he) j hlt
      have HP := Lib.hid (l00Put_any wr a' cap' acc (nth l j).kind HR.out (by omega))
      have hpl := length_putL (lt := ltI) (nth l j).kind acc
      have hst2 : Hid (putL ltI (nth l j).kind acc = putAll ltI [] (kindsTo l (j + 1))) := by
        show _ = _; rw [kindsTo_succ hlt, putAll_snoc, ← hst.out]
      obtain ⟨B, hB⟩ : ∃ B, B = putL ltI (nth l j).kind acc := ⟨_, rfl⟩
      rw [← hB] at HP hpl hst2
      have hE := Lib.hid he
      clear hst hB he HR
      go_wp2_with fail
      refine HP.out.mono ?_
      rintro e w2 ⟨a2, cap2, rfl, hc2, -, HR2, E2⟩
      have HR3 := Lib.hid HR2
      have hE2 := Lib.hid (hE.out.trans E2)
      clear HR2 E2 HP
      go_wp2_with fail
      go_roundw
      case rel => exact ⟨j + 1, a2, cap2, B, by omega, by go_num, rfl, hc2, by omega, hst2.out, HR3.out, hE2.out⟩
      case measure => simp [intOf]; omega
    · obtain rfl : j = l.length := by omega
      have hv2 : Hid (kindsC l = 0 ∧ kindsV l = acc) := ⟨hv.out.1, by rw [hv.out.2, ← hst.out]⟩
      clear hst hv
      have hE := Lib.hid he
      clear he
      go_wp2_with fail
      go_ret2
      rw [hv2.out.1, hv2.out.2]
      exact ⟨a', cap', rfl, hc', HR.out, hE.out⟩
set_option maxRecDepth 100000 in
set_option maxHeartbeats 4000000 in
theorem implKindsUsed_any (w : World) (a : Option Addr) (cap : Nat) (l : List Test) (H : TestAt w a l) (hsz : ∀ k, k < l.length → (nth l k).Small) (hn : l.length ≤ 1048576) (hcap : l.length ≤ cap) :
    Calls Try.prog 11 #[.slice a l.length cap] w (OutS 2 1 (fun (x : Int) (_ : Nat) => Value.int .i64 x) w (kindsV l) [.int .i64 (kindsC l)]) := by
  have _ := hcap
  have HA := Lib.hid H
  have HV := Lib.hid fun (w' : World) (he : Ext w w') => ValidTests_any a cap l w' (H.ext he) hsz hn
  clear H hsz
  cases h1 : testList l
  · have hv := Lib.hid (kinds_bad h1)
    rw [h1] at HV
    clear h1
    go_enter Try.func11, Try.ntmps11
    go_wp2_with (go_at_call 45; refine (HV.out _ (by repeat (first | exact Ext.refl _ | refine Ext.lift ?_ _ | refine Ext.alloc ?_ _))).mono ?_; rintro e w' ⟨rfl, y, rfl⟩)
    go_ret2
    rw [hv.out.1, hv.out.2]
    exact OutS.nil none 0 rfl (by repeat (first | exact Ext.refl _ | refine Ext.lift ?_ _ | refine Ext.alloc ?_ _))
  rw [h1] at HV
  have hv := Lib.hid (kinds_good h1)
  have hl16 := testList_len h1
  clear h1
  go_enter Try.func11, Try.ntmps11
  go_wp2_with (go_at_call 45; refine (HV.out _ (by repeat (first | exact Ext.refl _ | refine Ext.lift ?_ _ | refine Ext.alloc ?_ _))).mono ?_; rintro e w' ⟨rfl, y, rfl⟩)
  clear HV
  go_loopw [4, 12] (fun o i wr => ∃ (j : Nat) (acc : List Int), j ≤ l.length ∧ i = .int .i64 j ∧ acc.length = j ∧ Hid (acc = kindsTo l j) ∧ Hid (Lst 2 1 celI wr w.heap.size o acc) ∧ Ext w wr) (fun _ i _ => l.length - (intOf i).toNat)
  case atStart => exact ⟨0, [], Nat.zero_le _, rfl, rfl, rfl, Lst.nil _ _, (by repeat (first | exact Ext.refl _ | refine Ext.lift ?_ _ | refine Ext.alloc ?_ _))⟩
  case round =>
    obtain ⟨j, acc, hj, rfl, hal, hst, HL, he⟩ := hrel
    by_cases hlt : j < l.length
    · obtain ⟨b, off, rfl⟩ := HA.out.base hlt
      obtain ⟨hb, c0, c1, c2, c3, c4⟩ := Test.at (HA.out.ext he) j hlt
      obtain ⟨W, hW⟩ : ∃ W, W = wr.alloc (.cells #[.int .i64 (nth l j).kind, .int .i64 (nth l j).score, .int .i64 (nth l j).quality, .int .i64 (nth l j).depth, .int .i64 (nth l j).hour] 48) := ⟨_, rfl⟩
      have hWE : Ext wr W := by rw [hW]; exact (Ext.refl wr).alloc _
      have x0 : W.cell? ⟨wr.heap.size, 0, none⟩ = some (.int .i64 (nth l j).kind) := by rw [hW, cell_new]; rfl
      have hxl : wr.heap.size < W.heap.size := by rw [hW, size_new]; omega
      have hxs : W.heap.size = wr.heap.size + 1 := by rw [hW, size_new]
      have hst2 : Hid (acc ++ [(nth l j).kind] = kindsTo l (j + 1)) := by show _ = _; rw [kindsTo_succ hlt, ← hst.out]
      have hE := Lib.hid (he.trans hWE)
      have HL2 := Lib.hid (HL.out.ext hWE)
      have L3 := Lib.hid (HL2.out.ext ((Ext.refl W).alloc (.cells #[.int .i64 (nth l j).kind] 2)))
      have HR := Lib.hid (rows_int (T := 2) W (nth l j).kind rfl)
      have hz4 : w.heap.size ≤ (W.alloc (.cells #[.int .i64 (nth l j).kind] 2)).heap.size := by rw [size_new]; have := hE.out.size; omega
      have E4 := Lib.hid (hE.out.alloc (.cells #[.int .i64 (nth l j).kind] 2))
      have hW' := Lib.hid hW
      clear HL HL2 hE he hWE hst
      try dsimp only
      repeat (first | (at_builtin; refine Hid.out ?_) | go_values | go_skip | go_guarded | go_step | go_upon | go_back)
      refine Lib.hid ?_
      rw [← hW, ← hxs]
      refine wpList_pushL elI oneI rfl _ _ rfl w.heap.size _ _ (by rfl) L3.out _ 1 1 [(nth l j).kind] rfl (by rfl) HR.out (by first | omega | (simp; omega)) (by first | omega | (simp; omega)) hz4 ?_
      intro v' w3 HL3 hs3 _
      have L5 := Lib.hid HL3
      have E5 := Lib.hid (hs3.ext E4.out (Nat.le_refl _))
      clear HL3 hs3 L3 HR E4 hz4
      clear hW hW' hxs hxl x0 c0 c1 c2 c3 c4 hb
      go_wp2_with fail
      go_roundw
      case rel => exact ⟨j + 1, acc ++ [(nth l j).kind], by omega, by go_num, by rw [List.length_append, hal]; rfl, hst2.out, L5.out, E5.out⟩
      case measure => simp [intOf]; omega
    · obtain rfl : j = l.length := by omega
      obtain ⟨a', cap', rfl, hc', -, -, -⟩ := HL.out.shape
      have hv2 : Hid (kindsC l = 0 ∧ kindsV l = Lib.compact (sortI acc)) := ⟨hv.out.1, by
        rw [hv.out.2, ← hst.out]
        refine (sort_compact slo_ltI (sortI_perm acc) ((sortI_up acc).imp fun h => ?_)).symm
        rw [ltI_not]; exact h⟩
      have HS := Lib.hid (SortI_any wr w.heap.size a' cap' acc HL.out (by omega))
      have hE := Lib.hid he
      have hal16 : acc.length ≤ 16 := by omega
      clear hst hv HL he hal
      go_wp2_with fail
      refine HS.out.mono ?_
      rintro e w2 ⟨rfl, HL2, -, hs2⟩
      have hE2 := Lib.hid (hs2.ext hE.out (Nat.le_refl _))
      have HL2' : Hid (Lst 2 1 celI w2 w.heap.size (.slice a' (sortI acc).length cap') (sortI acc)) := by show Lst _ _ _ _ _ _ _; rw [sortI_len]; exact HL2
      have HC := CompactI_any w2 w.heap.size a' cap' (sortI acc) HL2'.out (by rw [sortI_len]; omega)
      rw [sortI_len] at HC
      have HCh := Lib.hid HC
      clear HC HL2 hs2 HS hE HL2'
      go_wp2_with fail
      refine HCh.out.mono ?_
      rintro e w3 ⟨rfl, HL3, -, hs3⟩
      have hE3 := Lib.hid (hs3.ext hE2.out (Nat.le_refl _))
      obtain ⟨a3, cap3, e3, hc3, -, hR3, hO3⟩ := HL3.shape
      simp only [Value.slice.injEq, true_and] at e3
      obtain ⟨rfl, rfl⟩ := e3
      have HR3 := Lib.hid hR3
      have HO3 := Lib.hid hO3
      clear hR3 hO3 HL3 hs3 HCh hE2
      go_wp2_with fail
      go_ret2
      rw [hv2.out.1, hv2.out.2]
      exact ⟨a', cap', rfl, hc3, HO3.out, HR3.out, hE3.out⟩
end Go.Proofs.Ytahfjoadpipghaa
