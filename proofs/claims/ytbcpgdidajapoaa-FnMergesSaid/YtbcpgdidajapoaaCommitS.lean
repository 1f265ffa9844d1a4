/- CommitState: what the program and the reference hand back. -/
import Derived.Test.YtbcpgdidajapoaaOwnV
namespace Go.Proofs.Ytbcpgdidajapoaa
open Go.RowKit
set_option maxRecDepth 100000 in
set_option maxHeartbeats 4000000 in
theorem l27Add_any (w : World) (a : Option Addr) (cap : Nat) (l : List Version) (H : VersAt w a l) (hl : l.length ≤ 32) (hin : ∀ k, k < l.length → (nth l k).state.length ≤ 1000) (p : Int) (m : ByteArray) (sa : Option Addr) (sc : Nat) (s : List Setting) (HS : SettingAt w sa s) (hs : s.length ≤ 1000) :
    Calls Try.prog 30 #[.slice a l.length cap, .int .i64 p, .string m, .slice sa s.length sc] w (OutVR w (addVers (strips l) p m s) [.int .i64 (addCode (strips l))]) := by
  by_cases h32 : l.length = 32
  · have hv : Hid (addVers (strips l) p m s = [] ∧ addCode (strips l) = 5) := ⟨if_pos (by rw [strips_len]; exact h32), if_pos (by rw [strips_len]; exact h32)⟩
    have hd : ((l.length : Int) == 32) = true := by rw [h32]; rfl
    clear H HS h32 hin
    go_enter Try.func30, Try.ntmps30
    go_wp2_with fail
    go_ret2
    rw [hv.out.1, hv.out.2]
    exact (OutVS.nil none 0 rfl (by repeat (first | exact Ext.refl _ | refine Ext.lift ?_ _ | refine Ext.alloc ?_ _))).read
  have hd : ((l.length : Int) == 32) = false := by rw [beq_eq_false_iff_ne]; omega
  have hv : Hid (addVers (strips l) p m s = strips l ++ [⟨(l.length : Int) + 1, p, m, s⟩] ∧ addCode (strips l) = 0) := ⟨by unfold addVers; rw [if_neg (by rw [strips_len]; exact h32), strips_len], if_neg (by rw [strips_len]; exact h32)⟩
  have HO := Lib.hid fun (W : World) (he : Ext w W) => l27Own_any W a cap l (H.ext he) hl hin
  have HN : Hid (Lst 74 2 Setting.cell (w.alloc (.cells #[] 74)) w.heap.size (.slice (some ⟨w.heap.size, 0, none⟩) 0 0) ([] : List Setting)) := Lst.new w w.heap.size (Nat.le_refl _)
  have HSs : Hid (SettingAt (w.alloc (.cells #[] 74)) sa s) := RowsAt.ext HS ((Ext.refl w).alloc _)
  have hzN : w.heap.size ≤ (w.alloc (.cells #[] 74)).heap.size := by rw [size_new]; omega
  clear H HS h32 hin
  go_enter Try.func30, Try.ntmps30
  try dsimp only
  repeat (first | (at_builtin; refine Hid.out ?_) | go_values | go_skip | go_guarded | go_step | go_upon | go_back)
  refine Lib.hid ?_
  refine wpList_pushA elSetting oneSetting rfl _ _ rfl w.heap.size _ [] (by rfl) HN.out _ s.length _ s rfl (by rfl) HSs.out (by simp; omega) (by simp; omega) hzN ?_
  intro v3 w3 HL3 hs3
  rw [List.nil_append] at HL3
  have E3 : Ext w w3 := hs3 w ((Ext.refl w).alloc _) (Nat.le_refl _)
  obtain ⟨sa3, sc3, rfl, hsc3, hsm3, hR3, hO3⟩ := HL3.shape
  obtain ⟨W, hW⟩ : ∃ W, W = w3.alloc (.cells #[.int .i64 ((l.length : Int) + 1), .int .i64 p, .string m, .slice sa3 s.length sc3] 58) := ⟨_, rfl⟩
  have hWE : Ext w3 W := by rw [hW]; exact (Ext.refl w3).alloc _
  have x0 : W.cell? ⟨w3.heap.size, 0, none⟩ = some (.int .i64 ((l.length : Int) + 1)) := by rw [hW, cell_new]; rfl
  have x1 : W.cell? ⟨w3.heap.size, 1, none⟩ = some (.int .i64 p) := by rw [hW, cell_new]; rfl
  have x2 : W.cell? ⟨w3.heap.size, 2, none⟩ = some (.string m) := by rw [hW, cell_new]; rfl
  have x3 : W.cell? ⟨w3.heap.size, 3, none⟩ = some (.slice sa3 s.length sc3) := by rw [hW, cell_new]; rfl
  have hxl : w3.heap.size < W.heap.size := by rw [hW, size_new]; omega
  have hwl : w.heap.size ≤ W.heap.size := (E3.trans hWE).size
  have EW := Lib.hid (E3.trans hWE)
  have RW : Hid (SettingAt W sa3 s) := RowsAt.ext hR3 hWE
  have hlow : Hid (∀ g o t, ownA s.length sa3 = some ⟨g, o, t⟩ → g < W.heap.size) := fun g o t e => Nat.lt_trans (hO3.block e).2 hxl
  obtain ⟨x, hx⟩ : ∃ x : Version, x = ⟨(l.length : Int) + 1, p, m, sa3, sc3, s⟩ := ⟨_, rfl⟩
  have hxh := Lib.hid hx
  have HR : Hid (∀ (W' : World) (n : Nat), n = W'.heap.size → RowsAt 4 Version.cell (W'.alloc (.cells #[.int .i64 ((l.length : Int) + 1), .int .i64 p, .string m, .slice sa3 s.length sc3] 58)) (some ⟨n, 0, none⟩) [x]) := fun W' n hn => by
    subst hn
    exact rows_new W' _ x (fun j hj => by
      rw [hx]
      rcases (show j = 0 ∨ j = 1 ∨ j = 2 ∨ j = 3 by omega) with rfl | rfl | rfl | rfl <;> rfl)
  clear hs3 HN HSs hzN HL3 hO3 hR3 hx hWE E3
  have hW' := Lib.hid hW
  go_wp2_with fail
  rw [← hW]
  clear hW hW'
  go_region_law (first
    | (refine step_call rfl 58 #[.slice a l.length cap] (by first | rfl | (go_simp; done) | (go_simp; rfl)) ?_; refine (HO.out _ (by repeat (first | with_reducible exact EW.out | with_reducible refine Ext.lift ?_ _ | with_reducible refine Ext.alloc ?_ _ | with_reducible refine Ext.drew ?_))).mono ?_; rintro e W4 ⟨ov, l2, rfl, hst, HG, y, rfl⟩; have HGh := Lib.hid HG; have hsth := Lib.hid hst; have hl2 := strips_length hst; clear HG hst; have z0 := ((Ext.refl W.drew).lift y).cell (show W.drew.cell? ⟨w3.heap.size, 0, none⟩ = some _ from x0); have z1 := ((Ext.refl W.drew).lift y).cell (show W.drew.cell? ⟨w3.heap.size, 1, none⟩ = some _ from x1); have z2 := ((Ext.refl W.drew).lift y).cell (show W.drew.cell? ⟨w3.heap.size, 2, none⟩ = some _ from x2); have z3 := ((Ext.refl W.drew).lift y).cell (show W.drew.cell? ⟨w3.heap.size, 3, none⟩ = some _ from x3); refine ⟨_, rfl, ?_⟩)
    | (refine step_pushAt elVersion oneVersion rfl _ _ rfl _ _ l2 (by rfl) (HGh.out.lst.ext (by repeat (first | with_reducible exact Ext.refl _ | with_reducible refine Ext.lift ?_ _ | with_reducible refine Ext.alloc ?_ _ | with_reducible refine Ext.drew ?_ | with_reducible refine Ext.setCell ?_ (by first | (simp; done) | (simp; omega) | omega) _))) _ 1 1 [x] rfl (by rfl) (by first | exact HR.out _ _ (by first | rfl | (simp [drew_heap]; done) | (simp [drew_heap]; omega)) | exact RowsAt.ext (HR.out _ _ (by first | rfl | (simp [drew_heap]; done) | (simp [drew_heap]; omega))) (by repeat (first | with_reducible exact Ext.refl _ | with_reducible refine Ext.lift ?_ _ | with_reducible refine Ext.alloc ?_ _ | with_reducible refine Ext.drew ?_ | with_reducible refine Ext.setCell ?_ (by first | (simp; done) | (simp; omega) | omega) _))) (by omega) (by omega) (by first | omega | (simp [drew_heap]; done) | (simp [drew_heap]; omega)) ?_; intro v5 w5 HL5 hg5 _; have HV5 := Lib.hid (HGh.out.snoc_at (x := x) (by repeat (first | with_reducible exact Ext.refl _ | with_reducible refine Ext.lift ?_ _ | with_reducible refine Ext.alloc ?_ _ | with_reducible refine Ext.drew ?_ | with_reducible refine Ext.setCell ?_ (by first | (simp; done) | (simp; omega) | omega) _)) (by rw [hxh.out]; exact RowsAt.ext RW.out (by repeat (first | with_reducible exact Ext.refl _ | with_reducible refine Ext.lift ?_ _ | with_reducible refine Ext.alloc ?_ _ | with_reducible refine Ext.drew ?_ | with_reducible refine Ext.setCell ?_ (by first | (simp; done) | (simp; omega) | omega) _))) (by rw [hxh.out]; exact hsc3) (fun g o t e => by rw [hxh.out] at e; have := hlow.out g o t e; first | omega | (simp [drew_heap]; done) | (simp [drew_heap]; omega)) HL5 hg5); have E5 : Hid (Ext w w5) := Ext.grown (by repeat (first | with_reducible exact EW.out | with_reducible refine Ext.lift ?_ _ | with_reducible refine Ext.alloc ?_ _ | with_reducible refine Ext.drew ?_)) hg5 (fun q hq => by have h1 := HGh.out.lst.ge q hq; first | omega | (simp [drew_heap] at h1 ⊢ <;> omega)); clear HL5 hg5))
  all_goals
    obtain ⟨a5, cap5, rfl, hc5, hV5⟩ := HV5.out
    go_wp2_with fail
    go_ret2
    rw [hv.out.2]
    exact ⟨a5, cap5, l2 ++ [x], rfl, by rw [strips_append, hsth.out, hv.out.1, hxh.out]; rfl, hc5, hV5, E5.out⟩
end Go.Proofs.Ytbcpgdidajapoaa
