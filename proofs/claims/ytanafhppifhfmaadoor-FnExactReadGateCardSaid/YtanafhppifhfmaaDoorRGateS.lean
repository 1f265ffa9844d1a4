/- A gate read back: what the reference hands back. -/
import Derived.Test.YtanafhppifhfmaaDoorRGate
namespace Go.Proofs.YtanafhppifhfmaaDoor
open Go.RowKit
set_option maxRecDepth 100000 in
set_option maxHeartbeats 40000000 in
theorem specReadGate_any (s : ByteArray) (w : World) (hs : s.size ≤ 1048576) :
    Gives Tryd.prog 31 #[.string s] w (.tuple #[.agg #[.string (resGate s).id, .int .i64 (resGate s).shut, .int .i64 (resGate s).opn, .int .i64 (resGate s).hold, .bool (resGate s).shuts, .int .i64 (resGate s).calm], .bool (okGate s)]) := by
  unfold Gives
  have HS := Lib.hid fun (W : World) => l01Split_any s 32 32 W rfl hs
  obtain ⟨Q, hQ⟩ : ∃ Q, Q = cutsB 32 s := ⟨_, rfl⟩
  have hQp : Hid (∀ k, k < Q.length → (nth Q k).size ≤ 1048576) := fun k hk => by have := piece_size (c := 32) (s := s) (p := nth Q k) (by rw [← hQ]; exact nth_mem hk); omega
  have hno : Hid (((Q.length ≠ 3 ∧ Q.length ≠ 4) ∨ numsOk (nth Q 1) 3 = false) → resGate s = ⟨⟨#[]⟩, 0, 0, 0, false, 0⟩ ∧ okGate s = false) := fun h => readGate_none (readGate_no (by rw [← hQ]; exact h))
  have hno3 : Hid (Q.length = 3 → opnB (nth Q 2) = false ∨ gateB (gate3 s) = false → resGate s = ⟨⟨#[]⟩, 0, 0, 0, false, 0⟩ ∧ okGate s = false) := fun h1 h => readGate_none (readGate_no3 (by rw [← hQ]; exact h1) (by rw [← hQ]; exact h))
  have hyes3 : Hid (Q.length = 3 → numsOk (nth Q 1) 3 = true → opnB (nth Q 2) = true → gateB (gate3 s) = true → resGate s = gate3 s ∧ okGate s = true) := fun h1 h2 h3 h4 => readGate_some (readGate_yes3 (by rw [← hQ]; exact h1) (by rw [← hQ]; exact h2) (by rw [← hQ]; exact h3) h4)
  have hno4 : Hid (Q.length = 4 → numB (nth Q 3) = false ∨ shtB (nth Q 2) = false ∨ gateB (gate4 s) = false → resGate s = ⟨⟨#[]⟩, 0, 0, 0, false, 0⟩ ∧ okGate s = false) := fun h1 h => readGate_none (readGate_no4 (by rw [← hQ]; exact h1) (by rw [← hQ]; exact h))
  have hyes4 : Hid (Q.length = 4 → numsOk (nth Q 1) 3 = true → numB (nth Q 3) = true → shtB (nth Q 2) = true → gateB (gate4 s) = true → resGate s = gate4 s ∧ okGate s = true) := fun h1 h2 h3 h4 h5 => readGate_some (readGate_yes4 (by rw [← hQ]; exact h1) (by rw [← hQ]; exact h2) (by rw [← hQ]; exact h3) (by rw [← hQ]; exact h4) h5)
  have hg3 : Hid (gate3 s = gateOf (nth Q 0) (listV (nth Q 1)) false 0) := by show _ = _; rw [hQ]; rfl
  have hg4 : Hid (gate4 s = gateOf (nth Q 0) (listV (nth Q 1)) true (numV (nth Q 3))) := by show _ = _; rw [hQ]; rfl
  rw [← hQ] at HS
  clear hQ
  go_enter Tryd.func31, Tryd.ntmps31
  go_wp2_with fail
  refine (HS.out _).mono ?_
  rintro e W ⟨a, cap, rfl, -, -, R, y0, rfl⟩
  have R0 := Lib.hid R
  clear R HS
  rcases (show Q.length < 3 ∨ Q.length = 3 ∨ Q.length = 4 ∨ 4 < Q.length by omega) with h2 | h2 | h2 | h2
  · have hv := Lib.hid (hno.out (.inl (by omega)))
    go_wp2_with fail
    exact bodyPost_ret (v := .tuple #[.agg #[.string ⟨#[]⟩, .int .i64 0, .int .i64 0, .int .i64 0, .bool false, .int .i64 0], .bool false]) (by simp [results, Tryd.results31, go_sem]) rfl ⟨by rw [hv.out.1, hv.out.2], (by repeat (first | with_reducible exact Ext.refl _ | with_reducible refine Ext.lift ?_ _ | with_reducible refine Ext.alloc ?_ _ | with_reducible refine Ext.setCell ?_ (by first | (simp; done) | (simp; omega) | omega) _ | with_reducible refine ext_setCells (by first | (simp; done) | (simp; omega) | omega) _ _ _ ?_))⟩
  rotate_left 2
  · have hv := Lib.hid (hno.out (.inl (by omega)))
    have h2' : ¬ Q.length < 3 := by omega
    go_wp2_with fail
    exact bodyPost_ret (v := .tuple #[.agg #[.string ⟨#[]⟩, .int .i64 0, .int .i64 0, .int .i64 0, .bool false, .int .i64 0], .bool false]) (by simp [results, Tryd.results31, go_sem]) rfl ⟨by rw [hv.out.1, hv.out.2], (by repeat (first | with_reducible exact Ext.refl _ | with_reducible refine Ext.lift ?_ _ | with_reducible refine Ext.alloc ?_ _ | with_reducible refine Ext.setCell ?_ (by first | (simp; done) | (simp; omega) | omega) _ | with_reducible refine ext_setCells (by first | (simp; done) | (simp; omega) | omega) _ _ _ ?_))⟩
  · have h2' : ((Q.length : Int) == 4) = false := by rw [h2]; rfl
    have h23 : ¬ Q.length < 3 := by omega
    have h24 : ¬ 4 < Q.length := by omega
    have hq : 1 < Q.length := by omega
    have hq0 : 0 < Q.length := by omega
    have hq2 : 2 < Q.length := by omega
    have h2h := Lib.hid h2
    have hz0 := hQp.out 0 (by omega)
    have hz1 := hQp.out 1 (by omega)
    clear h2
    obtain ⟨b, off, rfl⟩ := R0.out.base hq
    obtain ⟨hb, c1⟩ := StrAt.at R0.out 1 hq
    obtain ⟨-, c2⟩ := StrAt.at R0.out 2 hq2
    obtain ⟨-, c0⟩ := StrAt.at R0.out 0 (by omega)
    rw [Nat.add_zero] at c0
    simp at hb
    have k1 := lit_eq (nth Q 2) [111, 112, 101, 110]
    obtain ⟨x, hx⟩ : ∃ x, x = gateOf (nth Q 0) (listV (nth Q 1)) false 0 := ⟨_, rfl⟩
    rw [hg3.out, ← hx] at hno3 hyes3
    have hxs4 : x.shuts = false := by rw [hx]; rfl
    have hxc4 : x.calm = 0 := by rw [hx]; rfl
    have HL := Lib.hid fun W' => specReadList_any (nth Q 1) W' hz1
    cases h1 : listB (nth Q 1)
    · have hv := Lib.hid (hno.out (.inr (numsOk_b h1)))
      rw [h1] at HL
      go_wp2_with fail
      refine (HL.out _).mono ?_
      rintro e W2 ⟨a2, cap2, rfl, -, -, y2, rfl⟩
      go_wp2_with fail
      exact bodyPost_ret (v := .tuple #[.agg #[.string ⟨#[]⟩, .int .i64 0, .int .i64 0, .int .i64 0, .bool false, .int .i64 0], .bool false]) (by simp [results, Tryd.results31, go_sem]) rfl ⟨by rw [hv.out.1, hv.out.2], (by repeat (first | with_reducible exact Ext.refl _ | with_reducible refine Ext.lift ?_ _ | with_reducible refine Ext.alloc ?_ _ | with_reducible refine Ext.setCell ?_ (by first | (simp; done) | (simp; omega) | omega) _ | with_reducible refine ext_setCells (by first | (simp; done) | (simp; omega) | omega) _ _ _ ?_))⟩
    rw [h1] at HL
    go_wp2_with fail
    refine (HL.out _).mono ?_
    rintro e W2 ⟨a2, cap2, rfl, -, R2, y2, rfl⟩
    have R3 := Lib.hid R2
    clear R2 HL c1
    by_cases h3 : (listV (nth Q 1)).length = 3
    case neg =>
      have hv := Lib.hid (hno.out (.inr (numsOk_n h3)))
      have h3' : (((listV (nth Q 1)).length : Int) != 3) = true := by rw [bne_iff_ne]; omega
      clear h3
      go_wp2_with fail
      exact bodyPost_ret (v := .tuple #[.agg #[.string ⟨#[]⟩, .int .i64 0, .int .i64 0, .int .i64 0, .bool false, .int .i64 0], .bool false]) (by simp [results, Tryd.results31, go_sem]) rfl ⟨by rw [hv.out.1, hv.out.2], (by repeat (first | with_reducible exact Ext.refl _ | with_reducible refine Ext.lift ?_ _ | with_reducible refine Ext.alloc ?_ _ | with_reducible refine Ext.setCell ?_ (by first | (simp; done) | (simp; omega) | omega) _ | with_reducible refine ext_setCells (by first | (simp; done) | (simp; omega) | omega) _ _ _ ?_))⟩
    have h3' : (((listV (nth Q 1)).length : Int) != 3) = false := by rw [h3]; rfl
    have hok := Lib.hid (numsOk_y (m := 3) h1 h3)
    have hl : 2 < (listV (nth Q 1)).length := by omega
    have hl0 : 0 < (listV (nth Q 1)).length := by omega
    have hm1 : (1 : Int) < ((listV (nth Q 1)).length : Int) := by omega
    have hm2 : (2 : Int) < ((listV (nth Q 1)).length : Int) := by omega
    have hxs : x.id.size ≤ 1048576 := by rw [hx]; exact hz0
    obtain ⟨b2, off2, rfl⟩ := R3.out.base hl
    obtain ⟨hb2, d0⟩ := IntAt.at R3.out 0 (by omega)
    obtain ⟨hb2, d1⟩ := IntAt.at R3.out 1 (by omega)
    obtain ⟨hb2, d2⟩ := IntAt.at R3.out 2 (by omega)
    rw [Nat.add_zero] at d0
    simp at hb2
    rw [show nth (listV (nth Q 1)) 0 = x.shut by rw [hx]; rfl] at d0
    rw [show nth (listV (nth Q 1)) 1 = x.opn by rw [hx]; rfl] at d1
    rw [show nth (listV (nth Q 1)) 2 = x.hold by rw [hx]; rfl] at d2
    rw [show nth Q 0 = x.id by rw [hx]; rfl] at c0
    clear hx h3
    have HX4 := Lib.hid hxs4
    have HC4 := Lib.hid hxc4
    clear hxs4 hxc4
    go_wp2_with fail
    refine Grow.region_tail 14 [0, 1, 2, 3, 4, 5, 6, 7, 8, 9, 10, 11, 12] [(false, 13)] (by kernel_rfl) (by kernel_rfl) ?_
    simp only [Grow.pick, Grow.pickB, List.getElem?_cons_succ, List.getElem?_cons_zero, List.drop_succ_cons, List.drop_zero]
    repeat
      refine Grow.heads_step (fun K' hK => ⟨rfl, ?_⟩)
      apply Exists.intro
      apply And.intro
      · intro w' hw'
        obtain ⟨x', rfl⟩ := hw'
        go_simp
        first | done | rfl | (rw [if_neg (by omega)]; done) | (rw [if_neg (by omega)]; rfl)
      go_simp
      refine hK _ ?_
      clear hK K'
    refine Grow.heads_nil ?_
    intro w5 e5
    obtain ⟨y5, rfl⟩ := e5
    refine Grow.seq_step (fun K' hK => ⟨rfl, ?_⟩)
    go_simp
    try rw [if_neg (by omega)]
    simp only [Grow.upon]
    refine ⟨(Ext.refl _).alloc _, fun w6 e6 => hK _ _ ?_⟩
    clear hK K'
    obtain ⟨y6, rfl⟩ := e6
    refine Grow.seq_nil ?_
    have hb3 : b < w.heap.size + 1 + y0.blocks.size + y2.blocks.size := by omega
    have hb4 : b < w.heap.size + 1 + y0.blocks.size + y2.blocks.size + y5.blocks.size := by omega
    have hb5 : b < w.heap.size + 1 + y0.blocks.size + y2.blocks.size + y5.blocks.size + 1 := by omega
    try have hb6 : b < w.heap.size + y0.blocks.size + y2.blocks.size := by omega
    try have hb7 : b < w.heap.size + y0.blocks.size + y2.blocks.size + y5.blocks.size := by omega
    try have hb8 : b < w.heap.size + y0.blocks.size + y2.blocks.size + y5.blocks.size + 1 := by omega
    clear d0 d1 d2 hb2 c0
    cases ho : opnB (nth Q 2)
    · have hv := Lib.hid (hno3.out h2h.out (.inl ho))
      have ho' : sEq (nth Q 2) ⟨#[111, 112, 101, 110]⟩ = false := ho
      rw [ho'] at k1
      clear ho ho'
      go_wp2_with fail
      exact bodyPost_ret (v := .tuple #[.agg #[.string ⟨#[]⟩, .int .i64 0, .int .i64 0, .int .i64 0, .bool false, .int .i64 0], .bool false]) (by simp [results, Tryd.results31, go_sem]) rfl ⟨by rw [hv.out.1, hv.out.2], (by repeat (first | with_reducible exact Ext.refl _ | with_reducible refine Ext.lift ?_ _ | with_reducible refine Ext.alloc ?_ _ | with_reducible refine Ext.setCell ?_ (by first | (simp; done) | (simp; omega) | omega) _ | with_reducible refine ext_setCells (by first | (simp; done) | (simp; omega) | omega) _ _ _ ?_))⟩
    · have hoH := Lib.hid ho
      have ho' : sEq (nth Q 2) ⟨#[111, 112, 101, 110]⟩ = true := ho
      rw [ho'] at k1
      clear ho ho'
      have hxs4 := HX4.out
      have hxc4 := HC4.out
      cases h : gateB x
      · have hv := Lib.hid (hno3.out h2h.out (.inr h))
        repeat (first | ((go_at_call 70; refine (l21Ok_any _ _ x _ (by omega) (by first | (go_simp; done) | (go_simp; assumption) | (go_simp; exact hxs4.symm) | (go_simp; exact hxc4.symm)) (by first | (go_simp; done) | (go_simp; assumption) | (go_simp; exact hxs4.symm) | (go_simp; exact hxc4.symm)) (by first | (go_simp; done) | (go_simp; assumption) | (go_simp; exact hxs4.symm) | (go_simp; exact hxc4.symm)) (by first | (go_simp; done) | (go_simp; assumption) | (go_simp; exact hxs4.symm) | (go_simp; exact hxc4.symm)) (by first | (go_simp; done) | (go_simp; assumption) | (go_simp; exact hxs4.symm) | (go_simp; exact hxc4.symm)) (by first | (go_simp; done) | (go_simp; assumption) | (go_simp; exact hxs4.symm) | (go_simp; exact hxc4.symm))).mono ?_; rintro e w' ⟨rfl, z, rfl⟩; rw [h]); try dsimp only) | go_values | go_skip | go_guarded | go_step | go_upon | go_back)
        exact bodyPost_ret (v := .tuple #[.agg #[.string ⟨#[]⟩, .int .i64 0, .int .i64 0, .int .i64 0, .bool false, .int .i64 0], .bool false]) (by simp [results, Tryd.results31, go_sem]) rfl ⟨by rw [hv.out.1, hv.out.2], (by repeat (first | with_reducible exact Ext.refl _ | with_reducible refine Ext.lift ?_ _ | with_reducible refine Ext.alloc ?_ _ | with_reducible refine Ext.setCell ?_ (by first | (simp; done) | (simp; omega) | omega) _ | with_reducible refine ext_setCells (by first | (simp; done) | (simp; omega) | omega) _ _ _ ?_))⟩
      · have hv := Lib.hid (hyes3.out h2h.out hok.out hoH.out h)
        repeat (first | ((go_at_call 70; refine (l21Ok_any _ _ x _ (by omega) (by first | (go_simp; done) | (go_simp; assumption) | (go_simp; exact hxs4.symm) | (go_simp; exact hxc4.symm)) (by first | (go_simp; done) | (go_simp; assumption) | (go_simp; exact hxs4.symm) | (go_simp; exact hxc4.symm)) (by first | (go_simp; done) | (go_simp; assumption) | (go_simp; exact hxs4.symm) | (go_simp; exact hxc4.symm)) (by first | (go_simp; done) | (go_simp; assumption) | (go_simp; exact hxs4.symm) | (go_simp; exact hxc4.symm)) (by first | (go_simp; done) | (go_simp; assumption) | (go_simp; exact hxs4.symm) | (go_simp; exact hxc4.symm)) (by first | (go_simp; done) | (go_simp; assumption) | (go_simp; exact hxs4.symm) | (go_simp; exact hxc4.symm))).mono ?_; rintro e w' ⟨rfl, z, rfl⟩; rw [h]); try dsimp only) | go_values | go_skip | go_guarded | go_step | go_upon | go_back)
        exact bodyPost_ret (v := .tuple #[.agg #[.string x.id, .int .i64 x.shut, .int .i64 x.opn, .int .i64 x.hold, .bool false, .int .i64 0], .bool true]) (by simp [results, Tryd.results31, go_sem]) rfl ⟨by rw [hv.out.1, hv.out.2, HX4.out, HC4.out], (by repeat (first | with_reducible exact Ext.refl _ | with_reducible refine Ext.lift ?_ _ | with_reducible refine Ext.alloc ?_ _ | with_reducible refine Ext.setCell ?_ (by first | (simp; done) | (simp; omega) | omega) _ | with_reducible refine ext_setCells (by first | (simp; done) | (simp; omega) | omega) _ _ _ ?_))⟩
  · have h2' : ((Q.length : Int) == 4) = true := by rw [h2]; rfl
    have h23 : ¬ Q.length < 3 := by omega
    have h24 : ¬ 4 < Q.length := by omega
    have hq : 1 < Q.length := by omega
    have hq0 : 0 < Q.length := by omega
    have hq2 : 2 < Q.length := by omega
    have hq3 : 3 < Q.length := by omega
    have h2h := Lib.hid h2
    have hz0 := hQp.out 0 (by omega)
    have hz1 := hQp.out 1 (by omega)
    have hz3 := hQp.out 3 (by omega)
    clear h2
    obtain ⟨b, off, rfl⟩ := R0.out.base hq
    obtain ⟨hb, c1⟩ := StrAt.at R0.out 1 hq
    obtain ⟨-, c2⟩ := StrAt.at R0.out 2 hq2
    obtain ⟨-, c3⟩ := StrAt.at R0.out 3 hq3
    obtain ⟨-, c0⟩ := StrAt.at R0.out 0 (by omega)
    rw [Nat.add_zero] at c0
    simp at hb
    have k1 := lit_eq (nth Q 2) [115, 104, 117, 116]
    obtain ⟨x, hx⟩ : ∃ x, x = gateOf (nth Q 0) (listV (nth Q 1)) true (numV (nth Q 3)) := ⟨_, rfl⟩
    rw [hg4.out, ← hx] at hno4 hyes4
    have hxs4 : x.shuts = true := by rw [hx]; rfl
    have hxc4 : numV (nth Q 3) = x.calm := by rw [hx]; rfl
    have HL := Lib.hid fun W' => specReadList_any (nth Q 1) W' hz1
    cases h1 : listB (nth Q 1)
    · have hv := Lib.hid (hno.out (.inr (numsOk_b h1)))
      rw [h1] at HL
      go_wp2_with fail
      refine (HL.out _).mono ?_
      rintro e W2 ⟨a2, cap2, rfl, -, -, y2, rfl⟩
      go_wp2_with fail
      exact bodyPost_ret (v := .tuple #[.agg #[.string ⟨#[]⟩, .int .i64 0, .int .i64 0, .int .i64 0, .bool false, .int .i64 0], .bool false]) (by simp [results, Tryd.results31, go_sem]) rfl ⟨by rw [hv.out.1, hv.out.2], (by repeat (first | with_reducible exact Ext.refl _ | with_reducible refine Ext.lift ?_ _ | with_reducible refine Ext.alloc ?_ _ | with_reducible refine Ext.setCell ?_ (by first | (simp; done) | (simp; omega) | omega) _ | with_reducible refine ext_setCells (by first | (simp; done) | (simp; omega) | omega) _ _ _ ?_))⟩
    rw [h1] at HL
    go_wp2_with fail
    refine (HL.out _).mono ?_
    rintro e W2 ⟨a2, cap2, rfl, -, R2, y2, rfl⟩
    have R3 := Lib.hid R2
    clear R2 HL c1
    by_cases h3 : (listV (nth Q 1)).length = 3
    case neg =>
      have hv := Lib.hid (hno.out (.inr (numsOk_n h3)))
      have h3' : (((listV (nth Q 1)).length : Int) != 3) = true := by rw [bne_iff_ne]; omega
      clear h3
      go_wp2_with fail
      exact bodyPost_ret (v := .tuple #[.agg #[.string ⟨#[]⟩, .int .i64 0, .int .i64 0, .int .i64 0, .bool false, .int .i64 0], .bool false]) (by simp [results, Tryd.results31, go_sem]) rfl ⟨by rw [hv.out.1, hv.out.2], (by repeat (first | with_reducible exact Ext.refl _ | with_reducible refine Ext.lift ?_ _ | with_reducible refine Ext.alloc ?_ _ | with_reducible refine Ext.setCell ?_ (by first | (simp; done) | (simp; omega) | omega) _ | with_reducible refine ext_setCells (by first | (simp; done) | (simp; omega) | omega) _ _ _ ?_))⟩
    have h3' : (((listV (nth Q 1)).length : Int) != 3) = false := by rw [h3]; rfl
    have hok := Lib.hid (numsOk_y (m := 3) h1 h3)
    have hl : 2 < (listV (nth Q 1)).length := by omega
    have hl0 : 0 < (listV (nth Q 1)).length := by omega
    have hm1 : (1 : Int) < ((listV (nth Q 1)).length : Int) := by omega
    have hm2 : (2 : Int) < ((listV (nth Q 1)).length : Int) := by omega
    have hxs : x.id.size ≤ 1048576 := by rw [hx]; exact hz0
    obtain ⟨b2, off2, rfl⟩ := R3.out.base hl
    obtain ⟨hb2, d0⟩ := IntAt.at R3.out 0 (by omega)
    obtain ⟨hb2, d1⟩ := IntAt.at R3.out 1 (by omega)
    obtain ⟨hb2, d2⟩ := IntAt.at R3.out 2 (by omega)
    rw [Nat.add_zero] at d0
    simp at hb2
    rw [show nth (listV (nth Q 1)) 0 = x.shut by rw [hx]; rfl] at d0
    rw [show nth (listV (nth Q 1)) 1 = x.opn by rw [hx]; rfl] at d1
    rw [show nth (listV (nth Q 1)) 2 = x.hold by rw [hx]; rfl] at d2
    rw [show nth Q 0 = x.id by rw [hx]; rfl] at c0
    clear hx h3
    have HX4 := Lib.hid hxs4
    have HN : Hid (∀ w', Calls Tryd.prog 69 #[.string (nth Q 3)] w' fun e w'' => e = .returned (.tuple #[.int .i64 x.calm, .bool (numB (nth Q 3))]) ∧ w'' = w') := fun w' => by rw [← hxc4]; exact l01Number_any _ w' hz3
    clear hxs4 hxc4
    go_wp2_with fail
    refine Grow.region_tail 14 [0, 1, 2, 3, 4, 5, 6, 7, 8, 9, 10, 11, 12] [(false, 13)] (by kernel_rfl) (by kernel_rfl) ?_
    simp only [Grow.pick, Grow.pickB, List.getElem?_cons_succ, List.getElem?_cons_zero, List.drop_succ_cons, List.drop_zero]
    repeat
      refine Grow.heads_step (fun K' hK => ⟨rfl, ?_⟩)
      apply Exists.intro
      apply And.intro
      · intro w' hw'
        obtain ⟨x', rfl⟩ := hw'
        go_simp
        first | done | rfl | (rw [if_neg (by omega)]; done) | (rw [if_neg (by omega)]; rfl)
      go_simp
      refine hK _ ?_
      clear hK K'
    refine Grow.heads_nil ?_
    intro w5 e5
    obtain ⟨y5, rfl⟩ := e5
    refine Grow.seq_step (fun K' hK => ⟨rfl, ?_⟩)
    go_simp
    try rw [if_neg (by omega)]
    simp only [Grow.upon]
    refine ⟨(Ext.refl _).alloc _, fun w6 e6 => hK _ _ ?_⟩
    clear hK K'
    obtain ⟨y6, rfl⟩ := e6
    refine Grow.seq_nil ?_
    have hb3 : b < w.heap.size + 1 + y0.blocks.size + y2.blocks.size := by omega
    have hb4 : b < w.heap.size + 1 + y0.blocks.size + y2.blocks.size + y5.blocks.size := by omega
    have hb5 : b < w.heap.size + 1 + y0.blocks.size + y2.blocks.size + y5.blocks.size + 1 := by omega
    try have hb6 : b < w.heap.size + y0.blocks.size + y2.blocks.size := by omega
    try have hb7 : b < w.heap.size + y0.blocks.size + y2.blocks.size + y5.blocks.size := by omega
    try have hb8 : b < w.heap.size + y0.blocks.size + y2.blocks.size + y5.blocks.size + 1 := by omega
    clear d0 d1 d2 hb2 c0
    cases hn : numB (nth Q 3)
    · have hv := Lib.hid (hno4.out h2h.out (.inl hn))
      rw [hn] at HN
      repeat (first | ((go_at_call 69; refine (HN.out _).mono ?_; rintro e w' ⟨rfl, rfl⟩); try dsimp only) | go_values | go_skip | go_guarded | go_step | go_upon | go_back)
      exact bodyPost_ret (v := .tuple #[.agg #[.string ⟨#[]⟩, .int .i64 0, .int .i64 0, .int .i64 0, .bool false, .int .i64 0], .bool false]) (by simp [results, Tryd.results31, go_sem]) rfl ⟨by rw [hv.out.1, hv.out.2], (by repeat (first | with_reducible exact Ext.refl _ | with_reducible refine Ext.lift ?_ _ | with_reducible refine Ext.alloc ?_ _ | with_reducible refine Ext.setCell ?_ (by first | (simp; done) | (simp; omega) | omega) _ | with_reducible refine ext_setCells (by first | (simp; done) | (simp; omega) | omega) _ _ _ ?_))⟩
    · rw [hn] at HN
      have hnH := Lib.hid hn
      cases ho : shtB (nth Q 2)
      · have hv := Lib.hid (hno4.out h2h.out (.inr (.inl ho)))
        have ho' : sEq (nth Q 2) ⟨#[115, 104, 117, 116]⟩ = false := ho
        rw [ho'] at k1
        clear ho ho'
        repeat (first | ((go_at_call 69; refine (HN.out _).mono ?_; rintro e w' ⟨rfl, rfl⟩); try dsimp only) | go_values | go_skip | go_guarded | go_step | go_upon | go_back)
        exact bodyPost_ret (v := .tuple #[.agg #[.string ⟨#[]⟩, .int .i64 0, .int .i64 0, .int .i64 0, .bool false, .int .i64 0], .bool false]) (by simp [results, Tryd.results31, go_sem]) rfl ⟨by rw [hv.out.1, hv.out.2], (by repeat (first | with_reducible exact Ext.refl _ | with_reducible refine Ext.lift ?_ _ | with_reducible refine Ext.alloc ?_ _ | with_reducible refine Ext.setCell ?_ (by first | (simp; done) | (simp; omega) | omega) _ | with_reducible refine ext_setCells (by first | (simp; done) | (simp; omega) | omega) _ _ _ ?_))⟩
      · have hoH := Lib.hid ho
        have ho' : sEq (nth Q 2) ⟨#[115, 104, 117, 116]⟩ = true := ho
        rw [ho'] at k1
        clear ho ho'
        have hxs4 := HX4.out
        cases h : gateB x
        · have hv := Lib.hid (hno4.out h2h.out (.inr (.inr h)))
          repeat (first | ((go_at_call 69; refine (HN.out _).mono ?_; rintro e w' ⟨rfl, rfl⟩); try dsimp only) | go_values | go_skip | go_guarded | go_step | go_upon | go_back)
          obtain ⟨W3, hW3⟩ : ∃ W3, W3 = (((((((lift ((lift (lift (lift (w.alloc (.cells #[.string ⟨#[]⟩, .int .i64 0, .int .i64 0, .int .i64 0, .bool false, .int .i64 0] 54)) y0) y2) y5).alloc (.cells #[.string ⟨#[]⟩, .int .i64 0, .int .i64 0, .int .i64 0, .bool false, .int .i64 0] 54)) y6).setCell ⟨w.heap.size + 1 + y0.blocks.size + y2.blocks.size + y5.blocks.size, 0, none⟩ (.string x.id)).setCell ⟨w.heap.size + 1 + y0.blocks.size + y2.blocks.size + y5.blocks.size, 1, none⟩ (.int .i64 x.shut)).setCell ⟨w.heap.size + 1 + y0.blocks.size + y2.blocks.size + y5.blocks.size, 2, none⟩ (.int .i64 x.opn)).setCell ⟨w.heap.size + 1 + y0.blocks.size + y2.blocks.size + y5.blocks.size, 3, none⟩ (.int .i64 x.hold)).setCell ⟨w.heap.size + 1 + y0.blocks.size + y2.blocks.size + y5.blocks.size, 4, none⟩ (.bool false)).setCell ⟨w.heap.size + 1 + y0.blocks.size + y2.blocks.size + y5.blocks.size, 5, none⟩ (.int .i64 0)) := ⟨_, rfl⟩
          rw [← hW3]
          have T3 : Ext w W3 := by rw [hW3]; exact (by repeat (first | with_reducible exact Ext.refl _ | with_reducible refine Ext.lift ?_ _ | with_reducible refine Ext.alloc ?_ _ | with_reducible refine Ext.setCell ?_ (by first | (simp; done) | (simp; omega) | omega) _ | with_reducible refine ext_setCells (by first | (simp; done) | (simp; omega) | omega) _ _ _ ?_))
          have k0 : W3.cell? ⟨w.heap.size + 1 + y0.blocks.size + y2.blocks.size + y5.blocks.size, 0, none⟩ = some (.string x.id) := by rw [hW3]; go_simp
          have k1 : W3.cell? ⟨w.heap.size + 1 + y0.blocks.size + y2.blocks.size + y5.blocks.size, 1, none⟩ = some (.int .i64 x.shut) := by rw [hW3]; go_simp
          have k2 : W3.cell? ⟨w.heap.size + 1 + y0.blocks.size + y2.blocks.size + y5.blocks.size, 2, none⟩ = some (.int .i64 x.opn) := by rw [hW3]; go_simp
          have k3 : W3.cell? ⟨w.heap.size + 1 + y0.blocks.size + y2.blocks.size + y5.blocks.size, 3, none⟩ = some (.int .i64 x.hold) := by rw [hW3]; go_simp
          have k4 : W3.cell? ⟨w.heap.size + 1 + y0.blocks.size + y2.blocks.size + y5.blocks.size, 4, none⟩ = some (.bool false) := by rw [hW3]; go_simp
          have k5 : W3.cell? ⟨w.heap.size + 1 + y0.blocks.size + y2.blocks.size + y5.blocks.size, 5, none⟩ = some (.int .i64 0) := by rw [hW3]; go_simp
          have kf : ∀ j, W3.frozen? ⟨w.heap.size + 1 + y0.blocks.size + y2.blocks.size + y5.blocks.size, j, none⟩ = false := by intro j; rw [hW3]; go_simp
          have r0 : W3.cell? ⟨w.heap.size, 0, none⟩ = some (.string ⟨#[]⟩) := by rw [hW3]; go_simp
          have r1 : W3.cell? ⟨w.heap.size, 1, none⟩ = some (.int .i64 0) := by rw [hW3]; go_simp
          have r2 : W3.cell? ⟨w.heap.size, 2, none⟩ = some (.int .i64 0) := by rw [hW3]; go_simp
          have r3 : W3.cell? ⟨w.heap.size, 3, none⟩ = some (.int .i64 0) := by rw [hW3]; go_simp
          have r4 : W3.cell? ⟨w.heap.size, 4, none⟩ = some (.bool false) := by rw [hW3]; go_simp
          have r5 : W3.cell? ⟨w.heap.size, 5, none⟩ = some (.int .i64 0) := by rw [hW3]; go_simp
          have rf : ∀ j, W3.frozen? ⟨w.heap.size, j, none⟩ = false := by intro j; rw [hW3]; go_simp
          have s0 : w.heap.size < W3.heap.size := by rw [hW3]; first | (simp; done) | (simp; omega)
          have sB : w.heap.size + 1 + y0.blocks.size + y2.blocks.size + y5.blocks.size < W3.heap.size := by rw [hW3]; first | (simp; done) | (simp; omega)
          clear hW3
          repeat (first | ((go_at_call 70; refine (l21Ok_any _ _ x _ (by omega) (by first | (go_simp; done) | (go_simp; assumption) | (go_simp; exact hxs4.symm) | (go_simp; exact hxc4.symm)) (by first | (go_simp; done) | (go_simp; assumption) | (go_simp; exact hxs4.symm) | (go_simp; exact hxc4.symm)) (by first | (go_simp; done) | (go_simp; assumption) | (go_simp; exact hxs4.symm) | (go_simp; exact hxc4.symm)) (by first | (go_simp; done) | (go_simp; assumption) | (go_simp; exact hxs4.symm) | (go_simp; exact hxc4.symm)) (by first | (go_simp; done) | (go_simp; assumption) | (go_simp; exact hxs4.symm) | (go_simp; exact hxc4.symm)) (by first | (go_simp; done) | (go_simp; assumption) | (go_simp; exact hxs4.symm) | (go_simp; exact hxc4.symm))).mono ?_; rintro e w' ⟨rfl, z, rfl⟩; rw [h]); try dsimp only) | go_values | go_skip | go_guarded | go_step | go_upon | go_back)
          exact bodyPost_ret (v := .tuple #[.agg #[.string ⟨#[]⟩, .int .i64 0, .int .i64 0, .int .i64 0, .bool false, .int .i64 0], .bool false]) (by simp [results, Tryd.results31, go_sem, s0, r0, r1, r2, r3, r4, r5]) rfl ⟨by rw [hv.out.1, hv.out.2], (by repeat (first | with_reducible exact T3 | with_reducible refine Ext.lift ?_ _ | with_reducible refine Ext.alloc ?_ _ | with_reducible refine Ext.setCell ?_ (by first | (simp; done) | (simp; omega) | omega) _ | with_reducible refine ext_setCells (by first | (simp; done) | (simp; omega) | omega) _ _ _ ?_))⟩
        · have hv := Lib.hid (hyes4.out h2h.out hok.out hnH.out hoH.out h)
          repeat (first | ((go_at_call 69; refine (HN.out _).mono ?_; rintro e w' ⟨rfl, rfl⟩); try dsimp only) | go_values | go_skip | go_guarded | go_step | go_upon | go_back)
          obtain ⟨W3, hW3⟩ : ∃ W3, W3 = (((((((lift ((lift (lift (lift (w.alloc (.cells #[.string ⟨#[]⟩, .int .i64 0, .int .i64 0, .int .i64 0, .bool false, .int .i64 0] 54)) y0) y2) y5).alloc (.cells #[.string ⟨#[]⟩, .int .i64 0, .int .i64 0, .int .i64 0, .bool false, .int .i64 0] 54)) y6).setCell ⟨w.heap.size + 1 + y0.blocks.size + y2.blocks.size + y5.blocks.size, 0, none⟩ (.string x.id)).setCell ⟨w.heap.size + 1 + y0.blocks.size + y2.blocks.size + y5.blocks.size, 1, none⟩ (.int .i64 x.shut)).setCell ⟨w.heap.size + 1 + y0.blocks.size + y2.blocks.size + y5.blocks.size, 2, none⟩ (.int .i64 x.opn)).setCell ⟨w.heap.size + 1 + y0.blocks.size + y2.blocks.size + y5.blocks.size, 3, none⟩ (.int .i64 x.hold)).setCell ⟨w.heap.size + 1 + y0.blocks.size + y2.blocks.size + y5.blocks.size, 4, none⟩ (.bool false)).setCell ⟨w.heap.size + 1 + y0.blocks.size + y2.blocks.size + y5.blocks.size, 5, none⟩ (.int .i64 0)) := ⟨_, rfl⟩
          rw [← hW3]
          have T3 : Ext w W3 := by rw [hW3]; exact (by repeat (first | with_reducible exact Ext.refl _ | with_reducible refine Ext.lift ?_ _ | with_reducible refine Ext.alloc ?_ _ | with_reducible refine Ext.setCell ?_ (by first | (simp; done) | (simp; omega) | omega) _ | with_reducible refine ext_setCells (by first | (simp; done) | (simp; omega) | omega) _ _ _ ?_))
          have k0 : W3.cell? ⟨w.heap.size + 1 + y0.blocks.size + y2.blocks.size + y5.blocks.size, 0, none⟩ = some (.string x.id) := by rw [hW3]; go_simp
          have k1 : W3.cell? ⟨w.heap.size + 1 + y0.blocks.size + y2.blocks.size + y5.blocks.size, 1, none⟩ = some (.int .i64 x.shut) := by rw [hW3]; go_simp
          have k2 : W3.cell? ⟨w.heap.size + 1 + y0.blocks.size + y2.blocks.size + y5.blocks.size, 2, none⟩ = some (.int .i64 x.opn) := by rw [hW3]; go_simp
          have k3 : W3.cell? ⟨w.heap.size + 1 + y0.blocks.size + y2.blocks.size + y5.blocks.size, 3, none⟩ = some (.int .i64 x.hold) := by rw [hW3]; go_simp
          have k4 : W3.cell? ⟨w.heap.size + 1 + y0.blocks.size + y2.blocks.size + y5.blocks.size, 4, none⟩ = some (.bool false) := by rw [hW3]; go_simp
          have k5 : W3.cell? ⟨w.heap.size + 1 + y0.blocks.size + y2.blocks.size + y5.blocks.size, 5, none⟩ = some (.int .i64 0) := by rw [hW3]; go_simp
          have kf : ∀ j, W3.frozen? ⟨w.heap.size + 1 + y0.blocks.size + y2.blocks.size + y5.blocks.size, j, none⟩ = false := by intro j; rw [hW3]; go_simp
          have r0 : W3.cell? ⟨w.heap.size, 0, none⟩ = some (.string ⟨#[]⟩) := by rw [hW3]; go_simp
          have r1 : W3.cell? ⟨w.heap.size, 1, none⟩ = some (.int .i64 0) := by rw [hW3]; go_simp
          have r2 : W3.cell? ⟨w.heap.size, 2, none⟩ = some (.int .i64 0) := by rw [hW3]; go_simp
          have r3 : W3.cell? ⟨w.heap.size, 3, none⟩ = some (.int .i64 0) := by rw [hW3]; go_simp
          have r4 : W3.cell? ⟨w.heap.size, 4, none⟩ = some (.bool false) := by rw [hW3]; go_simp
          have r5 : W3.cell? ⟨w.heap.size, 5, none⟩ = some (.int .i64 0) := by rw [hW3]; go_simp
          have rf : ∀ j, W3.frozen? ⟨w.heap.size, j, none⟩ = false := by intro j; rw [hW3]; go_simp
          have s0 : w.heap.size < W3.heap.size := by rw [hW3]; first | (simp; done) | (simp; omega)
          have sB : w.heap.size + 1 + y0.blocks.size + y2.blocks.size + y5.blocks.size < W3.heap.size := by rw [hW3]; first | (simp; done) | (simp; omega)
          clear hW3
          repeat (first | ((go_at_call 70; refine (l21Ok_any _ _ x _ (by omega) (by first | (go_simp; done) | (go_simp; assumption) | (go_simp; exact hxs4.symm) | (go_simp; exact hxc4.symm)) (by first | (go_simp; done) | (go_simp; assumption) | (go_simp; exact hxs4.symm) | (go_simp; exact hxc4.symm)) (by first | (go_simp; done) | (go_simp; assumption) | (go_simp; exact hxs4.symm) | (go_simp; exact hxc4.symm)) (by first | (go_simp; done) | (go_simp; assumption) | (go_simp; exact hxs4.symm) | (go_simp; exact hxc4.symm)) (by first | (go_simp; done) | (go_simp; assumption) | (go_simp; exact hxs4.symm) | (go_simp; exact hxc4.symm)) (by first | (go_simp; done) | (go_simp; assumption) | (go_simp; exact hxs4.symm) | (go_simp; exact hxc4.symm))).mono ?_; rintro e w' ⟨rfl, z, rfl⟩; rw [h]); try dsimp only) | go_values | go_skip | go_guarded | go_step | go_upon | go_back)
          exact bodyPost_ret (v := .tuple #[.agg #[.string x.id, .int .i64 x.shut, .int .i64 x.opn, .int .i64 x.hold, .bool true, .int .i64 x.calm], .bool true]) (by simp [results, Tryd.results31, go_sem, s0, r0, r1, r2, r3, r4, r5]) rfl ⟨by rw [hv.out.1, hv.out.2, HX4.out], (by repeat (first | with_reducible exact T3 | with_reducible refine Ext.lift ?_ _ | with_reducible refine Ext.alloc ?_ _ | with_reducible refine Ext.setCell ?_ (by first | (simp; done) | (simp; omega) | omega) _ | with_reducible refine ext_setCells (by first | (simp; done) | (simp; omega) | omega) _ _ _ ?_))⟩
end Go.Proofs.YtanafhppifhfmaaDoor
