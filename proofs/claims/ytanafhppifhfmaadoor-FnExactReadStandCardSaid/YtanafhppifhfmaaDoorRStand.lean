/- Stand read back: what the program's and the reference's functions hand back. -/
import Derived.Test.YtanafhppifhfmaaDoorRWith
import Derived.Test.YtanafhppifhfmaaDoorStandText
namespace Go.Proofs.YtanafhppifhfmaaDoor
open Go.RowKit
def standOf (id : ByteArray) (L : List Int) : Stand := ⟨id, nth L 0, nth L 1, nth L 2, nth L 3⟩
def readStand (s : ByteArray) : Option Stand := readG standOf standB 4 s
def resStand (s : ByteArray) : Stand := (readStand s).getD ⟨⟨#[]⟩, 0, 0, 0, 0⟩
def okStand (s : ByteArray) : Bool := (readStand s).isSome
theorem readStand_some {s : ByteArray} {x : Stand} (h : readStand s = some x) : resStand s = x ∧ okStand s = true := by unfold resStand okStand; rw [h]; exact ⟨rfl, rfl⟩
theorem readStand_none {s : ByteArray} (h : readStand s = none) : resStand s = ⟨⟨#[]⟩, 0, 0, 0, 0⟩ ∧ okStand s = false := by unfold resStand okStand; rw [h]; exact ⟨rfl, rfl⟩
theorem readStand_yes {s : ByteArray} (h : numsOk (restB s) 4 = true) : readStand s = if standS (standOf (headB s) (listV (restB s))) = s then some (standOf (headB s) (listV (restB s))) else none :=
  readG_yes h (fun id L hv => name_no32 (by
      have h9 : standB (standOf id L) = true := hv
      unfold standB at h9
      simp only [Bool.and_eq_true] at h9
      simp only [and_assoc] at h9
      exact h9.1))
    (fun id L hl hv => by
      unfold standS; rw [if_pos hv]
      show withS id [nth L 0, nth L 1, nth L 2, nth L 3] = withS id L
      rw [← list4 hl])
    (fun x hx => by unfold standS; rw [if_neg (by rw [hx]; decide)])
set_option maxRecDepth 100000 in
set_option maxHeartbeats 4000000 in
theorem l10Read_any (s : ByteArray) (w : World) (hs : s.size ≤ 1048576) :
    Gives Tryd.prog 67 #[.string s] w (.tuple #[.agg #[.string (resStand s).id, .int .i64 (resStand s).trees, .int .i64 (resStand s).height, .int .i64 (resStand s).cover, .int .i64 (resStand s).gap], .bool (okStand s)]) := by
  unfold Gives
  have HS := Lib.hid fun (W : World) => l01Split_any s 32 32 W rfl hs
  obtain ⟨Q, hQ⟩ : ∃ Q, Q = cutsB 32 s := ⟨_, rfl⟩
  have hQp : Hid (∀ k, k < Q.length → (nth Q k).size ≤ 1048576) := fun k hk => by have := piece_size (c := 32) (s := s) (p := nth Q k) (by rw [← hQ]; exact nth_mem hk); omega
  have hno : Hid ((Q.length ≠ 2 ∨ numsOk (nth Q 1) 4 = false ∨ standB (standOf (nth Q 0) (listV (nth Q 1))) = false) → resStand s = ⟨⟨#[]⟩, 0, 0, 0, 0⟩ ∧ okStand s = false) := fun h => readStand_none (by
    unfold readStand readG
    rw [if_neg]
    rintro ⟨h0, h3⟩
    obtain ⟨h1, h2⟩ := twoB_iff.1 h0
    rw [← hQ] at h1 h2 h3
    rcases h with h | h | h
    · exact h h1
    · rw [h2] at h; cases h
    · rw [h3] at h; cases h)
  have hyes : Hid (Q.length = 2 → numsOk (nth Q 1) 4 = true → standB (standOf (nth Q 0) (listV (nth Q 1))) = true → resStand s = standOf (nth Q 0) (listV (nth Q 1)) ∧ okStand s = true) := fun h1 h2 h3 => readStand_some (by
    unfold readStand readG
    rw [if_pos ⟨twoB_iff.2 ⟨by rw [← hQ]; exact h1, by rw [← hQ]; exact h2⟩, by rw [← hQ]; exact h3⟩, ← hQ])
  rw [← hQ] at HS
  clear hQ
  go_enter Tryd.func67, Tryd.ntmps67
  go_wp2_with fail
  refine (HS.out _).mono ?_
  rintro e W ⟨a, cap, rfl, -, -, R, y0, rfl⟩
  have R0 := Lib.hid R
  clear R HS
  by_cases h2 : Q.length = 2
  case neg =>
    have hv := Lib.hid (hno.out (.inl h2))
    have h2' : ((Q.length : Int) != 2) = true := by rw [bne_iff_ne]; omega
    clear h2
    go_wp2_with fail
    exact bodyPost_ret (v := .tuple #[.agg #[.string ⟨#[]⟩, .int .i64 0, .int .i64 0, .int .i64 0, .int .i64 0], .bool false]) (by simp [results, Tryd.results67, go_sem]) rfl ⟨by rw [hv.out.1, hv.out.2], (by repeat (first | with_reducible exact Ext.refl _ | with_reducible refine Ext.lift ?_ _ | with_reducible refine Ext.alloc ?_ _ | with_reducible refine Ext.setCell ?_ (by first | (simp; done) | (simp; omega) | omega) _ | with_reducible refine ext_setCells (by first | (simp; done) | (simp; omega) | omega) _ _ _ ?_))⟩
  have h2' : ((Q.length : Int) != 2) = false := by rw [h2]; rfl
  have hq : 1 < Q.length := by omega
  have hq0 : 0 < Q.length := by omega
  have h2h := Lib.hid h2
  have hz0 := hQp.out 0 (by omega)
  have hz1 := hQp.out 1 (by omega)
  clear h2
  obtain ⟨b, off, rfl⟩ := R0.out.base hq
  obtain ⟨hb, c1⟩ := StrAt.at R0.out 1 hq
  obtain ⟨-, c0⟩ := StrAt.at R0.out 0 (by omega)
  rw [Nat.add_zero] at c0
  simp at hb
  have HL := Lib.hid fun W' => specReadList_any (nth Q 1) W' hz1
  cases h1 : listB (nth Q 1)
  · have hv := Lib.hid (hno.out (.inr (.inl (numsOk_b h1))))
    rw [h1] at HL
    go_wp2_with fail
    refine (HL.out _).mono ?_
    rintro e W2 ⟨a2, cap2, rfl, -, -, y2, rfl⟩
    go_wp2_with fail
    exact bodyPost_ret (v := .tuple #[.agg #[.string ⟨#[]⟩, .int .i64 0, .int .i64 0, .int .i64 0, .int .i64 0], .bool false]) (by simp [results, Tryd.results67, go_sem]) rfl ⟨by rw [hv.out.1, hv.out.2], (by repeat (first | with_reducible exact Ext.refl _ | with_reducible refine Ext.lift ?_ _ | with_reducible refine Ext.alloc ?_ _ | with_reducible refine Ext.setCell ?_ (by first | (simp; done) | (simp; omega) | omega) _ | with_reducible refine ext_setCells (by first | (simp; done) | (simp; omega) | omega) _ _ _ ?_))⟩
  rw [h1] at HL
  go_wp2_with fail
  refine (HL.out _).mono ?_
  rintro e W2 ⟨a2, cap2, rfl, -, R2, y2, rfl⟩
  have R3 := Lib.hid R2
  clear R2 HL c1
  by_cases h3 : (listV (nth Q 1)).length = 4
  case neg =>
    have hv := Lib.hid (hno.out (.inr (.inl (numsOk_n h3))))
    have h3' : (((listV (nth Q 1)).length : Int) != 4) = true := by rw [bne_iff_ne]; omega
    clear h3
    go_wp2_with fail
    exact bodyPost_ret (v := .tuple #[.agg #[.string ⟨#[]⟩, .int .i64 0, .int .i64 0, .int .i64 0, .int .i64 0], .bool false]) (by simp [results, Tryd.results67, go_sem]) rfl ⟨by rw [hv.out.1, hv.out.2], (by repeat (first | with_reducible exact Ext.refl _ | with_reducible refine Ext.lift ?_ _ | with_reducible refine Ext.alloc ?_ _ | with_reducible refine Ext.setCell ?_ (by first | (simp; done) | (simp; omega) | omega) _ | with_reducible refine ext_setCells (by first | (simp; done) | (simp; omega) | omega) _ _ _ ?_))⟩
  have h3' : (((listV (nth Q 1)).length : Int) != 4) = false := by rw [h3]; rfl
  have hok := Lib.hid (numsOk_y (m := 4) h1 h3)
  have hl : 3 < (listV (nth Q 1)).length := by omega
  have hl0 : 0 < (listV (nth Q 1)).length := by omega
  have hl1 : 1 < (listV (nth Q 1)).length := by omega
  have hl2 : 2 < (listV (nth Q 1)).length := by omega
  have hm1 : (1 : Int) < ((listV (nth Q 1)).length : Int) := by omega
  have hm2 : (2 : Int) < ((listV (nth Q 1)).length : Int) := by omega
  have hm3 : (3 : Int) < ((listV (nth Q 1)).length : Int) := by omega
  obtain ⟨x, hx⟩ : ∃ x, x = standOf (nth Q 0) (listV (nth Q 1)) := ⟨_, rfl⟩
  rw [← hx] at hno hyes
  have hxs : x.id.size ≤ 1048576 := by rw [hx]; exact hz0
  obtain ⟨b2, off2, rfl⟩ := R3.out.base hl
  obtain ⟨hb2, d0⟩ := IntAt.at (R3.out) 0 (by omega)
  obtain ⟨hb2, d1⟩ := IntAt.at (R3.out) 1 (by omega)
  obtain ⟨hb2, d2⟩ := IntAt.at (R3.out) 2 (by omega)
  obtain ⟨hb2, d3⟩ := IntAt.at (R3.out) 3 (by omega)
  rw [Nat.add_zero] at d0
  simp at hb2
  rw [show nth (listV (nth Q 1)) 0 = x.trees by rw [hx]; rfl] at d0
  rw [show nth (listV (nth Q 1)) 1 = x.height by rw [hx]; rfl] at d1
  rw [show nth (listV (nth Q 1)) 2 = x.cover by rw [hx]; rfl] at d2
  rw [show nth (listV (nth Q 1)) 3 = x.gap by rw [hx]; rfl] at d3
  rw [show nth Q 0 = x.id by rw [hx]; rfl] at c0
  clear hx h3
  go_wp2_with fail
  refine Grow.region_tail 17 [0, 1, 2, 3, 4, 5, 6, 7, 8, 9, 10, 11, 12, 13, 14, 15] [(false, 16)] (by kernel_rfl) (by kernel_rfl) ?_
  simp only [Grow.pick, Grow.pickB, List.getElem?_cons_succ, List.getElem?_cons_zero, List.drop_succ_cons, List.drop_zero]
  repeat
    refine Grow.heads_step (fun K' hK => ⟨rfl, ?_⟩)
    apply Exists.intro
    apply And.intro
    · intro w' hw'
      obtain ⟨x', rfl⟩ := hw'
      go_simp
      first | done | rfl | (rw [if_neg (by omega)]; done) | (rw [if_neg (by omega)]; rfl)
    go_simp
    refine hK _ ?_
    clear hK K'
  refine Grow.heads_nil ?_
  intro w5 e5
  obtain ⟨y5, rfl⟩ := e5
  refine Grow.seq_step (fun K' hK => ⟨rfl, ?_⟩)
  go_simp
  try rw [if_neg (by omega)]
  simp only [Grow.upon]
  refine ⟨(Ext.refl _).alloc _, fun w6 e6 => hK _ _ ?_⟩
  clear hK K'
  obtain ⟨y6, rfl⟩ := e6
  refine Grow.seq_nil ?_
  clear c0 d0 d1 d2 d3 hb2 hb
  cases h : standB x
  · have hv := Lib.hid (hno.out (.inr (.inr h)))
    go_wp2_with (go_at_call 108; refine (l10One_any _ _ x _ (by omega) (by go_simp) (by go_simp) (by go_simp) (by go_simp) (by go_simp)).mono ?_; rintro e w' ⟨rfl, z, rfl⟩; rw [h])
    exact bodyPost_ret (v := .tuple #[.agg #[.string ⟨#[]⟩, .int .i64 0, .int .i64 0, .int .i64 0, .int .i64 0], .bool false]) (by simp [results, Tryd.results67, go_sem]) rfl ⟨by rw [hv.out.1, hv.out.2], (by repeat (first | with_reducible exact Ext.refl _ | with_reducible refine Ext.lift ?_ _ | with_reducible refine Ext.alloc ?_ _ | with_reducible refine Ext.setCell ?_ (by first | (simp; done) | (simp; omega) | omega) _ | with_reducible refine ext_setCells (by first | (simp; done) | (simp; omega) | omega) _ _ _ ?_))⟩
  · have hv := Lib.hid (hyes.out h2h.out hok.out h)
    go_wp2_with (go_at_call 108; refine (l10One_any _ _ x _ (by omega) (by go_simp) (by go_simp) (by go_simp) (by go_simp) (by go_simp)).mono ?_; rintro e w' ⟨rfl, z, rfl⟩; rw [h])
    exact bodyPost_ret (v := .tuple #[.agg #[.string (x).id, .int .i64 (x).trees, .int .i64 (x).height, .int .i64 (x).cover, .int .i64 (x).gap], .bool true]) (by simp [results, Tryd.results67, go_sem]) rfl ⟨by rw [hv.out.1, hv.out.2], (by repeat (first | with_reducible exact Ext.refl _ | with_reducible refine Ext.lift ?_ _ | with_reducible refine Ext.alloc ?_ _ | with_reducible refine Ext.setCell ?_ (by first | (simp; done) | (simp; omega) | omega) _ | with_reducible refine ext_setCells (by first | (simp; done) | (simp; omega) | omega) _ _ _ ?_))⟩
set_option maxRecDepth 100000 in
set_option maxHeartbeats 4000000 in
theorem specReadStand_any (s : ByteArray) (w : World) (hs : s.size ≤ 1048576) :
    Gives Tryd.prog 28 #[.string s] w (.tuple #[.agg #[.string (resStand s).id, .int .i64 (resStand s).trees, .int .i64 (resStand s).height, .int .i64 (resStand s).cover, .int .i64 (resStand s).gap], .bool (okStand s)]) := by
  unfold Gives
  go_enter Tryd.func28, Tryd.ntmps28
  go_wp2_with (go_at_call 67; refine (l10Read_any s _ hs).mono ?_; rintro e w' ⟨rfl, y, rfl⟩)
  exact bodyPost_ret (v := .tuple #[.agg #[.string (resStand s).id, .int .i64 (resStand s).trees, .int .i64 (resStand s).height, .int .i64 (resStand s).cover, .int .i64 (resStand s).gap], .bool (okStand s)]) (by simp [results, Tryd.results28, go_sem]) rfl ⟨rfl, (by repeat (first | with_reducible exact Ext.refl _ | with_reducible refine Ext.lift ?_ _ | with_reducible refine Ext.alloc ?_ _ | with_reducible refine Ext.setCell ?_ (by first | (simp; done) | (simp; omega) | omega) _ | with_reducible refine ext_setCells (by first | (simp; done) | (simp; omega) | omega) _ _ _ ?_))⟩
set_option maxRecDepth 100000 in
set_option maxHeartbeats 4000000 in
theorem implReadStand_any (s : ByteArray) (w : World) (hs : s.size ≤ 1048576) (ht : RTab w) :
    Gives Tryd.prog 29 #[.string s] w (.tuple #[.agg #[.string (resStand s).id, .int .i64 (resStand s).trees, .int .i64 (resStand s).height, .int .i64 (resStand s).cover, .int .i64 (resStand s).gap], .bool (okStand s)]) := by
  unfold Gives
  have HT := Lib.hid ht
  have HR := Lib.hid fun (W : World) (he : Ext w W) => readWithId_4 s W hs (HT.out.ext he)
  have hlen := Lib.hid (numsL_len (restB s) 4)
  have hno : Hid (numsOk (restB s) 4 = false → resStand s = ⟨⟨#[]⟩, 0, 0, 0, 0⟩ ∧ okStand s = false) := fun h => readStand_none (readG_no h)
  obtain ⟨x, hx⟩ : ∃ x, x = standOf (withId s 4) (numsL (restB s) 4) := ⟨_, rfl⟩
  have hyes : Hid (numsOk (restB s) 4 = true → readStand s = if standS x = s then some x else none) := fun h => by
    rw [hx, numsL_yes h, withId_yes h]; exact readStand_yes h
  have hxs : x.id.size ≤ 1048576 := by rw [hx]; exact Nat.le_trans (withId_size s 4) hs
  have HX := Lib.hid fun (W : World) (he : Ext w W) => implStandText x W (by omega) (HT.out.tab.ext he)
  have n0 := Lib.hid (show nth (numsL (restB s) 4) 0 = x.trees by rw [hx]; rfl)
  have n1 := Lib.hid (show nth (numsL (restB s) 4) 1 = x.height by rw [hx]; rfl)
  have n2 := Lib.hid (show nth (numsL (restB s) 4) 2 = x.cover by rw [hx]; rfl)
  have n3 := Lib.hid (show nth (numsL (restB s) 4) 3 = x.gap by rw [hx]; rfl)
  have ni := Lib.hid (show withId s 4 = x.id by rw [hx]; rfl)
  rw [ni.out] at HR
  clear hx ht
  go_enter Tryd.func29, Tryd.ntmps29
  go_wp2_with fail
  refine (HR.out _ (by repeat (first | exact Ext.refl _ | refine Ext.lift ?_ _ | refine Ext.alloc ?_ _))).mono ?_
  rintro e W2 ⟨a2, cap2, rfl, R2, y2, rfl⟩
  have R3 := Lib.hid R2
  clear R2 HR
  have hl : 3 < (numsL (restB s) 4).length := by rw [hlen.out]; decide
  obtain ⟨b2, off2, rfl⟩ := R3.out.base hl
  obtain ⟨hb2, d0⟩ := IntAt.at R3.out 0 (by omega)
  rw [n0.out] at d0
  obtain ⟨hb2, d1⟩ := IntAt.at R3.out 1 (by omega)
  rw [n1.out] at d1
  obtain ⟨hb2, d2⟩ := IntAt.at R3.out 2 (by omega)
  rw [n2.out] at d2
  obtain ⟨hb2, d3⟩ := IntAt.at R3.out 3 (by omega)
  rw [n3.out] at d3
  rw [Nat.add_zero] at d0
  simp at hb2
  clear hl
  go_wp2_with fail
  refine Grow.region_tail 15 [0, 1, 2, 3, 4, 5, 6, 7, 8, 9, 10, 11, 12, 13] [(false, 14)] (by kernel_rfl) (by kernel_rfl) ?_
  simp only [Grow.pick, Grow.pickB, List.getElem?_cons_succ, List.getElem?_cons_zero, List.drop_succ_cons, List.drop_zero]
  repeat
    refine Grow.heads_step (fun K' hK => ⟨rfl, ?_⟩)
    apply Exists.intro
    apply And.intro
    · intro w' hw'
      obtain ⟨x', rfl⟩ := hw'
      go_simp
      first | done | rfl | (rw [if_neg (by omega)]; done) | (rw [if_neg (by omega)]; rfl)
    go_simp
    refine hK _ ?_
    clear hK K'
  refine Grow.heads_nil ?_
  intro w5 e5
  obtain ⟨y5, rfl⟩ := e5
  refine Grow.seq_step (fun K' hK => ⟨rfl, ?_⟩)
  go_simp
  try rw [if_neg (by omega)]
  simp only [Grow.upon]
  refine ⟨(Ext.refl _).alloc _, fun w6 e6 => hK _ _ ?_⟩
  clear hK K'
  obtain ⟨y6, rfl⟩ := e6
  refine Grow.seq_nil ?_
  clear d0 d1 d2 d3 hb2
  cases h : numsOk (restB s) 4
  · have hv := Lib.hid (hno.out h)
    clear h
    go_wp2_with fail
    exact bodyPost_ret (v := .tuple #[.agg #[.string ⟨#[]⟩, .int .i64 0, .int .i64 0, .int .i64 0, .int .i64 0], .bool false]) (by simp [results, Tryd.results29, go_sem]) rfl ⟨by rw [hv.out.1, hv.out.2], (by repeat (first | with_reducible exact Ext.refl _ | with_reducible refine Ext.lift ?_ _ | with_reducible refine Ext.alloc ?_ _ | with_reducible refine Ext.setCell ?_ (by first | (simp; done) | (simp; omega) | omega) _ | with_reducible refine ext_setCells (by first | (simp; done) | (simp; omega) | omega) _ _ _ ?_))⟩
  · cases h2 : sEq (standS x) s
    · have hv := Lib.hid (readStand_none (s := s) (by rw [hyes.out h, if_neg (sEq_not.1 h2)]))
      clear h
      generalize standS x = tx at *
      go_wp2_with (go_at_call 68; refine (HX.out _ (by repeat (first | with_reducible exact Ext.refl _ | with_reducible refine Ext.lift ?_ _ | with_reducible refine Ext.alloc ?_ _ | with_reducible refine Ext.setCell ?_ (by first | (simp; done) | (simp; omega) | omega) _ | with_reducible refine ext_setCells (by first | (simp; done) | (simp; omega) | omega) _ _ _ ?_))).mono ?_; rintro e w' ⟨rfl, z, rfl⟩)
      exact bodyPost_ret (v := .tuple #[.agg #[.string ⟨#[]⟩, .int .i64 0, .int .i64 0, .int .i64 0, .int .i64 0], .bool false]) (by simp [results, Tryd.results29, go_sem]) rfl ⟨by rw [hv.out.1, hv.out.2], (by repeat (first | with_reducible exact Ext.refl _ | with_reducible refine Ext.lift ?_ _ | with_reducible refine Ext.alloc ?_ _ | with_reducible refine Ext.setCell ?_ (by first | (simp; done) | (simp; omega) | omega) _ | with_reducible refine ext_setCells (by first | (simp; done) | (simp; omega) | omega) _ _ _ ?_))⟩
    · have hv := Lib.hid (readStand_some (s := s) (x := x) (by rw [hyes.out h, if_pos (sEq_iff.1 h2)]))
      clear h
      generalize standS x = tx at *
      go_wp2_with (go_at_call 68; refine (HX.out _ (by repeat (first | with_reducible exact Ext.refl _ | with_reducible refine Ext.lift ?_ _ | with_reducible refine Ext.alloc ?_ _ | with_reducible refine Ext.setCell ?_ (by first | (simp; done) | (simp; omega) | omega) _ | with_reducible refine ext_setCells (by first | (simp; done) | (simp; omega) | omega) _ _ _ ?_))).mono ?_; rintro e w' ⟨rfl, z, rfl⟩)
      exact bodyPost_ret (v := .tuple #[.agg #[.string (x).id, .int .i64 (x).trees, .int .i64 (x).height, .int .i64 (x).cover, .int .i64 (x).gap], .bool true]) (by simp [results, Tryd.results29, go_sem]) rfl ⟨by rw [hv.out.1, hv.out.2], (by repeat (first | with_reducible exact Ext.refl _ | with_reducible refine Ext.lift ?_ _ | with_reducible refine Ext.alloc ?_ _ | with_reducible refine Ext.setCell ?_ (by first | (simp; done) | (simp; omega) | omega) _ | with_reducible refine ext_setCells (by first | (simp; done) | (simp; omega) | omega) _ _ _ ?_))⟩
end Go.Proofs.YtanafhppifhfmaaDoor
