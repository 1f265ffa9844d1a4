/- Group read back: what the program's and the reference's functions hand back. -/
import Derived.Test.YtanafhppifhfmaaDoorRWith
import Derived.Test.YtanafhppifhfmaaDoorGroupText
namespace Go.Proofs.YtanafhppifhfmaaDoor
open Go.RowKit
def groupOf (id : ByteArray) (L : List Int) : Group := ⟨id, nth L 0, nth L 1, nth L 2, nth L 3, nth L 4, nth L 5⟩
def readGroup (s : ByteArray) : Option Group := readG groupOf groupB 6 s
def resGroup (s : ByteArray) : Group := (readGroup s).getD ⟨⟨#[]⟩, 0, 0, 0, 0, 0, 0⟩
def okGroup (s : ByteArray) : Bool := (readGroup s).isSome
theorem readGroup_some {s : ByteArray} {x : Group} (h : readGroup s = some x) : resGroup s = x ∧ okGroup s = true := by unfold resGroup okGroup; rw [h]; exact ⟨rfl, rfl⟩
theorem readGroup_none {s : ByteArray} (h : readGroup s = none) : resGroup s = ⟨⟨#[]⟩, 0, 0, 0, 0, 0, 0⟩ ∧ okGroup s = false := by unfold resGroup okGroup; rw [h]; exact ⟨rfl, rfl⟩
theorem readGroup_yes {s : ByteArray} (h : numsOk (restB s) 6 = true) : readGroup s = if groupS (groupOf (headB s) (listV (restB s))) = s then some (groupOf (headB s) (listV (restB s))) else none :=
  readG_yes h (fun id L hv => name_no32 (by
      have h9 : groupB (groupOf id L) = true := hv
      unfold groupB at h9
      simp only [Bool.and_eq_true] at h9
      simp only [and_assoc] at h9
      exact h9.1))
    (fun id L hl hv => by
      unfold groupS; rw [if_pos hv]
      show withS id [nth L 0, nth L 1, nth L 2, nth L 3, nth L 4, nth L 5] = withS id L
      rw [← list6 hl])
    (fun x hx => by unfold groupS; rw [if_neg (by rw [hx]; decide)])
set_option maxRecDepth 100000 in
set_option maxHeartbeats 4000000 in
theorem l24Read_any (s : ByteArray) (w : World) (hs : s.size ≤ 1048576) :
    Gives Tryd.prog 71 #[.string s] w (.tuple #[.agg #[.string (resGroup s).id, .int .i64 (resGroup s).people, .int .i64 (resGroup s).guides, .int .i64 (resGroup s).beacons, .int .i64 (resGroup s).shovels, .int .i64 (resGroup s).probes, .int .i64 (resGroup s).skill], .bool (okGroup s)]) := by
  unfold Gives
  have HS := Lib.hid fun (W : World) => l01Split_any s 32 32 W rfl hs
  obtain ⟨Q, hQ⟩ : ∃ Q, Q = cutsB 32 s := ⟨_, rfl⟩
  have hQp : Hid (∀ k, k < Q.length → (nth Q k).size ≤ 1048576) := fun k hk => by have := piece_size (c := 32) (s := s) (p := nth Q k) (by rw [← hQ]; exact nth_mem hk); omega
  have hno : Hid ((Q.length ≠ 2 ∨ numsOk (nth Q 1) 6 = false ∨ groupB (groupOf (nth Q 0) (listV (nth Q 1))) = false) → resGroup s = ⟨⟨#[]⟩, 0, 0, 0, 0, 0, 0⟩ ∧ okGroup s = false) := fun h => readGroup_none (by
    unfold readGroup readG
    rw [if_neg]
    rintro ⟨h0, h3⟩
    obtain ⟨h1, h2⟩ := twoB_iff.1 h0
    rw [← hQ] at h1 h2 h3
    rcases h with h | h | h
    · exact h h1
    · rw [h2] at h; cases h
    · rw [h3] at h; cases h)
  have hyes : Hid (Q.length = 2 → numsOk (nth Q 1) 6 = true → groupB (groupOf (nth Q 0) (listV (nth Q 1))) = true → resGroup s = groupOf (nth Q 0) (listV (nth Q 1)) ∧ okGroup s = true) := fun h1 h2 h3 => readGroup_some (by
    unfold readGroup readG
    rw [if_pos ⟨twoB_iff.2 ⟨by rw [← hQ]; exact h1, by rw [← hQ]; exact h2⟩, by rw [← hQ]; exact h3⟩, ← hQ])
  rw [← hQ] at HS
  clear hQ
  go_enter Tryd.func71, Tryd.ntmps71
  go_wp2_with fail
  refine (HS.out _).mono ?_
  rintro e W ⟨a, cap, rfl, -, -, R, y0, rfl⟩
  have R0 := Lib.hid R
  clear R HS
  by_cases h2 : Q.length = 2
  case neg =>
    have hv := Lib.hid (hno.out (.inl h2))
    have h2' : ((Q.length : Int) != 2) = true := by rw [bne_iff_ne]; omega
    clear h2
    go_wp2_with fail
    exact bodyPost_ret (v := .tuple #[.agg #[.string ⟨#[]⟩, .int .i64 0, .int .i64 0, .int .i64 0, .int .i64 0, .int .i64 0, .int .i64 0], .bool false]) (by simp [results, Tryd.results71, go_sem]) rfl ⟨by rw [hv.out.1, hv.out.2], (by repeat (first | with_reducible exact Ext.refl _ | with_reducible refine Ext.lift ?_ _ | with_reducible refine Ext.alloc ?_ _ | with_reducible refine Ext.setCell ?_ (by first | (simp; done) | (simp; omega) | omega) _ | with_reducible refine ext_setCells (by first | (simp; done) | (simp; omega) | omega) _ _ _ ?_))⟩
  have h2' : ((Q.length : Int) != 2) = false := by rw [h2]; rfl
  have hq : 1 < Q.length := by omega
  have hq0 : 0 < Q.length := by omega
  have h2h := Lib.hid h2
  have hz0 := hQp.out 0 (by omega)
  have hz1 := hQp.out 1 (by omega)
  clear h2
  obtain ⟨b, off, rfl⟩ := R0.out.base hq
  obtain ⟨hb, c1⟩ := StrAt.at R0.out 1 hq
  obtain ⟨-, c0⟩ := StrAt.at R0.out 0 (by omega)
  rw [Nat.add_zero] at c0
  simp at hb
  have HL := Lib.hid fun W' => specReadList_any (nth Q 1) W' hz1
  cases h1 : listB (nth Q 1)
  · have hv := Lib.hid (hno.out (.inr (.inl (numsOk_b h1))))
    rw [h1] at HL
    go_wp2_with fail
    refine (HL.out _).mono ?_
    rintro e W2 ⟨a2, cap2, rfl, -, -, y2, rfl⟩
    go_wp2_with fail
    exact bodyPost_ret (v := .tuple #[.agg #[.string ⟨#[]⟩, .int .i64 0, .int .i64 0, .int .i64 0, .int .i64 0, .int .i64 0, .int .i64 0], .bool false]) (by simp [results, Tryd.results71, go_sem]) rfl ⟨by rw [hv.out.1, hv.out.2], (by repeat (first | with_reducible exact Ext.refl _ | with_reducible refine Ext.lift ?_ _ | with_reducible refine Ext.alloc ?_ _ | with_reducible refine Ext.setCell ?_ (by first | (simp; done) | (simp; omega) | omega) _ | with_reducible refine ext_setCells (by first | (simp; done) | (simp; omega) | omega) _ _ _ ?_))⟩
  rw [h1] at HL
  go_wp2_with fail
  refine (HL.out _).mono ?_
  rintro e W2 ⟨a2, cap2, rfl, -, R2, y2, rfl⟩
  have R3 := Lib.hid R2
  clear R2 HL c1
  by_cases h3 : (listV (nth Q 1)).length = 6
  case neg =>
    have hv := Lib.hid (hno.out (.inr (.inl (numsOk_n h3))))
    have h3' : (((listV (nth Q 1)).length : Int) != 6) = true := by rw [bne_iff_ne]; omega
    clear h3
    go_wp2_with fail
    exact bodyPost_ret (v := .tuple #[.agg #[.string ⟨#[]⟩, .int .i64 0, .int .i64 0, .int .i64 0, .int .i64 0, .int .i64 0, .int .i64 0], .bool false]) (by simp [results, Tryd.results71, go_sem]) rfl ⟨by rw [hv.out.1, hv.out.2], (by repeat (first | with_reducible exact Ext.refl _ | with_reducible refine Ext.lift ?_ _ | with_reducible refine Ext.alloc ?_ _ | with_reducible refine Ext.setCell ?_ (by first | (simp; done) | (simp; omega) | omega) _ | with_reducible refine ext_setCells (by first | (simp; done) | (simp; omega) | omega) _ _ _ ?_))⟩
  have h3' : (((listV (nth Q 1)).length : Int) != 6) = false := by rw [h3]; rfl
  have hok := Lib.hid (numsOk_y (m := 6) h1 h3)
  have hl : 5 < (listV (nth Q 1)).length := by omega
  have hl0 : 0 < (listV (nth Q 1)).length := by omega
  have hl1 : 1 < (listV (nth Q 1)).length := by omega
  have hl2 : 2 < (listV (nth Q 1)).length := by omega
  have hl3 : 3 < (listV (nth Q 1)).length := by omega
  have hl4 : 4 < (listV (nth Q 1)).length := by omega
  have hm1 : (1 : Int) < ((listV (nth Q 1)).length : Int) := by omega
  have hm2 : (2 : Int) < ((listV (nth Q 1)).length : Int) := by omega
  have hm3 : (3 : Int) < ((listV (nth Q 1)).length : Int) := by omega
  have hm4 : (4 : Int) < ((listV (nth Q 1)).length : Int) := by omega
  have hm5 : (5 : Int) < ((listV (nth Q 1)).length : Int) := by omega
  obtain ⟨x, hx⟩ : ∃ x, x = groupOf (nth Q 0) (listV (nth Q 1)) := ⟨_, rfl⟩
  rw [← hx] at hno hyes
  have hxs : x.id.size ≤ 1048576 := by rw [hx]; exact hz0
  obtain ⟨b2, off2, rfl⟩ := R3.out.base hl
  obtain ⟨hb2, d0⟩ := IntAt.at (R3.out) 0 (by omega)
  obtain ⟨hb2, d1⟩ := IntAt.at (R3.out) 1 (by omega)
  obtain ⟨hb2, d2⟩ := IntAt.at (R3.out) 2 (by omega)
  obtain ⟨hb2, d3⟩ := IntAt.at (R3.out) 3 (by omega)
  obtain ⟨hb2, d4⟩ := IntAt.at (R3.out) 4 (by omega)
  obtain ⟨hb2, d5⟩ := IntAt.at (R3.out) 5 (by omega)
  rw [Nat.add_zero] at d0
  simp at hb2
  rw [show nth (listV (nth Q 1)) 0 = x.people by rw [hx]; rfl] at d0
  rw [show nth (listV (nth Q 1)) 1 = x.guides by rw [hx]; rfl] at d1
  rw [show nth (listV (nth Q 1)) 2 = x.beacons by rw [hx]; rfl] at d2
  rw [show nth (listV (nth Q 1)) 3 = x.shovels by rw [hx]; rfl] at d3
  rw [show nth (listV (nth Q 1)) 4 = x.probes by rw [hx]; rfl] at d4
  rw [show nth (listV (nth Q 1)) 5 = x.skill by rw [hx]; rfl] at d5
  rw [show nth Q 0 = x.id by rw [hx]; rfl] at c0
  clear hx h3
  go_wp2_with fail
  refine Grow.region_tail 23 [0, 1, 2, 3, 4, 5, 6, 7, 8, 9, 10, 11, 12, 13, 14, 15, 16, 17, 18, 19, 20, 21] [(false, 22)] (by kernel_rfl) (by kernel_rfl) ?_
  simp only [Grow.pick, Grow.pickB, List.getElem?_cons_succ, List.getElem?_cons_zero, List.drop_succ_cons, List.drop_zero]
  repeat
    refine Grow.heads_step (fun K' hK => ⟨rfl, ?_⟩)
    apply Exists.intro
    apply And.intro
    · intro w' hw'
      obtain ⟨x', rfl⟩ := hw'
      go_simp
      first | done | rfl | (rw [if_neg (by omega)]; done) | (rw [if_neg (by omega)]; rfl)
    go_simp
    refine hK _ ?_
    clear hK K'
  refine Grow.heads_nil ?_
  intro w5 e5
  obtain ⟨y5, rfl⟩ := e5
  refine Grow.seq_step (fun K' hK => ⟨rfl, ?_⟩)
  go_simp
  try rw [if_neg (by omega)]
  simp only [Grow.upon]
  refine ⟨(Ext.refl _).alloc _, fun w6 e6 => hK _ _ ?_⟩
  clear hK K'
  obtain ⟨y6, rfl⟩ := e6
  refine Grow.seq_nil ?_
  clear c0 d0 d1 d2 d3 d4 d5 hb2 hb
  cases h : groupB x
  · have hv := Lib.hid (hno.out (.inr (.inr h)))
    go_wp2_with (go_at_call 111; refine (l24One_any _ _ x _ (by omega) (by go_simp) (by go_simp) (by go_simp) (by go_simp) (by go_simp) (by go_simp) (by go_simp)).mono ?_; rintro e w' ⟨rfl, z, rfl⟩; rw [h])
    exact bodyPost_ret (v := .tuple #[.agg #[.string ⟨#[]⟩, .int .i64 0, .int .i64 0, .int .i64 0, .int .i64 0, .int .i64 0, .int .i64 0], .bool false]) (by simp [results, Tryd.results71, go_sem]) rfl ⟨by rw [hv.out.1, hv.out.2], (by repeat (first | with_reducible exact Ext.refl _ | with_reducible refine Ext.lift ?_ _ | with_reducible refine Ext.alloc ?_ _ | with_reducible refine Ext.setCell ?_ (by first | (simp; done) | (simp; omega) | omega) _ | with_reducible refine ext_setCells (by first | (simp; done) | (simp; omega) | omega) _ _ _ ?_))⟩
  · have hv := Lib.hid (hyes.out h2h.out hok.out h)
    go_wp2_with (go_at_call 111; refine (l24One_any _ _ x _ (by omega) (by go_simp) (by go_simp) (by go_simp) (by go_simp) (by go_simp) (by go_simp) (by go_simp)).mono ?_; rintro e w' ⟨rfl, z, rfl⟩; rw [h])
    exact bodyPost_ret (v := .tuple #[.agg #[.string (x).id, .int .i64 (x).people, .int .i64 (x).guides, .int .i64 (x).beacons, .int .i64 (x).shovels, .int .i64 (x).probes, .int .i64 (x).skill], .bool true]) (by simp [results, Tryd.results71, go_sem]) rfl ⟨by rw [hv.out.1, hv.out.2], (by repeat (first | with_reducible exact Ext.refl _ | with_reducible refine Ext.lift ?_ _ | with_reducible refine Ext.alloc ?_ _ | with_reducible refine Ext.setCell ?_ (by first | (simp; done) | (simp; omega) | omega) _ | with_reducible refine ext_setCells (by first | (simp; done) | (simp; omega) | omega) _ _ _ ?_))⟩
set_option maxRecDepth 100000 in
set_option maxHeartbeats 4000000 in
theorem specReadGroup_any (s : ByteArray) (w : World) (hs : s.size ≤ 1048576) :
    Gives Tryd.prog 34 #[.string s] w (.tuple #[.agg #[.string (resGroup s).id, .int .i64 (resGroup s).people, .int .i64 (resGroup s).guides, .int .i64 (resGroup s).beacons, .int .i64 (resGroup s).shovels, .int .i64 (resGroup s).probes, .int .i64 (resGroup s).skill], .bool (okGroup s)]) := by
  unfold Gives
  go_enter Tryd.func34, Tryd.ntmps34
  go_wp2_with (go_at_call 71; refine (l24Read_any s _ hs).mono ?_; rintro e w' ⟨rfl, y, rfl⟩)
  exact bodyPost_ret (v := .tuple #[.agg #[.string (resGroup s).id, .int .i64 (resGroup s).people, .int .i64 (resGroup s).guides, .int .i64 (resGroup s).beacons, .int .i64 (resGroup s).shovels, .int .i64 (resGroup s).probes, .int .i64 (resGroup s).skill], .bool (okGroup s)]) (by simp [results, Tryd.results34, go_sem]) rfl ⟨rfl, (by repeat (first | with_reducible exact Ext.refl _ | with_reducible refine Ext.lift ?_ _ | with_reducible refine Ext.alloc ?_ _ | with_reducible refine Ext.setCell ?_ (by first | (simp; done) | (simp; omega) | omega) _ | with_reducible refine ext_setCells (by first | (simp; done) | (simp; omega) | omega) _ _ _ ?_))⟩
set_option maxRecDepth 100000 in
set_option maxHeartbeats 4000000 in
theorem implReadGroup_any (s : ByteArray) (w : World) (hs : s.size ≤ 1048576) (ht : RTab w) :
    Gives Tryd.prog 35 #[.string s] w (.tuple #[.agg #[.string (resGroup s).id, .int .i64 (resGroup s).people, .int .i64 (resGroup s).guides, .int .i64 (resGroup s).beacons, .int .i64 (resGroup s).shovels, .int .i64 (resGroup s).probes, .int .i64 (resGroup s).skill], .bool (okGroup s)]) := by
  unfold Gives
  have HT := Lib.hid ht
  have HR := Lib.hid fun (W : World) (he : Ext w W) => readWithId_6 s W hs (HT.out.ext he)
  have hlen := Lib.hid (numsL_len (restB s) 6)
  have hno : Hid (numsOk (restB s) 6 = false → resGroup s = ⟨⟨#[]⟩, 0, 0, 0, 0, 0, 0⟩ ∧ okGroup s = false) := fun h => readGroup_none (readG_no h)
  obtain ⟨x, hx⟩ : ∃ x, x = groupOf (withId s 6) (numsL (restB s) 6) := ⟨_, rfl⟩
  have hyes : Hid (numsOk (restB s) 6 = true → readGroup s = if groupS x = s then some x else none) := fun h => by
    rw [hx, numsL_yes h, withId_yes h]; exact readGroup_yes h
  have hxs : x.id.size ≤ 1048576 := by rw [hx]; exact Nat.le_trans (withId_size s 6) hs
  have HX := Lib.hid fun (W : World) (he : Ext w W) => implGroupText x W (by omega) (HT.out.tab.ext he)
  have n0 := Lib.hid (show nth (numsL (restB s) 6) 0 = x.people by rw [hx]; rfl)
  have n1 := Lib.hid (show nth (numsL (restB s) 6) 1 = x.guides by rw [hx]; rfl)
  have n2 := Lib.hid (show nth (numsL (restB s) 6) 2 = x.beacons by rw [hx]; rfl)
  have n3 := Lib.hid (show nth (numsL (restB s) 6) 3 = x.shovels by rw [hx]; rfl)
  have n4 := Lib.hid (show nth (numsL (restB s) 6) 4 = x.probes by rw [hx]; rfl)
  have n5 := Lib.hid (show nth (numsL (restB s) 6) 5 = x.skill by rw [hx]; rfl)
  have ni := Lib.hid (show withId s 6 = x.id by rw [hx]; rfl)
  rw [ni.out] at HR
  clear hx ht
  go_enter Tryd.func35, Tryd.ntmps35
  go_wp2_with fail
  refine (HR.out _ (by repeat (first | exact Ext.refl _ | refine Ext.lift ?_ _ | refine Ext.alloc ?_ _))).mono ?_
  rintro e W2 ⟨a2, cap2, rfl, R2, y2, rfl⟩
  have R3 := Lib.hid R2
  clear R2 HR
  have hl : 5 < (numsL (restB s) 6).length := by rw [hlen.out]; decide
  obtain ⟨b2, off2, rfl⟩ := R3.out.base hl
  obtain ⟨hb2, d0⟩ := IntAt.at R3.out 0 (by omega)
  rw [n0.out] at d0
  obtain ⟨hb2, d1⟩ := IntAt.at R3.out 1 (by omega)
  rw [n1.out] at d1
  obtain ⟨hb2, d2⟩ := IntAt.at R3.out 2 (by omega)
  rw [n2.out] at d2
  obtain ⟨hb2, d3⟩ := IntAt.at R3.out 3 (by omega)
  rw [n3.out] at d3
  obtain ⟨hb2, d4⟩ := IntAt.at R3.out 4 (by omega)
  rw [n4.out] at d4
  obtain ⟨hb2, d5⟩ := IntAt.at R3.out 5 (by omega)
  rw [n5.out] at d5
  rw [Nat.add_zero] at d0
  simp at hb2
  clear hl
  go_wp2_with fail
  refine Grow.region_tail 21 [0, 1, 2, 3, 4, 5, 6, 7, 8, 9, 10, 11, 12, 13, 14, 15, 16, 17, 18, 19] [(false, 20)] (by kernel_rfl) (by kernel_rfl) ?_
  simp only [Grow.pick, Grow.pickB, List.getElem?_cons_succ, List.getElem?_cons_zero, List.drop_succ_cons, List.drop_zero]
  repeat
    refine Grow.heads_step (fun K' hK => ⟨rfl, ?_⟩)
    apply Exists.intro
    apply And.intro
    · intro w' hw'
      obtain ⟨x', rfl⟩ := hw'
      go_simp
      first | done | rfl | (rw [if_neg (by omega)]; done) | (rw [if_neg (by omega)]; rfl)
    go_simp
    refine hK _ ?_
    clear hK K'
  refine Grow.heads_nil ?_
  intro w5 e5
  obtain ⟨y5, rfl⟩ := e5
  refine Grow.seq_step (fun K' hK => ⟨rfl, ?_⟩)
  go_simp
  try rw [if_neg (by omega)]
  simp only [Grow.upon]
  refine ⟨(Ext.refl _).alloc _, fun w6 e6 => hK _ _ ?_⟩
  clear hK K'
  obtain ⟨y6, rfl⟩ := e6
  refine Grow.seq_nil ?_
  clear d0 d1 d2 d3 d4 d5 hb2
  cases h : numsOk (restB s) 6
  · have hv := Lib.hid (hno.out h)
    clear h
    go_wp2_with fail
    exact bodyPost_ret (v := .tuple #[.agg #[.string ⟨#[]⟩, .int .i64 0, .int .i64 0, .int .i64 0, .int .i64 0, .int .i64 0, .int .i64 0], .bool false]) (by simp [results, Tryd.results35, go_sem]) rfl ⟨by rw [hv.out.1, hv.out.2], (by repeat (first | with_reducible exact Ext.refl _ | with_reducible refine Ext.lift ?_ _ | with_reducible refine Ext.alloc ?_ _ | with_reducible refine Ext.setCell ?_ (by first | (simp; done) | (simp; omega) | omega) _ | with_reducible refine ext_setCells (by first | (simp; done) | (simp; omega) | omega) _ _ _ ?_))⟩
  · cases h2 : sEq (groupS x) s
    · have hv := Lib.hid (readGroup_none (s := s) (by rw [hyes.out h, if_neg (sEq_not.1 h2)]))
      clear h
      generalize groupS x = tx at *
      go_wp2_with (go_at_call 72; refine (HX.out _ (by repeat (first | with_reducible exact Ext.refl _ | with_reducible refine Ext.lift ?_ _ | with_reducible refine Ext.alloc ?_ _ | with_reducible refine Ext.setCell ?_ (by first | (simp; done) | (simp; omega) | omega) _ | with_reducible refine ext_setCells (by first | (simp; done) | (simp; omega) | omega) _ _ _ ?_))).mono ?_; rintro e w' ⟨rfl, z, rfl⟩)
      exact bodyPost_ret (v := .tuple #[.agg #[.string ⟨#[]⟩, .int .i64 0, .int .i64 0, .int .i64 0, .int .i64 0, .int .i64 0, .int .i64 0], .bool false]) (by simp [results, Tryd.results35, go_sem]) rfl ⟨by rw [hv.out.1, hv.out.2], (by repeat (first | with_reducible exact Ext.refl _ | with_reducible refine Ext.lift ?_ _ | with_reducible refine Ext.alloc ?_ _ | with_reducible refine Ext.setCell ?_ (by first | (simp; done) | (simp; omega) | omega) _ | with_reducible refine ext_setCells (by first | (simp; done) | (simp; omega) | omega) _ _ _ ?_))⟩
    · have hv := Lib.hid (readGroup_some (s := s) (x := x) (by rw [hyes.out h, if_pos (sEq_iff.1 h2)]))
      clear h
      generalize groupS x = tx at *
      go_wp2_with (go_at_call 72; refine (HX.out _ (by repeat (first | with_reducible exact Ext.refl _ | with_reducible refine Ext.lift ?_ _ | with_reducible refine Ext.alloc ?_ _ | with_reducible refine Ext.setCell ?_ (by first | (simp; done) | (simp; omega) | omega) _ | with_reducible refine ext_setCells (by first | (simp; done) | (simp; omega) | omega) _ _ _ ?_))).mono ?_; rintro e w' ⟨rfl, z, rfl⟩)
      exact bodyPost_ret (v := .tuple #[.agg #[.string (x).id, .int .i64 (x).people, .int .i64 (x).guides, .int .i64 (x).beacons, .int .i64 (x).shovels, .int .i64 (x).probes, .int .i64 (x).skill], .bool true]) (by simp [results, Tryd.results35, go_sem]) rfl ⟨by rw [hv.out.1, hv.out.2], (by repeat (first | with_reducible exact Ext.refl _ | with_reducible refine Ext.lift ?_ _ | with_reducible refine Ext.alloc ?_ _ | with_reducible refine Ext.setCell ?_ (by first | (simp; done) | (simp; omega) | omega) _ | with_reducible refine ext_setCells (by first | (simp; done) | (simp; omega) | omega) _ _ _ ?_))⟩
end Go.Proofs.YtanafhppifhfmaaDoor
