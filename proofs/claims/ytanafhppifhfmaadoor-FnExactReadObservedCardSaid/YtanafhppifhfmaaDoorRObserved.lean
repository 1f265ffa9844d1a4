/- Observed read back: what the program's and the reference's functions hand back. -/
import Derived.Test.YtanafhppifhfmaaDoorRWith
import Derived.Test.YtanafhppifhfmaaDoorObs
namespace Go.Proofs.YtanafhppifhfmaaDoor
open Go.RowKit
def observedOf (L : List Int) : Observed := ⟨nth L 0, nth L 1, nth L 2, nth L 3⟩
def readObserved (s : ByteArray) : Option Observed := readL observedOf obsB 4 s
def resObserved (s : ByteArray) : Observed := (readObserved s).getD ⟨0, 0, 0, 0⟩
def okObserved (s : ByteArray) : Bool := (readObserved s).isSome
theorem readObserved_some {s : ByteArray} {x : Observed} (h : readObserved s = some x) : resObserved s = x ∧ okObserved s = true := by unfold resObserved okObserved; rw [h]; exact ⟨rfl, rfl⟩
theorem readObserved_none {s : ByteArray} (h : readObserved s = none) : resObserved s = ⟨0, 0, 0, 0⟩ ∧ okObserved s = false := by unfold resObserved okObserved; rw [h]; exact ⟨rfl, rfl⟩
theorem readObserved_yes {s : ByteArray} (h : numsOk s 4 = true) : readObserved s = if obsS (observedOf (listV s)) = s then some (observedOf (listV s)) else none :=
  readL_yes h (fun L hl hv => by
      unfold obsS; rw [if_pos hv]
      show listS [nth L 0, nth L 1, nth L 2, nth L 3] = listS L
      rw [← list4 hl])
    (fun x hx => by unfold obsS; rw [if_neg (by rw [hx]; decide)])
set_option maxRecDepth 100000 in
set_option maxHeartbeats 4000000 in
theorem l04Read_any (s : ByteArray) (w : World) (hs : s.size ≤ 1048576) :
    Gives Tryd.prog 59 #[.string s] w (.tuple #[.agg #[.int .i64 (resObserved s).hour, .int .i64 (resObserved s).snow, .int .i64 (resObserved s).degrees, .int .i64 (resObserved s).wind], .bool (okObserved s)]) := by
  unfold Gives
  have hno : Hid ((numsOk s 4 = false ∨ obsB (observedOf (listV s)) = false) → resObserved s = ⟨0, 0, 0, 0⟩ ∧ okObserved s = false) := fun h => readObserved_none (by
    unfold readObserved readL
    rw [if_neg]
    rintro ⟨h2, h3⟩
    rcases h with h | h
    · rw [h2] at h; cases h
    · rw [h3] at h; cases h)
  have hyes : Hid (numsOk s 4 = true → obsB (observedOf (listV s)) = true → resObserved s = observedOf (listV s) ∧ okObserved s = true) := fun h2 h3 => readObserved_some (by
    unfold readObserved readL
    rw [if_pos ⟨h2, h3⟩])
  have HL := Lib.hid fun W' => specReadList_any s W' hs
  go_enter Tryd.func59, Tryd.ntmps59
  go_wp2_with fail
  cases h1 : listB s
  · have hv := Lib.hid (hno.out (.inl (numsOk_b h1)))
    rw [h1] at HL
    refine (HL.out _).mono ?_
    rintro e W2 ⟨a2, cap2, rfl, -, -, y2, rfl⟩
    go_wp2_with fail
    exact bodyPost_ret (v := .tuple #[.agg #[.int .i64 0, .int .i64 0, .int .i64 0, .int .i64 0], .bool false]) (by simp [results, Tryd.results59, go_sem]) rfl ⟨by rw [hv.out.1, hv.out.2], (by repeat (first | with_reducible exact Ext.refl _ | with_reducible refine Ext.lift ?_ _ | with_reducible refine Ext.alloc ?_ _ | with_reducible refine Ext.setCell ?_ (by first | (simp; done) | (simp; omega) | omega) _ | with_reducible refine ext_setCells (by first | (simp; done) | (simp; omega) | omega) _ _ _ ?_))⟩
  rw [h1] at HL
  refine (HL.out _).mono ?_
  rintro e W2 ⟨a2, cap2, rfl, -, R2, y2, rfl⟩
  have R3 := Lib.hid R2
  clear R2 HL
  by_cases h3 : (listV s).length = 4
  case neg =>
    have hv := Lib.hid (hno.out (.inl (numsOk_n h3)))
    have h3' : (((listV s).length : Int) != 4) = true := by rw [bne_iff_ne]; omega
    clear h3
    go_wp2_with fail
    exact bodyPost_ret (v := .tuple #[.agg #[.int .i64 0, .int .i64 0, .int .i64 0, .int .i64 0], .bool false]) (by simp [results, Tryd.results59, go_sem]) rfl ⟨by rw [hv.out.1, hv.out.2], (by repeat (first | with_reducible exact Ext.refl _ | with_reducible refine Ext.lift ?_ _ | with_reducible refine Ext.alloc ?_ _ | with_reducible refine Ext.setCell ?_ (by first | (simp; done) | (simp; omega) | omega) _ | with_reducible refine ext_setCells (by first | (simp; done) | (simp; omega) | omega) _ _ _ ?_))⟩
  have h3' : (((listV s).length : Int) != 4) = false := by rw [h3]; rfl
  have hok := Lib.hid (numsOk_y (m := 4) h1 h3)
  have hl : 3 < (listV s).length := by omega
  have hl0 : 0 < (listV s).length := by omega
  have hl1 : 1 < (listV s).length := by omega
  have hl2 : 2 < (listV s).length := by omega
  have hm1 : (1 : Int) < ((listV s).length : Int) := by omega
  have hm2 : (2 : Int) < ((listV s).length : Int) := by omega
  have hm3 : (3 : Int) < ((listV s).length : Int) := by omega
  obtain ⟨x, hx⟩ : ∃ x, x = observedOf (listV s) := ⟨_, rfl⟩
  rw [← hx] at hno hyes
  obtain ⟨b2, off2, rfl⟩ := R3.out.base hl
  obtain ⟨hb2, d0⟩ := IntAt.at (R3.out) 0 (by omega)
  obtain ⟨hb2, d1⟩ := IntAt.at (R3.out) 1 (by omega)
  obtain ⟨hb2, d2⟩ := IntAt.at (R3.out) 2 (by omega)
  obtain ⟨hb2, d3⟩ := IntAt.at (R3.out) 3 (by omega)
  rw [Nat.add_zero] at d0
  simp at hb2
  rw [show nth (listV s) 0 = x.hour by rw [hx]; rfl] at d0
  rw [show nth (listV s) 1 = x.snow by rw [hx]; rfl] at d1
  rw [show nth (listV s) 2 = x.degrees by rw [hx]; rfl] at d2
  rw [show nth (listV s) 3 = x.wind by rw [hx]; rfl] at d3
  clear hx h3
  go_wp2_with fail
  refine Grow.region_tail 14 [0, 1, 2, 3, 4, 5, 6, 7, 8, 9, 10, 11, 12] [(false, 13)] (by kernel_rfl) (by kernel_rfl) ?_
  simp only [Grow.pick, Grow.pickB, List.getElem?_cons_succ, List.getElem?_cons_zero, List.drop_succ_cons, List.drop_zero]
  repeat
    refine Grow.heads_step (fun K' hK => ⟨rfl, ?_⟩)
    apply Exists.intro
    apply And.intro
    · intro w' hw'
      obtain ⟨x', rfl⟩ := hw'
      go_simp
      first | done | rfl | (rw [if_neg (by omega)]; done) | (rw [if_neg (by omega)]; rfl)
    go_simp
    refine hK _ ?_
    clear hK K'
  refine Grow.heads_nil ?_
  intro w5 e5
  obtain ⟨y5, rfl⟩ := e5
  refine Grow.seq_step (fun K' hK => ⟨rfl, ?_⟩)
  go_simp
  try rw [if_neg (by omega)]
  simp only [Grow.upon]
  refine ⟨(Ext.refl _).alloc _, fun w6 e6 => hK _ _ ?_⟩
  clear hK K'
  obtain ⟨y6, rfl⟩ := e6
  refine Grow.seq_nil ?_
  clear d0 d1 d2 d3 hb2
  cases h : obsB x
  · have hv := Lib.hid (hno.out (.inr h))
    go_wp2_with (go_at_call 101; refine (l04One_any _ _ x _ (by go_simp) (by go_simp) (by go_simp) (by go_simp)).mono ?_; rintro e w' ⟨rfl, z, rfl⟩; rw [h])
    exact bodyPost_ret (v := .tuple #[.agg #[.int .i64 0, .int .i64 0, .int .i64 0, .int .i64 0], .bool false]) (by simp [results, Tryd.results59, go_sem]) rfl ⟨by rw [hv.out.1, hv.out.2], (by repeat (first | with_reducible exact Ext.refl _ | with_reducible refine Ext.lift ?_ _ | with_reducible refine Ext.alloc ?_ _ | with_reducible refine Ext.setCell ?_ (by first | (simp; done) | (simp; omega) | omega) _ | with_reducible refine ext_setCells (by first | (simp; done) | (simp; omega) | omega) _ _ _ ?_))⟩
  · have hv := Lib.hid (hyes.out hok.out h)
    go_wp2_with (go_at_call 101; refine (l04One_any _ _ x _ (by go_simp) (by go_simp) (by go_simp) (by go_simp)).mono ?_; rintro e w' ⟨rfl, z, rfl⟩; rw [h])
    exact bodyPost_ret (v := .tuple #[.agg #[.int .i64 (x).hour, .int .i64 (x).snow, .int .i64 (x).degrees, .int .i64 (x).wind], .bool true]) (by simp [results, Tryd.results59, go_sem]) rfl ⟨by rw [hv.out.1, hv.out.2], (by repeat (first | with_reducible exact Ext.refl _ | with_reducible refine Ext.lift ?_ _ | with_reducible refine Ext.alloc ?_ _ | with_reducible refine Ext.setCell ?_ (by first | (simp; done) | (simp; omega) | omega) _ | with_reducible refine ext_setCells (by first | (simp; done) | (simp; omega) | omega) _ _ _ ?_))⟩
set_option maxRecDepth 100000 in
set_option maxHeartbeats 4000000 in
theorem specReadObserved_any (s : ByteArray) (w : World) (hs : s.size ≤ 1048576) :
    Gives Tryd.prog 19 #[.string s] w (.tuple #[.agg #[.int .i64 (resObserved s).hour, .int .i64 (resObserved s).snow, .int .i64 (resObserved s).degrees, .int .i64 (resObserved s).wind], .bool (okObserved s)]) := by
  unfold Gives
  go_enter Tryd.func19, Tryd.ntmps19
  go_wp2_with (go_at_call 59; refine (l04Read_any s _ hs).mono ?_; rintro e w' ⟨rfl, y, rfl⟩)
  exact bodyPost_ret (v := .tuple #[.agg #[.int .i64 (resObserved s).hour, .int .i64 (resObserved s).snow, .int .i64 (resObserved s).degrees, .int .i64 (resObserved s).wind], .bool (okObserved s)]) (by simp [results, Tryd.results19, go_sem]) rfl ⟨rfl, (by repeat (first | with_reducible exact Ext.refl _ | with_reducible refine Ext.lift ?_ _ | with_reducible refine Ext.alloc ?_ _ | with_reducible refine Ext.setCell ?_ (by first | (simp; done) | (simp; omega) | omega) _ | with_reducible refine ext_setCells (by first | (simp; done) | (simp; omega) | omega) _ _ _ ?_))⟩
set_option maxRecDepth 100000 in
set_option maxHeartbeats 4000000 in
theorem implReadObserved_any (s : ByteArray) (w : World) (hs : s.size ≤ 1048576) (ht : RTab w) :
    Gives Tryd.prog 20 #[.string s] w (.tuple #[.agg #[.int .i64 (resObserved s).hour, .int .i64 (resObserved s).snow, .int .i64 (resObserved s).degrees, .int .i64 (resObserved s).wind], .bool (okObserved s)]) := by
  unfold Gives
  have HT := Lib.hid ht
  have HR := Lib.hid fun (W : World) (he : Ext w W) => readNumbers_4 s W hs (HT.out.ext he)
  have hlen := Lib.hid (numsL_len (s) 4)
  have hno : Hid (numsOk (s) 4 = false → resObserved s = ⟨0, 0, 0, 0⟩ ∧ okObserved s = false) := fun h => readObserved_none (readL_no h)
  obtain ⟨x, hx⟩ : ∃ x, x = observedOf (numsL s 4) := ⟨_, rfl⟩
  have hyes : Hid (numsOk (s) 4 = true → readObserved s = if obsS x = s then some x else none) := fun h => by
    rw [hx, numsL_yes h]; exact readObserved_yes h
  have hxs := Lib.hid hx
  have HX := Lib.hid fun (W : World) (he : Ext w W) => implObservedText x W (HT.out.tab.ext he)
  have n0 := Lib.hid (show nth (numsL (s) 4) 0 = x.hour by rw [hx]; rfl)
  have n1 := Lib.hid (show nth (numsL (s) 4) 1 = x.snow by rw [hx]; rfl)
  have n2 := Lib.hid (show nth (numsL (s) 4) 2 = x.degrees by rw [hx]; rfl)
  have n3 := Lib.hid (show nth (numsL (s) 4) 3 = x.wind by rw [hx]; rfl)
  clear hx ht
  go_enter Tryd.func20, Tryd.ntmps20
  go_wp2_with fail
  refine (HR.out _ (by repeat (first | exact Ext.refl _ | refine Ext.lift ?_ _ | refine Ext.alloc ?_ _))).mono ?_
  rintro e W2 ⟨a2, cap2, rfl, R2, y2, rfl⟩
  have R3 := Lib.hid R2
  clear R2 HR
  have hl : 3 < (numsL (s) 4).length := by rw [hlen.out]; decide
  obtain ⟨b2, off2, rfl⟩ := R3.out.base hl
  obtain ⟨hb2, d0⟩ := IntAt.at R3.out 0 (by omega)
  rw [n0.out] at d0
  obtain ⟨hb2, d1⟩ := IntAt.at R3.out 1 (by omega)
  rw [n1.out] at d1
  obtain ⟨hb2, d2⟩ := IntAt.at R3.out 2 (by omega)
  rw [n2.out] at d2
  obtain ⟨hb2, d3⟩ := IntAt.at R3.out 3 (by omega)
  rw [n3.out] at d3
  rw [Nat.add_zero] at d0
  simp at hb2
  clear hl
  go_wp2_with fail
  refine Grow.region_tail 14 [0, 1, 2, 3, 4, 5, 6, 7, 8, 9, 10, 11, 12] [(false, 13)] (by kernel_rfl) (by kernel_rfl) ?_
  simp only [Grow.pick, Grow.pickB, List.getElem?_cons_succ, List.getElem?_cons_zero, List.drop_succ_cons, List.drop_zero]
  repeat
    refine Grow.heads_step (fun K' hK => ⟨rfl, ?_⟩)
    apply Exists.intro
    apply And.intro
    · intro w' hw'
      obtain ⟨x', rfl⟩ := hw'
      go_simp
      first | done | rfl | (rw [if_neg (by omega)]; done) | (rw [if_neg (by omega)]; rfl)
    go_simp
    refine hK _ ?_
    clear hK K'
  refine Grow.heads_nil ?_
  intro w5 e5
  obtain ⟨y5, rfl⟩ := e5
  refine Grow.seq_step (fun K' hK => ⟨rfl, ?_⟩)
  go_simp
  try rw [if_neg (by omega)]
  simp only [Grow.upon]
  refine ⟨(Ext.refl _).alloc _, fun w6 e6 => hK _ _ ?_⟩
  clear hK K'
  obtain ⟨y6, rfl⟩ := e6
  refine Grow.seq_nil ?_
  clear d0 d1 d2 d3 hb2
  cases h : numsOk (s) 4
  · have hv := Lib.hid (hno.out h)
    clear h
    go_wp2_with fail
    exact bodyPost_ret (v := .tuple #[.agg #[.int .i64 0, .int .i64 0, .int .i64 0, .int .i64 0], .bool false]) (by simp [results, Tryd.results20, go_sem]) rfl ⟨by rw [hv.out.1, hv.out.2], (by repeat (first | with_reducible exact Ext.refl _ | with_reducible refine Ext.lift ?_ _ | with_reducible refine Ext.alloc ?_ _ | with_reducible refine Ext.setCell ?_ (by first | (simp; done) | (simp; omega) | omega) _ | with_reducible refine ext_setCells (by first | (simp; done) | (simp; omega) | omega) _ _ _ ?_))⟩
  · cases h2 : sEq (obsS x) s
    · have hv := Lib.hid (readObserved_none (s := s) (by rw [hyes.out h, if_neg (sEq_not.1 h2)]))
      clear h
      generalize obsS x = tx at *
      go_wp2_with (go_at_call 60; refine (HX.out _ (by repeat (first | with_reducible exact Ext.refl _ | with_reducible refine Ext.lift ?_ _ | with_reducible refine Ext.alloc ?_ _ | with_reducible refine Ext.setCell ?_ (by first | (simp; done) | (simp; omega) | omega) _ | with_reducible refine ext_setCells (by first | (simp; done) | (simp; omega) | omega) _ _ _ ?_))).mono ?_; rintro e w' ⟨rfl, z, rfl⟩)
      exact bodyPost_ret (v := .tuple #[.agg #[.int .i64 0, .int .i64 0, .int .i64 0, .int .i64 0], .bool false]) (by simp [results, Tryd.results20, go_sem]) rfl ⟨by rw [hv.out.1, hv.out.2], (by repeat (first | with_reducible exact Ext.refl _ | with_reducible refine Ext.lift ?_ _ | with_reducible refine Ext.alloc ?_ _ | with_reducible refine Ext.setCell ?_ (by first | (simp; done) | (simp; omega) | omega) _ | with_reducible refine ext_setCells (by first | (simp; done) | (simp; omega) | omega) _ _ _ ?_))⟩
    · have hv := Lib.hid (readObserved_some (s := s) (x := x) (by rw [hyes.out h, if_pos (sEq_iff.1 h2)]))
      clear h
      generalize obsS x = tx at *
      go_wp2_with (go_at_call 60; refine (HX.out _ (by repeat (first | with_reducible exact Ext.refl _ | with_reducible refine Ext.lift ?_ _ | with_reducible refine Ext.alloc ?_ _ | with_reducible refine Ext.setCell ?_ (by first | (simp; done) | (simp; omega) | omega) _ | with_reducible refine ext_setCells (by first | (simp; done) | (simp; omega) | omega) _ _ _ ?_))).mono ?_; rintro e w' ⟨rfl, z, rfl⟩)
      exact bodyPost_ret (v := .tuple #[.agg #[.int .i64 (x).hour, .int .i64 (x).snow, .int .i64 (x).degrees, .int .i64 (x).wind], .bool true]) (by simp [results, Tryd.results20, go_sem]) rfl ⟨by rw [hv.out.1, hv.out.2], (by repeat (first | with_reducible exact Ext.refl _ | with_reducible refine Ext.lift ?_ _ | with_reducible refine Ext.alloc ?_ _ | with_reducible refine Ext.setCell ?_ (by first | (simp; done) | (simp; omega) | omega) _ | with_reducible refine ext_setCells (by first | (simp; done) | (simp; omega) | omega) _ _ _ ?_))⟩
end Go.Proofs.YtanafhppifhfmaaDoor
