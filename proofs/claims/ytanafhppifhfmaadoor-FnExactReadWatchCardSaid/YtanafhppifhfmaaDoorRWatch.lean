/- A watch read back: what the program's and the reference's functions hand back. -/
import Derived.Test.YtanafhppifhfmaaDoorRThree
import Derived.Test.YtanafhppifhfmaaDoorWatchText
namespace Go.Proofs.YtanafhppifhfmaaDoor
open Go.RowKit
def callB (K : ByteArray) : Bool := sEq K ⟨#[99, 97, 108, 108]⟩
def workB (K : ByteArray) : Bool := sEq K ⟨#[119, 111, 114, 107]⟩
def watchOf (p k : ByteArray) (L : List Int) : Watch := ⟨p, nth L 0, nth L 1, callB k⟩
def readWatch (s : ByteArray) : Option Watch :=
  if (cutsB 32 s).length = 3 ∧ (callB (nth (cutsB 32 s) 2) || workB (nth (cutsB 32 s) 2)) = true ∧ numsOk (nth (cutsB 32 s) 1) 2 = true ∧ watchB (watchOf (nth (cutsB 32 s) 0) (nth (cutsB 32 s) 2) (listV (nth (cutsB 32 s) 1))) = true
  then some (watchOf (nth (cutsB 32 s) 0) (nth (cutsB 32 s) 2) (listV (nth (cutsB 32 s) 1))) else none
def resWatch (s : ByteArray) : Watch := (readWatch s).getD ⟨⟨#[]⟩, 0, 0, false⟩
def okWatch (s : ByteArray) : Bool := (readWatch s).isSome
theorem readWatch_some {s : ByteArray} {x : Watch} (h : readWatch s = some x) : resWatch s = x ∧ okWatch s = true := by unfold resWatch okWatch; rw [h]; exact ⟨rfl, rfl⟩
theorem readWatch_none {s : ByteArray} (h : readWatch s = none) : resWatch s = ⟨⟨#[]⟩, 0, 0, false⟩ ∧ okWatch s = false := by unfold resWatch okWatch; rw [h]; exact ⟨rfl, rfl⟩
theorem watch_text {s : ByteArray} (h : (cutsB 32 s).length = 3) (hn : numsOk (nth (cutsB 32 s) 1) 2 = true) :
    watchS (watchOf (nth (cutsB 32 s) 0) (nth (cutsB 32 s) 2) (listV (nth (cutsB 32 s) 1))) = s ↔ (callB (nth (cutsB 32 s) 2) || workB (nth (cutsB 32 s) 2)) = true ∧ watchB (watchOf (nth (cutsB 32 s) 0) (nth (cutsB 32 s) 2) (listV (nth (cutsB 32 s) 1))) = true := by
  have h3 := three_toList h
  obtain ⟨hp, hl⟩ := numsOk_iff.1 hn
  have hT := (listP_iff.1 hp).1
  generalize nth (cutsB 32 s) 0 = p at *
  generalize nth (cutsB 32 s) 1 = q at *
  generalize nth (cutsB 32 s) 2 = k at *
  have key : ∀ (u : ByteArray), (withS p (listV q) ++ u = s ↔ u.data.toList = 32 :: k.data.toList) := fun u => by
    constructor
    · intro e
      have := congrArg (fun x : ByteArray => x.data.toList) e
      simp only [ByteArray.data_append, Array.toList_append] at this
      rw [withS_toList, hT, h3] at this
      simpa using this
    · intro e
      rw [← mk_toList s, ← mk_toList (withS p (listV q) ++ u)]
      congr 2
      rw [ByteArray.data_append, Array.toList_append, withS_toList, hT, h3, e]; simp
  unfold watchS
  cases hv : watchB (watchOf p k (listV q))
  · rw [if_neg (by decide)]
    constructor
    · intro e
      rw [← e] at h3
      exact absurd (congrArg List.length h3) (by simp)
    · rintro ⟨-, h⟩; cases h
  · rw [if_pos rfl]
    have e0 : withS (watchOf p k (listV q)).person [(watchOf p k (listV q)).start, (watchOf p k (listV q)).hours] = withS p (listV q) := by
      show withS p [nth (listV q) 0, nth (listV q) 1] = _
      rw [← list2 hl]
    rw [e0, key]
    show (if callB k = true then callS else workS).data.toList = _ ↔ _
    cases hc : callB k
    · rw [if_neg (by decide)]
      simp only [Bool.false_or, and_true]
      unfold workB
      rw [sEq_iff]
      constructor
      · intro e
        have : k.data.toList = [119, 111, 114, 107] := by
          have e2 : workS.data.toList = 32 :: [119, 111, 114, 107] := rfl
          rw [e2] at e; exact (List.cons.inj e).2.symm
        rw [← mk_toList k, this]
      · rintro rfl; rfl
    · rw [if_pos rfl]
      simp only [Bool.true_or, and_true, iff_true]
      unfold callB at hc
      rw [sEq_iff] at hc
      rw [hc]; rfl
theorem readWatch_yes {s : ByteArray} (h : (cutsB 32 s).length = 3) (hn : numsOk (nth (cutsB 32 s) 1) 2 = true) :
    readWatch s = if watchS (watchOf (nth (cutsB 32 s) 0) (nth (cutsB 32 s) 2) (listV (nth (cutsB 32 s) 1))) = s then some (watchOf (nth (cutsB 32 s) 0) (nth (cutsB 32 s) 2) (listV (nth (cutsB 32 s) 1))) else none := by
  unfold readWatch
  by_cases e : watchS (watchOf (nth (cutsB 32 s) 0) (nth (cutsB 32 s) 2) (listV (nth (cutsB 32 s) 1))) = s
  · obtain ⟨h1, h2⟩ := (watch_text h hn).1 e
    rw [if_pos e, if_pos ⟨h, h1, hn, h2⟩]
  · rw [if_neg e, if_neg]
    rintro ⟨-, h1, -, h2⟩
    exact e ((watch_text h hn).2 ⟨h1, h2⟩)
set_option maxRecDepth 100000 in
set_option maxHeartbeats 4000000 in
theorem l26Read_any (s : ByteArray) (w : World) (hs : s.size ≤ 1048576) :
    Gives Tryd.prog 61 #[.string s] w (.tuple #[.agg #[.string (resWatch s).person, .int .i64 (resWatch s).start, .int .i64 (resWatch s).hours, .bool (resWatch s).call], .bool (okWatch s)]) := by
  unfold Gives
  have HS := Lib.hid fun (W : World) => l01Split_any s 32 32 W rfl hs
  obtain ⟨Q, hQ⟩ : ∃ Q, Q = cutsB 32 s := ⟨_, rfl⟩
  have hQp : Hid (∀ k, k < Q.length → (nth Q k).size ≤ 1048576) := fun k hk => by have := piece_size (c := 32) (s := s) (p := nth Q k) (by rw [← hQ]; exact nth_mem hk); omega
  have hno : Hid ((Q.length ≠ 3 ∨ (callB (nth Q 2) || workB (nth Q 2)) = false ∨ numsOk (nth Q 1) 2 = false ∨ watchB (watchOf (nth Q 0) (nth Q 2) (listV (nth Q 1))) = false) → resWatch s = ⟨⟨#[]⟩, 0, 0, false⟩ ∧ okWatch s = false) := fun h => readWatch_none (by
    unfold readWatch
    rw [if_neg]
    rw [← hQ]
    rintro ⟨h1, h2, h3, h4⟩
    rcases h with h | h | h | h
    · exact h h1
    · rw [h2] at h; cases h
    · rw [h3] at h; cases h
    · rw [h4] at h; cases h)
  have hyes : Hid (Q.length = 3 → (callB (nth Q 2) || workB (nth Q 2)) = true → numsOk (nth Q 1) 2 = true → watchB (watchOf (nth Q 0) (nth Q 2) (listV (nth Q 1))) = true → resWatch s = watchOf (nth Q 0) (nth Q 2) (listV (nth Q 1)) ∧ okWatch s = true) := fun h1 h2 h3 h4 => readWatch_some (by
    unfold readWatch
    rw [← hQ, if_pos ⟨h1, h2, h3, h4⟩])
  rw [← hQ] at HS
  clear hQ
  go_enter Tryd.func61, Tryd.ntmps61
  go_wp2_with fail
  refine (HS.out _).mono ?_
  rintro e W ⟨a, cap, rfl, -, -, R, y0, rfl⟩
  have R0 := Lib.hid R
  clear R HS
  by_cases h2 : Q.length = 3
  case neg =>
    have hv := Lib.hid (hno.out (.inl h2))
    have h2' : ((Q.length : Int) != 3) = true := by rw [bne_iff_ne]; omega
    clear h2
    go_wp2_with fail
    exact bodyPost_ret (v := .tuple #[.agg #[.string ⟨#[]⟩, .int .i64 0, .int .i64 0, .bool false], .bool false]) (by simp [results, Tryd.results61, go_sem]) rfl ⟨by rw [hv.out.1, hv.out.2], (by repeat (first | with_reducible exact Ext.refl _ | with_reducible refine Ext.lift ?_ _ | with_reducible refine Ext.alloc ?_ _ | with_reducible refine Ext.setCell ?_ (by first | (simp; done) | (simp; omega) | omega) _ | with_reducible refine ext_setCells (by first | (simp; done) | (simp; omega) | omega) _ _ _ ?_))⟩
  have h2' : ((Q.length : Int) != 3) = false := by rw [h2]; rfl
  have hq : 1 < Q.length := by omega
  have hq0 : 0 < Q.length := by omega
  have hq2 : 2 < Q.length := by omega
  have hqi : (2 : Int) < (Q.length : Int) := by omega
  have h2h := Lib.hid h2
  have hz0 := hQp.out 0 (by omega)
  have hz1 := hQp.out 1 (by omega)
  clear h2
  obtain ⟨b, off, rfl⟩ := R0.out.base hq
  obtain ⟨hb, c1⟩ := StrAt.at R0.out 1 hq
  obtain ⟨-, c2⟩ := StrAt.at R0.out 2 hq2
  obtain ⟨-, c0⟩ := StrAt.at R0.out 0 (by omega)
  rw [Nat.add_zero] at c0
  simp at hb
  have k1 := lit_eq (nth Q 2) [99, 97, 108, 108]
  have k2 := lit_eq (nth Q 2) [119, 111, 114, 107]
  cases hc : callB (nth Q 2)
  · have hc' : sEq (nth Q 2) ⟨#[99, 97, 108, 108]⟩ = false := hc
    rw [hc'] at k1
    cases hw : workB (nth Q 2)
    · have hw' : sEq (nth Q 2) ⟨#[119, 111, 114, 107]⟩ = false := hw
      rw [hw'] at k2
      have hv := Lib.hid (hno.out (.inr (.inl (by rw [hc, hw]; rfl))))
      clear hc hw hc' hw'
      go_wp2_with fail
      exact bodyPost_ret (v := .tuple #[.agg #[.string ⟨#[]⟩, .int .i64 0, .int .i64 0, .bool false], .bool false]) (by simp [results, Tryd.results61, go_sem]) rfl ⟨by rw [hv.out.1, hv.out.2], (by repeat (first | with_reducible exact Ext.refl _ | with_reducible refine Ext.lift ?_ _ | with_reducible refine Ext.alloc ?_ _ | with_reducible refine Ext.setCell ?_ (by first | (simp; done) | (simp; omega) | omega) _ | with_reducible refine ext_setCells (by first | (simp; done) | (simp; omega) | omega) _ _ _ ?_))⟩
    · have hw' : sEq (nth Q 2) ⟨#[119, 111, 114, 107]⟩ = true := hw
      rw [hw'] at k2
      have hkk : (callB (nth Q 2) || workB (nth Q 2)) = true := by rw [hc, hw]; rfl
      have hcB := Lib.hid hc
      replace hkk := Lib.hid hkk
      clear hc hw hc' hw'
      have HL := Lib.hid fun W' => specReadList_any (nth Q 1) W' hz1
      cases h1 : listB (nth Q 1)
      · have hv := Lib.hid (hno.out (.inr (.inr (.inl (numsOk_b h1)))))
        rw [h1] at HL
        go_wp2_with fail
        refine (HL.out _).mono ?_
        rintro e W2 ⟨a2, cap2, rfl, -, -, y2, rfl⟩
        go_wp2_with fail
        exact bodyPost_ret (v := .tuple #[.agg #[.string ⟨#[]⟩, .int .i64 0, .int .i64 0, .bool false], .bool false]) (by simp [results, Tryd.results61, go_sem]) rfl ⟨by rw [hv.out.1, hv.out.2], (by repeat (first | with_reducible exact Ext.refl _ | with_reducible refine Ext.lift ?_ _ | with_reducible refine Ext.alloc ?_ _ | with_reducible refine Ext.setCell ?_ (by first | (simp; done) | (simp; omega) | omega) _ | with_reducible refine ext_setCells (by first | (simp; done) | (simp; omega) | omega) _ _ _ ?_))⟩
      rw [h1] at HL
      go_wp2_with fail
      refine (HL.out _).mono ?_
      rintro e W2 ⟨a2, cap2, rfl, -, R2, y2, rfl⟩
      have R3 := Lib.hid R2
      clear R2 HL c1
      by_cases h3 : (listV (nth Q 1)).length = 2
      case neg =>
        have hv := Lib.hid (hno.out (.inr (.inr (.inl (numsOk_n h3)))))
        have h3' : (((listV (nth Q 1)).length : Int) != 2) = true := by rw [bne_iff_ne]; omega
        clear h3
        go_wp2_with fail
        exact bodyPost_ret (v := .tuple #[.agg #[.string ⟨#[]⟩, .int .i64 0, .int .i64 0, .bool false], .bool false]) (by simp [results, Tryd.results61, go_sem]) rfl ⟨by rw [hv.out.1, hv.out.2], (by repeat (first | with_reducible exact Ext.refl _ | with_reducible refine Ext.lift ?_ _ | with_reducible refine Ext.alloc ?_ _ | with_reducible refine Ext.setCell ?_ (by first | (simp; done) | (simp; omega) | omega) _ | with_reducible refine ext_setCells (by first | (simp; done) | (simp; omega) | omega) _ _ _ ?_))⟩
      have h3' : (((listV (nth Q 1)).length : Int) != 2) = false := by rw [h3]; rfl
      have hok := Lib.hid (numsOk_y (m := 2) h1 h3)
      have hl : 1 < (listV (nth Q 1)).length := by omega
      have hl0 : 0 < (listV (nth Q 1)).length := by omega
      have hm1 : (1 : Int) < ((listV (nth Q 1)).length : Int) := by omega
      obtain ⟨x, hx⟩ : ∃ x, x = watchOf (nth Q 0) (nth Q 2) (listV (nth Q 1)) := ⟨_, rfl⟩
      rw [← hx] at hno hyes
      have hxs : x.person.size ≤ 1048576 := by rw [hx]; exact hz0
      have hxc : x.call = false := by rw [hx]; exact hcB.out
      obtain ⟨b2, off2, rfl⟩ := R3.out.base hl
      obtain ⟨hb2, d0⟩ := IntAt.at R3.out 0 (by omega)
      obtain ⟨hb2, d1⟩ := IntAt.at R3.out 1 (by omega)
      rw [Nat.add_zero] at d0
      simp at hb2
      rw [show nth (listV (nth Q 1)) 0 = x.start by rw [hx]; rfl] at d0
      rw [show nth (listV (nth Q 1)) 1 = x.hours by rw [hx]; rfl] at d1
      rw [show nth Q 0 = x.person by rw [hx]; rfl] at c0
      clear hx h3
      go_wp2_with fail
      refine Grow.region_tail 15 [0, 1, 2, 3, 4, 5, 6, 7, 8, 9, 10, 11, 12, 13] [(false, 14)] (by kernel_rfl) (by kernel_rfl) ?_
      simp only [Grow.pick, Grow.pickB, List.getElem?_cons_succ, List.getElem?_cons_zero, List.drop_succ_cons, List.drop_zero]
      repeat
        refine Grow.heads_step (fun K' hK => ⟨rfl, ?_⟩)
        apply Exists.intro
        apply And.intro
        · intro w' hw'
          obtain ⟨x', rfl⟩ := hw'
          go_simp
          first | done | rfl | (rw [if_neg (by omega)]; done) | (rw [if_neg (by omega)]; rfl)
        go_simp
        refine hK _ ?_
        clear hK K'
      refine Grow.heads_nil ?_
      intro w5 e5
      obtain ⟨y5, rfl⟩ := e5
      refine Grow.seq_step (fun K' hK => ⟨rfl, ?_⟩)
      go_simp
      try rw [if_neg (by omega)]
      simp only [Grow.upon]
      refine ⟨(Ext.refl _).alloc _, fun w6 e6 => hK _ _ ?_⟩
      clear hK K'
      obtain ⟨y6, rfl⟩ := e6
      refine Grow.seq_nil ?_
      clear c0 c2 d0 d1 hb2 hb
      cases h : watchB x
      · have hv := Lib.hid (hno.out (.inr (.inr (.inr h))))
        go_wp2_with (go_at_call 103; refine (l26One_any _ _ x _ (by omega) (by go_simp) (by go_simp) (by go_simp) (by first | (go_simp; done) | (rw [hxc]; go_simp; done) | (go_simp; exact hxc) | (rw [hxc]; go_simp; exact hxc))).mono ?_; rintro e w' ⟨rfl, z, rfl⟩; rw [h])
        exact bodyPost_ret (v := .tuple #[.agg #[.string ⟨#[]⟩, .int .i64 0, .int .i64 0, .bool false], .bool false]) (by simp [results, Tryd.results61, go_sem]) rfl ⟨by rw [hv.out.1, hv.out.2], (by repeat (first | with_reducible exact Ext.refl _ | with_reducible refine Ext.lift ?_ _ | with_reducible refine Ext.alloc ?_ _ | with_reducible refine Ext.setCell ?_ (by first | (simp; done) | (simp; omega) | omega) _ | with_reducible refine ext_setCells (by first | (simp; done) | (simp; omega) | omega) _ _ _ ?_))⟩
      · have hv := Lib.hid (hyes.out h2h.out hkk hok.out h)
        go_wp2_with (go_at_call 103; refine (l26One_any _ _ x _ (by omega) (by go_simp) (by go_simp) (by go_simp) (by first | (go_simp; done) | (rw [hxc]; go_simp; done) | (go_simp; exact hxc) | (rw [hxc]; go_simp; exact hxc))).mono ?_; rintro e w' ⟨rfl, z, rfl⟩; rw [h])
        exact bodyPost_ret (v := .tuple #[.agg #[.string x.person, .int .i64 x.start, .int .i64 x.hours, .bool false], .bool true]) (by simp [results, Tryd.results61, go_sem]) rfl ⟨by rw [hv.out.1, hv.out.2, hxc], (by repeat (first | with_reducible exact Ext.refl _ | with_reducible refine Ext.lift ?_ _ | with_reducible refine Ext.alloc ?_ _ | with_reducible refine Ext.setCell ?_ (by first | (simp; done) | (simp; omega) | omega) _ | with_reducible refine ext_setCells (by first | (simp; done) | (simp; omega) | omega) _ _ _ ?_))⟩
  · have hc' : sEq (nth Q 2) ⟨#[99, 97, 108, 108]⟩ = true := hc
    rw [hc'] at k1
    have hkk : (callB (nth Q 2) || workB (nth Q 2)) = true := by rw [hc]; rfl
    have hcB := Lib.hid hc
    replace hkk := Lib.hid hkk
    clear hc hc' k2
    have HL := Lib.hid fun W' => specReadList_any (nth Q 1) W' hz1
    cases h1 : listB (nth Q 1)
    · have hv := Lib.hid (hno.out (.inr (.inr (.inl (numsOk_b h1)))))
      rw [h1] at HL
      go_wp2_with fail
      refine (HL.out _).mono ?_
      rintro e W2 ⟨a2, cap2, rfl, -, -, y2, rfl⟩
      go_wp2_with fail
      exact bodyPost_ret (v := .tuple #[.agg #[.string ⟨#[]⟩, .int .i64 0, .int .i64 0, .bool false], .bool false]) (by simp [results, Tryd.results61, go_sem]) rfl ⟨by rw [hv.out.1, hv.out.2], (by repeat (first | with_reducible exact Ext.refl _ | with_reducible refine Ext.lift ?_ _ | with_reducible refine Ext.alloc ?_ _ | with_reducible refine Ext.setCell ?_ (by first | (simp; done) | (simp; omega) | omega) _ | with_reducible refine ext_setCells (by first | (simp; done) | (simp; omega) | omega) _ _ _ ?_))⟩
    rw [h1] at HL
    go_wp2_with fail
    refine (HL.out _).mono ?_
    rintro e W2 ⟨a2, cap2, rfl, -, R2, y2, rfl⟩
    have R3 := Lib.hid R2
    clear R2 HL c1
    by_cases h3 : (listV (nth Q 1)).length = 2
    case neg =>
      have hv := Lib.hid (hno.out (.inr (.inr (.inl (numsOk_n h3)))))
      have h3' : (((listV (nth Q 1)).length : Int) != 2) = true := by rw [bne_iff_ne]; omega
      clear h3
      go_wp2_with fail
      exact bodyPost_ret (v := .tuple #[.agg #[.string ⟨#[]⟩, .int .i64 0, .int .i64 0, .bool false], .bool false]) (by simp [results, Tryd.results61, go_sem]) rfl ⟨by rw [hv.out.1, hv.out.2], (by repeat (first | with_reducible exact Ext.refl _ | with_reducible refine Ext.lift ?_ _ | with_reducible refine Ext.alloc ?_ _ | with_reducible refine Ext.setCell ?_ (by first | (simp; done) | (simp; omega) | omega) _ | with_reducible refine ext_setCells (by first | (simp; done) | (simp; omega) | omega) _ _ _ ?_))⟩
    have h3' : (((listV (nth Q 1)).length : Int) != 2) = false := by rw [h3]; rfl
    have hok := Lib.hid (numsOk_y (m := 2) h1 h3)
    have hl : 1 < (listV (nth Q 1)).length := by omega
    have hl0 : 0 < (listV (nth Q 1)).length := by omega
    have hm1 : (1 : Int) < ((listV (nth Q 1)).length : Int) := by omega
    obtain ⟨x, hx⟩ : ∃ x, x = watchOf (nth Q 0) (nth Q 2) (listV (nth Q 1)) := ⟨_, rfl⟩
    rw [← hx] at hno hyes
    have hxs : x.person.size ≤ 1048576 := by rw [hx]; exact hz0
    have hxc : x.call = true := by rw [hx]; exact hcB.out
    obtain ⟨b2, off2, rfl⟩ := R3.out.base hl
    obtain ⟨hb2, d0⟩ := IntAt.at R3.out 0 (by omega)
    obtain ⟨hb2, d1⟩ := IntAt.at R3.out 1 (by omega)
    rw [Nat.add_zero] at d0
    simp at hb2
    rw [show nth (listV (nth Q 1)) 0 = x.start by rw [hx]; rfl] at d0
    rw [show nth (listV (nth Q 1)) 1 = x.hours by rw [hx]; rfl] at d1
    rw [show nth Q 0 = x.person by rw [hx]; rfl] at c0
    clear hx h3
    go_wp2_with fail
    refine Grow.region_tail 15 [0, 1, 2, 3, 4, 5, 6, 7, 8, 9, 10, 11, 12, 13] [(false, 14)] (by kernel_rfl) (by kernel_rfl) ?_
    simp only [Grow.pick, Grow.pickB, List.getElem?_cons_succ, List.getElem?_cons_zero, List.drop_succ_cons, List.drop_zero]
    repeat
      refine Grow.heads_step (fun K' hK => ⟨rfl, ?_⟩)
      apply Exists.intro
      apply And.intro
      · intro w' hw'
        obtain ⟨x', rfl⟩ := hw'
        go_simp
        first | done | rfl | (rw [if_neg (by omega)]; done) | (rw [if_neg (by omega)]; rfl)
      go_simp
      refine hK _ ?_
      clear hK K'
    refine Grow.heads_nil ?_
    intro w5 e5
    obtain ⟨y5, rfl⟩ := e5
    refine Grow.seq_step (fun K' hK => ⟨rfl, ?_⟩)
    go_simp
    try rw [if_neg (by omega)]
    simp only [Grow.upon]
    refine ⟨(Ext.refl _).alloc _, fun w6 e6 => hK _ _ ?_⟩
    clear hK K'
    obtain ⟨y6, rfl⟩ := e6
    refine Grow.seq_nil ?_
    clear c0 c2 d0 d1 hb2 hb
    cases h : watchB x
    · have hv := Lib.hid (hno.out (.inr (.inr (.inr h))))
      go_wp2_with (go_at_call 103; refine (l26One_any _ _ x _ (by omega) (by go_simp) (by go_simp) (by go_simp) (by first | (go_simp; done) | (rw [hxc]; go_simp; done) | (go_simp; exact hxc) | (rw [hxc]; go_simp; exact hxc))).mono ?_; rintro e w' ⟨rfl, z, rfl⟩; rw [h])
      exact bodyPost_ret (v := .tuple #[.agg #[.string ⟨#[]⟩, .int .i64 0, .int .i64 0, .bool false], .bool false]) (by simp [results, Tryd.results61, go_sem]) rfl ⟨by rw [hv.out.1, hv.out.2], (by repeat (first | with_reducible exact Ext.refl _ | with_reducible refine Ext.lift ?_ _ | with_reducible refine Ext.alloc ?_ _ | with_reducible refine Ext.setCell ?_ (by first | (simp; done) | (simp; omega) | omega) _ | with_reducible refine ext_setCells (by first | (simp; done) | (simp; omega) | omega) _ _ _ ?_))⟩
    · have hv := Lib.hid (hyes.out h2h.out hkk hok.out h)
      go_wp2_with (go_at_call 103; refine (l26One_any _ _ x _ (by omega) (by go_simp) (by go_simp) (by go_simp) (by first | (go_simp; done) | (rw [hxc]; go_simp; done) | (go_simp; exact hxc) | (rw [hxc]; go_simp; exact hxc))).mono ?_; rintro e w' ⟨rfl, z, rfl⟩; rw [h])
      exact bodyPost_ret (v := .tuple #[.agg #[.string x.person, .int .i64 x.start, .int .i64 x.hours, .bool true], .bool true]) (by simp [results, Tryd.results61, go_sem]) rfl ⟨by rw [hv.out.1, hv.out.2, hxc], (by repeat (first | with_reducible exact Ext.refl _ | with_reducible refine Ext.lift ?_ _ | with_reducible refine Ext.alloc ?_ _ | with_reducible refine Ext.setCell ?_ (by first | (simp; done) | (simp; omega) | omega) _ | with_reducible refine ext_setCells (by first | (simp; done) | (simp; omega) | omega) _ _ _ ?_))⟩
set_option maxRecDepth 100000 in
set_option maxHeartbeats 4000000 in
theorem specReadWatch_any (s : ByteArray) (w : World) (hs : s.size ≤ 1048576) :
    Gives Tryd.prog 22 #[.string s] w (.tuple #[.agg #[.string (resWatch s).person, .int .i64 (resWatch s).start, .int .i64 (resWatch s).hours, .bool (resWatch s).call], .bool (okWatch s)]) := by
  unfold Gives
  go_enter Tryd.func22, Tryd.ntmps22
  go_wp2_with (go_at_call 61; refine (l26Read_any s _ hs).mono ?_; rintro e w' ⟨rfl, y, rfl⟩)
  exact bodyPost_ret (v := .tuple #[.agg #[.string (resWatch s).person, .int .i64 (resWatch s).start, .int .i64 (resWatch s).hours, .bool (resWatch s).call], .bool (okWatch s)]) (by simp [results, Tryd.results22, go_sem]) rfl ⟨rfl, (by repeat (first | with_reducible exact Ext.refl _ | with_reducible refine Ext.lift ?_ _ | with_reducible refine Ext.alloc ?_ _ | with_reducible refine Ext.setCell ?_ (by first | (simp; done) | (simp; omega) | omega) _ | with_reducible refine ext_setCells (by first | (simp; done) | (simp; omega) | omega) _ _ _ ?_))⟩
set_option maxRecDepth 100000 in
set_option maxHeartbeats 4000000 in
theorem implReadWatch_any (s : ByteArray) (w : World) (hs : s.size ≤ 1048576) (ht : RTab w) :
    Gives Tryd.prog 23 #[.string s] w (.tuple #[.agg #[.string (resWatch s).person, .int .i64 (resWatch s).start, .int .i64 (resWatch s).hours, .bool (resWatch s).call], .bool (okWatch s)]) := by
  unfold Gives
  have HT := Lib.hid ht
  have HS := Lib.hid fun (W : World) (he : Ext w W) => Split_any s 32 W hs (HT.out.ext he)
  obtain ⟨Q, hQ⟩ : ∃ Q, Q = cutsB 32 s := ⟨_, rfl⟩
  have hQp : Hid (∀ k, k < Q.length → (nth Q k).size ≤ 1048576) := fun k hk => by have := piece_size (c := 32) (s := s) (p := nth Q k) (by rw [← hQ]; exact nth_mem hk); omega
  have hno : Hid ((Q.length ≠ 3 ∨ numsOk (nth Q 1) 2 = false) → resWatch s = ⟨⟨#[]⟩, 0, 0, false⟩ ∧ okWatch s = false) := fun h => readWatch_none (by
    unfold readWatch
    rw [if_neg]
    rw [← hQ]
    rintro ⟨h1, -, h3, -⟩
    rcases h with h | h
    · exact h h1
    · rw [h3] at h; cases h)
  obtain ⟨x, hx⟩ : ∃ x, x = watchOf (nth Q 0) (nth Q 2) (numsL (nth Q 1) 2) := ⟨_, rfl⟩
  have hyes : Hid (Q.length = 3 → numsOk (nth Q 1) 2 = true → readWatch s = if watchS x = s then some x else none) := fun h1 h2 => by
    rw [hx, numsL_yes h2, hQ]; exact readWatch_yes (by rw [← hQ]; exact h1) (by rw [← hQ]; exact h2)
  rw [← hQ] at HS
  clear hQ ht
  go_enter Tryd.func23, Tryd.ntmps23
  go_wp2_with fail
  refine (HS.out _ (by repeat (first | exact Ext.refl _ | refine Ext.lift ?_ _ | refine Ext.alloc ?_ _))).mono ?_
  rintro e W ⟨a, cap, rfl, R, y0, rfl⟩
  have R0 := Lib.hid R
  clear R HS
  by_cases h2 : Q.length = 3
  case neg =>
    have hv := Lib.hid (hno.out (.inl h2))
    have h2' : ((Q.length : Int) != 3) = true := by rw [bne_iff_ne]; omega
    clear h2
    go_wp2_with fail
    exact bodyPost_ret (v := .tuple #[.agg #[.string ⟨#[]⟩, .int .i64 0, .int .i64 0, .bool false], .bool false]) (by simp [results, Tryd.results23, go_sem]) rfl ⟨by rw [hv.out.1, hv.out.2], (by repeat (first | with_reducible exact Ext.refl _ | with_reducible refine Ext.lift ?_ _ | with_reducible refine Ext.alloc ?_ _ | with_reducible refine Ext.setCell ?_ (by first | (simp; done) | (simp; omega) | omega) _ | with_reducible refine ext_setCells (by first | (simp; done) | (simp; omega) | omega) _ _ _ ?_))⟩
  have h2' : ((Q.length : Int) != 3) = false := by rw [h2]; rfl
  have hq : 1 < Q.length := by omega
  have hq0 : 0 < Q.length := by omega
  have hq2 : 2 < Q.length := by omega
  have hqi : (2 : Int) < (Q.length : Int) := by omega
  have h2h := Lib.hid h2
  have hz0 := hQp.out 0 (by omega)
  have hz1 := hQp.out 1 (by omega)
  have hxs : x.person.size ≤ 1048576 := by rw [hx]; exact hz0
  have HX := Lib.hid fun (W : World) (he : Ext w W) => implWatchText x W (by omega) (HT.out.tab.ext he)
  have HR := Lib.hid fun (W : World) (he : Ext w W) => readNumbers_2 (nth Q 1) W hz1 (HT.out.ext he)
  have hlen := Lib.hid (numsL_len (nth Q 1) 2)
  clear h2
  obtain ⟨b, off, rfl⟩ := R0.out.base hq
  obtain ⟨hb, c1⟩ := StrAt.at R0.out 1 hq
  obtain ⟨-, c2⟩ := StrAt.at R0.out 2 hq2
  obtain ⟨-, c0⟩ := StrAt.at R0.out 0 (by omega)
  rw [Nat.add_zero] at c0
  simp at hb
  have k1 := lit_eq (nth Q 2) [99, 97, 108, 108]
  rw [show sEq (nth Q 2) ⟨[99, 97, 108, 108].toArray⟩ = x.call by rw [hx]; rfl] at k1
  rw [show nth Q 0 = x.person by rw [hx]; rfl] at c0
  have n0 := Lib.hid (show nth (numsL (nth Q 1) 2) 0 = x.start by rw [hx]; rfl)
  have n1 := Lib.hid (show nth (numsL (nth Q 1) 2) 1 = x.hours by rw [hx]; rfl)
  clear hx
  go_wp2_with fail
  refine (HR.out _ (by repeat (first | exact Ext.refl _ | refine Ext.lift ?_ _ | refine Ext.alloc ?_ _))).mono ?_
  rintro e W2 ⟨a2, cap2, rfl, R2, y2, rfl⟩
  have R3 := Lib.hid R2
  clear R2 HR c1
  have hl : 1 < (numsL (nth Q 1) 2).length := by rw [hlen.out]; decide
  obtain ⟨b2, off2, rfl⟩ := R3.out.base hl
  obtain ⟨hb2, d0⟩ := IntAt.at R3.out 0 (by omega)
  rw [n0.out] at d0
  obtain ⟨hb2, d1⟩ := IntAt.at R3.out 1 (by omega)
  rw [n1.out] at d1
  rw [Nat.add_zero] at d0
  simp at hb2
  clear hl
  go_wp2_with fail
  refine Grow.region_tail 15 [0, 1, 2, 3, 4, 5, 6, 7, 8, 9, 10, 11, 12, 13] [(false, 14)] (by kernel_rfl) (by kernel_rfl) ?_
  simp only [Grow.pick, Grow.pickB, List.getElem?_cons_succ, List.getElem?_cons_zero, List.drop_succ_cons, List.drop_zero]
  repeat
    refine Grow.heads_step (fun K' hK => ⟨rfl, ?_⟩)
    apply Exists.intro
    apply And.intro
    · intro w' hw'
      obtain ⟨x', rfl⟩ := hw'
      go_simp
      first | done | rfl | (rw [if_neg (by omega)]; done) | (rw [if_neg (by omega)]; rfl)
    go_simp
    refine hK _ ?_
    clear hK K'
  refine Grow.heads_nil ?_
  intro w5 e5
  obtain ⟨y5, rfl⟩ := e5
  refine Grow.seq_step (fun K' hK => ⟨rfl, ?_⟩)
  go_simp
  try rw [if_neg (by omega)]
  simp only [Grow.upon]
  refine ⟨(Ext.refl _).alloc _, fun w6 e6 => hK _ _ ?_⟩
  clear hK K'
  obtain ⟨y6, rfl⟩ := e6
  refine Grow.seq_nil ?_
  clear c0 c2 d0 d1 hb2 hb k1
  cases h : numsOk (nth Q 1) 2
  · have hv := Lib.hid (hno.out (.inr h))
    clear h
    go_wp2_with fail
    exact bodyPost_ret (v := .tuple #[.agg #[.string ⟨#[]⟩, .int .i64 0, .int .i64 0, .bool false], .bool false]) (by simp [results, Tryd.results23, go_sem]) rfl ⟨by rw [hv.out.1, hv.out.2], (by repeat (first | with_reducible exact Ext.refl _ | with_reducible refine Ext.lift ?_ _ | with_reducible refine Ext.alloc ?_ _ | with_reducible refine Ext.setCell ?_ (by first | (simp; done) | (simp; omega) | omega) _ | with_reducible refine ext_setCells (by first | (simp; done) | (simp; omega) | omega) _ _ _ ?_))⟩
  · cases h2 : sEq (watchS x) s
    · have hv := Lib.hid (readWatch_none (s := s) (by rw [hyes.out h2h.out h, if_neg (sEq_not.1 h2)]))
      clear h
      generalize watchS x = tx at *
      go_wp2_with (go_at_call 63; refine (HX.out _ (by repeat (first | with_reducible exact Ext.refl _ | with_reducible refine Ext.lift ?_ _ | with_reducible refine Ext.alloc ?_ _ | with_reducible refine Ext.setCell ?_ (by first | (simp; done) | (simp; omega) | omega) _ | with_reducible refine ext_setCells (by first | (simp; done) | (simp; omega) | omega) _ _ _ ?_))).mono ?_; rintro e w' ⟨rfl, z, rfl⟩)
      exact bodyPost_ret (v := .tuple #[.agg #[.string ⟨#[]⟩, .int .i64 0, .int .i64 0, .bool false], .bool false]) (by simp [results, Tryd.results23, go_sem]) rfl ⟨by rw [hv.out.1, hv.out.2], (by repeat (first | with_reducible exact Ext.refl _ | with_reducible refine Ext.lift ?_ _ | with_reducible refine Ext.alloc ?_ _ | with_reducible refine Ext.setCell ?_ (by first | (simp; done) | (simp; omega) | omega) _ | with_reducible refine ext_setCells (by first | (simp; done) | (simp; omega) | omega) _ _ _ ?_))⟩
    · have hv := Lib.hid (readWatch_some (s := s) (x := x) (by rw [hyes.out h2h.out h, if_pos (sEq_iff.1 h2)]))
      clear h
      generalize watchS x = tx at *
      go_wp2_with (go_at_call 63; refine (HX.out _ (by repeat (first | with_reducible exact Ext.refl _ | with_reducible refine Ext.lift ?_ _ | with_reducible refine Ext.alloc ?_ _ | with_reducible refine Ext.setCell ?_ (by first | (simp; done) | (simp; omega) | omega) _ | with_reducible refine ext_setCells (by first | (simp; done) | (simp; omega) | omega) _ _ _ ?_))).mono ?_; rintro e w' ⟨rfl, z, rfl⟩)
      exact bodyPost_ret (v := .tuple #[.agg #[.string x.person, .int .i64 x.start, .int .i64 x.hours, .bool x.call], .bool true]) (by simp [results, Tryd.results23, go_sem]) rfl ⟨by rw [hv.out.1, hv.out.2], (by repeat (first | with_reducible exact Ext.refl _ | with_reducible refine Ext.lift ?_ _ | with_reducible refine Ext.alloc ?_ _ | with_reducible refine Ext.setCell ?_ (by first | (simp; done) | (simp; omega) | omega) _ | with_reducible refine ext_setCells (by first | (simp; done) | (simp; omega) | omega) _ _ _ ?_))⟩
end Go.Proofs.YtanafhppifhfmaaDoor
