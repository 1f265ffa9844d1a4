/- The orders, crews, budgets that the reference draws; the draws of the law of shots. -/
import Derived.Test.YtpmbaemfpkcjnaaDrawShs
import Derived.Test.YtpmbaemfpkcjnaaShots
namespace Go.Proofs.Ytpmbaemfpkcjnaa
open Go.RowKit
def AllO (l : List Int) : Prop := ∀ y, y ∈ l → -1 ≤ y ∧ y ≤ 9
theorem AllO.nil : AllO [] := fun _ h => absurd h List.not_mem_nil
theorem AllO.at {l : List Int} (h : AllO l) (k : Nat) (hk : k < l.length) : -1 ≤ nth l k ∧ nth l k ≤ 9 := h _ (nth_mem hk)
theorem AllO.push {l : List Int} (h : AllO l) {x : Int} (hx : -1 ≤ x ∧ x ≤ 9) : AllO (l ++ [x]) := fun y hy => by
  rcases List.mem_append.1 hy with h1 | h1
  · exact h y h1
  · rw [List.mem_singleton.1 h1]; exact hx
set_option maxRecDepth 100000 in
set_option maxHeartbeats 8000000 in
theorem l22DrawOrder_any (w : World) (sb : Nat) (a : Option Addr) (cap : Nat) (code : List Int) (n : Nat) (H : Src w sb a cap code n) (hn : n ≤ 1000000) (m : Nat) (hm : m ≤ 9) :
    Calls Try.prog 33 #[.pointer (some ⟨sb, 0, none⟩), .int .i64 (m : Int)] w fun e w' => ∃ (v : Value) (l : List Int) (k : Nat), e = .returned v ∧ k ≤ 200 ∧ l.length ≤ 10 ∧ AllO l ∧ Lst 2 1 cellI w' w.heap.size v l ∧ Src w' sb a cap code (n + k) ∧ Moved sb w w' := by
  have hsl := H.lt
  have hO := Lib.hid (Lst.new (T := 2) (n := 1) (cell := cellI) (α := Int) w w.heap.size (Nat.le_refl _))
  have HD := Lib.hid ((Dr.start H).ext ((Ext.refl w).alloc (.cells #[] 2)))
  clear H
  go_enter Try.func33, Try.ntmps33
  go_wp2_with fail
  go_loopw [5, 6] (fun o i wr => ∃ (j q : Nat) (L : List Int), j ≤ m ∧ i = .int .i64 j ∧ q ≤ 2 * j ∧ L.length ≤ j ∧ Hid (AllO L) ∧ Hid (Lst 2 1 cellI wr w.heap.size o L) ∧ Hid (Dr w wr sb a cap code (n + q))) (fun _ i _ => m - (intOf i).toNat)
  case atStart => exact ⟨0, 0, [], by omega, rfl, by omega, Nat.le_refl _, AllO.nil, hO.out, HD.out⟩
  case round =>
    clear hO HD
    obtain ⟨j, q, L, hj, rfl, hq, hLj, hA, hO, HD⟩ := hrel
    have hzs := HD.out.size
    by_cases hlt : j < m
    · go_wp2_with fail
      refine (pick_any wr sb a cap code (n + q) HD.out.src (by omega) (m : Int) (by omega)).mono ?_
      rintro e W2 ⟨r, q1, rfl, r0, r1, hq1, S1, M1⟩
      replace r1 := r1 (by omega)
      replace hO := Lib.hid (hO.out.moved M1 (by omega))
      replace HD := Lib.hid (HD.out.step S1 M1)
      clear S1 M1
      have hzs := HD.out.size
      have HQ := Lib.hid hO
      obtain ⟨ao, co, ev, hco, -, hR, -⟩ := hO.out.shape
      have HH := Lib.hid fun (W : World) (he : Ext W2 W) => l00Has_any ao co L r W (RowsAt.ext hR he) (by omega)
      subst ev
      clear hO hR
      have hO := HQ.out
      clear HQ
      cases hb : hasB L r
      · rw [hb] at HH
        go_wp2_with fail
        refine (HH.out _ (Ext.refl _)).mono ?_
        rintro e W3 ⟨rfl, rfl⟩
        clear HH
        have hx := Lib.hid ((Ext.refl W3).alloc (.cells #[.int .i64 r] 2))
        replace hO := Lib.hid (hO.out.ext hx.out)
        replace HD := Lib.hid (HD.out.ext hx.out)
        have HR2 : Hid (IntAt (W3.alloc (.cells #[.int .i64 r] 2)) (some ⟨W3.heap.size, 0, none⟩) [r]) := rows_new (n := 1) (cell := cellI) (T := 2) W3 #[.int .i64 r] r (fun i hi => by rw [show i = 0 from Nat.lt_one_iff.1 hi]; rfl)
        clear hx
        try dsimp only
        repeat (first | (at_builtin; refine Hid.out ?_) | go_values | go_skip | go_guarded | go_step | go_upon | go_back)
        refine Lib.hid ?_
        refine wpList_pushL elInt oneInt rfl _ _ rfl w.heap.size _ L (by rfl) hO.out _ 1 1 [r] rfl (by rfl) HR2.out (by omega) (by omega) (by rw [size_new]; omega) ?_
        intro v2 w4 L4 _ g4
        have hrow : ∀ g, (Value.slice ao L.length co).ownBlock = some g → w.heap.size ≤ g := fun g e => ownBlock_le hO.out g e
        replace HD := Lib.hid (HD.out.grown g4 hrow)
        have hA2 := Lib.hid (hA.out.push (x := r) (by omega))
        have L4 := Lib.hid L4
        have hL2 : (L ++ [r]).length ≤ j + 1 := by rw [List.length_append]; simp; omega
        clear hO g4 hrow HR2
        go_wp2_with fail
        go_roundw
        case rel => exact ⟨j + 1, q + q1, L ++ [r], by omega, by go_num, by omega, hL2, hA2.out, L4.out, by rw [← Nat.add_assoc]; exact HD.out⟩
        case measure => simp [intOf]; omega
      · rw [hb] at HH
        go_wp2_with fail
        refine (HH.out _ (Ext.refl _)).mono ?_
        rintro e W3 ⟨rfl, rfl⟩
        clear HH
        go_wp2_with fail
        go_roundw
        case rel => exact ⟨j + 1, q + q1, L, by omega, by go_num, by omega, by omega, hA.out, hO.out, by rw [← Nat.add_assoc]; exact HD.out⟩
        case measure => simp [intOf]; omega
    · have h5 : j = m := by omega
      subst h5
      go_wp2_with fail
      refine (one_any wr sb a cap code (n + q) HD.out.src (by omega) 14 (by omega)).mono ?_
      rintro e W1 ⟨b, q1, rfl, hq1, S1, M1⟩
      replace hO := Lib.hid (hO.out.moved M1 (by omega))
      replace HD := Lib.hid (HD.out.step S1 M1)
      clear S1 M1
      cases b
      · go_wp2_with fail
        go_ret
        refine ⟨_, L, q + q1, rfl, by omega, by omega, hA.out, hO.out, ?_, HD.out.mv⟩
        rw [show n + (q + q1) = n + q + q1 by omega]
        exact HD.out.src
      · go_wp2_with fail
        have HT := rows_lit (cell := cellJ) (T := 2) W1 #[.int .i64 (-1), .int .i64 (j : Int), .int .i64 0] [(-1), (j : Int), 0] (fun k hk => by rcases (show k = 0 ∨ k = 1 ∨ k = 2 by simp at hk; omega) with rfl | rfl | rfl <;> rfl) rfl
        have hx := (Ext.refl W1).alloc (.cells #[.int .i64 (-1), .int .i64 (j : Int), .int .i64 0] 2)
        refine (among_any _ sb a cap code (n + q + q1) (HD.out.src.ext hx) (by omega) (some ⟨W1.heap.size, 0, none⟩) 3 _ HT (by simp) (by simp) (fun p e => by cases e; have := HD.out.src.lt; show W1.heap.size ≠ sb; omega)).mono ?_
        rintro e W2 ⟨r, q2, rfl, hs1, hq2, S2, M2⟩
        have hr : -1 ≤ r ∧ r ≤ 9 := by simp only [List.mem_cons, List.not_mem_nil, or_false] at hs1; omega
        have hz1 := HD.out.size
        replace hO := Lib.hid ((hO.out.ext hx).moved M2 (by omega))
        replace HD := Lib.hid ((HD.out.ext hx).step S2 M2)
        clear S2 M2 HT hx hs1
        have hzs := HD.out.size
        have hx := Lib.hid ((Ext.refl W2).alloc (.cells #[.int .i64 r] 2))
        replace hO := Lib.hid (hO.out.ext hx.out)
        replace HD := Lib.hid (HD.out.ext hx.out)
        have HR2 : Hid (IntAt (W2.alloc (.cells #[.int .i64 r] 2)) (some ⟨W2.heap.size, 0, none⟩) [r]) := rows_new (n := 1) (cell := cellI) (T := 2) W2 #[.int .i64 r] r (fun i hi => by rw [show i = 0 from Nat.lt_one_iff.1 hi]; rfl)
        clear hx
        try dsimp only
        repeat (first | (at_builtin; refine Hid.out ?_) | go_values | go_skip | go_guarded | go_step | go_upon | go_back)
        refine Lib.hid ?_
        refine wpList_pushL elInt oneInt rfl _ _ rfl w.heap.size _ L (by rfl) hO.out _ 1 1 [r] rfl (by rfl) HR2.out (by omega) (by omega) (by rw [size_new]; omega) ?_
        intro v2 w4 L4 _ g4
        have hrow : ∀ g, u5.ownBlock = some g → w.heap.size ≤ g := fun g e => ownBlock_le hO.out g e
        replace HD := Lib.hid (HD.out.grown g4 hrow)
        have hA2 := Lib.hid (hA.out.push (x := r) hr)
        have L4 := Lib.hid L4
        clear hO g4 hrow HR2
        go_wp2_with fail
        go_ret
        refine ⟨_, L ++ [r], q + q1 + q2, rfl, by omega, by rw [List.length_append]; simp; omega, hA2.out, L4.out, ?_, HD.out.mv⟩
        rw [show n + (q + q1 + q2) = n + q + q1 + q2 by omega]
        exact HD.out.src
set_option maxRecDepth 100000 in
set_option maxHeartbeats 4000000 in
theorem l22DrawCrews_any (w : World) (sb : Nat) (a : Option Addr) (cap : Nat) (code : List Int) (n : Nat) (H : Src w sb a cap code n) (hn : n ≤ 10000000) :
    Calls Try.prog 34 #[.pointer (some ⟨sb, 0, none⟩)] w fun e w' => ∃ (d : Int) (k : Nat), e = .returned (.int .i64 d) ∧ 0 ≤ d ∧ d ≤ 20001 ∧ k ≤ 4 ∧ Src w' sb a cap code (n + k) ∧ Moved sb w w' := by
  have HD := Lib.hid (Dr.start H)
  clear H
  go_enter Try.func34, Try.ntmps34
  go_wp2_with fail
  have HT := rows_lit (cell := cellJ) (T := 2) w #[.int .i64 1, .int .i64 2, .int .i64 3, .int .i64 2, .int .i64 1, .int .i64 0, .int .i64 4] [1, 2, 3, 2, 1, 0, 4] (fun k hk => by rcases (show k = 0 ∨ k = 1 ∨ k = 2 ∨ k = 3 ∨ k = 4 ∨ k = 5 ∨ k = 6 by simp at hk; omega) with rfl | rfl | rfl | rfl | rfl | rfl | rfl <;> rfl) rfl
  have hx := (Ext.refl w).alloc (.cells #[.int .i64 1, .int .i64 2, .int .i64 3, .int .i64 2, .int .i64 1, .int .i64 0, .int .i64 4] 2)
  refine (among_any _ sb a cap code n (HD.out.src.ext hx) (by omega) (some ⟨w.heap.size, 0, none⟩) 7 _ HT (by simp) (by simp) (fun p e => by cases e; have := HD.out.src.lt; show w.heap.size ≠ sb; omega)).mono ?_
  rintro e W9 ⟨s1, q2, rfl, hs1, hq9, S2, M2⟩
  have hs2 : 0 ≤ s1 ∧ s1 ≤ 20001 := by simp only [List.mem_cons, List.not_mem_nil, or_false] at hs1; omega
  replace HD := Lib.hid ((HD.out.ext hx).step S2 M2)
  clear S2 M2 HT hx hs1
  go_wp2_with fail
  go_ret
  exact ⟨_, q2, rfl, by omega, by omega, by omega, HD.out.src, HD.out.mv⟩
set_option maxRecDepth 100000 in
set_option maxHeartbeats 4000000 in
theorem l22DrawBudget_any (w : World) (sb : Nat) (a : Option Addr) (cap : Nat) (code : List Int) (n : Nat) (H : Src w sb a cap code n) (hn : n ≤ 10000000) :
    Calls Try.prog 31 #[.pointer (some ⟨sb, 0, none⟩)] w fun e w' => ∃ (d : Int) (k : Nat), e = .returned (.int .i64 d) ∧ 0 ≤ d ∧ d ≤ 20001 ∧ k ≤ 4 ∧ Src w' sb a cap code (n + k) ∧ Moved sb w w' := by
  have HD := Lib.hid (Dr.start H)
  clear H
  go_enter Try.func31, Try.ntmps31
  go_wp2_with fail
  have HT := rows_lit (cell := cellJ) (T := 2) w #[.int .i64 1, .int .i64 10, .int .i64 60, .int .i64 200, .int .i64 400, .int .i64 20000, .int .i64 0, .int .i64 20001] [1, 10, 60, 200, 400, 20000, 0, 20001] (fun k hk => by rcases (show k = 0 ∨ k = 1 ∨ k = 2 ∨ k = 3 ∨ k = 4 ∨ k = 5 ∨ k = 6 ∨ k = 7 by simp at hk; omega) with rfl | rfl | rfl | rfl | rfl | rfl | rfl | rfl <;> rfl) rfl
  have hx := (Ext.refl w).alloc (.cells #[.int .i64 1, .int .i64 10, .int .i64 60, .int .i64 200, .int .i64 400, .int .i64 20000, .int .i64 0, .int .i64 20001] 2)
  refine (among_any _ sb a cap code n (HD.out.src.ext hx) (by omega) (some ⟨w.heap.size, 0, none⟩) 8 _ HT (by simp) (by simp) (fun p e => by cases e; have := HD.out.src.lt; show w.heap.size ≠ sb; omega)).mono ?_
  rintro e W9 ⟨s1, q2, rfl, hs1, hq9, S2, M2⟩
  have hs2 : 0 ≤ s1 ∧ s1 ≤ 20001 := by simp only [List.mem_cons, List.not_mem_nil, or_false] at hs1; omega
  replace HD := Lib.hid ((HD.out.ext hx).step S2 M2)
  clear S2 M2 HT hx hs1
  go_wp2_with fail
  go_ret
  exact ⟨_, q2, rfl, by omega, by omega, by omega, HD.out.src, HD.out.mv⟩
set_option maxRecDepth 100000 in
set_option maxHeartbeats 4000000 in
theorem l22DrawPlan_any (w : World) (sb : Nat) (a : Option Addr) (cap : Nat) (code : List Int) (n : Nat) (H : Src w sb a cap code n) (hn : n ≤ 100000) :
    Calls Try.prog 18 #[.pointer (some ⟨sb, 0, none⟩)] w fun e w' => ∃ (ta : Option Addr) (tc : Nat) (l : List Shot) (oa : Option Addr) (oc : Nat) (ord : List Int) (d : Int), e = .returned (.tuple #[.slice ta l.length tc, .slice oa ord.length oc, .int .i64 d]) ∧ l.length ≤ tc ∧ l.length ≤ 9 ∧ AllSh l ∧ ShotAt w' ta l ∧ ord.length ≤ oc ∧ ord.length ≤ 10 ∧ AllO ord ∧ IntAt w' oa ord ∧ (0 ≤ d ∧ d ≤ 20001) ∧ Moved sb w w' := by
  have HD := Lib.hid (Dr.start H)
  have hsl := H.lt
  clear H
  go_enter Try.func18, Try.ntmps18
  go_wp2_with fail
  refine (l22Draw_any w sb a cap code n HD.out.src (by omega)).mono ?_
  rintro e W1 ⟨v, l, q1, rfl, hq1, hl, hA, hL, S1, M1⟩
  have hA := Lib.hid hA
  replace HD := Lib.hid (HD.out.step S1 M1)
  have hL := Lib.hid hL
  clear S1 M1
  obtain ⟨ta, tc, rfl, htc, -, -, -⟩ := hL.out.shape
  go_wp2_with fail
  refine (l22DrawOrder_any W1 sb a cap code (n + q1) HD.out.src (by omega) l.length hl).mono ?_
  rintro e W2 ⟨v2, ord, q2, rfl, hq2, hl2, hA2, hL2, S1, M1⟩
  have hz := HD.out.size
  have hA2 := Lib.hid hA2
  replace HD := Lib.hid (HD.out.step S1 M1)
  replace hL := Lib.hid (hL.out.moved M1 (by omega))
  have hL2 := Lib.hid hL2
  clear S1 M1
  obtain ⟨oa, oc, rfl, hoc, -, -, -⟩ := hL2.out.shape
  go_wp2_with fail
  refine (l22DrawCrews_any W2 sb a cap code (n + q1 + q2) HD.out.src (by omega)).mono ?_
  rintro e W3 ⟨d, q3, rfl, d0, d1, hq3, S1, M1⟩
  replace HD := Lib.hid (HD.out.step S1 M1)
  replace hL := Lib.hid (hL.out.moved M1 (by omega))
  replace hL2 := Lib.hid (hL2.out.moved M1 (by omega))
  clear S1 M1
  go_wp2_with fail
  go_ret3
  obtain ⟨ta', tc', e1, -, -, hR, -⟩ := hL.out.shape
  obtain ⟨oa', oc', e2, -, -, hR2, -⟩ := hL2.out.shape
  cases e1
  cases e2
  exact ⟨_, _, l, _, _, ord, d, rfl, htc, hl, hA.out, hR, hoc, hl2, hA2.out, hR2, by omega, HD.out.mv⟩
set_option maxRecDepth 100000 in
set_option maxHeartbeats 4000000 in
theorem DrawPlanEnds_any (w : World) (a : Option Addr) (cap : Nat) (code : List Int) (H : ByteAt w a code) (hr : ∀ k, k < code.length → 0 ≤ nth code k ∧ nth code k ≤ 255) (hf : code.length ≤ 1048576) :
    Calls Try.prog 5 #[.slice a code.length cap] w fun e w' => ∃ (ta : Option Addr) (tc : Nat) (l : List Shot) (oa : Option Addr) (oc : Nat) (ord : List Int) (d : Int), e = .returned (.tuple #[.slice ta l.length tc, .slice oa ord.length oc, .int .i64 d]) ∧ l.length ≤ tc ∧ l.length ≤ 9 ∧ AllSh l ∧ ShotAt w' ta l ∧ ord.length ≤ oc ∧ ord.length ≤ 10 ∧ AllO ord ∧ IntAt w' oa ord ∧ (0 ≤ d ∧ d ≤ 20001) ∧ Ext w w' := by
  have HF := Lib.hid (l00From_any w a cap code H hr hf)
  clear H hr
  go_enter Try.func5, Try.ntmps5
  go_wp2_with fail
  refine HF.out.mono ?_
  rintro e W0 ⟨sb, rfl, hsb, S0, E0⟩
  have E0 := Lib.hid E0
  clear HF
  go_wp2_with fail
  refine (l22DrawPlan_any W0 sb a cap code 0 S0 (by omega)).mono ?_
  rintro e W1 ⟨ta, tc, l, oa, oc, ord, d, rfl, h1, h2, h3, h4, h5, h6, h7, h8, h9, M1⟩
  have HE := Lib.hid (M1.ext w hsb E0.out)
  have h3 := Lib.hid h3
  have h4 := Lib.hid h4
  have h7 := Lib.hid h7
  have h8 := Lib.hid h8
  clear S0 M1
  go_wp2_with fail
  go_ret3
  exact ⟨ta, tc, l, oa, oc, ord, d, rfl, h1, h2, h3.out, h4.out, h5, h6, h7.out, h8.out, h9, HE.out⟩
set_option maxRecDepth 100000 in
set_option maxHeartbeats 4000000 in
theorem DrawFewestCrews_any (w : World) (a : Option Addr) (cap : Nat) (code : List Int) (H : ByteAt w a code) (hr : ∀ k, k < code.length → 0 ≤ nth code k ∧ nth code k ≤ 255) (hf : code.length ≤ 1048576) :
    Calls Try.prog 13 #[.slice a code.length cap] w fun e w' => ∃ (ta : Option Addr) (tc : Nat) (l : List Shot) (d : Int), e = .returned (.tuple #[.slice ta l.length tc, .int .i64 d]) ∧ l.length ≤ tc ∧ l.length ≤ 9 ∧ AllSh l ∧ ShotAt w' ta l ∧ (0 ≤ d ∧ d ≤ 20001) ∧ Ext w w' := by
  have HF := Lib.hid (l00From_any w a cap code H hr hf)
  clear H hr
  go_enter Try.func13, Try.ntmps13
  go_wp2_with fail
  refine HF.out.mono ?_
  rintro e W0 ⟨sb, rfl, hsb, S0, E0⟩
  have HD := Lib.hid (Dr.start S0)
  have hsl := S0.lt
  have E0 := Lib.hid E0
  clear HF S0
  go_wp2_with fail
  refine (l22Draw_any W0 sb a cap code 0 HD.out.src (by omega)).mono ?_
  rintro e W1 ⟨v, l, q1, rfl, hq1, hl, hA, hL, S1, M1⟩
  have hA := Lib.hid hA
  replace HD := Lib.hid (HD.out.step S1 M1)
  have hL := Lib.hid hL
  clear S1 M1
  go_wp2_with fail
  refine (l22DrawBudget_any W1 sb a cap code (0 + q1) HD.out.src (by omega)).mono ?_
  rintro e W2 ⟨d, q2, rfl, d0, d1, hq2, S1, M1⟩
  replace HD := Lib.hid (HD.out.step S1 M1)
  replace hL := Lib.hid (hL.out.moved M1 (by omega))
  clear S1 M1
  obtain ⟨ta, tc, rfl, htc, -, hR, -⟩ := hL.out.shape
  replace hR := Lib.hid hR
  clear hL
  go_wp2_with fail
  go_ret2
  exact ⟨ta, tc, l, d, rfl, htc, hl, hA.out, hR.out, by omega, HD.out.mv.ext w hsb E0.out⟩
end Go.Proofs.Ytpmbaemfpkcjnaa
