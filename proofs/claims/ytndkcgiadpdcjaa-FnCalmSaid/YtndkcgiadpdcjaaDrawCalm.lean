/- The draws of days and of incidents with them. -/
import Derived.Test.YtndkcgiadpdcjaaDrawList
namespace Go.Proofs.Ytndkcgiadpdcjaa
open Go.RowKit
set_option maxRecDepth 100000 in
set_option maxHeartbeats 4000000 in
theorem l28DrawDay_any (w : World) (sb : Nat) (a : Option Addr) (cap : Nat) (code : List Int) (n : Nat) (H : Src w sb a cap code n) (hn : n ≤ 10000000) :
    Calls Try.prog 39 #[.pointer (some ⟨sb, 0, none⟩)] w fun e w' => ∃ (d : Int) (k : Nat), e = .returned (.int .i64 d) ∧ -1 ≤ d ∧ d ≤ 36525 ∧ k ≤ 4 ∧ Src w' sb a cap code (n + k) ∧ Moved sb w w' := by
  have HD := Lib.hid (Dr.start H)
  clear H
  go_enter Try.func39, Try.ntmps39
  go_wp2_with fail
  refine (one_any w sb a cap code n HD.out.src (by omega) 10 (by omega)).mono ?_
  rintro e W1 ⟨b, q1, rfl, hq1, S1, M1⟩
  replace HD := Lib.hid (HD.out.step S1 M1)
  clear S1 M1
  cases b
  · go_wp2_with fail
    refine (pick_any W1 sb a cap code (n + q1) HD.out.src (by omega) 50 (by omega)).mono ?_
    rintro e W2 ⟨r, q2, rfl, p0, p1, hq2, S2, M2⟩
    replace p1 := p1 (by omega)
    replace HD := Lib.hid (HD.out.step S2 M2)
    clear S2 M2
    go_wp2_with fail
    go_ret
    refine ⟨_, q1 + q2, rfl, by omega, by omega, by omega, ?_, HD.out.mv⟩
    rw [← Nat.add_assoc]
    exact HD.out.src
  · go_wp2_with fail
    have HT := rows_lit (cell := cellJ) (T := 2) W1 #[.int .i64 (-1), .int .i64 0, .int .i64 36524, .int .i64 36525] [(-1), 0, 36524, 36525] (fun k hk => by rcases (show k = 0 ∨ k = 1 ∨ k = 2 ∨ k = 3 by simp at hk; omega) with rfl | rfl | rfl | rfl <;> rfl) rfl
    have hx := (Ext.refl W1).alloc (.cells #[.int .i64 (-1), .int .i64 0, .int .i64 36524, .int .i64 36525] 2)
    refine (among_any _ sb a cap code (n + q1) (HD.out.src.ext hx) (by omega) (some ⟨(W1).heap.size, 0, none⟩) 4 _ HT (by simp) (by simp) (fun p e => by cases e; have := HD.out.src.lt; show (W1).heap.size ≠ sb; omega)).mono ?_
    rintro e W9 ⟨s1, q2, rfl, hs1, hq9, S2, M2⟩
    have hs2 : -1 ≤ s1 ∧ s1 ≤ 36525 := by simp only [List.mem_cons, List.not_mem_nil, or_false] at hs1; omega
    replace HD := Lib.hid ((HD.out.ext hx).step S2 M2)
    clear S2 M2 HT hx hs1
    go_wp2_with fail
    go_ret
    refine ⟨_, q1 + q2, rfl, by omega, by omega, by omega, ?_, HD.out.mv⟩
    rw [← Nat.add_assoc]
    exact HD.out.src
set_option maxRecDepth 100000 in
set_option maxHeartbeats 4000000 in
theorem l28DrawDays_any (w : World) (sb : Nat) (a : Option Addr) (cap : Nat) (code : List Int) (n : Nat) (H : Src w sb a cap code n) (hn : n ≤ 10000000) :
    Calls Try.prog 45 #[.pointer (some ⟨sb, 0, none⟩)] w fun e w' => ∃ (d : Int) (k : Nat), e = .returned (.int .i64 d) ∧ 0 ≤ d ∧ d ≤ 1001 ∧ k ≤ 4 ∧ Src w' sb a cap code (n + k) ∧ Moved sb w w' := by
  have HD := Lib.hid (Dr.start H)
  clear H
  go_enter Try.func45, Try.ntmps45
  go_wp2_with fail
  have HT := rows_lit (cell := cellJ) (T := 2) w #[.int .i64 1, .int .i64 2, .int .i64 5, .int .i64 10, .int .i64 30, .int .i64 1000, .int .i64 1001, .int .i64 0] [1, 2, 5, 10, 30, 1000, 1001, 0] (fun k hk => by rcases (show k = 0 ∨ k = 1 ∨ k = 2 ∨ k = 3 ∨ k = 4 ∨ k = 5 ∨ k = 6 ∨ k = 7 by simp at hk; omega) with rfl | rfl | rfl | rfl | rfl | rfl | rfl | rfl <;> rfl) rfl
  have hx := (Ext.refl w).alloc (.cells #[.int .i64 1, .int .i64 2, .int .i64 5, .int .i64 10, .int .i64 30, .int .i64 1000, .int .i64 1001, .int .i64 0] 2)
  refine (among_any _ sb a cap code (n) (HD.out.src.ext hx) (by omega) (some ⟨(w).heap.size, 0, none⟩) 8 _ HT (by simp) (by simp) (fun p e => by cases e; have := HD.out.src.lt; show (w).heap.size ≠ sb; omega)).mono ?_
  rintro e W9 ⟨s1, q2, rfl, hs1, hq9, S2, M2⟩
  have hs2 : 0 ≤ s1 ∧ s1 ≤ 1001 := by simp only [List.mem_cons, List.not_mem_nil, or_false] at hs1; omega
  replace HD := Lib.hid ((HD.out.ext hx).step S2 M2)
  clear S2 M2 HT hx hs1
  go_wp2_with fail
  go_ret
  exact ⟨_, q2, rfl, by omega, by omega, by omega, HD.out.src, HD.out.mv⟩
set_option maxRecDepth 100000 in
set_option maxHeartbeats 4000000 in
theorem DrawCalmDays_any (w : World) (a : Option Addr) (cap : Nat) (code : List Int) (H : ByteAt w a code) (hr : ∀ k, k < code.length → 0 ≤ nth code k ∧ nth code k ≤ 255) (hf : code.length ≤ 1048576) :
    Calls Try.prog 21 #[.slice a code.length cap] w fun e w' => ∃ (v : Value) (l : List Incident) (fr un : Int), e = .returned (.tuple #[v, .int .i64 fr, .int .i64 un]) ∧ l.length ≤ 49 ∧ AllN l ∧ Lst 44 6 Incident.cell w' w.heap.size v l ∧ (-1 ≤ fr ∧ fr ≤ 36525) ∧ (-2 ≤ un ∧ un ≤ 40000) ∧ Ext w w' := by
  have HF := Lib.hid (l00From_any w a cap code H hr hf)
  clear H hr
  go_enter Try.func21, Try.ntmps21
  go_wp2_with fail
  refine HF.out.mono ?_
  rintro e W0 ⟨sb, rfl, hsb, S0, E0⟩
  have HD := Lib.hid (Dr.start S0)
  have E0 := Lib.hid E0
  clear HF S0
  go_wp2_with fail
  refine (l28Draw_any W0 sb a cap code 0 HD.out.src (by omega)).mono ?_
  rintro e W1 ⟨v, l, q1, rfl, hq1, hl, hA, hL, S1, M1⟩
  have hA := Lib.hid hA
  have hsl := HD.out.lt
  replace HD := Lib.hid (HD.out.step S1 M1)
  have hL := Lib.hid hL
  clear S1 M1
  go_wp2_with fail
  refine (l28DrawDay_any W1 sb a cap code (0 + q1) HD.out.src (by omega)).mono ?_
  rintro e W2 ⟨d, q2, rfl, d0, d1, hq2, S1, M1⟩
  replace HD := Lib.hid (HD.out.step S1 M1)
  replace hL := Lib.hid (hL.out.moved M1 (by omega))
  clear S1 M1
  go_wp2_with fail
  have HT := rows_lit (cell := cellJ) (T := 2) W2 #[.int .i64 0, .int .i64 1, .int .i64 5, .int .i64 20, .int .i64 50, .int .i64 (-1)] [0, 1, 5, 20, 50, (-1)] (fun k hk => by rcases (show k = 0 ∨ k = 1 ∨ k = 2 ∨ k = 3 ∨ k = 4 ∨ k = 5 by simp at hk; omega) with rfl | rfl | rfl | rfl | rfl | rfl <;> rfl) rfl
  have hx := (Ext.refl W2).alloc (.cells #[.int .i64 0, .int .i64 1, .int .i64 5, .int .i64 20, .int .i64 50, .int .i64 (-1)] 2)
  refine (among_any _ sb a cap code (0 + q1 + q2) (HD.out.src.ext hx) (by omega) (some ⟨(W2).heap.size, 0, none⟩) 6 _ HT (by simp) (by simp) (fun p e => by cases e; have := HD.out.src.lt; show (W2).heap.size ≠ sb; omega)).mono ?_
  rintro e W9 ⟨s1, q3, rfl, hs1, hq9, S2, M2⟩
  have hs2 : -1 ≤ s1 ∧ s1 ≤ 50 := by simp only [List.mem_cons, List.not_mem_nil, or_false] at hs1; omega
  replace HD := Lib.hid ((HD.out.ext hx).step S2 M2)
  replace hL := Lib.hid ((hL.out.ext hx).moved M2 (by omega))
  clear S2 M2 HT hx hs1
  go_wp2_with fail
  go_ret3
  exact ⟨v, l, d, d + s1, rfl, hl, hA.out, hL.out.low (by omega), by omega, by omega, HD.out.mv.ext w hsb E0.out⟩
set_option maxRecDepth 100000 in
set_option maxHeartbeats 4000000 in
theorem DrawWithinDays_any (w : World) (a : Option Addr) (cap : Nat) (code : List Int) (H : ByteAt w a code) (hr : ∀ k, k < code.length → 0 ≤ nth code k ∧ nth code k ≤ 255) (hf : code.length ≤ 1048576) :
    Calls Try.prog 23 #[.slice a code.length cap] w fun e w' => ∃ (v : Value) (l : List Incident) (d : Int), e = .returned (.tuple #[v, .int .i64 d]) ∧ l.length ≤ 49 ∧ AllN l ∧ Lst 44 6 Incident.cell w' w.heap.size v l ∧ (0 ≤ d ∧ d ≤ 1001) ∧ Ext w w' := by
  have HF := Lib.hid (l00From_any w a cap code H hr hf)
  clear H hr
  go_enter Try.func23, Try.ntmps23
  go_wp2_with fail
  refine HF.out.mono ?_
  rintro e W0 ⟨sb, rfl, hsb, S0, E0⟩
  have HD := Lib.hid (Dr.start S0)
  have E0 := Lib.hid E0
  clear HF S0
  go_wp2_with fail
  refine (l28Draw_any W0 sb a cap code 0 HD.out.src (by omega)).mono ?_
  rintro e W1 ⟨v, l, q1, rfl, hq1, hl, hA, hL, S1, M1⟩
  have hA := Lib.hid hA
  have hsl := HD.out.lt
  replace HD := Lib.hid (HD.out.step S1 M1)
  have hL := Lib.hid hL
  clear S1 M1
  go_wp2_with fail
  refine (l28DrawDays_any W1 sb a cap code (0 + q1) HD.out.src (by omega)).mono ?_
  rintro e W2 ⟨d, q2, rfl, d0, d1, hq2, S1, M1⟩
  replace HD := Lib.hid (HD.out.step S1 M1)
  replace hL := Lib.hid (hL.out.moved M1 (by omega))
  clear S1 M1
  go_wp2_with fail
  go_ret2
  exact ⟨v, l, d, rfl, hl, hA.out, hL.out.low (by omega), by omega, HD.out.mv.ext w hsb E0.out⟩
end Go.Proofs.Ytndkcgiadpdcjaa
