/- The draws of the law of depths. -/
import Derived.Test.YtdopffhekinbnaaDrawTs
namespace Go.Proofs.Ytdopffhekinbnaa
open Go.RowKit
set_option maxRecDepth 100000 in
set_option maxHeartbeats 4000000 in
theorem l08DrawNear_any (w : World) (sb : Nat) (a : Option Addr) (cap : Nat) (code : List Int) (n : Nat) (H : Src w sb a cap code n) (hn : n ≤ 10000000) :
    Calls Try.prog 39 #[.pointer (some ⟨sb, 0, none⟩)] w fun e w' => ∃ (d : Int) (k : Nat), e = .returned (.int .i64 d) ∧ -1 ≤ d ∧ d ≤ 301 ∧ k ≤ 4 ∧ Src w' sb a cap code (n + k) ∧ Moved sb w w' := by
  have HD := Lib.hid (Dr.start H)
  clear H
  go_enter Try.func39, Try.ntmps39
  go_wp2_with fail
  have HT := rows_lit (cell := cellJ) (T := 2) w #[.int .i64 0, .int .i64 5, .int .i64 10, .int .i64 20, .int .i64 300, .int .i64 301, .int .i64 (-1), .int .i64 48] [0, 5, 10, 20, 300, 301, (-1), 48] (fun k hk => by rcases (show k = 0 ∨ k = 1 ∨ k = 2 ∨ k = 3 ∨ k = 4 ∨ k = 5 ∨ k = 6 ∨ k = 7 by simp at hk; omega) with rfl | rfl | rfl | rfl | rfl | rfl | rfl | rfl <;> rfl) rfl
  have hx := (Ext.refl w).alloc (.cells #[.int .i64 0, .int .i64 5, .int .i64 10, .int .i64 20, .int .i64 300, .int .i64 301, .int .i64 (-1), .int .i64 48] 2)
  refine (among_any _ sb a cap code n (HD.out.src.ext hx) (by omega) (some ⟨w.heap.size, 0, none⟩) 8 _ HT (by simp) (by simp) (fun p e => by cases e; have := HD.out.src.lt; show w.heap.size ≠ sb; omega)).mono ?_
  rintro e W9 ⟨s1, q2, rfl, hs1, hq9, S2, M2⟩
  have hs2 : -1 ≤ s1 ∧ s1 ≤ 301 := by simp only [List.mem_cons, List.not_mem_nil, or_false] at hs1; omega
  replace HD := Lib.hid ((HD.out.ext hx).step S2 M2)
  clear S2 M2 HT hx hs1
  go_wp2_with fail
  go_ret
  exact ⟨_, q2, rfl, by omega, by omega, by omega, HD.out.src, HD.out.mv⟩
set_option maxRecDepth 100000 in
set_option maxHeartbeats 4000000 in
theorem DrawDepthGroups_any (w : World) (a : Option Addr) (cap : Nat) (code : List Int) (H : ByteAt w a code) (hr : ∀ k, k < code.length → 0 ≤ nth code k ∧ nth code k ≤ 255) (hf : code.length ≤ 1048576) :
    Calls Try.prog 15 #[.slice a code.length cap] w fun e w' => ∃ (ta : Option Addr) (tc : Nat) (l : List Test) (d : Int), e = .returned (.tuple #[.slice ta l.length tc, .int .i64 d]) ∧ l.length ≤ tc ∧ l.length ≤ 17 ∧ AllT l ∧ TestAt w' ta l ∧ (-1 ≤ d ∧ d ≤ 301) ∧ Ext w w' := by
  have HF := Lib.hid (l00From_any w a cap code H hr hf)
  clear H hr
  go_enter Try.func15, Try.ntmps15
  go_wp2_with fail
  refine HF.out.mono ?_
  rintro e W0 ⟨sb, rfl, hsb, S0, E0⟩
  have HD := Lib.hid (Dr.start S0)
  have E0 := Lib.hid E0
  clear HF S0
  go_wp2_with fail
  refine (l08Draw_any W0 sb a cap code 0 HD.out.src (by omega)).mono ?_
  rintro e W1 ⟨v, l, q1, rfl, hq1, hl, hA, hL, S1, M1⟩
  have hA := Lib.hid hA
  have hsl := HD.out.lt
  replace HD := Lib.hid (HD.out.step S1 M1)
  have hL := Lib.hid hL
  clear S1 M1
  go_wp2_with fail
  refine (l08DrawNear_any W1 sb a cap code (0 + q1) HD.out.src (by omega)).mono ?_
  rintro e W2 ⟨d, q2, rfl, d0, d1, hq2, S1, M1⟩
  replace HD := Lib.hid (HD.out.step S1 M1)
  replace hL := Lib.hid (hL.out.moved M1 (by omega))
  clear S1 M1
  obtain ⟨ta, tc, rfl, htc, -, hR, -⟩ := hL.out.shape
  replace hR := Lib.hid hR
  clear hL
  go_wp2_with fail
  go_ret2
  exact ⟨ta, tc, l, d, rfl, htc, hl, hA.out, hR.out, by omega, HD.out.mv.ext w hsb E0.out⟩
set_option maxRecDepth 100000 in
set_option maxHeartbeats 4000000 in
theorem DrawWeakDepth_any (w : World) (a : Option Addr) (cap : Nat) (code : List Int) (H : ByteAt w a code) (hr : ∀ k, k < code.length → 0 ≤ nth code k ∧ nth code k ≤ 255) (hf : code.length ≤ 1048576) :
    Calls Try.prog 17 #[.slice a code.length cap] w fun e w' => ∃ (ta : Option Addr) (tc : Nat) (l : List Test) (d : Int), e = .returned (.tuple #[.slice ta l.length tc, .int .i64 d]) ∧ l.length ≤ tc ∧ l.length ≤ 17 ∧ AllT l ∧ TestAt w' ta l ∧ (-1 ≤ d ∧ d ≤ 301) ∧ Ext w w' := by
  have HF := Lib.hid (l00From_any w a cap code H hr hf)
  clear H hr
  go_enter Try.func17, Try.ntmps17
  go_wp2_with fail
  refine HF.out.mono ?_
  rintro e W0 ⟨sb, rfl, hsb, S0, E0⟩
  have HD := Lib.hid (Dr.start S0)
  have E0 := Lib.hid E0
  clear HF S0
  go_wp2_with fail
  refine (l08Draw_any W0 sb a cap code 0 HD.out.src (by omega)).mono ?_
  rintro e W1 ⟨v, l, q1, rfl, hq1, hl, hA, hL, S1, M1⟩
  have hA := Lib.hid hA
  have hsl := HD.out.lt
  replace HD := Lib.hid (HD.out.step S1 M1)
  have hL := Lib.hid hL
  clear S1 M1
  go_wp2_with fail
  refine (l08DrawNear_any W1 sb a cap code (0 + q1) HD.out.src (by omega)).mono ?_
  rintro e W2 ⟨d, q2, rfl, d0, d1, hq2, S1, M1⟩
  replace HD := Lib.hid (HD.out.step S1 M1)
  replace hL := Lib.hid (hL.out.moved M1 (by omega))
  clear S1 M1
  obtain ⟨ta, tc, rfl, htc, -, hR, -⟩ := hL.out.shape
  replace hR := Lib.hid hR
  clear hL
  go_wp2_with fail
  go_ret2
  exact ⟨ta, tc, l, d, rfl, htc, hl, hA.out, hR.out, by omega, HD.out.mv.ext w hsb E0.out⟩
end Go.Proofs.Ytdopffhekinbnaa
