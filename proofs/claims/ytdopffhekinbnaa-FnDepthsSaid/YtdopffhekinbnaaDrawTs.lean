/- The tests that the reference draws. -/
import Derived.Test.YtdopffhekinbnaaDrawTst
import Derived.Test.YtdopffhekinbnaaSrch
import Derived.Test.YtdopffhekinbnaaLst
import Derived.Test.YtdopffhekinbnaaLawB
namespace Go.Proofs.Ytdopffhekinbnaa
open Go.RowKit
def AllT (l : List Test) : Prop := ∀ y, y ∈ l → TstN y
theorem AllT.nil : AllT [] := fun _ h => absurd h List.not_mem_nil
theorem AllT.at {l : List Test} (h : AllT l) (k : Nat) (hk : k < l.length) : TstN (nth l k) := h _ (nth_mem hk)
theorem AllT.push {l : List Test} (h : AllT l) {x : Test} (hx : TstN x) : AllT (l ++ [x]) := fun y hy => by
  rcases List.mem_append.1 hy with h1 | h1
  · exact h y h1
  · rw [List.mem_singleton.1 h1]; exact hx
theorem Lst.asideT {α : Type} {T n base b o : Nat} {cell : α → Nat → Value} {w : World} {v u : Value} {l : List α} (h : Lst T n cell w base v l) (hb : ∀ g, v.ownBlock = some g → g ≠ b) : Lst T n cell (w.setCell ⟨b, o, none⟩ u) base v l := by
  refine ⟨h.1, ?_⟩
  rcases h.2 with h2 | ⟨g, cap, cur, hv, hg, hh, r⟩
  · exact .inl h2
  · exact .inr ⟨g, cap, cur, hv, hg, by rw [heap_setCell_other w ⟨b, o, none⟩ g _ (hb g (by rw [hv]; rfl))]; exact hh, r⟩
theorem elTest : El Try.prog 27 41 5 40 := El.mk' Try.underlying27 (by kernel_rfl) (by decide)
theorem oneTest : ∀ (x : Test) (j : Nat), j < 5 → (Test.cell x j).oneCell' = true := fun x j hj => by rcases (show j = 0 ∨ j = 1 ∨ j = 2 ∨ j = 3 ∨ j = 4 by omega) with rfl | rfl | rfl | rfl | rfl <;> rfl
set_option maxRecDepth 100000 in
set_option maxHeartbeats 8000000 in
theorem l08Draw_any (w : World) (sb : Nat) (a : Option Addr) (cap : Nat) (code : List Int) (n : Nat) (H : Src w sb a cap code n) (hn : n ≤ 1000000) :
    Calls Try.prog 38 #[.pointer (some ⟨sb, 0, none⟩)] w fun e w' => ∃ (v : Value) (l : List Test) (k : Nat), e = .returned v ∧ k ≤ 500 ∧ l.length ≤ 17 ∧ AllT l ∧ Lst 41 5 Test.cell w' w.heap.size v l ∧ Src w' sb a cap code (n + k) ∧ Moved sb w w' := by
  have hsl := H.lt
  have hO := Lib.hid (Lst.new (T := 41) (n := 5) (cell := Test.cell) (α := Test) w w.heap.size (Nat.le_refl _))
  have HD := Lib.hid ((Dr.start H).ext ((Ext.refl w).alloc (.cells #[] 41)))
  clear H
  go_enter Try.func38, Try.ntmps38
  go_wp2_with fail
  refine (pick_any _ sb a cap code n HD.out.src (by omega) 10 (by omega)).mono ?_
  rintro e W0 ⟨h0, q0, rfl, p0, p1, hq0, S1, M1⟩
  replace p1 := p1 (by omega)
  replace hO := Lib.hid (hO.out.moved M1 (by omega))
  replace HD := Lib.hid (HD.out.step S1 M1)
  clear S1 M1
  go_wp2_with fail
  refine (pick_any _ sb a cap code (n + q0) HD.out.src (by omega) 9 (by omega)).mono ?_
  rintro e W1 ⟨r1, q1, rfl, p2, p3, hq1, S1, M1⟩
  replace p3 := p3 (by omega)
  obtain ⟨j0, rfl⟩ := Int.eq_ofNat_of_zero_le p2
  replace hO := Lib.hid (hO.out.moved M1 (by omega))
  replace HD := Lib.hid (HD.out.step S1 M1)
  clear S1 M1
  go_wp2_with fail
  go_loopw [3, 4, 5] (fun o h i wr => ∃ (j q : Nat) (hr : Int) (L : List Test), j ≤ 8 ∧ i = .int .i64 j ∧ h = .int .i64 hr ∧ 0 ≤ hr ∧ hr ≤ 9 + 8 * (8 - j) ∧ q ≤ 4 + 20 * (8 - j) ∧ L.length + j ≤ 8 ∧ Hid (AllT L) ∧ Hid (Lst 41 5 Test.cell wr w.heap.size o L) ∧ Hid (Dr w wr sb a cap code (n + q))) (fun _ _ i _ => (intOf i).toNat)
  case atStart => exact ⟨j0, q0 + q1, h0, [], by omega, rfl, rfl, by omega, by omega, by omega, by simp; omega, AllT.nil, hO.out, by rw [← Nat.add_assoc]; exact HD.out⟩
  case round =>
    clear hO HD
    obtain ⟨j, q, hr, L, hj, rfl, rfl, hr0, hr1, hq, hLj, hA, hO, HD⟩ := hrel
    have hzs := HD.out.size
    rcases Nat.eq_zero_or_pos j with h0 | h0
    · subst h0
      go_wp2_with fail
      refine (pick_any _ sb a cap code (n + q) HD.out.src (by omega) 20 (by omega)).mono ?_
      rintro e W1 ⟨r1, q1, rfl, p0, p1, hq1, S1, M1⟩
      replace p1 := p1 (by omega)
      replace hO := Lib.hid (hO.out.moved M1 (by omega))
      replace HD := Lib.hid (HD.out.step S1 M1)
      clear S1 M1
      rcases (show r1 = 0 ∨ r1 = 1 ∨ 2 ≤ r1 by omega) with hr | hr | hr
      · subst hr
        go_wp2_with fail
        refine (l08DrawOne_any W1 sb a cap code (n + q + q1) HD.out.src (by omega)).mono ?_
        rintro e W2 ⟨x, q2, rfl, hx, hq2, S2, M2⟩
        replace hO := Lib.hid (hO.out.moved M2 (by omega))
        replace HD := Lib.hid (HD.out.step S2 M2)
        clear S2 M2
        have hx := Lib.hid hx
        go_wp2_with fail
        refine (l08Bend_any W2 sb a cap code (n + q + q1 + q2) HD.out.src (by omega) x hx.out).mono ?_
        rintro e W3 ⟨y, q3, rfl, hy, hq3, S2, M2⟩
        replace hO := Lib.hid (hO.out.moved M2 (by omega))
        replace HD := Lib.hid (HD.out.step S2 M2)
        have hzs := HD.out.size
        have hy := Lib.hid hy
        clear S2 M2 hx
        have hx := Lib.hid ((Ext.refl W3).alloc (.cells #[.int .i64 y.kind, .int .i64 y.score, .int .i64 y.quality, .int .i64 y.depth, .int .i64 y.hour] 41))
        replace hO := Lib.hid (hO.out.ext hx.out)
        replace HD := Lib.hid (HD.out.ext hx.out)
        have HR2 : Hid (TestAt (W3.alloc (.cells #[.int .i64 y.kind, .int .i64 y.score, .int .i64 y.quality, .int .i64 y.depth, .int .i64 y.hour] 41)) (some ⟨W3.heap.size, 0, none⟩) [y]) := rows_new (n := 5) (cell := Test.cell) (T := 41) W3 #[.int .i64 y.kind, .int .i64 y.score, .int .i64 y.quality, .int .i64 y.depth, .int .i64 y.hour] y (fun j hj => by rcases five hj with rfl | rfl | rfl | rfl | rfl <;> rfl)
        try dsimp only
        repeat (first | (at_builtin; refine Hid.out ?_) | go_values | go_skip | go_guarded | go_step | go_upon | go_back)
        refine Lib.hid ?_
        refine wpList_pushL elTest oneTest rfl _ _ rfl w.heap.size _ L (by rfl) hO.out _ 1 1 [y] rfl (by rfl) HR2.out (by omega) (by omega) (by rw [size_new]; omega) ?_
        intro v2 w4 L4 _ g4
        have hrow : ∀ g, u3.ownBlock = some g → w.heap.size ≤ g := fun g e => ownBlock_le hO.out g e
        replace HD := Lib.hid (HD.out.grown g4 hrow)
        have hA2 := Lib.hid (hA.out.push hy.out)
        have L4 := Lib.hid L4
        clear hO g4 hrow HR2 hx
        go_wp2_with fail
        go_ret
        refine ⟨_, L ++ [y], q + q1 + q2 + q3, rfl, by omega, by rw [List.length_append]; simp; omega, hA2.out, L4.out, ?_, HD.out.mv⟩
        rw [show n + (q + q1 + q2 + q3) = n + q + q1 + q2 + q3 by omega]
        exact HD.out.src
      · subst hr
        go_wp2_with fail
        have HT := rows_lit (cell := cellJ) (T := 2) W1 #[.int .i64 16, .int .i64 17] [16, 17] (fun k hk => by rcases (show k = 0 ∨ k = 1 by simp at hk; omega) with rfl | rfl <;> rfl) rfl
        have hx := (Ext.refl W1).alloc (.cells #[.int .i64 16, .int .i64 17] 2)
        refine (among_any _ sb a cap code (n + q + q1) (HD.out.src.ext hx) (by omega) (some ⟨W1.heap.size, 0, none⟩) 2 _ HT (by simp) (by simp) (fun p e => by cases e; have := HD.out.src.lt; show W1.heap.size ≠ sb; omega)).mono ?_
        rintro e W2 ⟨m, q2, rfl, hs1, hq2, S2, M2⟩
        have hm : 16 ≤ m ∧ m ≤ 17 := by simp only [List.mem_cons, List.not_mem_nil, or_false] at hs1; omega
        replace HD := Lib.hid ((HD.out.ext hx).step S2 M2)
        clear S2 M2 HT hx hs1 hO
        have hzs := HD.out.size
        have hO := Lib.hid (Lst.new (T := 41) (n := 5) (cell := Test.cell) (α := Test) W2 w.heap.size hzs)
        replace HD := Lib.hid (HD.out.ext ((Ext.refl W2).alloc (.cells #[] 41)))
        clear hA
        go_wp2_with fail
        obtain ⟨N, hN⟩ : ∃ N, N = n + q + q1 + q2 := ⟨_, rfl⟩
        rw [← hN] at HD
        replace hN := Lib.hid hN
        go_loopw [3, 8] (fun o i wr => ∃ (k : Nat) (L : List Test), (k : Int) ≤ m ∧ i = .int .i64 k ∧ L.length ≤ k ∧ Hid (AllT L) ∧ Hid (Lst 41 5 Test.cell wr w.heap.size o L) ∧ Hid (Dr w wr sb a cap code N)) (fun _ i _ => 17 - (intOf i).toNat)
        case atStart => exact ⟨0, [], by omega, rfl, Nat.le_refl _, AllT.nil, hO.out, HD.out⟩
        case round =>
          clear hO HD
          obtain ⟨k, L, hk, rfl, hL, hA, hO, HD⟩ := hrel
          have hzs := HD.out.size
          by_cases hlt : (k : Int) < m
          · have hd : decide ((k : Int) < m) = true := decide_eq_true hlt
            have hk17 : k < 17 := by omega
            obtain ⟨y, hy⟩ : ∃ y : Test, y = ⟨1 + (k : Int) % 2, 2 * ((k : Int) % 16), 2, 10 + (k : Int), (k : Int)⟩ := ⟨_, rfl⟩
            have hyn : Hid (TstN y) := by
              rw [hy]
              exact ⟨by dsimp only; omega, by dsimp only; omega, by dsimp only; omega, by dsimp only; omega, by dsimp only; omega⟩
            have hx := Lib.hid ((Ext.refl wr).alloc (.cells #[.int .i64 (1 + (k : Int) % 2), .int .i64 (2 * ((k : Int) % 16)), .int .i64 2, .int .i64 (10 + (k : Int)), .int .i64 (k : Int)] 41))
            replace hO := Lib.hid (hO.out.ext hx.out)
            replace HD := Lib.hid (HD.out.ext hx.out)
            have HR2 : Hid (TestAt (wr.alloc (.cells #[.int .i64 (1 + (k : Int) % 2), .int .i64 (2 * ((k : Int) % 16)), .int .i64 2, .int .i64 (10 + (k : Int)), .int .i64 (k : Int)] 41)) (some ⟨wr.heap.size, 0, none⟩) [y]) := by
              rw [hy]
              exact rows_new (n := 5) (cell := Test.cell) (T := 41) wr #[.int .i64 (1 + (k : Int) % 2), .int .i64 (2 * ((k : Int) % 16)), .int .i64 2, .int .i64 (10 + (k : Int)), .int .i64 (k : Int)] ⟨1 + (k : Int) % 2, 2 * ((k : Int) % 16), 2, 10 + (k : Int), (k : Int)⟩ (fun j hj => by rcases five hj with rfl | rfl | rfl | rfl | rfl <;> rfl)
            clear hy hx
            try dsimp only
            repeat (first | (at_builtin; refine Hid.out ?_) | go_values | go_skip | go_guarded | go_step | go_upon | go_back)
            refine Lib.hid ?_
            refine wpList_pushL elTest oneTest rfl _ _ rfl w.heap.size _ L (by rfl) hO.out _ 1 1 [y] rfl (by rfl) HR2.out (by omega) (by omega) (by rw [size_new]; omega) ?_
            intro v2 w4 L4 _ g4
            have hrow : ∀ g, u3.ownBlock = some g → w.heap.size ≤ g := fun g e => ownBlock_le hO.out g e
            replace HD := Lib.hid (HD.out.grown g4 hrow)
            have hA2 := Lib.hid (hA.out.push hyn.out)
            have L4 := Lib.hid L4
            have hL2 : (L ++ [y]).length ≤ k + 1 := by rw [List.length_append]; simp; omega
            clear hO g4 hrow HR2
            go_wp2_with fail
            go_roundw
            case rel => exact ⟨k + 1, L ++ [y], by omega, by go_num, hL2, hA2.out, L4.out, HD.out⟩
            case measure => simp [intOf]; omega
          · have hd : decide ((k : Int) < m) = false := decide_eq_false hlt
            go_wp2_with fail
            go_ret
            first
              | refine ⟨_, rfl, L, q + q1 + q2, by omega, by omega, hA.out, hO.out, ?_, HD.out.mv⟩
              | refine ⟨_, L, q + q1 + q2, rfl, by omega, by omega, hA.out, hO.out, ?_, HD.out.mv⟩
            rw [show n + (q + q1 + q2) = N by rw [hN.out]; omega]
            exact HD.out.src
      · have hr0 : (r1 == 0) = false := beq_eq_false_iff_ne.2 (by omega)
        have hr1 : (r1 == 1) = false := beq_eq_false_iff_ne.2 (by omega)
        go_wp2_with fail
        go_ret
        refine ⟨_, L, q + q1, rfl, by omega, by omega, hA.out, hO.out, ?_, HD.out.mv⟩
        rw [show n + (q + q1) = n + q + q1 by omega]
        exact HD.out.src
    · go_wp2_with fail
      refine (l08DrawOne_any wr sb a cap code (n + q) HD.out.src (by omega)).mono ?_
      rintro e W2 ⟨x, q2, rfl, hx, hq2, S2, M2⟩
      replace hO := Lib.hid (hO.out.moved M2 (by omega))
      replace HD := Lib.hid (HD.out.step S2 M2)
      clear S2 M2
      have hzs := HD.out.size
      have HI := Tbox.new W2 x
      have hX := (Ext.refl W2).alloc (.cells #[.int .i64 x.kind, .int .i64 x.score, .int .i64 x.quality, .int .i64 x.depth, .int .i64 x.hour] 41)
      obtain ⟨xb, hxb⟩ : ∃ xb, xb = W2.heap.size := ⟨_, rfl⟩
      have hxw : w.heap.size ≤ xb := by omega
      have hxs : xb ≠ sb := by omega
      have hfar : Hid (∀ g, u3.ownBlock = some g → g ≠ xb) := fun g e => by have := hO.out.lt g e; omega
      replace hO := Lib.hid (hO.out.ext hX)
      replace HD := Lib.hid (HD.out.ext hX)
      rw [← hxb] at HI
      replace HI := Lib.hid HI
      replace hxb := Lib.hid hxb
      clear hX
      go_upto_region 7 with fail
      rw [← hxb.out]
      generalize W2.alloc (.cells #[.int .i64 x.kind, .int .i64 x.score, .int .i64 x.quality, .int .i64 x.depth, .int .i64 x.hour] 41) = W4 at HI HD hO ⊢
      clear hxb
      obtain ⟨gl, g0, g1, g2, g3, g4⟩ := HI.out.all
      have gk := HI.out.blk.frozen 4
      obtain ⟨y, hy⟩ : ∃ y : Test, y = ⟨x.kind, x.score, x.quality, x.depth, hr⟩ := ⟨_, rfl⟩
      have hyn : Hid (TstN y) := by rw [hy]; exact ⟨hx.kd, hx.sc, hx.qu, hx.de, by dsimp only; omega⟩
      replace HI := Lib.hid (HI.out.at1 y 4 (by decide) (.int .i64 hr) (by rw [hy]; rfl) (fun j hj hne => by rw [hy]; rcases five hj with rfl | rfl | rfl | rfl | rfl <;> first | rfl | exact absurd rfl hne))
      replace HD := Lib.hid (HD.out.set (o := 4) hxw (.int .i64 hr))
      replace hO : Hid (Lst 41 5 Test.cell (W4.setCell ⟨xb, 4, none⟩ (.int .i64 hr)) w.heap.size u3 L) := hO.out.asideT hfar.out
      replace hy := Lib.hid hy
      go_wp2_with fail
      generalize W4.setCell ⟨xb, 4, none⟩ (.int .i64 hr) = W5 at HI HD hO ⊢
      clear gl g0 g1 g2 g3 g4 gk hfar hx
      refine (pick_any W5 sb a cap code (n + q + q2) HD.out.src (by omega) 8 (by omega)).mono ?_
      rintro e W6 ⟨r6, q6, rfl, p4, p5, hq6, S2, M2⟩
      replace p5 := p5 (by omega)
      replace HI := Lib.hid (HI.out.moved M2 hxs)
      replace hO := Lib.hid (hO.out.moved M2 (by omega))
      replace HD := Lib.hid (HD.out.step S2 M2)
      clear S2 M2
      have hzs := HD.out.size
      obtain ⟨gl, g0, g1, g2, g3, g4⟩ := HI.out.all
      have hx9 := Lib.hid ((Ext.refl W6).alloc (.cells #[.int .i64 y.kind, .int .i64 y.score, .int .i64 y.quality, .int .i64 y.depth, .int .i64 y.hour] 41))
      replace hO := Lib.hid (hO.out.ext hx9.out)
      replace HD := Lib.hid (HD.out.ext hx9.out)
      have HR2 : Hid (TestAt (W6.alloc (.cells #[.int .i64 y.kind, .int .i64 y.score, .int .i64 y.quality, .int .i64 y.depth, .int .i64 y.hour] 41)) (some ⟨W6.heap.size, 0, none⟩) [y]) := rows_new (n := 5) (cell := Test.cell) (T := 41) W6 #[.int .i64 y.kind, .int .i64 y.score, .int .i64 y.quality, .int .i64 y.depth, .int .i64 y.hour] y (fun j hj => by rcases five hj with rfl | rfl | rfl | rfl | rfl <;> rfl)
      clear hx9
      have hb9 : Hid (w.heap.size ≤ (W6.alloc (.cells #[.int .i64 y.kind, .int .i64 y.score, .int .i64 y.quality, .int .i64 y.depth, .int .i64 y.hour] 41)).heap.size) := by show _ ≤ _; rw [size_new]; omega
      go_wp2_with (at_builtin; refine wpList_pushL elTest oneTest rfl _ _ rfl w.heap.size _ L (by rfl) hO.out _ 1 1 [y] rfl (by rfl) HR2.out (by omega) (by omega) hb9.out ?_; intro v2 w4 L4 _ g4x; have hrow : ∀ g, u3.ownBlock = some g → w.heap.size ≤ g := (fun g e => ownBlock_le hO.out g e); replace HD := Lib.hid (HD.out.grown g4x hrow); have hA2 := Lib.hid (hA.out.push hyn.out); have L4 := Lib.hid L4; have hL2 : (L ++ [y]).length ≤ L.length + 1 := (by rw [List.length_append]; exact Nat.le_refl _); clear hO g4x hrow HR2 hb9 gl g0 g1 g2 g3 g4 HI)
      go_roundw
      case rel => exact ⟨j - 1, q + q2 + q6, hr + r6, L ++ [y], by omega, by go_num, rfl, by omega, by omega, by omega, by omega, hA2.out, L4.out, by rw [← Nat.add_assoc, ← Nat.add_assoc]; exact HD.out⟩
      case measure => simp [intOf]; omega
end Go.Proofs.Ytdopffhekinbnaa
