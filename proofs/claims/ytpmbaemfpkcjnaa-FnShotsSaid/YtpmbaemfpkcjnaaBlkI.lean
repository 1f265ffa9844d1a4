/- BlockedMinutes of the program. -/
import Derived.Test.YtpmbaemfpkcjnaaBlkP
import Derived.Test.YtpmbaemfpkcjnaaSortW
namespace Go.Proofs.Ytpmbaemfpkcjnaa
open Go.RowKit
theorem wrap_lenB {n : Nat} (h : n ≤ 2000000) : IntKind.i64.wrap (n : Int) = n := by rw [IntKind.wrap_i64]; omega
theorem nth_set_ne {α : Type} [Inhabited α] (l : List α) (k i : Nat) (y : α) (h : i ≠ k) : nth (l.set k y) i = nth l i := nth_set_other l k i y (Ne.symm h)
/-- The second number of one of the pairs is written. -/
theorem BII.set {w : World} {base : Nat} {v : Value} {L : List (List Int)} {vs : List Sl} {gs : Nat → Nat} (h : BII w base v L vs gs) {k : Nat} (hk : k < L.length) {p q : Int} (hx : nth L k = [p, q]) (y : Int) :
    BII (w.setCell ⟨gs k, 1, none⟩ (.int .i64 y)) base v (L.set k [p, y]) vs gs := by
  have hln : ∀ j, j < L.length → (nth (L.set k [p, y]) j).length = (nth L j).length := fun j hj => by
    by_cases hjk : j = k
    · subst hjk; rw [nth_set_same _ _ _ hk, hx]; rfl
    · rw [nth_set_ne _ _ _ _ hjk]
  refine ⟨⟨h.lst.1, ?_⟩, by rw [List.length_set]; exact h.len, fun j hj => ?_, fun j hj => ?_, fun j hj => ?_, fun j hj => ?_, fun j hj => ?_, fun i j hi hj => ?_⟩
  · rcases h.lst.2 with h2 | ⟨g, cap, cur, hv, hg, hh, r⟩
    · exact .inl h2
    · refine .inr ⟨g, cap, cur, hv, hg, ?_, r⟩
      have hne : g ≠ gs k := fun e => h.far k hk (by rw [hv]; simp only [Value.ownBlock]; rw [e])
      rw [heap_setCell_other w ⟨gs k, 1, none⟩ g _ hne]; exact hh
  · rw [List.length_set] at hj
    obtain ⟨cp, e, hc⟩ := h.val j hj
    exact ⟨cp, by rw [hln j hj]; exact e, by rw [hln j hj]; exact hc⟩
  · rw [List.length_set] at hj; exact h.low j hj
  · rw [List.length_set] at hj
    obtain ⟨N, hB, hn⟩ := h.blk j hj
    exact ⟨N, hB.set _ _ _, by rw [hln j hj]; exact hn⟩
  · rw [List.length_set] at hj
    by_cases hjk : j = k
    · subst hjk
      obtain ⟨N, hB, hn⟩ := h.blk j hj
      have hr := h.row j hj
      rw [hx] at hr hn
      rw [nth_set_same _ _ _ hj]
      exact IntAt.set (k := 1) y hr hB hn (by simp)
    · rw [nth_set_ne _ _ _ _ hjk]
      have hne := h.apart j k hj hk hjk
      intro i hi
      obtain ⟨b, off, e, hb, hc⟩ := h.row j hj i hi
      have e' := e
      simp only [Option.some.injEq, Addr.mk.injEq, and_true] at e'
      obtain ⟨rfl, rfl⟩ := e'
      exact ⟨_, _, rfl, by simpa using hb, fun q hq => by rw [cell_other _ (by omega)]; exact hc q hq⟩
  · rw [List.length_set] at hj; exact h.far j hj
  · rw [List.length_set] at hi hj; exact h.apart i j hi hj
theorem set_last {α : Type} (l : List α) (x y : α) : (l ++ [x]).set l.length y = l ++ [y] := by simp
theorem take_iv {S : List Work} {j : Nat} (h : j < S.length) : (S.take (j + 1)).map Work.iv = (S.take j).map Work.iv ++ [(nth S j).iv] := by
  rw [List.take_succ_eq_append_getElem h, List.map_append, nth_eq S j h]; rfl
set_option maxRecDepth 100000 in
set_option maxHeartbeats 8000000 in
theorem implBlockedMinutes_any (w : World) (a : Option Addr) (cap : Nat) (l : List Shot) (H : ShotAt w a l) (hsz : ∀ k, k < l.length → (nth l k).Small) (hn : l.length ≤ 1048576) (hcap : l.length ≤ cap)
    (a2 : Option Addr) (cap2 : Nat) (ord : List Int) (H2 : IntAt w a2 ord) (hw2 : ∀ k, k < ord.length → -9223372036854775808 ≤ nth ord k ∧ nth ord k ≤ 9223372036854775807) (hn2 : ord.length ≤ 1048576) (hcap2 : ord.length ≤ cap2) (c : Int) :
    Calls Try.prog 10 #[.slice a l.length cap, .slice a2 ord.length cap2, .int .i64 c] w (OutII w (blkV l ord c) [.int .i64 (blkC l ord c)]) := by
  have _ := hcap
  have _ := hw2
  have HP := Lib.hid (planWorks_any a cap l a2 cap2 ord c w H hsz hn H2 hn2 hcap2)
  clear H H2 hsz hw2
  by_cases h0 : planC l ord c = 0
  · have hv : Hid (blkC l ord c = 0 ∧ blkV l ord c = (swp (busyW (planV l ord c)) 1441).1.map pr) := ⟨h0, if_pos h0⟩
    have hwk := Lib.hid (planC_works h0)
    have hwl := (planC_ok h0).2.1
    have hsm : (planV l ord c).length ≤ 1048576 := by rw [hwl]; exact hn2
    rw [h0] at HP
    obtain ⟨V, hV⟩ : ∃ V, V = planV l ord c := ⟨_, rfl⟩
    rw [← hV] at HP hwk hv hsm
    clear h0 hV hwl
    go_enter Try.func10, Try.ntmps10
    go_wp2_with fail
    refine HP.out.mono ?_
    rintro e w1 ⟨va, vc, rfl, hvc, hO, HR, E1⟩
    have HS := Lib.hid (SortW_any w1 w.heap.size va vc V hO HR (by omega))
    have E1h := Lib.hid E1
    clear hO HR E1 HP
    go_wp2_with fail
    refine HS.out.mono ?_
    rintro e w2 ⟨rfl, S, hpS, hsS, HRS, hs2⟩
    have hSl : S.length = V.length := hpS.length_eq
    have hall := Lib.hid (swp_sorted hpS hsS (fun j hj => (hwk.out j hj).1))
    have HW := Lib.hid HRS
    have E2h := Lib.hid (hs2.ext E1h.out (Nat.le_refl _))
    have hbd : Hid (∀ j, j < S.length → 0 ≤ (nth S j).beg ∧ (nth S j).beg < (nth S j).fin ∧ (nth S j).fin ≤ 1440) := fun j hj => by
      obtain ⟨i, hi, e⟩ := List.getElem_of_mem ((hpS.mem_iff).1 (nth_mem hj))
      have := (hwk.out i hi).1
      rw [nth_eq V i hi, e] at this
      exact this
    have hv2 : Hid (blkC l ord c = 0 ∧ blkV l ord c = (addAll [] (S.map Work.iv)).map pr) := ⟨hv.out.1, by rw [hv.out.2, hall.out]⟩
    rw [← hSl] at hsm ⊢
    clear HS hpS hsS HRS hs2 hSl hall hwk hv E1h hvc
    go_wp2_with fail
    go_loopw [10, 28] (fun o i wr => ∃ (j : Nat) (P : List (Int × Int)) (vs : List Sl) (gs : Nat → Nat), j ≤ S.length ∧ i = .int .i64 j ∧ P.length ≤ j ∧ Hid (P = addAll [] ((S.take j).map Work.iv)) ∧ Hid (BII wr w2.heap.size o (P.map pr) vs gs) ∧ Ext w2 wr) (fun _ i _ => S.length - (intOf i).toNat)
    case atStart => exact ⟨0, [], [], fun _ => 0, Nat.zero_le _, rfl, Nat.le_refl _, rfl, BII.nil _ _ _, Ext.refl _⟩
    case round =>
      obtain ⟨j, P, vs, gs, hj, rfl, hPl, hst, HB, he⟩ := hrel
      have hEh := Lib.hid he
      by_cases hlt : j < S.length
      · obtain ⟨vb, vo, rfl⟩ := HW.out.base hlt
        obtain ⟨hbv, c0, c1⟩ := Work.at (HW.out.ext he) j hlt
        obtain ⟨b0, b1, b2⟩ := hbd.out j hlt
        obtain ⟨pa, pc, rfl, hpc, -, -, -⟩ := HB.out.out
        obtain ⟨W, hW⟩ : ∃ W, W = wr.alloc (.cells #[.int .i64 (nth S j).beg, .int .i64 (nth S j).fin] 53) := ⟨_, rfl⟩
        have hWE : Ext wr W := by rw [hW]; exact (Ext.refl wr).alloc _
        have x0 : W.cell? ⟨wr.heap.size, 0, none⟩ = some (.int .i64 (nth S j).beg) := by rw [hW, cell_new]; rfl
        have x1 : W.cell? ⟨wr.heap.size, 1, none⟩ = some (.int .i64 (nth S j).fin) := by rw [hW, cell_new]; rfl
        have hxl : wr.heap.size < W.heap.size := by rw [hW, size_new]; omega
        have hEW0 := Lib.hid (he.trans hWE)
        have HBW := Lib.hid (HB.out.ext hWE)
        have hvsl : vs.length ≤ 2000000 := by rw [HBW.out.len, List.length_map]; omega
        have hbw : w2.heap.size ≤ W.heap.size := (he.trans hWE).size
        have hW' := Lib.hid hW
        clear HB he hWE hEh
        rcases List.eq_nil_or_concat P with rfl | ⟨P0, q, rfl⟩
        · have hn2 : Hid ([(nth S j).iv] = addAll [] ((S.take (j + 1)).map Work.iv)) := by show _ = _; rw [take_iv hlt, addAll_snoc, ← hst.out]; rfl
          simp only [List.map_nil, List.length_nil]
          go_wp2_with fail
          rw [← hW]
          clear hW
          go_wp2_with fail
          refine region_quiet (by kernel_rfl) (by kernel_rfl) ?_
          repeat (any_goals (first | go_big_quiet_step ((fail)) | quiet_step ((fail))))
          refine wpQuiet_nil ?_
          intro _ hw'
          obtain ⟨y, hw''⟩ := hw'
          subst hw''
          have B3 := Lib.hid (HBW.out.ext ((Ext.refl _).lift y))
          have E3 := Lib.hid (hEW0.out.lift y)
          have x0 := ((Ext.refl W).lift y).cell x0
          have x1 := ((Ext.refl W).lift y).cell x1
          have hxl := Nat.lt_of_lt_of_le hxl ((Ext.refl W).lift y).size
          have hbw := Nat.le_trans hbw ((Ext.refl W).lift y).size
          clear hW' c0 c1 hbv HBW hEW0
          generalize lift W y = W1 at *
          have hEW : Hid (Ext W1 ((W1.alloc (.cells #[.int .i64 (nth S j).beg, .int .i64 (nth S j).fin] 2)).alloc (.cells #[.slice (some ⟨W1.heap.size, 0, none⟩) 2 2] 25))) := ((Ext.refl _).alloc _).alloc _
          have hszh : Hid (((W1.alloc (.cells #[.int .i64 (nth S j).beg, .int .i64 (nth S j).fin] 2)).alloc (.cells #[.slice (some ⟨W1.heap.size, 0, none⟩) 2 2] 25)).heap.size = W1.heap.size + 2) := by show _ = _; rw [size_new, size_new]
          have L3 := Lib.hid (B3.out.lst.ext hEW.out)
          have HR3 : Hid (RowsAt 1 cellV ((W1.alloc (.cells #[.int .i64 (nth S j).beg, .int .i64 (nth S j).fin] 2)).alloc (.cells #[.slice (some ⟨W1.heap.size, 0, none⟩) 2 2] 25)) (some ⟨W1.heap.size + 1, 0, none⟩) [⟨some ⟨W1.heap.size, 0, none⟩, 2, 2⟩]) := by
            have h9 := rows_new (n := 1) (cell := cellV) (T := 25) (W1.alloc (.cells #[.int .i64 (nth S j).beg, .int .i64 (nth S j).fin] 2)) #[.slice (some ⟨W1.heap.size, 0, none⟩) 2 2] ⟨some ⟨W1.heap.size, 0, none⟩, 2, 2⟩ (fun q hq => by have h8 : q < 1 := hq; obtain rfl : q = 0 := (by omega); rfl)
            rw [size_new] at h9
            exact h9
          have hB9 : Hid (∃ N, Blk ((W1.alloc (.cells #[.int .i64 (nth S j).beg, .int .i64 (nth S j).fin] 2)).alloc (.cells #[.slice (some ⟨W1.heap.size, 0, none⟩) 2 2] 25)) W1.heap.size 2 N ∧ [(nth S j).beg, (nth S j).fin].length ≤ N) := ⟨2, (Blk.new W1 #[.int .i64 (nth S j).beg, .int .i64 (nth S j).fin] 2).ext ((Ext.refl _).alloc _), Nat.le_refl _⟩
          have hI9 : Hid (IntAt ((W1.alloc (.cells #[.int .i64 (nth S j).beg, .int .i64 (nth S j).fin] 2)).alloc (.cells #[.slice (some ⟨W1.heap.size, 0, none⟩) 2 2] 25)) (some ⟨W1.heap.size, 0, none⟩) [(nth S j).beg, (nth S j).fin]) := (intAt_new0 W1 _ _ _ (by intro q hq; simp at hq; rcases (show q = 0 ∨ q = 1 by omega) with rfl | rfl <;> rfl)).ext ((Ext.refl _).alloc _)
          try dsimp only
          repeat (first | (at_builtin; refine Hid.out ?_) | go_values | go_skip | go_guarded | go_step | go_upon | go_back)
          refine Lib.hid ?_
          refine wpList_pushAt elII oneSl rfl _ _ rfl w2.heap.size _ vs (by rfl) L3.out _ 1 1 [⟨some ⟨W1.heap.size, 0, none⟩, 2, 2⟩] rfl (by rfl) HR3.out (by omega) (by omega) (by rw [hszh.out]; omega) ?_
          intro v' w3 HL hg3 hat3
          have B4 := Lib.hid (B3.out.push (x := [(nth S j).beg, (nth S j).fin]) (cp := 2) hbw hEW.out (by rw [hszh.out]; omega) hB9.out hI9.out (Nat.le_refl _) HL hg3 hat3)
          have hblk := Lib.hid (L3.out.ge)
          have E4 : Hid (Ext w2 w3) := (E3.out.trans hEW.out).grown hg3 (fun q hq => hblk.out q hq)
          clear HL hg3 hat3 L3 HR3 hB9 hI9 hEW hblk
          clear x0 x1 hxl
          go_wp2_with fail
          go_roundw
          case rel => exact ⟨j + 1, [(nth S j).iv], _, _, by omega, by go_num, by simp, hn2.out, B4.out, E4.out⟩
          case measure => simp [intOf]; omega
        · rw [List.concat_eq_append] at *
          have hPl2 : P0.length + 1 ≤ j := by rw [List.length_append] at hPl; simpa using hPl
          have hI := HBW.out.iis
          have hkL : P0.length < ((P0 ++ [q]).map pr).length := by simp
          obtain ⟨pb, po, rfl⟩ := hI.row.base (k := P0.length) (by rw [hI.len]; exact hkL)
          obtain ⟨hpb, g00⟩ := RowsAt.at hI.row P0.length (by rw [hI.len]; exact hkL)
          have g01 := g00 0 (by decide)
          obtain ⟨cp, ecp, hcp⟩ := HBW.out.val P0.length hkL
          have hnk : nth ((P0 ++ [q]).map pr) P0.length = [q.1, q.2] := by
            rw [List.map_append, show P0.length = (P0.map pr).length by simp]; exact nth_last _ _
          rw [ecp, hnk, Nat.mul_one, Nat.add_zero] at g01
          have g0 : W.cell? ⟨pb, po + P0.length, none⟩ = some (.slice (some ⟨gs P0.length, 0, none⟩) 2 cp) := g01
          have hrow := HBW.out.row P0.length hkL
          rw [hnk] at hrow
          have g1 : W.cell? ⟨gs P0.length, 1, none⟩ = some (.int .i64 q.2) := by
            have g1 := (IntAt.at (l := [q.1, q.2]) hrow 1 (by simp)).2
            rw [Nat.zero_add] at g1
            exact g1
          have hgl : gs P0.length < W.heap.size := block_lt g1
          rw [show ((P0 ++ [q]).map pr).length = P0.length + 1 by simp]
          have hwr := wrap_lenB (n := P0.length) (by omega)
          clear hI g00 g01 ecp hnk hrow hkL hPl hcp
          rcases Int.lt_or_le q.2 (nth S j).beg with h1 | h1
          · have hn2 : Hid ((P0 ++ [q]) ++ [(nth S j).iv] = addAll [] ((S.take (j + 1)).map Work.iv)) := by
              show _ = _; rw [take_iv hlt, addAll_snoc, ← hst.out, addW_snoc, if_neg (show ¬ (nth S j).iv.1 ≤ q.2 from by show ¬ (nth S j).beg ≤ q.2; omega)]
            go_wp2_with fail
            rw [← hW]
            clear hW
            go_wp2_with fail
            refine region_quiet (by kernel_rfl) (by kernel_rfl) ?_
            repeat (any_goals (first | go_big_quiet_step ((fail)) | quiet_step ((fail))))
            refine wpQuiet_nil ?_
            intro _ hw'
            obtain ⟨y, hw''⟩ := hw'
            subst hw''
            clear g0 g1 hpb hgl
            have B3 := Lib.hid (HBW.out.ext ((Ext.refl _).lift y))
            have E3 := Lib.hid (hEW0.out.lift y)
            have x0 := ((Ext.refl W).lift y).cell x0
            have x1 := ((Ext.refl W).lift y).cell x1
            have hxl := Nat.lt_of_lt_of_le hxl ((Ext.refl W).lift y).size
            have hbw := Nat.le_trans hbw ((Ext.refl W).lift y).size
            clear hW' c0 c1 hbv HBW hEW0
            generalize lift W y = W1 at *
            rw [show ((P0 ++ [q]).map pr).length = P0.length + 1 by simp] at B3
            have hEW : Hid (Ext W1 ((W1.alloc (.cells #[.int .i64 (nth S j).beg, .int .i64 (nth S j).fin] 2)).alloc (.cells #[.slice (some ⟨W1.heap.size, 0, none⟩) 2 2] 25))) := ((Ext.refl _).alloc _).alloc _
            have hszh : Hid (((W1.alloc (.cells #[.int .i64 (nth S j).beg, .int .i64 (nth S j).fin] 2)).alloc (.cells #[.slice (some ⟨W1.heap.size, 0, none⟩) 2 2] 25)).heap.size = W1.heap.size + 2) := by show _ = _; rw [size_new, size_new]
            have L3 := Lib.hid (B3.out.lst.ext hEW.out)
            have HR3 : Hid (RowsAt 1 cellV ((W1.alloc (.cells #[.int .i64 (nth S j).beg, .int .i64 (nth S j).fin] 2)).alloc (.cells #[.slice (some ⟨W1.heap.size, 0, none⟩) 2 2] 25)) (some ⟨W1.heap.size + 1, 0, none⟩) [⟨some ⟨W1.heap.size, 0, none⟩, 2, 2⟩]) := by
              have h9 := rows_new (n := 1) (cell := cellV) (T := 25) (W1.alloc (.cells #[.int .i64 (nth S j).beg, .int .i64 (nth S j).fin] 2)) #[.slice (some ⟨W1.heap.size, 0, none⟩) 2 2] ⟨some ⟨W1.heap.size, 0, none⟩, 2, 2⟩ (fun q hq => by have h8 : q < 1 := hq; obtain rfl : q = 0 := (by omega); rfl)
              rw [size_new] at h9
              exact h9
            have hB9 : Hid (∃ N, Blk ((W1.alloc (.cells #[.int .i64 (nth S j).beg, .int .i64 (nth S j).fin] 2)).alloc (.cells #[.slice (some ⟨W1.heap.size, 0, none⟩) 2 2] 25)) W1.heap.size 2 N ∧ [(nth S j).beg, (nth S j).fin].length ≤ N) := ⟨2, (Blk.new W1 #[.int .i64 (nth S j).beg, .int .i64 (nth S j).fin] 2).ext ((Ext.refl _).alloc _), Nat.le_refl _⟩
            have hI9 : Hid (IntAt ((W1.alloc (.cells #[.int .i64 (nth S j).beg, .int .i64 (nth S j).fin] 2)).alloc (.cells #[.slice (some ⟨W1.heap.size, 0, none⟩) 2 2] 25)) (some ⟨W1.heap.size, 0, none⟩) [(nth S j).beg, (nth S j).fin]) := (intAt_new0 W1 _ _ _ (by intro q hq; simp at hq; rcases (show q = 0 ∨ q = 1 by omega) with rfl | rfl <;> rfl)).ext ((Ext.refl _).alloc _)
            try dsimp only
            repeat (first | (at_builtin; refine Hid.out ?_) | go_values | go_skip | go_guarded | go_step | go_upon | go_back)
            refine Lib.hid ?_
            refine wpList_pushAt elII oneSl rfl _ _ rfl w2.heap.size _ vs (by rfl) L3.out _ 1 1 [⟨some ⟨W1.heap.size, 0, none⟩, 2, 2⟩] rfl (by rfl) HR3.out (by omega) (by omega) (by rw [hszh.out]; omega) ?_
            intro v' w3 HL hg3 hat3
            have B4 := Lib.hid (B3.out.push (x := [(nth S j).beg, (nth S j).fin]) (cp := 2) hbw hEW.out (by rw [hszh.out]; omega) hB9.out hI9.out (Nat.le_refl _) HL hg3 hat3)
            have hblk := Lib.hid (L3.out.ge)
            have E4 : Hid (Ext w2 w3) := (E3.out.trans hEW.out).grown hg3 (fun q hq => hblk.out q hq)
            clear HL hg3 hat3 L3 HR3 hB9 hI9 hEW hblk
            clear x0 x1 hxl
            go_wp2_with fail
            go_roundw
            case rel => exact ⟨j + 1, (P0 ++ [q]) ++ [(nth S j).iv], _, _, by omega, by go_num, by simp; omega, hn2.out, by rw [List.map_append]; exact B4.out, E4.out⟩
            case measure => simp [intOf]; omega
          · go_wp2_with fail
            rw [← hW]
            clear hW
            go_wp2_with fail
            refine region_quiet (by kernel_rfl) (by kernel_rfl) ?_
            repeat (any_goals (first | go_big_quiet_step ((fail)) | quiet_step ((fail))))
            refine wpQuiet_nil ?_
            intro _ hw'
            obtain ⟨y, hw''⟩ := hw'
            subst hw''
            have g0 := ((Ext.refl W).lift y).cell g0
            have g1 := ((Ext.refl W).lift y).cell g1
            have hpb := Nat.lt_of_lt_of_le hpb ((Ext.refl W).lift y).size
            have hgl := Nat.lt_of_lt_of_le hgl ((Ext.refl W).lift y).size
            have B3 := Lib.hid (HBW.out.ext ((Ext.refl _).lift y))
            have E3 := Lib.hid (hEW0.out.lift y)
            have x0 := ((Ext.refl W).lift y).cell x0
            have x1 := ((Ext.refl W).lift y).cell x1
            have hxl := Nat.lt_of_lt_of_le hxl ((Ext.refl W).lift y).size
            have hbw := Nat.le_trans hbw ((Ext.refl W).lift y).size
            clear hW' c0 c1 hbv HBW hEW0
            generalize lift W y = W1 at *
            have HBy := B3
            have hEy := E3
            go_wp2_with fail
            have hmx : Hid (addW (P0 ++ [q]) (nth S j).iv = P0 ++ [(q.1, (max q.2 (nth S j).fin))]) := by
              show _ = _
              rw [addW_snoc, if_pos (show (nth S j).iv.1 ≤ q.2 from h1)]
              have : max q.2 (nth S j).iv.2 = (max q.2 (nth S j).fin) := by show max q.2 (nth S j).fin = _; omega
              rw [this]
            refine Grow.region_tail 16 [0, 1, 2, 3, 4, 5, 6, 7, 8, 9, 10, 11, 12, 13, 14, 15] [] (by kernel_rfl) (by kernel_rfl) ?_
            simp only [Grow.pick, Grow.pickB, List.getElem?_cons_succ, List.getElem?_cons_zero, List.drop_succ_cons, List.drop_zero]
            repeat
              refine Grow.heads_step (fun K' hK => ⟨rfl, ?_⟩)
              apply Exists.intro
              apply And.intro
              · intro w' hw'
                obtain ⟨x', rfl⟩ := hw'
                go_simp
                first | done | rfl | (rw [if_neg (by omega)]; done) | (rw [if_neg (by omega)]; rfl) | (rw [if_pos (by omega)]; done) | (rw [if_pos (by omega)]; rfl)
              go_simp
              refine hK _ ?_
              clear hK K'
            try rw [wrap_lenB (show P0.length ≤ 2000000 by omega)]
            repeat
              refine Grow.heads_step (fun K' hK => ⟨rfl, ?_⟩)
              apply Exists.intro
              apply And.intro
              · intro w' hw'
                obtain ⟨x', rfl⟩ := hw'
                go_simp
                first | done | rfl | (rw [if_neg (by omega)]; done) | (rw [if_neg (by omega)]; rfl) | (rw [if_pos (by omega)]; done) | (rw [if_pos (by omega)]; rfl)
              go_simp
              refine hK _ ?_
              clear hK K'
            try rw [wrap_lenB (show P0.length ≤ 2000000 by omega)]
            repeat
              refine Grow.heads_step (fun K' hK => ⟨rfl, ?_⟩)
              apply Exists.intro
              apply And.intro
              · intro w' hw'
                obtain ⟨x', rfl⟩ := hw'
                go_simp
                first | done | rfl | (rw [if_neg (by omega)]; done) | (rw [if_neg (by omega)]; rfl) | (rw [if_pos (by omega)]; done) | (rw [if_pos (by omega)]; rfl)
              go_simp
              refine hK _ ?_
              clear hK K'
            refine Grow.heads_nil ?_
            intro w5 e5
            have B5 := Lib.hid (HBy.out.ext e5)
            have E5 := Lib.hid (hEy.out.trans e5)
            have g5 := e5.cell g1
            have f5 : w5.frozen? ⟨gs P0.length, 1, none⟩ = false := by
              obtain ⟨N, hBk, -⟩ := B5.out.blk P0.length (by simp)
              exact hBk.frozen 1
            have hlow := B5.out.low P0.length (by simp)
            clear e5 g0 g1 x0 x1 HBy hEy
            refine Grow.seq_nil ?_
            go_wp2_with fail
            go_roundw
            case rel => exact ⟨j + 1, P0 ++ [(q.1, (max q.2 (nth S j).fin))], vs, gs, by omega, by go_num, by simp; omega, by show _ = _; rw [take_iv hlt, addAll_snoc, ← hst.out, hmx.out], by
              have := B5.out.set (k := P0.length) (by simp) (p := q.1) (q := q.2) (by rw [List.map_append]; exact (by rw [show P0.length = (P0.map pr).length by simp]; exact nth_last _ _)) (max q.2 (nth S j).fin)
              rw [List.map_append] at this
              rw [List.map_append]
              rw [show P0.length = (P0.map pr).length by simp] at this
              have e := set_last (P0.map pr) (pr q) [q.1, (max q.2 (nth S j).fin)]
              rw [show List.map pr [q] = [pr q] from rfl, e] at this
              rw [show (P0.map pr).length = P0.length by simp] at this
              rw [show (List.map pr P0 ++ [pr q]).length = P0.length + 1 by simp] at this
              rw [show List.map pr [(q.1, (max q.2 (nth S j).fin))] = [[q.1, (max q.2 (nth S j).fin)]] from rfl]
              exact Lib.hid this, E5.out.setCell (p := ⟨gs P0.length, 1, none⟩) hlow _⟩
            case measure => simp [intOf]; omega
      · obtain rfl : j = S.length := by omega
        rw [List.take_length] at hst
        have hv3 : Hid (blkC l ord c = 0 ∧ blkV l ord c = P.map pr) := ⟨hv2.out.1, by rw [hv2.out.2, ← hst.out]⟩
        have hB9 := Lib.hid (HB.out.lower E2h.out.size)
        have hE9 := Lib.hid (E2h.out.trans he)
        clear HB he hv2 hst hEh
        go_wp2_with fail
        go_ret2
        rw [hv3.out.1, hv3.out.2]
        exact ⟨_, vs, gs, rfl, hB9.out, hE9.out⟩
  · have hv : Hid (blkV l ord c = []) := if_neg h0
    have hc : Hid (blkC l ord c = planC l ord c) := rfl
    obtain ⟨q, hq⟩ : ∃ q, q = planC l ord c := ⟨_, rfl⟩
    rw [← hq] at HP hc h0
    have hd : (q == 0) = false := beq_eq_false_iff_ne.2 h0
    clear h0 hq
    go_enter Try.func10, Try.ntmps10
    go_wp2_with fail
    refine HP.out.mono ?_
    rintro e w1 ⟨fa, fc, rfl, -, -, -, E1⟩
    go_wp2_with fail
    go_ret2
    rw [hv.out, hc.out]
    exact ⟨_, [], fun _ => 0, rfl, BII.nil _ _ _, E1⟩
end Go.Proofs.Ytpmbaemfpkcjnaa
