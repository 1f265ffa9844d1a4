/- BlockedMinutes of the reference. -/
import Derived.Test.YtblpoeeemiaofaaBlkP
namespace Go.Proofs.Ytblpoeeemiaofaa
open Go.RowKit
theorem swp_next (b : Nat → Bool) (m : Nat) : swp b (m + 1) = if b m = true then ((swp b m).1, if (swp b m).2 < 0 then (m : Int) else (swp b m).2) else if 0 ≤ (swp b m).2 then ((swp b m).1 ++ [((swp b m).2, (m : Int))], -1) else swp b m := rfl
set_option maxRecDepth 100000 in
set_option maxHeartbeats 8000000 in
theorem specBlockedMinutes_any (w : World) (a : Option Addr) (cap : Nat) (l : List Shot) (H : ShotAt w a l) (hsz : ∀ k, k < l.length → (nth l k).Small) (hn : l.length ≤ 1048576) (hcap : l.length ≤ cap)
    (a2 : Option Addr) (cap2 : Nat) (ord : List Int) (H2 : IntAt w a2 ord) (hw2 : ∀ k, k < ord.length → -9223372036854775808 ≤ nth ord k ∧ nth ord k ≤ 9223372036854775807) (hn2 : ord.length ≤ 1048576) (hcap2 : ord.length ≤ cap2) (c : Int) :
    Calls Try.prog 6 #[.slice a l.length cap, .slice a2 ord.length cap2, .int .i64 c] w (OutII w (blkV l ord c) [.int .i64 (blkC l ord c)]) := by
  have _ := hcap
  have _ := hw2
  have HA := Lib.hid H
  have HI := Lib.hid H2
  have HP := Lib.hid (l22Plan_any a cap l a2 cap2 ord c w H hsz hn H2 hn2 hcap2)
  clear H H2 hsz hw2
  by_cases h0 : planC l ord c = 0
  · have hv : Hid (blkC l ord c = 0 ∧ blkV l ord c = (swp (busyW (planV l ord c)) 1441).1.map pr) := ⟨h0, if_pos h0⟩
    obtain ⟨hsk, hwl, -⟩ := planC_ok h0
    have hwk := Lib.hid (planC_works h0)
    have hord := Lib.hid hsk.ord
    have hfl : Hid ((finsP l ord c).length = (planV l ord c).length) := by show _ = _; unfold finsP; rw [List.length_map]
    have hfn : Hid (∀ k, k < (planV l ord c).length → nth (finsP l ord c) k = (nth (planV l ord c) k).fin) := fun k hk => by
      unfold finsP; rw [nth_eq _ _ (by rw [List.length_map]; exact hk), List.getElem_map, nth_eq _ _ hk]
    have h0h := Lib.hid h0
    rw [h0] at HP
    obtain ⟨F, hF⟩ : ∃ F, F = finsP l ord c := ⟨_, rfl⟩
    obtain ⟨V, hV⟩ : ∃ V, V = planV l ord c := ⟨_, rfl⟩
    have hpick : Hid (∀ j, pickS l ord j = nth l (nth ord j).toNat) := fun _ => rfl
    have hmins : Hid (∀ j, j < ord.length → shotB (nth l (nth ord j).toNat) = true) := fun j hj => hsk.pick hj
    rw [← hF] at HP hfl hfn
    rw [← hV] at hfl hfn hwk hv hwl
    have hVo := Lib.hid hwl
    clear h0 hF hV hsk hwl
    go_enter Try.func6, Try.ntmps6
    go_wp2_with fail
    refine HP.out.mono ?_
    rintro e w1 ⟨fa, fc, rfl, hfc, -, HF, E1⟩
    have HFh := Lib.hid HF
    have E1h := Lib.hid E1
    clear HF E1 HP
    rw [hfl.out]
    go_wp2_with fail
    go_loopw [10, 11, 12] (fun o fi i wr => ∃ (m : Nat) (vs : List Sl) (gs : Nat → Nat), m ≤ 1441 ∧ i = .int .i64 m ∧ fi = .int .i64 (swp (busyW V) m).2 ∧ Hid (BII wr w1.heap.size o ((swp (busyW V) m).1.map pr) vs gs) ∧ Ext w1 wr) (fun _ _ i _ => 1441 - (intOf i).toNat)
    case atStart => exact ⟨0, [], fun _ => 0, by omega, rfl, rfl, BII.new _ _ _ _ (Nat.le_refl _) rfl, (Ext.refl _).alloc _⟩
    case round =>
      obtain ⟨m, vs, gs, hm, rfl, rfl, HB, he⟩ := hrel
      obtain ⟨wo, hwo⟩ : ∃ wo, wo = wr := ⟨_, rfl⟩
      subst hwo
      have hEh := Lib.hid he
      have hbw := he.size
      clear he
      by_cases hlt : m < 1441
      · have hdm : decide ((m : Int) ≤ 1440) = true := decide_eq_true (by omega)
        go_wp2_with fail
        go_loopw [13, 14] (fun bz i wr => ∃ k : Nat, k ≤ V.length ∧ i = .int .i64 k ∧ bz = .bool (busyTo V m k) ∧ Ext wo wr) (fun _ i _ => V.length - (intOf i).toNat)
        case atStart => exact ⟨0, Nat.zero_le _, rfl, rfl, Ext.refl _⟩
        case round =>
          obtain ⟨k, hk, rfl, rfl, he2⟩ := hrel
          by_cases hkl : k < V.length
          · have hkf : k < F.length := by rw [hfl.out]; exact hkl
            have hko : k < ord.length := by rw [← hVo.out]; exact hkl
            have hE2 := Lib.hid (hEh.out.trans he2)
            have hE3 := Lib.hid ((E1h.out.trans hEh.out).trans he2)
            obtain ⟨o0, o1⟩ := hord.out k hko
            obtain ⟨oi, hoi⟩ := Int.eq_ofNat_of_zero_le o0
            have hoil : oi < l.length := by omega
            obtain ⟨fb, fo, rfl⟩ := HFh.out.base hkf
            obtain ⟨hbf, f0⟩ := IntAt.at (HFh.out.ext hE2.out) k hkf
            rw [hfn.out k hkl] at f0
            obtain ⟨ob, oo, rfl⟩ := HI.out.base hko
            obtain ⟨hbo, p0⟩ := IntAt.at (HI.out.ext hE3.out) k hko
            rw [hoi] at p0
            obtain ⟨ab, ao, rfl⟩ := HA.out.base hoil
            obtain ⟨hba, c0, c1, c2, c3, c4⟩ := Shot.at (HA.out.ext hE3.out) oi hoil
            obtain ⟨⟨b0, b1, b2⟩, b3⟩ := hwk.out k hkl
            rw [hpick.out k, hoi, Int.toNat_natCast] at b3
            have hsb := shotB_bd (show shotB (nth l oi) = true by have := hmins.out k hko; rw [hoi, Int.toNat_natCast] at this; exact this)
            have hnx : Hid (busyTo V m (k + 1) = (busyTo V m k || (decide ((m : Int) < (nth V k).fin) && decide ((nth V k).beg ≤ m)))) := rfl
            have hm1 : 1 ≤ (nth l oi).mins ∧ (nth l oi).mins ≤ 240 := by omega
            have hE4 := Lib.hid he2
            clear o0 o1 hoi he2 hsb
            cases ht : busyTo V m k
            · rcases Int.lt_or_le (m : Int) (nth V k).fin with h1 | h1
              · have hd1 : decide ((m : Int) < (nth V k).fin) = true := decide_eq_true h1
                by_cases h2 : (nth V k).beg ≤ m
                · have hn2 : Hid (busyTo V m (k + 1) = true) := by show _ = _; rw [hnx.out, ht, hd1, decide_eq_true h2]; rfl
                  have h2' : (nth V k).fin - (nth l oi).mins ≤ m := by omega
                  have hd2 : decide ((nth V k).fin - (nth l oi).mins ≤ (m : Int)) = true := decide_eq_true h2'
                  clear hnx ht
                  go_wp2_with fail
                  refine region_quiet (by kernel_rfl) (by kernel_rfl) ?_
                  repeat (any_goals (first | go_big_quiet_step ((fail)) | quiet_step ((fail))))
                  refine wpQuiet_nil ?_
                  intro _ hw'
                  obtain ⟨y, hw''⟩ := hw'
                  subst hw''
                  go_wp2_with fail
                  go_roundw
                  case rel => exact ⟨k + 1, by omega, by go_num, by rw [hn2.out], hE4.out.lift _⟩
                  case measure => simp [intOf]; omega
                · have hn2 : Hid (busyTo V m (k + 1) = false) := by show _ = _; rw [hnx.out, ht, decide_eq_false h2]; simp
                  have hd3 : decide ((nth V k).beg ≤ (m : Int)) = false := decide_eq_false h2
                  have h2' : (m : Int) < (nth V k).fin - (nth l oi).mins := by omega
                  have hd2 : decide ((nth V k).fin - (nth l oi).mins ≤ (m : Int)) = false := decide_eq_false (by omega)
                  clear hnx ht h2
                  go_wp2_with fail
                  refine region_quiet (by kernel_rfl) (by kernel_rfl) ?_
                  repeat (any_goals (first | go_big_quiet_step ((fail)) | quiet_step ((fail))))
                  refine wpQuiet_nil ?_
                  intro _ hw'
                  obtain ⟨y, hw''⟩ := hw'
                  subst hw''
                  go_wp2_with fail
                  go_roundw
                  case rel => exact ⟨k + 1, by omega, by go_num, by rw [hn2.out], hE4.out.lift _⟩
                  case measure => simp [intOf]; omega
              · have hn2 : Hid (busyTo V m (k + 1) = false) := by show _ = _; rw [hnx.out, ht, decide_eq_false (by omega)]; rfl
                have hd1 : decide ((m : Int) < (nth V k).fin) = false := decide_eq_false (by omega)
                clear hnx ht
                go_wp2_with fail
                refine region_quiet (by kernel_rfl) (by kernel_rfl) ?_
                repeat (any_goals (first | go_big_quiet_step ((fail)) | quiet_step ((fail))))
                refine wpQuiet_nil ?_
                intro _ hw'
                obtain ⟨y, hw''⟩ := hw'
                subst hw''
                go_wp2_with fail
                go_roundw
                case rel => exact ⟨k + 1, by omega, by go_num, by rw [hn2.out], hE4.out.lift _⟩
                case measure => simp [intOf]; omega
            · have hn2 : Hid (busyTo V m (k + 1) = true) := by show _ = _; rw [hnx.out, ht]; rfl
              clear hnx ht
              go_wp2_with fail
              refine region_quiet (by kernel_rfl) (by kernel_rfl) ?_
              repeat (any_goals (first | go_big_quiet_step ((fail)) | quiet_step ((fail))))
              refine wpQuiet_nil ?_
              intro _ hw'
              obtain ⟨y, hw''⟩ := hw'
              subst hw''
              go_wp2_with fail
              go_roundw
              case rel => exact ⟨k + 1, by omega, by go_num, by rw [hn2.out], hE4.out.lift _⟩
              case measure => simp [intOf]; omega
          · obtain rfl : k = V.length := by omega
            have hE2 := Lib.hid (hEh.out.trans he2)
            have HB2 := Lib.hid (HB.out.ext he2)
            have hnx := Lib.hid (swp_next (busyW V) m)
            have hsl := swp_len (busyW V) m
            obtain ⟨f, hf⟩ : ∃ f, f = (swp (busyW V) m).2 := ⟨_, rfl⟩
            have hs2 := swp_snd (busyW V) m
            rw [← hf] at hs2 ⊢
            have hfh := Lib.hid hf
            have hbw2 := hE2.out.size
            clear he2 hf HB hEh
            have hbz : busyW V m = busyTo V m V.length := rfl
            cases ht : busyTo V m V.length
            · rw [ht] at hbz
              rw [hbz, if_neg (by decide)] at hnx
              rcases Int.lt_or_le f 0 with h1 | h1
              · have hn2 : Hid (swp (busyW V) (m + 1) = swp (busyW V) m) := by show _ = _; rw [hnx.out, if_neg (by rw [← hfh.out]; omega)]
                clear hnx ht hbz
                go_wp2_with fail
                go_roundw
                case rel => exact ⟨m + 1, vs, gs, by omega, by go_num, by rw [hn2.out, ← hfh.out], by rw [hn2.out]; exact HB2.out, hE2.out⟩
                case measure => simp [intOf]; omega
              · have hn2 : Hid (swp (busyW V) (m + 1) = ((swp (busyW V) m).1 ++ [(f, (m : Int))], -1)) := by show _ = _; rw [hnx.out, if_pos (by rw [← hfh.out]; exact h1), ← hfh.out]
                clear hnx ht hbz
                have hvl : vs.length ≤ 5000 := by rw [HB2.out.len, List.length_map]; omega
                have hbw := hbw2
                have hEW : Hid (Ext wr ((wr.alloc (.cells #[.int .i64 f, .int .i64 (m : Int)] 2)).alloc (.cells #[.slice (some ⟨wr.heap.size, 0, none⟩) 2 2] 23))) := ((Ext.refl _).alloc _).alloc _
                have hszh : Hid (((wr.alloc (.cells #[.int .i64 f, .int .i64 (m : Int)] 2)).alloc (.cells #[.slice (some ⟨wr.heap.size, 0, none⟩) 2 2] 23)).heap.size = wr.heap.size + 2) := by show _ = _; rw [size_new, size_new]
                have L3 := Lib.hid (HB2.out.lst.ext hEW.out)
                have HR3 : Hid (RowsAt 1 cellV ((wr.alloc (.cells #[.int .i64 f, .int .i64 (m : Int)] 2)).alloc (.cells #[.slice (some ⟨wr.heap.size, 0, none⟩) 2 2] 23)) (some ⟨wr.heap.size + 1, 0, none⟩) [⟨some ⟨wr.heap.size, 0, none⟩, 2, 2⟩]) := by
                  have h9 := rows_new (n := 1) (cell := cellV) (T := 23) (wr.alloc (.cells #[.int .i64 f, .int .i64 (m : Int)] 2)) #[.slice (some ⟨wr.heap.size, 0, none⟩) 2 2] ⟨some ⟨wr.heap.size, 0, none⟩, 2, 2⟩ (fun q hq => by have h8 : q < 1 := hq; obtain rfl : q = 0 := (by omega); rfl)
                  rw [size_new] at h9
                  exact h9
                have hB9 : Hid (∃ N, Blk ((wr.alloc (.cells #[.int .i64 f, .int .i64 (m : Int)] 2)).alloc (.cells #[.slice (some ⟨wr.heap.size, 0, none⟩) 2 2] 23)) wr.heap.size 2 N ∧ [f, (m : Int)].length ≤ N) := ⟨2, (Blk.new wr #[.int .i64 f, .int .i64 (m : Int)] 2).ext ((Ext.refl _).alloc _), Nat.le_refl _⟩
                have hI9 : Hid (IntAt ((wr.alloc (.cells #[.int .i64 f, .int .i64 (m : Int)] 2)).alloc (.cells #[.slice (some ⟨wr.heap.size, 0, none⟩) 2 2] 23)) (some ⟨wr.heap.size, 0, none⟩) [f, (m : Int)]) := (intAt_new0 wr _ _ _ (by intro q hq; simp at hq; rcases (show q = 0 ∨ q = 1 by omega) with rfl | rfl <;> rfl)).ext ((Ext.refl _).alloc _)
                try dsimp only
                repeat (first | (at_builtin; refine Hid.out ?_) | go_values | go_skip | go_guarded | go_step | go_upon | go_back)
                refine Lib.hid ?_
                refine wpList_pushAt elII oneSl rfl _ _ rfl w1.heap.size _ vs (by rfl) L3.out _ 1 1 [⟨some ⟨wr.heap.size, 0, none⟩, 2, 2⟩] rfl (by rfl) HR3.out (by omega) (by omega) (by rw [hszh.out]; omega) ?_
                intro v' w3 HL hg3 hat3
                have B4 := Lib.hid (HB2.out.push (x := [f, (m : Int)]) (cp := 2) hbw hEW.out (by rw [hszh.out]; omega) hB9.out hI9.out (Nat.le_refl _) HL hg3 hat3)
                have hblk := Lib.hid (L3.out.ge)
                have E4 : Hid (Ext w1 w3) := (hE2.out.trans hEW.out).grown hg3 (fun q hq => hblk.out q hq)
                clear HL hg3 hat3 L3 HR3 hB9 hI9 hEW hblk
                go_wp2_with fail
                go_roundw
                case rel => exact ⟨m + 1, _, _, by omega, by go_num, by rw [hn2.out], by rw [hn2.out, List.map_append]; exact B4.out, E4.out⟩
                case measure => simp [intOf]; omega
            · rw [ht] at hbz
              rw [hbz, if_pos rfl] at hnx
              rcases Int.lt_or_le f 0 with h1 | h1
              · have hn2 : Hid (swp (busyW V) (m + 1) = ((swp (busyW V) m).1, (m : Int))) := by show _ = _; rw [hnx.out, if_pos (by rw [← hfh.out]; exact h1)]
                clear hnx ht hbz
                go_wp2_with fail
                go_roundw
                case rel => exact ⟨m + 1, vs, gs, by omega, by go_num, by rw [hn2.out], by rw [hn2.out]; exact HB2.out, hE2.out⟩
                case measure => simp [intOf]; omega
              · have hn2 : Hid (swp (busyW V) (m + 1) = ((swp (busyW V) m).1, f)) := by show _ = _; rw [hnx.out, if_neg (by rw [← hfh.out]; omega), ← hfh.out]
                clear hnx ht hbz
                go_wp2_with fail
                go_roundw
                case rel => exact ⟨m + 1, vs, gs, by omega, by go_num, by rw [hn2.out], by rw [hn2.out]; exact HB2.out, hE2.out⟩
                case measure => simp [intOf]; omega
      · obtain rfl : m = 1441 := by omega
        have hB9 := Lib.hid (HB.out.lower E1h.out.size)
        have hE9 := Lib.hid (E1h.out.trans hEh.out)
        clear HB hEh
        go_wp2_with fail
        go_ret2
        rw [hv.out.1, hv.out.2]
        exact ⟨_, vs, gs, rfl, hB9.out, hE9.out⟩
  · have hv : Hid (blkV l ord c = []) := if_neg h0
    have hc : Hid (blkC l ord c = planC l ord c) := rfl
    obtain ⟨q, hq⟩ : ∃ q, q = planC l ord c := ⟨_, rfl⟩
    rw [← hq] at HP hc h0
    have hd : (q == 0) = false := beq_eq_false_iff_ne.2 h0
    clear h0 hq
    go_enter Try.func6, Try.ntmps6
    go_wp2_with fail
    refine HP.out.mono ?_
    rintro e w1 ⟨fa, fc, rfl, -, -, -, E1⟩
    go_wp2_with fail
    go_ret2
    rw [hv.out, hc.out]
    exact ⟨_, [], fun _ => 0, rfl, BII.nil _ _ _, E1⟩
end Go.Proofs.Ytblpoeeemiaofaa
