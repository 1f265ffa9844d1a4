/- Chapter 8: DepthGroups of the reference. -/
import Derived.Test.YtdopffhekinbnaaDepI
import Derived.Laws.AppendOwnNone
namespace Go.Proofs.Ytdopffhekinbnaa
open Go.RowKit
set_option maxRecDepth 100000 in
set_option maxHeartbeats 1000000 in
theorem l00Own_lst (ad : Addr) (cap : Nat) (l : List Int) (w : World) (H : IntAt w (some ad) l) (hlen : l.length ≤ 1048576) :
    Calls Try.prog 24 #[.slice (some ad) l.length cap] w (fun e w' => ∃ v, e = .returned v ∧ Lst 2 1 celI w' w.heap.size v l ∧ Ext w w') := by
  have HL : Hid (Lst 2 1 celI (w.alloc (.cells #[] 2)) w.heap.size (.slice (some ⟨w.heap.size, 0, none⟩) 0 0) ([] : List Int)) := Lst.new w _ (Nat.le_refl _)
  have hE := Lib.hid ((Ext.refl w).alloc (.cells #[] 2))
  have hb : Hid (w.heap.size ≤ (w.alloc (.cells #[] 2)).heap.size) := by show _ ≤ _; rw [size_new]; omega
  have HR := Lib.hid (H.ext hE.out)
  have C1 : Hid (([] : List Int).length + l.length ≤ 9223372036854775807) := by show _ ≤ _; simp; omega
  have C2 : Hid ((([] : List Int).length + l.length) * 8 ≤ 140737488355328) := by show _ ≤ _; simp; omega
  clear H
  go_enter Try.func24, Try.ntmps24
  go_wp2_with (at_builtin; refine wpList_pushL elI oneI rfl _ _ rfl w.heap.size _ [] rfl HL.out ad l.length cap l rfl rfl HR.out C1.out C2.out hb.out ?_; intro v' w1 HL1 hs1 _)
  rw [List.nil_append] at HL1
  have hX : Hid (Ext w w1) := hs1.ext hE.out (Nat.le_refl _)
  have L1 := Lib.hid HL1
  clear HL1 hs1
  go_wp2_with fail
  go_ret
  exact ⟨v', rfl, L1.out, hX.out⟩
theorem l08NearD_any (n : Int) (w : World) : Calls Try.prog 23 #[.int .i64 n] w fun e w' => e = .returned (.bool (nearB n)) ∧ w' = w := by
  have hv : Hid (nearB n = inB n 0 300) := rfl
  go_enter Try.func23, Try.ntmps23
  go_wp2_with (go_at_call 44; refine (l00In_any _ _ _ _).mono ?_; rintro e w' ⟨rfl, rfl⟩)
  go_ret
  exact ⟨ret_bool hv.out.symm, rfl⟩
theorem posD_zero {α : Type} [Inhabited α] (d : α → Int) (o : List α) (x : α) : posD d o x 0 = 0 := rfl
theorem posD_down {α : Type} [Inhabited α] {d : α → Int} {o : List α} {x : α} {j : Nat} (h0 : 0 < j) (h : d x < d (nth o (j - 1))) : posD d o x j = posD d o x (j - 1) := by
  obtain ⟨i, rfl⟩ : ∃ i, j = i + 1 := ⟨j - 1, by omega⟩
  exact if_pos h
theorem posD_stop {α : Type} [Inhabited α] {d : α → Int} {o : List α} {x : α} {j : Nat} (h0 : 0 < j) (h : ¬ d x < d (nth o (j - 1))) : posD d o x j = j := by
  obtain ⟨i, rfl⟩ : ∃ i, j = i + 1 := ⟨j - 1, by omega⟩
  exact if_neg h
theorem upG_snoc (x : List Int) (n : Int) : upG (x ++ [n]) = putL ltI n (upG x) := by unfold upG; exact putAll_snoc ..
theorem nth_map {α β : Type} [Inhabited α] [Inhabited β] (f : α → β) {l : List α} {k : Nat} (h : k < l.length) : nth (l.map f) k = f (nth l k) := by
  rw [nth_eq _ _ (by rw [List.length_map]; exact h), List.getElem_map, nth_eq l k h]
set_option maxRecDepth 100000 in
set_option maxHeartbeats 16000000 in
theorem specDepthGroups_any (w : World) (a : Option Addr) (cap : Nat) (l : List Test) (H : TestAt w a l) (hsz : ∀ k, k < l.length → (nth l k).Small) (hn : l.length ≤ 1048576) (hcap : l.length ≤ cap) (near : Int) :
    Calls Try.prog 6 #[.slice a l.length cap, .int .i64 near] w (OutII w (depV l near) [.int .i64 (depC l near)]) := by
  have _ := hcap
  have HA := Lib.hid H
  have HV := Lib.hid fun (w' : World) (he : Ext w w') => l08Ok_any a cap l w' (H.ext he) hsz hn
  have HN := Lib.hid (l08NearD_any near)
  clear H hsz
  cases h1 : testList l
  · have hv := Lib.hid (dep_1 (near := near) h1)
    rw [h1] at HV
    clear h1 HN
    go_enter Try.func6, Try.ntmps6
    go_wp2_with fail
    refine (HV.out _ (by repeat (first | exact Ext.refl _ | refine Ext.lift ?_ _ | refine Ext.alloc ?_ _))).mono ?_
    rintro e w1 ⟨rfl, e1⟩
    go_wp2_with fail
    go_ret2
    rw [hv.out.1, hv.out.2]
    exact ⟨.slice none 0 0, [], fun _ => 0, rfl, BII.nil _ _ _, e1⟩
  rw [h1] at HV
  cases h2 : nearB near
  · have hv := Lib.hid (dep_2 h1 h2)
    rw [h2] at HN
    clear h1 h2
    go_enter Try.func6, Try.ntmps6
    go_wp2_with fail
    refine (HV.out _ (by repeat (first | exact Ext.refl _ | refine Ext.lift ?_ _ | refine Ext.alloc ?_ _))).mono ?_
    rintro e w1 ⟨rfl, e1⟩
    go_wp2_with fail
    refine (HN.out _).mono ?_
    rintro e w2 ⟨rfl, hw⟩
    subst hw
    go_wp2_with fail
    go_ret2
    rw [hv.out.1, hv.out.2]
    exact ⟨.slice none 0 0, [], fun _ => 0, rfl, BII.nil _ _ _, e1⟩
  rw [h2] at HN
  have hv := Lib.hid (dep_0 h1 h2)
  have hl16 : l.length ≤ 16 := vAll_len_le (show vAll _ _ 16 l = true from h1)
  have hdp := Lib.hid fun k (hk : k < l.length) => (show 1 ≤ (nth l k).depth ∧ (nth l k).depth ≤ 300 from ((testB_bd (vAll_one (show vAll _ _ 16 l = true from h1) k hk)).2.1))
  clear h1 h2
  go_enter Try.func6, Try.ntmps6
  go_wp2_with fail
  refine (HV.out _ (by repeat (first | exact Ext.refl _ | refine Ext.lift ?_ _ | refine Ext.alloc ?_ _))).mono ?_
  rintro e w1 ⟨rfl, e1⟩
  have E1 := Lib.hid e1
  clear e1 HV
  go_wp2_with fail
  refine (HN.out _).mono ?_
  rintro e w2 ⟨rfl, hw⟩
  subst hw
  clear HN
  have hX0 := Lib.hid (E1.out.alloc (.cells #[] 2))
  go_wp2_with fail
  go_loopw [6, 7] (fun o i wr => ∃ (k ob oc : Nat), k ≤ l.length ∧ i = .int .i64 k ∧ o = .slice (some ⟨ob, 0, none⟩) k oc ∧ k ≤ oc ∧ Hid (IntAt wr (some ⟨ob, 0, none⟩) (ordD l k)) ∧ Hid (Ext w wr)) (fun _ i _ => l.length - (intOf i).toNat)
  case atStart => exact ⟨0, _, 0, Nat.zero_le _, rfl, rfl, Nat.le_refl _, (show IntAt _ _ [] from RowsAt.nil), hX0.out⟩
  case round =>
    clear hX0 E1
    obtain ⟨k, ob, oc, hk, rfl, rfl, hoc, HO, hEw⟩ := hrel
    by_cases hlt : k < l.length
    · obtain ⟨wo, hwo⟩ : ∃ wo, wo = wr := ⟨_, rfl⟩
      subst hwo
      have hsucc := Lib.hid (ordD_succ l k)
      have hol := ordD_len l k
      have hon := Lib.hid fun j (hj : j < k) => ordD_nth (l := l) hj
      obtain ⟨lb, lo, rfl⟩ := HA.out.base hlt
      obtain ⟨o, ho⟩ : ∃ o, o = ordD l k := ⟨_, rfl⟩
      rw [← ho] at hsucc hol hon HO
      have hdk := hdp.out k hlt
      clear ho
      go_wp2_with fail
      go_loopw [8] (fun p wq => ∃ j : Nat, j ≤ k ∧ p = .int .i64 j ∧ Hid (posD (dep l) o (k : Int) k = posD (dep l) o (k : Int) j) ∧ Hid (Ext wo wq)) (fun p _ => (intOf p).toNat)
      case atStart => exact ⟨k, Nat.le_refl _, rfl, rfl, Ext.refl _⟩
      case round =>
        obtain ⟨j, hj, rfl, hp, he⟩ := hrel
        obtain ⟨hlb, -, -, -, f0, -⟩ := Test.at (HA.out.ext (hEw.out.trans he.out)) k hlt
        rcases Nat.eq_zero_or_pos j with h0 | h0
        · have hq : decide ((0 : Int) < (j : Int)) = false := decide_eq_false (by omega)
          have hq2 : decide (0 < j) = false := decide_eq_false (by omega)
          have hpos : Hid (posD (dep l) o (k : Int) k = j) := by show _ = _; rw [hp.out, h0]; rfl
          clear h0 hp
          go_wp2_with fail
          refine region_quiet (by kernel_rfl) (by kernel_rfl) ?_
          repeat (any_goals (first | go_big_quiet_step ((fail)) | quiet_step ((fail))))
          refine wpQuiet_nil ?_
          intro _ hw'
          obtain ⟨y, hw''⟩ := hw'
          subst hw''
          have E1 := Lib.hid (he.out.lift y)
          clear he f0 hlb
          generalize lift wr y = W1 at *
          clear hq hq2
          have htk : Hid ((o.take j).length = j) := by show _ = _; rw [List.length_take]; omega
          have htd : Hid ((o.drop j).length = k - j) := by show _ = _; rw [List.length_drop]; omega
          have HOw := Lib.hid (l00Own_lst ⟨ob, 0, none⟩ oc (o.take j) W1 ((HO.out.ext E1.out).take j) (by rw [htk.out]; omega))
          rw [htk.out] at HOw
          have HRd := Lib.hid fun (W : World) (he : Ext wo W) => RowsAt.drop (HO.out.ext he) j
          have hd0 : Hid (oc = j → o.drop j = []) := fun h => List.eq_nil_of_length_eq_zero (by rw [htd.out]; omega)
          have hins : Hid (o.take j ++ [(k : Int)] ++ o.drop j = ordD l (k + 1)) := by
            show _ = _
            rw [hsucc.out]
            unfold insD
            rw [hol, hpos.out, List.append_assoc]; rfl
          clear HO hon hpos hsucc
          go_wp2_with fail
          refine HOw.out.mono ?_
          rintro e w9 ⟨v9, rfl, hL9, hE9⟩
          have L9k := Lib.hid ((hL9.low E1.out.size).ext ((Ext.refl w9).alloc (.cells #[.int .i64 (k : Int)] 2)))
          have HRk : Hid (IntAt (w9.alloc (.cells #[.int .i64 (k : Int)] 2)) (some ⟨w9.heap.size, 0, none⟩) [(k : Int)]) := rows_int _ _ rfl
          have E9k := Lib.hid ((E1.out.trans hE9).trans ((Ext.refl w9).alloc (.cells #[.int .i64 (k : Int)] 2)))
          have hzk := E9k.out.size
          clear hL9 hE9 HOw E1
          try dsimp only
          repeat (first | (at_builtin; refine Hid.out ?_) | go_values | go_skip | go_guarded | go_step | go_upon | go_back)
          refine Lib.hid ?_
          refine wpList_pushL elI oneI rfl _ _ rfl wo.heap.size _ (o.take j) (by rfl) L9k.out _ 1 1 [(k : Int)] rfl (by rfl) HRk.out (by rw [htk.out]; omega) (by rw [htk.out]; omega) hzk ?_
          intro v10 w10 HL10 hs10 _
          have L10 := Lib.hid HL10
          have E10 := Lib.hid (hs10 wo E9k.out (Nat.le_refl _))
          have HR10 := Lib.hid (HRd.out w10 E10.out)
          have hz10 := E10.out.size
          have hl10 : Hid ((o.take j ++ [(k : Int)]).length = j + 1) := by show _ = _; rw [List.length_append, htk.out]; rfl
          clear HL10 hs10 L9k HRk hzk E9k HRd
          by_cases hcc : oc = j
          · have hdn := Lib.hid (hd0.out hcc)
            have hjk : j = k := by omega
            clear HR10
            try dsimp only
            repeat (first | (at_builtin; refine Hid.out ?_) | go_values | go_skip | go_guarded | go_step | go_upon | go_back)
            refine Lib.hid ?_
            first
              | refine wpList_pushL elI oneI rfl _ _ rfl wo.heap.size _ (o.take j ++ [(k : Int)]) rfl L10.out _ 0 _ [] rfl rfl RowsAt.nil (by rw [hl10.out]; omega) (by rw [hl10.out]; omega) hz10 ?_
              | refine wpList_pushL elI oneI rfl _ _ rfl wo.heap.size _ (o.take j ++ [(k : Int)]) rfl L10.out _ (k - j) _ [] (by simp; omega) rfl RowsAt.nil (by rw [hl10.out]; omega) (by rw [hl10.out]; omega) hz10 ?_
              | refine wpList_pushL elI oneI rfl _ _ rfl wo.heap.size _ (o.take j ++ [(k : Int)]) rfl L10.out _ (k - k) _ [] (by simp) rfl RowsAt.nil (by rw [hl10.out]; omega) (by rw [hl10.out]; omega) hz10 ?_
              | refine wpList_pushL elI oneI rfl _ _ rfl wo.heap.size _ (o.take j ++ [(k : Int)]) rfl L10.out _ (j - j) _ [] (by simp) rfl RowsAt.nil (by rw [hl10.out]; omega) (by rw [hl10.out]; omega) hz10 ?_
            intro v12 w12 HL12 hs12 _
            have HL12 : Lst 2 1 celI w12 wo.heap.size v12 (o.take j ++ [(k : Int)] ++ o.drop j) := by rw [hdn.out]; exact HL12
            rw [hins.out] at HL12
            obtain ⟨ob2, oc2, rfl, -, -, hR12, hc12, -⟩ := HL12.parts (by rw [ordD_len]; omega)
            rw [ordD_len] at hc12
            have E12 := Lib.hid (hEw.out.trans (hs12 wo E10.out (Nat.le_refl _)))
            have hR12 := Lib.hid hR12
            rw [ordD_len]
            clear HL12 hs12 L10 E10 hins hd0 htd htk hl10
            go_wp2_with fail
            go_roundw
            case rel => exact ⟨k + 1, ob2, oc2, by omega, by go_num, by first | rfl | (rw [Int.natCast_add]; rfl), hc12, hR12.out, E12.out⟩
            case measure => simp [intOf]; omega
          · try dsimp only
            repeat (first | (at_builtin; refine Hid.out ?_) | go_values | go_skip | go_guarded | go_step | go_upon | go_back)
            refine Lib.hid ?_
            refine wpList_pushL elI oneI rfl _ _ rfl wo.heap.size _ (o.take j ++ [(k : Int)]) rfl L10.out _ (k - j) _ (o.drop j) htd.out rfl (by have := HR10.out; first | exact this | (rw [Nat.zero_add, Nat.mul_one] at this; exact this)) (by rw [hl10.out]; omega) (by rw [hl10.out]; omega) hz10 ?_
            intro v12 w12 HL12 hs12 _
            rw [hins.out] at HL12
            obtain ⟨ob2, oc2, rfl, -, -, hR12, hc12, -⟩ := HL12.parts (by rw [ordD_len]; omega)
            rw [ordD_len] at hc12
            have E12 := Lib.hid (hEw.out.trans (hs12 wo E10.out (Nat.le_refl _)))
            have hR12 := Lib.hid hR12
            rw [ordD_len]
            clear HL12 hs12 L10 E10 hins hd0 htd htk hl10
            go_wp2_with fail
            go_roundw
            case rel => exact ⟨k + 1, ob2, oc2, by omega, by go_num, by first | rfl | (rw [Int.natCast_add]; rfl), hc12, hR12.out, E12.out⟩
            case measure => simp [intOf]; omega
        · have hq : decide ((0 : Int) < (j : Int)) = true := decide_eq_true (by omega)
          obtain ⟨hb1, c0⟩ := IntAt.at (HO.out.ext he.out) (j - 1) (by omega)
          rw [Nat.zero_add] at c0
          have hyr := hon.out (j - 1) (by omega)
          obtain ⟨i, hi⟩ := Int.eq_ofNat_of_zero_le hyr.1
          rw [hi] at c0
          have hil : i < l.length := by omega
          obtain ⟨-, -, -, -, f1, -⟩ := Test.at (HA.out.ext (hEw.out.trans he.out)) i hil
          have hdi := hdp.out i hil
          by_cases hc : dep l (k : Int) < dep l (nth o (j - 1))
          · have hpos : Hid (posD (dep l) o (k : Int) k = posD (dep l) o (k : Int) (j - 1)) := by show _ = _; rw [hp.out, posD_down h0 hc]
            have hdd : decide ((nth l k).depth < (nth l i).depth) = true := decide_eq_true (by rw [hi] at hc; exact hc)
            clear hp hc hi hyr
            go_wp2_with fail
            refine region_quiet (by kernel_rfl) (by kernel_rfl) ?_
            repeat (any_goals (first | go_big_quiet_step ((fail)) | quiet_step ((fail))))
            refine wpQuiet_nil ?_
            intro _ hw'
            obtain ⟨y, hw''⟩ := hw'
            subst hw''
            go_wp2_with fail
            go_roundw
            case rel => exact ⟨j - 1, by omega, by go_num, hpos.out, he.out.lift y⟩
            case measure => simp [intOf]; omega
          · have hpos : Hid (posD (dep l) o (k : Int) k = j) := by show _ = _; rw [hp.out, posD_stop h0 hc]
            have hdd : decide ((nth l k).depth < (nth l i).depth) = false := decide_eq_false (by rw [hi] at hc; exact hc)
            clear hp hc hi hyr
            go_wp2_with fail
            refine region_quiet (by kernel_rfl) (by kernel_rfl) ?_
            repeat (any_goals (first | go_big_quiet_step ((fail)) | quiet_step ((fail))))
            refine wpQuiet_nil ?_
            intro _ hw'
            obtain ⟨y, hw''⟩ := hw'
            subst hw''
            have E1 := Lib.hid (he.out.lift y)
            clear he f0 f1 c0 hdd hb1 hlb
            generalize lift wr y = W1 at *
            clear hq
            have htk : Hid ((o.take j).length = j) := by show _ = _; rw [List.length_take]; omega
            have htd : Hid ((o.drop j).length = k - j) := by show _ = _; rw [List.length_drop]; omega
            have HOw := Lib.hid (l00Own_lst ⟨ob, 0, none⟩ oc (o.take j) W1 ((HO.out.ext E1.out).take j) (by rw [htk.out]; omega))
            rw [htk.out] at HOw
            have HRd := Lib.hid fun (W : World) (he : Ext wo W) => RowsAt.drop (HO.out.ext he) j
            have hd0 : Hid (oc = j → o.drop j = []) := fun h => List.eq_nil_of_length_eq_zero (by rw [htd.out]; omega)
            have hins : Hid (o.take j ++ [(k : Int)] ++ o.drop j = ordD l (k + 1)) := by
              show _ = _
              rw [hsucc.out]
              unfold insD
              rw [hol, hpos.out, List.append_assoc]; rfl
            clear HO hon hpos hsucc
            go_wp2_with fail
            refine HOw.out.mono ?_
            rintro e w9 ⟨v9, rfl, hL9, hE9⟩
            have L9k := Lib.hid ((hL9.low E1.out.size).ext ((Ext.refl w9).alloc (.cells #[.int .i64 (k : Int)] 2)))
            have HRk : Hid (IntAt (w9.alloc (.cells #[.int .i64 (k : Int)] 2)) (some ⟨w9.heap.size, 0, none⟩) [(k : Int)]) := rows_int _ _ rfl
            have E9k := Lib.hid ((E1.out.trans hE9).trans ((Ext.refl w9).alloc (.cells #[.int .i64 (k : Int)] 2)))
            have hzk := E9k.out.size
            clear hL9 hE9 HOw E1
            try dsimp only
            repeat (first | (at_builtin; refine Hid.out ?_) | go_values | go_skip | go_guarded | go_step | go_upon | go_back)
            refine Lib.hid ?_
            refine wpList_pushL elI oneI rfl _ _ rfl wo.heap.size _ (o.take j) (by rfl) L9k.out _ 1 1 [(k : Int)] rfl (by rfl) HRk.out (by rw [htk.out]; omega) (by rw [htk.out]; omega) hzk ?_
            intro v10 w10 HL10 hs10 _
            have L10 := Lib.hid HL10
            have E10 := Lib.hid (hs10 wo E9k.out (Nat.le_refl _))
            have HR10 := Lib.hid (HRd.out w10 E10.out)
            have hz10 := E10.out.size
            have hl10 : Hid ((o.take j ++ [(k : Int)]).length = j + 1) := by show _ = _; rw [List.length_append, htk.out]; rfl
            clear HL10 hs10 L9k HRk hzk E9k HRd
            by_cases hcc : oc = j
            · have hdn := Lib.hid (hd0.out hcc)
              have hjk : j = k := by omega
              clear HR10
              try dsimp only
              repeat (first | (at_builtin; refine Hid.out ?_) | go_values | go_skip | go_guarded | go_step | go_upon | go_back)
              refine Lib.hid ?_
              first
                | refine wpList_pushL elI oneI rfl _ _ rfl wo.heap.size _ (o.take j ++ [(k : Int)]) rfl L10.out _ 0 _ [] rfl rfl RowsAt.nil (by rw [hl10.out]; omega) (by rw [hl10.out]; omega) hz10 ?_
                | refine wpList_pushL elI oneI rfl _ _ rfl wo.heap.size _ (o.take j ++ [(k : Int)]) rfl L10.out _ (k - j) _ [] (by simp; omega) rfl RowsAt.nil (by rw [hl10.out]; omega) (by rw [hl10.out]; omega) hz10 ?_
                | refine wpList_pushL elI oneI rfl _ _ rfl wo.heap.size _ (o.take j ++ [(k : Int)]) rfl L10.out _ (k - k) _ [] (by simp) rfl RowsAt.nil (by rw [hl10.out]; omega) (by rw [hl10.out]; omega) hz10 ?_
                | refine wpList_pushL elI oneI rfl _ _ rfl wo.heap.size _ (o.take j ++ [(k : Int)]) rfl L10.out _ (j - j) _ [] (by simp) rfl RowsAt.nil (by rw [hl10.out]; omega) (by rw [hl10.out]; omega) hz10 ?_
              intro v12 w12 HL12 hs12 _
              have HL12 : Lst 2 1 celI w12 wo.heap.size v12 (o.take j ++ [(k : Int)] ++ o.drop j) := by rw [hdn.out]; exact HL12
              rw [hins.out] at HL12
              obtain ⟨ob2, oc2, rfl, -, -, hR12, hc12, -⟩ := HL12.parts (by rw [ordD_len]; omega)
              rw [ordD_len] at hc12
              have E12 := Lib.hid (hEw.out.trans (hs12 wo E10.out (Nat.le_refl _)))
              have hR12 := Lib.hid hR12
              rw [ordD_len]
              clear HL12 hs12 L10 E10 hins hd0 htd htk hl10
              go_wp2_with fail
              go_roundw
              case rel => exact ⟨k + 1, ob2, oc2, by omega, by go_num, by first | rfl | (rw [Int.natCast_add]; rfl), hc12, hR12.out, E12.out⟩
              case measure => simp [intOf]; omega
            · try dsimp only
              repeat (first | (at_builtin; refine Hid.out ?_) | go_values | go_skip | go_guarded | go_step | go_upon | go_back)
              refine Lib.hid ?_
              refine wpList_pushL elI oneI rfl _ _ rfl wo.heap.size _ (o.take j ++ [(k : Int)]) rfl L10.out _ (k - j) _ (o.drop j) htd.out rfl (by have := HR10.out; first | exact this | (rw [Nat.zero_add, Nat.mul_one] at this; exact this)) (by rw [hl10.out]; omega) (by rw [hl10.out]; omega) hz10 ?_
              intro v12 w12 HL12 hs12 _
              rw [hins.out] at HL12
              obtain ⟨ob2, oc2, rfl, -, -, hR12, hc12, -⟩ := HL12.parts (by rw [ordD_len]; omega)
              rw [ordD_len] at hc12
              have E12 := Lib.hid (hEw.out.trans (hs12 wo E10.out (Nat.le_refl _)))
              have hR12 := Lib.hid hR12
              rw [ordD_len]
              clear HL12 hs12 L10 E10 hins hd0 htd htk hl10
              go_wp2_with fail
              go_roundw
              case rel => exact ⟨k + 1, ob2, oc2, by omega, by go_num, by first | rfl | (rw [Int.natCast_add]; rfl), hc12, hR12.out, E12.out⟩
              case measure => simp [intOf]; omega
    · obtain rfl : k = l.length := by omega
      have hOn := Lib.hid fun k (hk : k < l.length) => ordD_nth (l := l) hk
      have hOl := Lib.hid (ordD_len l l.length)
      have hnd0 := Lib.hid fun (x : List Int) (hx : x ∈ segs l near (ordD l l.length) l.length) => segs_nodup l near l.length x hx
      have ordN := Lib.hid (ordD_nodup l l.length)
      generalize hOe : ordD l l.length = O at *
      have hsl := Lib.hid fun k => segs_len l near O k
      have hzw := hEw.out.size
      have hX1 := Lib.hid ((Ext.refl wr).alloc (.cells #[] 38))
      have hG1 := Lib.hid (GII.none0 (Lst.new (T := 38) (n := 1) (cell := cellV) (α := Sl) wr wr.heap.size (Nat.le_refl _)))
      have hOm : O.length = l.length := hOl.out
      clear hlt hOe
      go_wp2_with fail
      obtain ⟨wo, hwo⟩ : ∃ wo, wo = wr := ⟨_, rfl⟩
      subst hwo
      go_loopw [10, 11] (fun v i wr => ∃ (k : Nat) (vs : List Sl), k ≤ l.length ∧ i = .int .i64 k ∧ Hid (GII wr wo.heap.size v ((segs l near O k).map upG) vs) ∧ Hid (Ext wo wr)) (fun _ i _ => l.length - (intOf i).toNat)
      case atStart => exact ⟨0, [], Nat.zero_le _, rfl, hG1.out, hX1.out⟩
      case round =>
        clear hG1 hX1
        obtain ⟨k, vs, hk, rfl, HG, HE⟩ := hrel
        obtain ⟨va, vc, rfl, hvc, hvm, -, -⟩ := HG.out.lst.shape
        have hvl2 : vs.length = (segs l near O k).length := by rw [HG.out.len, List.length_map]
        rw [hvl2] at HG hvc ⊢
        have hslk := hsl.out k
        have hsg : Hid (∀ m, m < (segs l near O k).length → (nth (segs l near O k) m).length ≤ 16 ∧ (nth (segs l near O k) m).Nodup) := fun m hm => by
          have hx := nth_mem hm
          have h1 := (List.sublist_flatten_of_mem hx).length_le
          have hf := segs_flat l near O k (by rw [hOm]; exact hk)
          rw [hf, List.length_take] at h1
          refine ⟨by omega, ?_⟩
          refine nodup_mem_flatten (L := segs l near O k) ?_ hx
          rw [hf]
          exact (ordN.out).sublist (List.take_sublist _ _)
        by_cases hlt : k < l.length
        · obtain ⟨hb1, c0⟩ := IntAt.at (HO.out.ext HE.out) k (by rw [hOm]; exact hlt)
          rw [Nat.zero_add] at c0
          have hxr := hOn.out k hlt
          obtain ⟨i, hi⟩ := Int.eq_ofNat_of_zero_le hxr.1
          rw [hi] at c0
          have hil : i < l.length := by omega
          obtain ⟨lb, lo, rfl⟩ := HA.out.base hil
          obtain ⟨hlb, -, -, -, f0, -⟩ := Test.at (HA.out.ext (hEw.out.trans HE.out)) i hil
          have hdi := hdp.out i hil
          by_cases hnew : k = 0 ∨ near < dep l (nth O k) - dep l (nth O (k - 1))
          · have hnext : Hid ((segs l near O (k + 1)).map upG = (segs l near O k).map upG ++ [[(i : Int)]]) := by
              show _ = _
              rw [segs_new hnew, List.map_append, hi]; rfl
            rcases Nat.eq_zero_or_pos k with hk0 | hk0
            · have hq : decide ((0 : Int) < (k : Int)) = false := decide_eq_false (by omega)
              have hq2 : decide (0 < k) = false := decide_eq_false (by omega)
              clear hnew hk0
              go_wp2_with fail
              refine region_quiet (by kernel_rfl) (by kernel_rfl) ?_
              repeat (any_goals (first | go_big_quiet_step ((fail)) | quiet_step ((fail))))
              refine wpQuiet_nil ?_
              intro _ hw'
              obtain ⟨y, hw''⟩ := hw'
              subst hw''
              clear hq hq2
              have G1 := Lib.hid (HG.out.ext ((Ext.refl _).lift y))
              have E1 := Lib.hid (HE.out.lift y)
              have c0 := ((Ext.refl wr).lift y).cell c0
              have hb1 := block_lt c0
              clear HG HE hlb f0
              generalize lift wr y = W1 at *
              have hxA := Lib.hid ((Ext.refl W1).alloc (.cells #[.int .i64 (i : Int)] 2))
              have hxB := Lib.hid (hxA.out.alloc (.cells #[.slice (some ⟨W1.heap.size, 0, none⟩) 1 1] 38))
              have hin : Hid (Lst 2 1 celI ((W1.alloc (.cells #[.int .i64 (i : Int)] 2)).alloc (.cells #[.slice (some ⟨W1.heap.size, 0, none⟩) 1 1] 38)) wo.heap.size (Sl.val ⟨some ⟨W1.heap.size, 0, none⟩, 1, 1⟩) [(i : Int)]) :=
                (Lst.of_rows (T := 2) (n := 1) (cap := 1) (cell := celI) (l := [(i : Int)]) (Blk.new W1 #[.int .i64 (i : Int)] 2) E1.out.size (rows_int _ _ rfl) (Nat.le_refl _) (by unfold maxLen; omega)).ext ((Ext.refl _).alloc _)
              have hsz : (W1.alloc (.cells #[.int .i64 (i : Int)] 2)).heap.size = W1.heap.size + 1 := size_new _ _
              have HRn : Hid (RowsAt 1 cellV ((W1.alloc (.cells #[.int .i64 (i : Int)] 2)).alloc (.cells #[.slice (some ⟨W1.heap.size, 0, none⟩) 1 1] 38)) (some ⟨W1.heap.size + 1, 0, none⟩) [⟨some ⟨W1.heap.size, 0, none⟩, 1, 1⟩]) := by
                have h9 := rows_new (n := 1) (cell := cellV) (T := 38) (W1.alloc (.cells #[.int .i64 (i : Int)] 2)) #[.slice (some ⟨W1.heap.size, 0, none⟩) 1 1] ⟨some ⟨W1.heap.size, 0, none⟩, 1, 1⟩ (fun q hq => by
                  have h8 : q < 1 := hq
                  have h9 : q = 0 := by omega
                  subst h9; rfl)
                rw [hsz] at h9
                exact h9
              have L3 := Lib.hid (G1.out.lst.ext hxB.out)
              have hzn : wo.heap.size ≤ ((W1.alloc (.cells #[.int .i64 (i : Int)] 2)).alloc (.cells #[.slice (some ⟨W1.heap.size, 0, none⟩) 1 1] 38)).heap.size := by rw [size_new, hsz]; have := E1.out.size; omega
              have hvs := Lib.hid hvl2
              clear hsz hvl2
              try dsimp only
              repeat (first | (at_builtin; refine Hid.out ?_) | go_values | go_skip | go_guarded | go_step | go_upon | go_back)
              refine Lib.hid ?_
              refine wpList_pushAt elII oneSl rfl _ _ rfl wo.heap.size _ vs (by rw [← hvs.out]; rfl) L3.out _ 1 1 [⟨some ⟨W1.heap.size, 0, none⟩, 1, 1⟩] rfl (by rfl) HRn.out (by rw [hvs.out]; omega) (by rw [hvs.out]; omega) hzn ?_
              intro v5 w5 HL5 hg5 hat5
              have G5 := Lib.hid (GII.push (s := ⟨some ⟨W1.heap.size, 0, none⟩, 1, 1⟩) (x := [(i : Int)]) G1.out hxB.out hin.out (fun g e => by
                have e2 : some W1.heap.size = some g := e
                simp only [Option.some.injEq] at e2
                omega) HL5 hg5 hat5)
              have E5 := Lib.hid ((E1.out.trans hxB.out).grown hg5 (fun q e => L3.out.ge q e))
              clear HL5 hg5 hat5 L3 HRn hzn hxA hxB hin G1 E1 c0
              go_wp2_with fail
              go_roundw
              case rel => exact ⟨k + 1, _, by omega, by go_num, by rw [hnext.out]; exact G5.out, E5.out⟩
              case measure => simp [intOf]; omega
            · have hq : decide ((0 : Int) < (k : Int)) = true := decide_eq_true (by omega)
              have hgap := hnew.resolve_left (by omega)
              obtain ⟨hb2, c1⟩ := IntAt.at (HO.out.ext HE.out) (k - 1) (by rw [hOm]; omega)
              rw [Nat.zero_add] at c1
              have hyr := hOn.out (k - 1) (by omega)
              obtain ⟨j, hj⟩ := Int.eq_ofNat_of_zero_le hyr.1
              rw [hj] at c1
              have hjl : j < l.length := by omega
              obtain ⟨-, -, -, -, f1, -⟩ := Test.at (HA.out.ext (hEw.out.trans HE.out)) j hjl
              have hdj := hdp.out j hjl
              have hgap2 : near < (nth l i).depth - (nth l j).depth := by rw [hi, hj] at hgap; exact hgap
              have hdd : decide ((nth l i).depth - (nth l j).depth ≤ near) = false := decide_eq_false (by omega)
              clear hnew hgap hj hyr hgap2
              go_wp2_with fail
              refine region_quiet (by kernel_rfl) (by kernel_rfl) ?_
              repeat (any_goals (first | go_big_quiet_step ((fail)) | quiet_step ((fail))))
              refine wpQuiet_nil ?_
              intro _ hw'
              obtain ⟨y, hw''⟩ := hw'
              subst hw''
              clear c1 f1 hdd hb2 hq
              have G1 := Lib.hid (HG.out.ext ((Ext.refl _).lift y))
              have E1 := Lib.hid (HE.out.lift y)
              have c0 := ((Ext.refl wr).lift y).cell c0
              have hb1 := block_lt c0
              clear HG HE hlb f0
              generalize lift wr y = W1 at *
              have hxA := Lib.hid ((Ext.refl W1).alloc (.cells #[.int .i64 (i : Int)] 2))
              have hxB := Lib.hid (hxA.out.alloc (.cells #[.slice (some ⟨W1.heap.size, 0, none⟩) 1 1] 38))
              have hin : Hid (Lst 2 1 celI ((W1.alloc (.cells #[.int .i64 (i : Int)] 2)).alloc (.cells #[.slice (some ⟨W1.heap.size, 0, none⟩) 1 1] 38)) wo.heap.size (Sl.val ⟨some ⟨W1.heap.size, 0, none⟩, 1, 1⟩) [(i : Int)]) :=
                (Lst.of_rows (T := 2) (n := 1) (cap := 1) (cell := celI) (l := [(i : Int)]) (Blk.new W1 #[.int .i64 (i : Int)] 2) E1.out.size (rows_int _ _ rfl) (Nat.le_refl _) (by unfold maxLen; omega)).ext ((Ext.refl _).alloc _)
              have hsz : (W1.alloc (.cells #[.int .i64 (i : Int)] 2)).heap.size = W1.heap.size + 1 := size_new _ _
              have HRn : Hid (RowsAt 1 cellV ((W1.alloc (.cells #[.int .i64 (i : Int)] 2)).alloc (.cells #[.slice (some ⟨W1.heap.size, 0, none⟩) 1 1] 38)) (some ⟨W1.heap.size + 1, 0, none⟩) [⟨some ⟨W1.heap.size, 0, none⟩, 1, 1⟩]) := by
                have h9 := rows_new (n := 1) (cell := cellV) (T := 38) (W1.alloc (.cells #[.int .i64 (i : Int)] 2)) #[.slice (some ⟨W1.heap.size, 0, none⟩) 1 1] ⟨some ⟨W1.heap.size, 0, none⟩, 1, 1⟩ (fun q hq => by
                  have h8 : q < 1 := hq
                  have h9 : q = 0 := by omega
                  subst h9; rfl)
                rw [hsz] at h9
                exact h9
              have L3 := Lib.hid (G1.out.lst.ext hxB.out)
              have hzn : wo.heap.size ≤ ((W1.alloc (.cells #[.int .i64 (i : Int)] 2)).alloc (.cells #[.slice (some ⟨W1.heap.size, 0, none⟩) 1 1] 38)).heap.size := by rw [size_new, hsz]; have := E1.out.size; omega
              have hvs := Lib.hid hvl2
              clear hsz hvl2
              try dsimp only
              repeat (first | (at_builtin; refine Hid.out ?_) | go_values | go_skip | go_guarded | go_step | go_upon | go_back)
              refine Lib.hid ?_
              refine wpList_pushAt elII oneSl rfl _ _ rfl wo.heap.size _ vs (by rw [← hvs.out]; rfl) L3.out _ 1 1 [⟨some ⟨W1.heap.size, 0, none⟩, 1, 1⟩] rfl (by rfl) HRn.out (by rw [hvs.out]; omega) (by rw [hvs.out]; omega) hzn ?_
              intro v5 w5 HL5 hg5 hat5
              have G5 := Lib.hid (GII.push (s := ⟨some ⟨W1.heap.size, 0, none⟩, 1, 1⟩) (x := [(i : Int)]) G1.out hxB.out hin.out (fun g e => by
                have e2 : some W1.heap.size = some g := e
                simp only [Option.some.injEq] at e2
                omega) HL5 hg5 hat5)
              have E5 := Lib.hid ((E1.out.trans hxB.out).grown hg5 (fun q e => L3.out.ge q e))
              clear HL5 hg5 hat5 L3 HRn hzn hxA hxB hin G1 E1 c0
              go_wp2_with fail
              go_roundw
              case rel => exact ⟨k + 1, _, by omega, by go_num, by rw [hnext.out]; exact G5.out, E5.out⟩
              case measure => simp [intOf]; omega
          · have hk0 : 0 < k := by
              rcases Nat.eq_zero_or_pos k with h0 | h0
              · exact absurd (.inl h0) hnew
              · exact h0
            obtain ⟨m, hm⟩ : ∃ m, (segs l near O k).length = m + 1 := ⟨(segs l near O k).length - 1, by have := hslk.2 hk0; omega⟩
            have hmS : m < (segs l near O k).length := by omega
            have hmL : m < ((segs l near O k).map upG).length := by rw [List.length_map]; omega
            obtain ⟨X, hX⟩ : ∃ X, X = nth ((segs l near O k).map upG) m := ⟨_, rfl⟩
            have hXl : X.length ≤ 16 := by rw [hX, nth_map upG hmS, upG_len (hsg.out m hmS).2]; exact (hsg.out m hmS).1
            have hnext : Hid (((segs l near O k).map upG).set m (putL ltI (i : Int) X) = (segs l near O (k + 1)).map upG) := by
              show _ = _
              rw [segs_old hnew, hi, hX, nth_map upG hmS, ← upG_snoc]
              unfold addLast
              rw [hm, Nat.add_sub_cancel, List.map_set]
            have hq : decide ((0 : Int) < (k : Int)) = true := decide_eq_true (by omega)
            obtain ⟨hb2, c1⟩ := IntAt.at (HO.out.ext HE.out) (k - 1) (by rw [hOm]; omega)
            rw [Nat.zero_add] at c1
            have hyr := hOn.out (k - 1) (by omega)
            obtain ⟨j, hj⟩ := Int.eq_ofNat_of_zero_le hyr.1
            rw [hj] at c1
            have hjl : j < l.length := by omega
            obtain ⟨-, -, -, -, f1, -⟩ := Test.at (HA.out.ext (hEw.out.trans HE.out)) j hjl
            have hdj := hdp.out j hjl
            have hgap2 : ¬ near < (nth l i).depth - (nth l j).depth := fun h => hnew (.inr (by rw [hi, hj]; exact h))
            have hdd : decide ((nth l i).depth - (nth l j).depth ≤ near) = true := decide_eq_true (by omega)
            clear hnew hj hyr hgap2
            go_wp2_with fail
            refine region_quiet (by kernel_rfl) (by kernel_rfl) ?_
            repeat (any_goals (first | go_big_quiet_step ((fail)) | quiet_step ((fail))))
            refine wpQuiet_nil ?_
            intro _ hw'
            obtain ⟨y, hw''⟩ := hw'
            subst hw''
            have G1 := Lib.hid (HG.out.ext ((Ext.refl _).lift y))
            have E1 := Lib.hid (HE.out.lift y)
            have c0 := ((Ext.refl wr).lift y).cell c0
            have hb1 := block_lt c0
            clear HG HE hlb f0 f1 c1 hb2 hdd hq
            generalize lift wr y = W1 at *
            have G1' := G1
            rw [hm] at G1' ⊢
            obtain ⟨gb, gcap, e, hgb, hBg, -, hRg⟩ := G1.out.block hmL
            simp only [Value.slice.injEq] at e
            obtain ⟨rfl, -, rfl⟩ := e
            obtain ⟨hgl, cg⟩ := RowsAt.at hRg m (by rw [G1.out.len]; exact hmL)
            have cg := cg 0 (by decide)
            rw [Nat.mul_one, Nat.add_zero, Nat.zero_add] at cg
            obtain ⟨sA, sC, eS, -, -, hRs, -⟩ := (G1.out.inn m hmL).shape
            rw [← hX] at eS hRs
            have cg2 : W1.cell? ⟨gb, m, none⟩ = some (.slice sA X.length sC) := by rw [cg]; exact congrArg some eS
            have HP := Lib.hid fun (W : World) (he : Ext W1 W) => l00Put_lst W sA sC X (i : Int) (RowsAt.ext hRs he) (by omega)
            have hBgh := Lib.hid hBg
            have hpl := length_putL (lt := ltI) (i : Int) X
            clear hRg cg eS hRs hBg hX
            go_wp2_with fail
            refine Grow.region_tail 13 [0, 1, 2, 3, 4, 5, 6, 7, 8, 9, 10, 11] [(false, 12)] (by kernel_rfl) (by kernel_rfl) ?_
            simp only [Grow.pick, Grow.pickB, List.getElem?_cons_succ, List.getElem?_cons_zero, List.drop_succ_cons, List.drop_zero]
            have hwm : IntKind.i64.wrap (m : Int) = m := by rw [IntKind.wrap_i64]; omega
            repeat
              refine Grow.heads_step (fun K' hK => ⟨rfl, ?_⟩)
              apply Exists.intro
              apply And.intro
              · intro w' hw'
                obtain ⟨x', rfl⟩ := hw'
                go_simp
                first | done | rfl | (rw [if_neg (by omega)]; done) | (rw [if_neg (by omega)]; rfl) | (rw [if_pos (by omega)]; done) | (rw [if_pos (by omega)]; rfl)
              go_simp
              refine hK _ ?_
              clear hK K'
            try rw [hwm]
            repeat
              refine Grow.heads_step (fun K' hK => ⟨rfl, ?_⟩)
              apply Exists.intro
              apply And.intro
              · intro w' hw'
                obtain ⟨x', rfl⟩ := hw'
                go_simp
                first | done | rfl | (rw [if_neg (by omega)]; done) | (rw [if_neg (by omega)]; rfl) | (rw [if_pos (by omega)]; done) | (rw [if_pos (by omega)]; rfl)
              go_simp
              refine hK _ ?_
              clear hK K'
            refine Grow.heads_nil ?_
            intro w5 e5
            refine Grow.seq_step (fun K' hK => ⟨rfl, ?_⟩)
            go_simp
            simp only [Grow.upon]
            refine (HP.out w5 e5).mono ?_
            rintro e w6 ⟨v6, rfl, hL6, E6⟩
            obtain ⟨tA, tC, rfl, -, -, -, -⟩ := hL6.shape
            refine ⟨_, rfl, E6, fun w7 e7 => hK _ _ ?_⟩
            clear hK K'
            refine Grow.seq_nil ?_
            have E7 := Lib.hid ((e5.trans E6).trans e7)
            have L7 := Lib.hid ((hL6.low (Nat.le_trans E1.out.size e5.size)).ext e7)
            have hlow : ∀ b, (Value.slice tA (putL ltI (i : Int) X).length tC).ownBlock = some b → w5.heap.size ≤ b := fun b e => hL6.ge b e
            have G7 := GII.grow (s := ⟨tA, (putL ltI (i : Int) X).length, tC⟩) (w3 := w7) (x := putL ltI (i : Int) X) (cap := vc) (g := gb) (by rw [List.length_map]; exact G1.out) hmL E7.out ⟨rfl, rfl, rfl, Nat.le_refl _, fun _ _ _ => rfl⟩ L7.out (fun b e => .inr (Nat.le_trans e5.size (hlow b e)))
            rw [List.length_set, List.length_map, hm, hnext.out] at G7
            have G7 := Lib.hid G7
            have hB7 := hBgh.out.ext E7.out
            have fz7 := hB7.frozen m
            obtain ⟨u7, d7⟩ := hB7.cell (o := m) (by omega)
            have hl7 := hB7.lt
            have E9 := Lib.hid ((E1.out.trans E7.out).setCell (p := ⟨gb, m, none⟩) hgb (.slice tA (putL ltI (i : Int) X).length tC))
            clear hL6 E6 e5 e7 hlow hB7 E7 L7 hBgh HP cg2 G1 G1' E1 c0 hb1 hpl
            go_wp2_with fail
            go_roundw
            case rel => exact ⟨k + 1, _, by omega, by go_num, G7.out, E9.out⟩
            case measure => simp [intOf]; omega
        · obtain rfl : k = l.length := by omega
          have hpos : ∀ k, k < ((segs l near O l.length).map upG).length → 0 < (nth ((segs l near O l.length).map upG) k).length := fun k hk => by
            rw [List.length_map] at hk
            rw [nth_map upG hk, upG_len (hsg.out k hk).2]
            exact segs_pos l near O l.length _ (nth_mem hk)
          obtain ⟨gs, hB⟩ := HG.out.bii hpos
          have hB := Lib.hid (hB.low' hzw)
          have hE9 := Lib.hid (hEw.out.trans HE.out)
          clear hpos HG HE
          go_wp2_with fail
          go_ret2
          rw [hv.out.1, hv.out.2]
          exact ⟨_, vs, gs, rfl, hB.out, hE9.out⟩
end Go.Proofs.Ytdopffhekinbnaa
