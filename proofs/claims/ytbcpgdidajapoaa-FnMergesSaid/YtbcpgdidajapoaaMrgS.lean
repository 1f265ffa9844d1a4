/- The reference's names of three states, what it finds at a name, and its conflicts. -/
import Derived.Test.YtbcpgdidajapoaaMrgP
import Derived.Test.YtbcpgdidajapoaaStrs
import Derived.Test.YtbcpgdidajapoaaSet
namespace Go.Proofs.Ytbcpgdidajapoaa
open Go.RowKit
theorem sets_next {l : List Setting} {o : List Setting} {k : Nat} (h : k < l.length) : setsS o (l.take (k + 1)) = setS (nth l k) (setsS o (l.take k)) := by
  rw [take_snoc' h, setsS_snoc]
theorem names_next (l : List Setting) (k : Nat) (h : k < l.length) : (l.take k).map Setting.name ++ [(nth l k).name] = (l.take (k + 1)).map Setting.name := by
  rw [take_snoc' h, List.map_append]; rfl
set_option maxRecDepth 100000 in
set_option maxHeartbeats 8000000 in
theorem l27Names_any (a1 a2 a3 : Option Addr) (p1 p2 p3 : Nat) (x y z : List Setting) (w : World) (H1 : SettingAt w a1 x) (H2 : SettingAt w a2 y) (H3 : SettingAt w a3 z) (l1 : x.length ≤ 24) (l2 : y.length ≤ 24) (l3 : z.length ≤ 24) :
    Calls Try.prog 54 #[.slice a1 x.length p1, .slice a2 y.length p2, .slice a3 z.length p3] w (OutL 9 1 cellS w (names3 x y z)) := by
  have h1 := Lib.hid H1
  have h2 := Lib.hid H2
  have h3 := Lib.hid H3
  have i0 : Hid (IncK Setting.name sLt ([] : List Setting)) := List.Pairwise.nil
  have i1 := Lib.hid (setsS_names x [] i0.out).2
  have i2 := Lib.hid (setsS_names y (setsS [] x) i1.out).2
  have n1 := setsS_len x [] i0.out
  have n2 := setsS_len y (setsS [] x) i1.out
  have n3 := setsS_len z (setsS (setsS [] x) y) i2.out
  have hfin := Lib.hid (setsS_three x y z)
  rw [List.length_nil] at n1
  clear H1 H2 H3
  have HR0 : Hid (SettingAt (w.alloc (.cells #[] 74)) (some ⟨w.heap.size, 0, none⟩) (setsS [] (x.take 0))) := by show RowsAt _ _ _ _ _; exact RowsAt.nil
  have HE0 : Hid (Ext w (w.alloc (.cells #[] 74))) := (Ext.refl w).alloc _
  go_enter Try.func54, Try.ntmps54
  go_wp2_with fail
  go_loopw [7, 8] (fun v i wr => ∃ (k : Nat) (ad : Option Addr) (cp : Nat), k ≤ x.length ∧ i = .int .i64 k ∧ v = .slice ad (setsS ([] : List Setting) (x.take k)).length cp ∧ Hid (SettingAt wr ad (setsS ([] : List Setting) (x.take k))) ∧ Hid (Ext w wr)) (fun _ i _ => x.length - (intOf i).toNat)
  case atStart => exact ⟨0, (some ⟨w.heap.size, 0, none⟩), 0, Nat.zero_le _, rfl, rfl, HR0.out, HE0.out⟩
  case round =>
    clear HR0 HE0
    obtain ⟨k, ad, cp, hk, rfl, rfl, hR, hE⟩ := hrel
    have hln := setsS_len (x.take k) ([] : List Setting) i0.out
    rw [List.length_take] at hln
    have hoo : (([] : List Setting)).length ≤ 48 := Nat.zero_le _
    by_cases hlt : k < x.length
    · have hnx := Lib.hid (sets_next (o := ([] : List Setting)) hlt)
      obtain ⟨b, off, rfl⟩ := h1.out.base hlt
      obtain ⟨hb, c0, c1⟩ := Setting.at (h1.out.ext hE.out) k hlt
      have HS := Lib.hid (l27Set_any wr ad cp (setsS ([] : List Setting) (x.take k)) (nth x k) hR.out (by omega))
      obtain ⟨cur, hcur⟩ : ∃ cur, cur = setsS ([] : List Setting) (x.take k) := ⟨_, rfl⟩
      rw [← hcur] at HS hnx hln ⊢
      clear hcur hR
      go_wp2_with fail
      refine HS.out.mono ?_
      rintro e w2 ⟨a2, c2, rfl, -, -, hR2, E2⟩
      have hR2 := Lib.hid hR2
      have hE2 := Lib.hid (hE.out.trans E2)
      clear HS E2 hE
      go_wp2_with fail
      go_roundw
      case rel => exact ⟨k + 1, a2, c2, by omega, by go_num, by rw [hnx.out], by rw [hnx.out]; exact hR2.out, hE2.out⟩
      case measure => simp [intOf]; omega
    · obtain rfl : k = x.length := by omega
      rw [List.take_length] at hR hln ⊢
      obtain ⟨O1, hO1⟩ : ∃ O1, O1 = setsS [] x := ⟨_, rfl⟩
      rw [← hO1] at i1 i2 n1 n2 n3 hfin hR hln ⊢
      have HR1 : Hid (SettingAt wr ad (setsS O1 (y.take 0))) := hR.out
      clear hO1 hR
      have HE1 := hE
      clear hE
      go_wp2_with fail
      go_loopw [7, 9] (fun v i wr => ∃ (k : Nat) (ad : Option Addr) (cp : Nat), k ≤ y.length ∧ i = .int .i64 k ∧ v = .slice ad (setsS O1 (y.take k)).length cp ∧ Hid (SettingAt wr ad (setsS O1 (y.take k))) ∧ Hid (Ext w wr)) (fun _ i _ => y.length - (intOf i).toNat)
      case atStart => exact ⟨0, ad, cp, Nat.zero_le _, rfl, rfl, HR1.out, HE1.out⟩
      case round =>
        clear HR1 HE1
        obtain ⟨k, ad, cp, hk, rfl, rfl, hR, hE⟩ := hrel
        have hln := setsS_len (y.take k) O1 i1.out
        rw [List.length_take] at hln
        have hoo : (O1).length ≤ 48 := (by omega)
        by_cases hlt : k < y.length
        · have hnx := Lib.hid (sets_next (o := O1) hlt)
          obtain ⟨b, off, rfl⟩ := h2.out.base hlt
          obtain ⟨hb, c0, c1⟩ := Setting.at (h2.out.ext hE.out) k hlt
          have HS := Lib.hid (l27Set_any wr ad cp (setsS O1 (y.take k)) (nth y k) hR.out (by omega))
          obtain ⟨cur, hcur⟩ : ∃ cur, cur = setsS O1 (y.take k) := ⟨_, rfl⟩
          rw [← hcur] at HS hnx hln ⊢
          clear hcur hR
          go_wp2_with fail
          refine HS.out.mono ?_
          rintro e w2 ⟨a2, c2, rfl, -, -, hR2, E2⟩
          have hR2 := Lib.hid hR2
          have hE2 := Lib.hid (hE.out.trans E2)
          clear HS E2 hE
          go_wp2_with fail
          go_roundw
          case rel => exact ⟨k + 1, a2, c2, by omega, by go_num, by rw [hnx.out], by rw [hnx.out]; exact hR2.out, hE2.out⟩
          case measure => simp [intOf]; omega
        · obtain rfl : k = y.length := by omega
          rw [List.take_length] at hR hln ⊢
          obtain ⟨O2, hO2⟩ : ∃ O2, O2 = setsS O1 y := ⟨_, rfl⟩
          rw [← hO2] at i2 n2 n3 hfin hR hln ⊢
          have HR2 : Hid (SettingAt wr ad (setsS O2 (z.take 0))) := hR.out
          clear hO2 hR
          have HE2 := hE
          clear hE
          go_wp2_with fail
          go_loopw [7, 10] (fun v i wr => ∃ (k : Nat) (ad : Option Addr) (cp : Nat), k ≤ z.length ∧ i = .int .i64 k ∧ v = .slice ad (setsS O2 (z.take k)).length cp ∧ Hid (SettingAt wr ad (setsS O2 (z.take k))) ∧ Hid (Ext w wr)) (fun _ i _ => z.length - (intOf i).toNat)
          case atStart => exact ⟨0, ad, cp, Nat.zero_le _, rfl, rfl, HR2.out, HE2.out⟩
          case round =>
            clear HR2 HE2
            obtain ⟨k, ad, cp, hk, rfl, rfl, hR, hE⟩ := hrel
            have hln := setsS_len (z.take k) O2 i2.out
            rw [List.length_take] at hln
            have hoo : (O2).length ≤ 48 := (by omega)
            by_cases hlt : k < z.length
            · have hnx := Lib.hid (sets_next (o := O2) hlt)
              obtain ⟨b, off, rfl⟩ := h3.out.base hlt
              obtain ⟨hb, c0, c1⟩ := Setting.at (h3.out.ext hE.out) k hlt
              have HS := Lib.hid (l27Set_any wr ad cp (setsS O2 (z.take k)) (nth z k) hR.out (by omega))
              obtain ⟨cur, hcur⟩ : ∃ cur, cur = setsS O2 (z.take k) := ⟨_, rfl⟩
              rw [← hcur] at HS hnx hln ⊢
              clear hcur hR
              go_wp2_with fail
              refine HS.out.mono ?_
              rintro e w2 ⟨a2, c2, rfl, -, -, hR2, E2⟩
              have hR2 := Lib.hid hR2
              have hE2 := Lib.hid (hE.out.trans E2)
              clear HS E2 hE
              go_wp2_with fail
              go_roundw
              case rel => exact ⟨k + 1, a2, c2, by omega, by go_num, by rw [hnx.out], by rw [hnx.out]; exact hR2.out, hE2.out⟩
              case measure => simp [intOf]; omega
            · obtain rfl : k = z.length := by omega
              rw [List.take_length] at hR hln ⊢
              obtain ⟨O3, hO3⟩ : ∃ O3, O3 = setsS O2 z := ⟨_, rfl⟩
              rw [← hO3] at n3 hfin hR hln ⊢
              have HRh := hR
              clear hO3 hR
              obtain ⟨wo, hwo⟩ : ∃ wo, wo = wr := ⟨_, rfl⟩
              subst hwo
              have HL0 := Lib.hid (Lst.new (T := 9) (n := 1) (cell := cellS) wo wo.heap.size (Nat.le_refl _))
              have HX3 := Lib.hid ((Ext.refl wo).alloc (.cells #[] 9))
              have hwo := hE.out.size
              go_wp2_with fail
              go_loopw [11, 12] (fun o i wr => ∃ (k : Nat) (acc : List ByteArray), k ≤ O3.length ∧ i = .int .i64 k ∧ acc.length = k ∧ Hid (acc = (O3.take k).map Setting.name) ∧ Hid (Lst 9 1 cellS wr wo.heap.size o acc) ∧ Hid (Ext wo wr)) (fun _ i _ => O3.length - (intOf i).toNat)
              case atStart => exact ⟨0, [], Nat.zero_le _, rfl, rfl, rfl, HL0.out, HX3.out⟩
              case round =>
                clear HL0 HX3
                obtain ⟨k, acc, hk, rfl, hal, hst, HL, HX⟩ := hrel
                by_cases hlt : k < O3.length
                · obtain ⟨b, off, rfl⟩ := HRh.out.base hlt
                  obtain ⟨hb, c0, c1⟩ := Setting.at (HRh.out.ext HX.out) k hlt
                  have hst2 : Hid (acc ++ [(nth O3 k).name] = (O3.take (k + 1)).map Setting.name) := by show _ = _; rw [hst.out]; exact names_next O3 k hlt
                  have L3 := Lib.hid (HL.out.ext ((Ext.refl wr).alloc (.cells #[.string (nth O3 k).name] 9)))
                  have HR := Lib.hid (rows_str (T := 9) wr (nth O3 k).name rfl)
                  have hz4 : wo.heap.size ≤ (wr.alloc (.cells #[.string (nth O3 k).name] 9)).heap.size := by rw [size_new]; have := HX.out.size; omega
                  have E4 := Lib.hid (HX.out.alloc (.cells #[.string (nth O3 k).name] 9))
                  clear HL HX hst
                  try dsimp only
                  repeat (first | (at_builtin; refine Hid.out ?_) | go_values | go_skip | go_guarded | go_step | go_upon | go_back)
                  refine Lib.hid ?_
                  refine wpList_pushL elStrs oneStr rfl _ _ rfl wo.heap.size _ _ (by rfl) L3.out _ 1 1 [(nth O3 k).name] rfl (by rfl) HR.out (by first | omega | (simp; omega)) (by first | omega | (simp; omega)) hz4 ?_
                  intro v' w3 HL3 hs3 _
                  have L5 := Lib.hid HL3
                  have E5 := Lib.hid (hs3.ext E4.out (Nat.le_refl _))
                  clear HL3 hs3 L3 HR E4 hz4
                  clear c0 c1 hb
                  go_wp2_with fail
                  go_roundw
                  case rel => exact ⟨k + 1, acc ++ [(nth O3 k).name], by omega, by go_num, by rw [List.length_append, hal]; rfl, hst2.out, L5.out, E5.out⟩
                  case measure => simp [intOf]; omega
                · obtain rfl : k = O3.length := by omega
                  have hst2 : Hid (acc = names3 x y z) := by show _ = _; rw [hst.out, List.take_length, hfin.out]
                  obtain ⟨a', cap', rfl, hc', -, hR5, hO5⟩ := HL.out.shape
                  have hR6 := Lib.hid hR5
                  have hO6 := Lib.hid hO5
                  clear hR5 hO5 HL hst
                  go_wp2_with fail
                  go_ret
                  rw [← hst2.out]
                  exact ⟨a', cap', rfl, hc', hO6.out.low hwo, hR6.out, hE.out.trans HX.out⟩
set_option maxRecDepth 100000 in
set_option maxHeartbeats 2000000 in
theorem l27Get_any (a : Option Addr) (cap : Nat) (l : List Setting) (n : ByteArray) (w : World) (H : SettingAt w a l) (hl : l.length ≤ 1048576) :
    Gives Try.prog 55 #[.slice a l.length cap, .string n] w (.agg #[.string (getS n (thg l n)).name, .int .i64 (getS n (thg l n)).value]) := by
  unfold Gives
  obtain ⟨W1, hW1⟩ : ∃ W1, W1 = w.alloc (.cells #[.string ⟨#[]⟩, .int .i64 0] 74) := ⟨_, rfl⟩
  have E1 : Ext w W1 := by rw [hW1]; exact (Ext.refl w).alloc _
  have HA := Lib.hid (l27At_any a cap l n W1 (RowsAt.ext H E1) hl)
  have HR := Lib.hid (RowsAt.ext H E1)
  have hB := Blk.new w #[.string ⟨#[]⟩, .int .i64 0] 74
  rw [← hW1] at hB
  obtain ⟨bx, hbx⟩ : ∃ bx, bx = w.heap.size := ⟨_, rfl⟩
  rw [← hbx] at hB
  have hbw : w.heap.size ≤ bx := by omega
  have E1h := Lib.hid E1
  have hbl := hB.lt
  have f0 := hB.frozen 0
  have f1 := hB.frozen 1
  obtain ⟨u0, x0⟩ := hB.cell (o := 0) (by decide)
  obtain ⟨u1, x1⟩ := hB.cell (o := 1) (by decide)
  clear H E1 hB
  rcases thg_idx (n := n) (l := l) with ⟨h1, h2⟩ | ⟨k, v, h1, h2, h3, h4⟩
  · have hv : Hid (getS n (thg l n) = ⟨⟨#[]⟩, 0⟩) := by show _ = _; rw [h2]; rfl
    obtain ⟨ix, hix⟩ : ∃ ix, ix = idxS n l := ⟨_, rfl⟩
    have h1' : ix < 0 := by rw [hix]; exact h1
    rw [← hix] at HA
    clear h1 h2 hix
    go_enter Try.func55, Try.ntmps55
    go_wp2_with fail
    rw [← hW1, ← hbx]
    refine HA.out.mono ?_
    rintro e w' ⟨rfl, hw'⟩
    subst hw'
    clear hW1 hbx HA
    go_wp2_with fail
    refine bodyPost_ret (v := .agg #[.string ⟨#[]⟩, .int .i64 0]) (by simp [results, Try.results55, go_sem, x0, x1]) rfl ?_
    exact ⟨by rw [hv.out], (E1h.out.setCell (p := ⟨bx, 0, none⟩) hbw _).setCell (p := ⟨bx, 1, none⟩) hbw _⟩
  · have hv : Hid (getS n (thg l n) = ⟨n, v⟩) := by show _ = _; rw [h4]; rfl
    have h1' : idxS n l = (k : Int) := h1
    rw [h1'] at HA
    clear h1 h4 h1'
    obtain ⟨b, off, rfl⟩ := HR.out.base h2
    obtain ⟨hb, c0, c1⟩ := Setting.at HR.out k h2
    rw [h3] at c0 c1
    clear h3
    go_enter Try.func55, Try.ntmps55
    go_wp2_with fail
    rw [← hW1, ← hbx]
    refine HA.out.mono ?_
    rintro e w' ⟨rfl, hw'⟩
    subst hw'
    clear hW1 hbx HA
    go_wp2_with fail
    refine bodyPost_ret (v := .agg #[.string n, .int .i64 v]) (by simp [results, Try.results55, go_sem, x0, x1]) rfl ?_
    exact ⟨by rw [hv.out], (E1h.out.setCell (p := ⟨bx, 0, none⟩) hbw _).setCell (p := ⟨bx, 1, none⟩) hbw _⟩
theorem confl_next {x y z : List Setting} {N : List ByteArray} {k : Nat} (h : k < N.length) : (N.take (k + 1)).filter (confAt x y z) = if confAt x y z (nth N k) = true then (N.take k).filter (confAt x y z) ++ [nth N k] else (N.take k).filter (confAt x y z) := by
  rw [take_snoc' h, List.filter_append]
  split
  · rename_i h1; simp [h1]
  · rename_i h1; simp [h1]
set_option maxRecDepth 100000 in
set_option maxHeartbeats 8000000 in
theorem l27Conflicts_any (a1 a2 a3 : Option Addr) (p1 p2 p3 : Nat) (x y z : List Setting) (w : World) (H1 : SettingAt w a1 x) (H2 : SettingAt w a2 y) (H3 : SettingAt w a3 z) (hok : ok3 x y z = true) :
    Calls Try.prog 53 #[.slice a1 x.length p1, .slice a2 y.length p2, .slice a3 z.length p3] w (OutL 9 1 cellS w (confl x y z)) := by
  obtain ⟨v1, v2, v3⟩ := ok3_split hok
  have l1 := state_len v1
  have l2 := state_len v2
  have l3 := state_len v3
  have hNl := names3_len hok
  have hNn : Hid (∀ k, k < (names3 x y z).length → nth (names3 x y z) k ≠ ⟨#[]⟩) := fun k hk => name_ne (names3_name hok (nth_mem hk))
  have HN := Lib.hid (l27Names_any a1 a2 a3 p1 p2 p3 x y z w H1 H2 H3 l1 l2 l3)
  have h1 := Lib.hid H1
  have h2 := Lib.hid H2
  have h3 := Lib.hid H3
  have hfin : Hid (((names3 x y z).take (names3 x y z).length).filter (confAt x y z) = confl x y z) := by show _ = _; rw [List.take_length]; rfl
  clear H1 H2 H3 v1 v2 v3 hok
  generalize names3 x y z = N at *
  go_enter Try.func53, Try.ntmps53
  go_wp2_with fail
  refine HN.out.mono ?_
  rintro e wo ⟨na, nc, rfl, -, -, hNR, hNE⟩
  have hR := Lib.hid hNR
  have hE := Lib.hid hNE
  have hwo := hNE.size
  have HL0 := Lib.hid (Lst.new (T := 9) (n := 1) (cell := cellS) wo wo.heap.size (Nat.le_refl _))
  have HX3 := Lib.hid ((Ext.refl wo).alloc (.cells #[] 9))
  clear hNR hNE HN
  go_wp2_with fail
  go_loopw [8, 9] (fun o i wr => ∃ (k : Nat) (acc : List ByteArray), k ≤ N.length ∧ i = .int .i64 k ∧ acc.length ≤ k ∧ Hid (acc = (N.take k).filter (confAt x y z)) ∧ Hid (Lst 9 1 cellS wr wo.heap.size o acc) ∧ Hid (Ext wo wr)) (fun _ i _ => N.length - (intOf i).toNat)
  case atStart => exact ⟨0, [], Nat.zero_le _, rfl, Nat.le_refl _, rfl, HL0.out, HX3.out⟩
  case round =>
    clear HL0 HX3
    obtain ⟨k, acc, hk, rfl, hal, hst, HL, HX⟩ := hrel
    by_cases hlt : k < N.length
    · have hnx := Lib.hid (confl_next (x := x) (y := y) (z := z) hlt)
      have hne := hNn.out k hlt
      have hcf : Hid (confAt x y z (nth N k) = (!decide (thg x (nth N k) = thg y (nth N k)) && (!decide (thg x (nth N k) = thg z (nth N k)) && !decide (thg y (nth N k) = thg z (nth N k))))) := conf_spec _ _ _
      rw [← getS_eq hne (thg x (nth N k)) (thg y (nth N k)), ← getS_eq hne (thg x (nth N k)) (thg z (nth N k)), ← getS_eq hne (thg y (nth N k)) (thg z (nth N k))] at hcf
      obtain ⟨b, off, rfl⟩ := hR.out.base hlt
      obtain ⟨hb, c0⟩ := StrAt.at (hR.out.ext HX.out) k hlt
      have G1 := Lib.hid fun (W : World) (he : Ext wo W) => l27Get_any a1 p1 x (nth N k) W (RowsAt.ext h1.out (hE.out.trans he)) (by omega)
      have G2 := Lib.hid fun (W : World) (he : Ext wo W) => l27Get_any a2 p2 y (nth N k) W (RowsAt.ext h2.out (hE.out.trans he)) (by omega)
      have G3 := Lib.hid fun (W : World) (he : Ext wo W) => l27Get_any a3 p3 z (nth N k) W (RowsAt.ext h3.out (hE.out.trans he)) (by omega)
      obtain ⟨X, hX⟩ : ∃ X, X = getS (nth N k) (thg x (nth N k)) := ⟨_, rfl⟩
      obtain ⟨Y, hY⟩ : ∃ Y, Y = getS (nth N k) (thg y (nth N k)) := ⟨_, rfl⟩
      obtain ⟨Z, hZ⟩ : ∃ Z, Z = getS (nth N k) (thg z (nth N k)) := ⟨_, rfl⟩
      rw [← hX] at G1 hcf
      rw [← hY] at G2 hcf
      rw [← hZ] at G3 hcf
      clear hX hY hZ hne
      go_wp2_with fail
      refine (G1.out _ HX.out).mono ?_
      rintro e vq ⟨rfl, eq⟩
      skip
      obtain ⟨bX, hbx⟩ : ∃ b, b = vq.heap.size := ⟨_, rfl⟩
      obtain ⟨V1, hvv⟩ : ∃ v, v = vq.alloc (.cells #[.string X.name, .int .i64 X.value] 74) := ⟨_, rfl⟩
      have P1 : Hid (Ext wr V1) := by show Ext _ _; rw [hvv]; exact eq.alloc _
      have E1 : Hid (Ext wo V1) := HX.out.trans P1.out
      have x0 : World.cell? V1 ⟨bX, 0, none⟩ = some (.string X.name) := by rw [hvv, hbx, cell_new]; rfl
      have x1 : World.cell? V1 ⟨bX, 1, none⟩ = some (.int .i64 X.value) := by rw [hvv, hbx, cell_new]; rfl
      have xl := block_lt x0
      clear c0 hb
      obtain ⟨hb, c0⟩ := StrAt.at (hR.out.ext (HX.out.trans eq)) k hlt
      go_wp2_with fail
      rw [← hvv, ← hbx]
      clear c0 hb
      obtain ⟨hb, c0⟩ := StrAt.at (hR.out.ext E1.out) k hlt
      clear hvv hbx eq
      refine (G2.out _ E1.out).mono ?_
      rintro e vq ⟨rfl, eq⟩
      skip
      obtain ⟨bY, hbx⟩ : ∃ b, b = vq.heap.size := ⟨_, rfl⟩
      obtain ⟨V2, hvv⟩ : ∃ v, v = vq.alloc (.cells #[.string Y.name, .int .i64 Y.value] 74) := ⟨_, rfl⟩
      have P2 : Hid (Ext V1 V2) := by show Ext _ _; rw [hvv]; exact eq.alloc _
      have E2 : Hid (Ext wo V2) := E1.out.trans P2.out
      have y0 : World.cell? V2 ⟨bY, 0, none⟩ = some (.string Y.name) := by rw [hvv, hbx, cell_new]; rfl
      have y1 : World.cell? V2 ⟨bY, 1, none⟩ = some (.int .i64 Y.value) := by rw [hvv, hbx, cell_new]; rfl
      have yl := block_lt y0
      clear c0 hb
      obtain ⟨hb, c0⟩ := StrAt.at (hR.out.ext (E1.out.trans eq)) k hlt
      go_wp2_with fail
      rw [← hvv, ← hbx]
      clear c0 hb
      obtain ⟨hb, c0⟩ := StrAt.at (hR.out.ext E2.out) k hlt
      clear hvv hbx eq
      replace x0 := P2.out.cell x0
      replace x1 := P2.out.cell x1
      refine (G3.out _ E2.out).mono ?_
      rintro e vq ⟨rfl, eq⟩
      obtain ⟨bZ, hbx⟩ : ∃ b, b = vq.heap.size := ⟨_, rfl⟩
      obtain ⟨V3, hvv⟩ : ∃ v, v = vq.alloc (.cells #[.string Z.name, .int .i64 Z.value] 74) := ⟨_, rfl⟩
      have P3 : Hid (Ext V2 V3) := by show Ext _ _; rw [hvv]; exact eq.alloc _
      have E3 : Hid (Ext wo V3) := E2.out.trans P3.out
      have x0 := eq.cell x0
      have x1 := eq.cell x1
      have y0 := eq.cell y0
      have y1 := eq.cell y1
      have xl := block_lt x0
      have yl := block_lt y0
      clear c0 hb
      obtain ⟨hb, c0⟩ := StrAt.at (hR.out.ext (E2.out.trans eq)) k hlt
      have HL3 := Lib.hid (HL.out.ext (P1.out.trans (P2.out.trans P3.out)))
      have hst2 := hst
      have HL5 := HL3
      rw [hvv] at HL5
      have E5 := E3
      rw [hvv] at E5
      have L3 := Lib.hid (HL3.out.ext ((Ext.refl V3).alloc (.cells #[.string (nth N k)] 9)))
      have HR := Lib.hid (rows_str (T := 9) V3 (nth N k) rfl)
      have hz4 : wo.heap.size ≤ (V3.alloc (.cells #[.string (nth N k)] 9)).heap.size := by rw [size_new]; have := E3.out.size; omega
      have E4 := Lib.hid (E3.out.alloc (.cells #[.string (nth N k)] 9))
      rw [hvv] at L3 HR hz4 E4
      rw [size_new] at HR
      have hnr := hnx
      clear G1 G2 G3 HL HX E1 E2 P1 P2 hst hnx HL3
      go_wp2_with (at_builtin; refine wpList_pushL elStrs oneStr rfl _ _ rfl wo.heap.size _ _ (by rfl) L3.out _ 1 1 [nth N k] rfl (by rfl) HR.out (by first | omega | (simp; omega)) (by first | omega | (simp; omega)) hz4 ?_; intro v' w3 HL3 hs3 _)
      all_goals first
        | (have HL4 := Lib.hid HL3
           have hE4 := Lib.hid (hs3.ext E4.out (Nat.le_refl _))
           clear HL3 hs3
           have hcv : confAt x y z (nth N k) = true := by
             rw [hcf.out]
             (try clear HL4 hE4); (try clear hcf); (try clear h1 h2 h3 hfin hR hE hNn hst2 hnr E4 L3 HR hz4); (try clear P3 E3 HL5 E5); (try clear x0 x1 y0 y1 c0); (try clear hvv hbx)
             simp [*]
           have hnv := hnr.out
           rw [if_pos hcv, ← hst2.out] at hnv
           exact ⟨⟨k + 1, acc ++ [nth N k], by omega, by go_num, by rw [List.length_append, List.length_cons, List.length_nil]; omega, hnv.symm, HL4.out, hE4.out⟩, by simp [intOf]; omega⟩)
        | (have hcv : confAt x y z (nth N k) = false := by
             rw [hcf.out]
             (try clear HL4 hE4); (try clear hcf); (try clear h1 h2 h3 hfin hR hE hNn hst2 hnr E4 L3 HR hz4); (try clear P3 E3 HL5 E5); (try clear x0 x1 y0 y1 c0); (try clear hvv hbx)
             simp [*]
           have hnv := hnr.out
           rw [if_neg (by rw [hcv]; decide), ← hst2.out] at hnv
           exact ⟨⟨k + 1, acc, by omega, by go_num, by omega, hnv.symm, HL5.out, E5.out⟩, by simp [intOf]; omega⟩)
    · obtain rfl : k = N.length := by omega
      have hst2 : Hid (acc = confl x y z) := by show _ = _; rw [hst.out, hfin.out]
      obtain ⟨a', cap', rfl, hc', -, hR5, hO5⟩ := HL.out.shape
      have hR6 := Lib.hid hR5
      have hO6 := Lib.hid hO5
      clear hR5 hO5 HL hst
      go_wp2_with fail
      go_ret
      rw [← hst2.out]
      exact ⟨a', cap', rfl, hc', hO6.out.low hwo, hR6.out, hE.out.trans HX.out⟩
end Go.Proofs.Ytbcpgdidajapoaa
