/- All names of three states, and the names in conflict: the program's namesOf and conflictsOf. -/
import Derived.Test.YtbcpgdidajapoaaMrgT
import Derived.Test.YtbcpgdidajapoaaDelS
import Derived.Test.YtbcpgdidajapoaaII
namespace Go.Proofs.Ytbcpgdidajapoaa
open Go.RowKit
theorem names_flat (l m : List Setting) (j : Nat) (h : j < m.length) : (l ++ m.take j).map Setting.name ++ [(nth m j).name] = (l ++ m.take (j + 1)).map Setting.name := by
  rw [take_snoc' h, ← List.append_assoc, List.map_append (l₁ := l ++ m.take j)]; rfl
theorem flat_take {L : List (List Setting)} {k : Nat} (h : k < L.length) : (L.take (k + 1)).flatten = (L.take k).flatten ++ nth L k := by
  rw [take_snoc' h, List.flatten_append]; simp
theorem flat_len {L : List (List Setting)} (h : ∀ k, k < L.length → (nth L k).length ≤ 24) : ∀ k, k ≤ L.length → ((L.take k).flatten).length ≤ 24 * k
  | 0, _ => by simp
  | k + 1, hk => by
    have := flat_len h k (by omega)
    have := h k (by omega)
    rw [flat_take (by omega), List.length_append]; omega
theorem Own.low' {w : World} {b0 b1 T m n : Nat} {a : Option Addr} (h : Own w b1 T m a n) (hb : b0 ≤ b1) : Own w b0 T m a n := by
  rcases h with h | ⟨g, N, e, hg, r⟩
  · exact .inl h
  · exact .inr ⟨g, N, e, Nat.le_trans hb hg, r⟩
set_option maxRecDepth 100000 in
set_option maxHeartbeats 8000000 in
theorem namesOf_any (g cp : Nat) (L : List (List Setting)) (vs : List Sl) (w : World) (hL : L.length ≤ 3) (hvl : vs.length = L.length) (hR : RowsAt 1 cellV w (some ⟨g, 0, none⟩) vs) (hin : ∀ k, k < L.length → (nth vs k).n = (nth L k).length ∧ SettingAt w (nth vs k).ad (nth L k)) (hlen : ∀ k, k < L.length → (nth L k).length ≤ 24) :
    Calls Try.prog 46 #[.slice (some ⟨g, 0, none⟩) L.length cp] w fun e w' => ∃ a cap, e = .returned (.slice a (putAll sLt [] (L.flatten.map Setting.name)).length cap) ∧ Lst 9 1 cellS w' w.heap.size (.slice a (putAll sLt [] (L.flatten.map Setting.name)).length cap) (putAll sLt [] (L.flatten.map Setting.name)) ∧ Ext w w' := by
  have HR := Lib.hid hR
  have HI := Lib.hid hin
  have HN := Lib.hid hlen
  have HV := Lib.hid hvl
  have HF := Lib.hid (flat_len hlen)
  clear hR hin hlen hvl
  go_enter Try.func46, Try.ntmps46
  go_wp2_with fail
  go_loopw [3, 10] (fun o i wr => ∃ (k : Nat) (acc : List ByteArray), k ≤ L.length ∧ i = .int .i64 k ∧ acc.length ≤ 24 * k ∧ Hid (acc = ((L.take k).flatten).map Setting.name) ∧ Hid (Lst 9 1 cellS wr w.heap.size o acc) ∧ Hid (Ext w wr)) (fun _ i _ => L.length - (intOf i).toNat)
  case atStart => exact ⟨0, [], Nat.zero_le _, rfl, Nat.le_refl _, rfl, Lst.nil _ _, Ext.refl _⟩
  case round =>
    obtain ⟨k, acc, hk, rfl, hal, hst, HL, HE⟩ := hrel
    by_cases hlt : k < L.length
    · obtain ⟨hvn, hvS⟩ := HI.out k hlt
      have hvSh := Lib.hid hvS
      obtain ⟨hb, hc⟩ := RowsAt.at (HR.out.ext HE.out) k (by rw [HV.out]; exact hlt)
      have c0 : wr.cell? ⟨g, k, none⟩ = some (.slice (nth vs k).ad (nth L k).length (nth vs k).c) := by
        have h9 := hc 0 (by decide)
        rw [Nat.zero_add, Nat.mul_one, Nat.add_zero] at h9
        rw [h9]; show some (cellV (nth vs k) 0) = _; rw [← hvn]
      have hm24 := HN.out k hlt
      obtain ⟨m, hm⟩ : ∃ m, m = nth L k := ⟨_, rfl⟩
      rw [← hm] at c0 hvSh hm24
      have hft := Lib.hid (flat_take hlt)
      rw [← hm] at hft
      obtain ⟨pre, hpre⟩ : ∃ pre, pre = (L.take k).flatten := ⟨_, rfl⟩
      rw [← hpre] at hft hst
      generalize (nth vs k).ad = va at *
      generalize (nth vs k).c = vc at *
      clear hc hvn hvS hm hpre
      obtain ⟨wo, hwo⟩ : ∃ wo, wo = wr := ⟨_, rfl⟩
      subst hwo
      go_wp2_with fail
      go_loopw [3, 16] (fun o i wr => ∃ (j : Nat) (acc2 : List ByteArray), j ≤ m.length ∧ i = .int .i64 j ∧ acc2.length ≤ 24 * k + j ∧ Hid (acc2 = (pre ++ m.take j).map Setting.name) ∧ Hid (Lst 9 1 cellS wr w.heap.size o acc2) ∧ Hid (Ext w wr)) (fun _ i _ => m.length - (intOf i).toNat)
      case atStart => exact ⟨0, acc, Nat.zero_le _, rfl, hal, by show _ = _; rw [List.take_zero, List.append_nil]; exact hst.out, HL.out, HE.out⟩
      case round =>
        have hEo := HE
        clear HL HE hst c0 hb
        obtain ⟨j, acc2, hj, rfl, hal2, hst, HL, HE⟩ := hrel
        have hszr := HE.out.size
        by_cases hlt2 : j < m.length
        · obtain ⟨b, off, rfl⟩ := hvSh.out.base hlt2
          obtain ⟨hb, c0, c1⟩ := Setting.at (hvSh.out.ext HE.out) j hlt2
          obtain ⟨W, hW⟩ : ∃ W, W = wr.alloc (.cells #[.string (nth m j).name, .int .i64 (nth m j).value] 74) := ⟨_, rfl⟩
          have hWE : Ext wr W := by rw [hW]; exact (Ext.refl wr).alloc _
          have hxs : W.heap.size = wr.heap.size + 1 := by rw [hW, size_new]
          have hst2 : Hid (acc2 ++ [(nth m j).name] = (pre ++ m.take (j + 1)).map Setting.name) := by show _ = _; rw [hst.out]; exact names_flat pre m j hlt2
          have hE := Lib.hid (HE.out.trans hWE)
          have HL2 := Lib.hid (HL.out.ext hWE)
          have L3 := Lib.hid (HL2.out.ext ((Ext.refl W).alloc (.cells #[.string (nth m j).name] 9)))
          have HR := Lib.hid (rows_str (T := 9) W (nth m j).name rfl)
          have hz4 : w.heap.size ≤ (W.alloc (.cells #[.string (nth m j).name] 9)).heap.size := by rw [size_new]; have := hE.out.size; omega
          have E4 := Lib.hid (hE.out.alloc (.cells #[.string (nth m j).name] 9))
          have hW' := Lib.hid hW
          clear HL HL2 hE HE hWE hst hEo
          try dsimp only
          repeat (first | (at_builtin; refine Hid.out ?_) | go_values | go_skip | go_guarded | go_step | go_upon | go_back)
          refine Lib.hid ?_
          rw [← hW, ← hxs]
          refine wpList_pushL elStrs oneStr rfl _ _ rfl w.heap.size _ _ (by rfl) L3.out _ 1 1 [(nth m j).name] rfl (by rfl) HR.out (by first | omega | (simp; omega)) (by first | omega | (simp; omega)) hz4 ?_
          intro v' w3 HL3 hs3 _
          have L5 := Lib.hid HL3
          have E5 := Lib.hid (hs3.ext E4.out (Nat.le_refl _))
          clear HL3 hs3 L3 HR E4 hz4
          clear hW hW' hxs c0 c1 hb
          go_wp2_with fail
          go_roundw
          case rel => exact ⟨j + 1, acc2 ++ [(nth m j).name], by omega, by go_num, by rw [List.length_append, List.length_cons, List.length_nil]; omega, hst2.out, L5.out, E5.out⟩
          case measure => simp [intOf]; omega
        · obtain rfl : j = m.length := by omega
          have hst2 : Hid (acc2 = ((L.take (k + 1)).flatten).map Setting.name) := by show _ = _; rw [hst.out, hft.out, List.take_length]
          clear hEo
          go_wp2_with fail
          go_roundw
          case rel => exact ⟨k + 1, acc2, by omega, by go_num, by omega, hst2.out, HL.out, HE.out⟩
          case measure => simp [intOf]; omega
    · obtain rfl : k = L.length := by omega
      obtain ⟨a', cap', rfl, hc', -, -, -⟩ := HL.out.shape
      have hst2 : Hid (acc = L.flatten.map Setting.name) := by show _ = _; rw [hst.out, List.take_length]
      have hv2 : Hid (compactS (sortS acc) = putAll sLt [] (L.flatten.map Setting.name)) := by show _ = _; rw [compact_sortS, hst2.out]
      have HS := Lib.hid (SortS_any wr w.heap.size a' cap' acc HL.out (by omega))
      have hsl := Lib.hid (sortS_len acc)
      clear hst hst2 HL
      go_wp2_with fail
      refine HS.out.mono ?_
      rintro e w2 ⟨rfl, HL2, -, hs2⟩
      have hE2 := Lib.hid (hs2.ext HE.out (Nat.le_refl _))
      have HL2' : Hid (Lst 9 1 cellS w2 w.heap.size (.slice a' (sortS acc).length cap') (sortS acc)) := by show Lst _ _ _ _ _ _ _; rw [hsl.out]; exact HL2
      have HC := CompactSS_any w2 w.heap.size a' cap' (sortS acc) HL2'.out (by rw [hsl.out]; omega)
      rw [hsl.out] at HC
      have HCh := Lib.hid HC
      clear HC HL2 hs2 HS HE HL2'
      go_wp2_with fail
      refine HCh.out.mono ?_
      rintro e w3 ⟨rfl, HL3, -, hs3⟩
      have hE3 := Lib.hid (hs3.ext hE2.out (Nat.le_refl _))
      have HL4 := Lib.hid HL3
      clear HL3 hs3 HCh hE2
      go_wp2_with fail
      go_ret
      rw [← hv2.out]
      exact ⟨a', cap', rfl, HL4.out, hE3.out⟩
theorem names3_flat (x y z : List Setting) : putAll sLt [] (([x, y, z] : List (List Setting)).flatten.map Setting.name) = names3 x y z := by
  unfold names3
  rw [show ([x, y, z] : List (List Setting)).flatten = x ++ y ++ z by simp]
theorem namesOf_three (g cp : Nat) (a1 a2 a3 : Option Addr) (p1 p2 p3 : Nat) (x y z : List Setting) (w : World) (hg : g < w.heap.size) (c1 : w.cell? ⟨g, 0, none⟩ = some (.slice a1 x.length p1)) (c2 : w.cell? ⟨g, 1, none⟩ = some (.slice a2 y.length p2)) (c3 : w.cell? ⟨g, 2, none⟩ = some (.slice a3 z.length p3))
    (H1 : SettingAt w a1 x) (H2 : SettingAt w a2 y) (H3 : SettingAt w a3 z) (l1 : x.length ≤ 24) (l2 : y.length ≤ 24) (l3 : z.length ≤ 24) :
    Calls Try.prog 46 #[.slice (some ⟨g, 0, none⟩) 3 cp] w fun e w' => ∃ a cap, e = .returned (.slice a (names3 x y z).length cap) ∧ Lst 9 1 cellS w' w.heap.size (.slice a (names3 x y z).length cap) (names3 x y z) ∧ Ext w w' := by
  have three : ∀ k, k < 3 → k = 0 ∨ k = 1 ∨ k = 2 := fun k hk => by omega
  have := namesOf_any g cp [x, y, z] [⟨a1, x.length, p1⟩, ⟨a2, y.length, p2⟩, ⟨a3, z.length, p3⟩] w (by simp) rfl (fun k hk => ⟨g, 0, rfl, hg, fun j hj => by
      obtain rfl : j = 0 := by omega
      rcases three k (by simpa using hk) with rfl | rfl | rfl
      · exact c1
      · exact c2
      · exact c3⟩) (fun k hk => by
      rcases three k (by simpa using hk) with rfl | rfl | rfl
      · exact ⟨rfl, H1⟩
      · exact ⟨rfl, H2⟩
      · exact ⟨rfl, H3⟩) (fun k hk => by
      rcases three k (by simpa using hk) with rfl | rfl | rfl
      · exact l1
      · exact l2
      · exact l3)
  rw [names3_flat] at this
  exact this
set_option maxRecDepth 100000 in
set_option maxHeartbeats 4000000 in
theorem conflictsOf_any (a1 a2 a3 : Option Addr) (p1 p2 p3 : Nat) (x y z : List Setting) (w : World) (H1 : SettingAt w a1 x) (H2 : SettingAt w a2 y) (H3 : SettingAt w a3 z) (l1 : x.length ≤ 24) (l2 : y.length ≤ 24) (l3 : z.length ≤ 24) :
    Calls Try.prog 45 #[.slice a1 x.length p1, .slice a2 y.length p2, .slice a3 z.length p3] w fun e w' => ∃ a cap, e = .returned (.slice a (confl x y z).length cap) ∧ (confl x y z).length ≤ cap ∧ Own w' w.heap.size 9 1 a (confl x y z).length ∧ StrAt w' a (confl x y z) ∧ Ext w w' := by
  have eg : Enters Try.prog 74 := enters_of Try.func74 (by kernel_rfl) rfl
  obtain ⟨W3, hW3⟩ : ∃ W3, W3 = ((w.alloc (.cells #[.slice a1 x.length p1] 33)).alloc (.cells #[.slice a2 y.length p2] 33)).alloc (.cells #[.slice a3 z.length p3] 33) := ⟨_, rfl⟩
  obtain ⟨W4, hW4⟩ : ∃ W4, W4 = W3.alloc (.cells #[.slice a1 x.length p1, .slice a2 y.length p2, .slice a3 z.length p3] 33) := ⟨_, rfl⟩
  have s3 : W3.heap.size = w.heap.size + 3 := by rw [hW3, size_new, size_new, size_new]
  have s4 : W4.heap.size = w.heap.size + 4 := by rw [hW4, size_new, s3]
  have E4 : Ext w W4 := by rw [hW4, hW3]; exact (by repeat (first | exact Ext.refl _ | refine Ext.lift ?_ _ | refine Ext.alloc ?_ _))
  have E34 : Ext W3 W4 := by rw [hW4]; exact (Ext.refl _).alloc _
  have k1 : W4.cell? ⟨w.heap.size, 0, none⟩ = some (.slice a1 x.length p1) := E34.cell (by rw [hW3]; exact (((Ext.refl _).alloc _).alloc _).cell (by rw [cell_new]; rfl))
  have k2 : W4.cell? ⟨w.heap.size + 1, 0, none⟩ = some (.slice a2 y.length p2) := E34.cell (by
    rw [hW3]
    refine ((Ext.refl _).alloc _).cell ?_
    have := cell_new (w.alloc (.cells #[.slice a1 x.length p1] 33)) #[.slice a2 y.length p2] 33 (0, 0) 0
    rw [size_new] at this
    exact this)
  have k3 : W4.cell? ⟨w.heap.size + 2, 0, none⟩ = some (.slice a3 z.length p3) := E34.cell (by
    rw [hW3]
    have := cell_new ((w.alloc (.cells #[.slice a1 x.length p1] 33)).alloc (.cells #[.slice a2 y.length p2] 33)) #[.slice a3 z.length p3] 33 (0, 0) 0
    rw [size_new, size_new] at this
    exact this)
  have q : ∀ j, W4.cell? ⟨w.heap.size + 3, j, none⟩ = (#[.slice a1 x.length p1, .slice a2 y.length p2, .slice a3 z.length p3] : Array Value)[j]? := fun j => by
    have := cell_new W3 #[.slice a1 x.length p1, .slice a2 y.length p2, .slice a3 z.length p3] 33 (0, 0) j
    rw [← hW4, s3] at this
    exact this
  have HN := Lib.hid fun cp => namesOf_three (w.heap.size + 3) cp a1 a2 a3 p1 p2 p3 x y z W4 (by omega) (q 0) (q 1) (q 2) (RowsAt.ext H1 E4) (RowsAt.ext H2 E4) (RowsAt.ext H3 E4) l1 l2 l3
  have HP := Lib.hid fun (n : ByteArray) (W : World) (he : Ext W4 W) => conflicts_1 w.heap.size (w.heap.size + 1) (w.heap.size + 2) a1 a2 a3 p1 p2 p3 x y z n W (he.cell k1) (he.cell k2) (he.cell k3) (RowsAt.ext H1 (E4.trans he)) (RowsAt.ext H2 (E4.trans he)) (RowsAt.ext H3 (E4.trans he)) (by omega) (by omega) (by omega)
  have hfl : Hid (((names3 x y z).filter fun n => !(!confAt x y z n)) = confl x y z) := by
    show _ = _
    unfold confl
    congr 1
    exact funext fun n => Bool.not_not _
  have hnl : Hid ((names3 x y z).length ≤ 72) := by
    show _ ≤ _
    have := length_putAll (lt := sLt) ((x ++ y ++ z).map Setting.name) []
    unfold names3
    simp only [List.length_map, List.length_append, List.length_nil] at this ⊢
    omega
  have E4h := Lib.hid E4
  clear H1 H2 H3 q k1 k2 k3 E34 E4
  go_enter Try.func45, Try.ntmps45
  go_wp2_with fail
  rw [← hW3]
  rw [← hW4]
  clear hW3 hW4
  refine (HN.out _).mono ?_
  rintro e W5 ⟨a, cap, rfl, HL, E5⟩
  have hD := DeleteS_any W4 W5 W4.heap.size a cap (names3 x y z) 74 #[.pointer (some ⟨w.heap.size, 0, none⟩), .pointer (some ⟨w.heap.size + 1, 0, none⟩), .pointer (some ⟨w.heap.size + 2, 0, none⟩)] (fun n => !confAt x y z n) eg HL (by have := hnl.out; omega) E5 (Nat.le_refl _) (fun n W he => HP.out n W he)
  rw [hfl.out] at hD
  have hDh := Lib.hid hD
  have hw4 : w.heap.size ≤ W4.heap.size := by omega
  clear hD HL E5 HN HP hfl eg hnl
  go_wp2_with fail
  refine hDh.out.mono ?_
  rintro e W6 ⟨rfl, HL6, E6⟩
  obtain ⟨a6, cap6, e6, hc6, -, hR6, hO6⟩ := HL6.shape
  simp only [Value.slice.injEq, true_and] at e6
  obtain ⟨rfl, rfl⟩ := e6
  have hR := Lib.hid hR6
  have hO := Lib.hid hO6
  have hE := Lib.hid (E4h.out.trans E6)
  clear hR6 hO6 HL6 hDh E6
  go_wp2_with fail
  go_ret
  exact ⟨a, cap, rfl, hc6, hO.out.low' hw4, hR.out, hE.out⟩
end Go.Proofs.Ytbcpgdidajapoaa
