/- Lists of settings: where one has its place, one put in, one written, one taken out, a copy: Go's package slices at settings. No conditions but the length. -/
import Derived.Test.YtbcpgdidajapoaaDoorCmpS
import Derived.Test.YtbcpgdidajapoaaDoorIns
import Derived.Test.YtbcpgdidajapoaaDoorSet
import Derived.Test.YtbcpgdidajapoaaDoorVGrow
import Derived.Lib.SliceRun
import Derived.Deep.RegionLaw
namespace Go.Proofs.YtbcpgdidajapoaaDoor
open Go.RowKit
set_option maxRecDepth 100000 in
set_option maxHeartbeats 8000000 in
theorem InsertSetting_any (v : Value) (l : List Setting) (base i vb vc : Nat) (x : Setting) (cv : Array Value) (TV : TypeId) (w : World) (hO : Lst 57 2 Setting.cell w base v l) (hb : base ≤ w.heap.size) (hi : i ≤ l.length) (hl : l.length ≤ 1048576)
    (hV : w.heap[vb]? = some (.cells cv TV (0, 0))) (hcv : ∀ j, j < 2 → cv[j]? = some (Setting.cell x j)) (hvb : v.ownBlock ≠ some vb) :
    Calls Tryd.prog 32 #[v, .int .i64 i, .slice (some ⟨vb, 0, none⟩) 1 vc] w fun e w' => ∃ v', e = .returned v' ∧ Lst 57 2 Setting.cell w' base v' (l.take i ++ x :: l.drop i) ∧ Since base w w' := by
  have hvl : vb < w.heap.size := by
    rcases Nat.lt_or_ge vb w.heap.size with h | h
    · exact h
    · rw [Array.getElem?_eq_none h] at hV; cases hV
  have hcell : ∀ j, j < 2 → w.cell? ⟨vb, j, none⟩ = some (Setting.cell x j) := fun j hj => by unfold World.cell?; rw [hV]; exact hcv j hj
  have hR : RowsAt 2 Setting.cell w (some ⟨vb, 0, none⟩) [x] := fun k hk => by
    obtain rfl : k = 0 := by simp at hk; omega
    exact ⟨vb, 0, rfl, hvl, fun j hj => by rw [Nat.zero_mul, Nat.zero_add]; exact hcell j hj⟩
  rcases Nat.lt_or_ge i l.length with hlt | hge
  case inr =>
    obtain rfl : i = l.length := by omega
    have HL := Lib.hid hO
    have HR := Lib.hid hR
    have hfin : Hid (l.take l.length ++ x :: l.drop l.length = l ++ [x]) := by show _ = _; rw [List.take_length, List.drop_length]
    obtain ⟨a, cap, rfl, hcap, hcm, -, -⟩ := hO.shape
    clear hO hV hcv hcell hR hvb hge hi
    cases a with
    | none =>
      go_enter Tryd.func32, Tryd.ntmps32
      go_wp2_with (at_builtin; refine wpList_pushL elSetting oneSetting rfl _ _ rfl base _ l rfl HL.out ⟨vb, 0, none⟩ 1 vc [x] rfl rfl HR.out (by omega) (by omega) hb ?_; intro v' w1 HL1 hs1 _)
      have HL2 := Lib.hid HL1
      have hs2 := Lib.hid hs1
      clear HL1 hs1
      go_wp2_with fail
      go_ret
      exact ⟨v', rfl, by first | exact HL2.out | (rw [hfin.out]; exact HL2.out), hs2.out⟩
    | some ad =>
      obtain ⟨ab, ao, asp⟩ := ad
      go_enter Tryd.func32, Tryd.ntmps32
      go_wp2_with (at_builtin; refine wpList_pushL elSetting oneSetting rfl _ _ rfl base _ l rfl HL.out ⟨vb, 0, none⟩ 1 vc [x] rfl rfl HR.out (by omega) (by omega) hb ?_; intro v' w1 HL1 hs1 _)
      all_goals
        have HL2 := Lib.hid HL1
        have hs2 := Lib.hid hs1
        clear HL1 hs1
        go_wp2_with fail
        go_ret
        exact ⟨v', rfl, by first | exact HL2.out | (rw [hfin.out]; exact HL2.out), hs2.out⟩
  rcases hO.2 with ⟨-, h0⟩ | ⟨g, cap, cur, rfl, hg, hh, hc, hm, hs, ht⟩
  · exact absurd h0 (by omega)
  have hne : vb ≠ g := fun e => hvb (by rw [e]; rfl)
  have hsz : (Tryd.prog.info? 57).map (·.size) = some 2 := by kernel_rfl
  obtain ⟨B, hB⟩ : ∃ B, B = flat 2 Setting.cell (l.drop i) := ⟨_, rfl⟩
  obtain ⟨A0, hA⟩ : ∃ A0, A0 = flat 2 Setting.cell (l.take i) := ⟨_, rfl⟩
  obtain ⟨X, hX⟩ : ∃ X, X = flat 2 Setting.cell [x] := ⟨_, rfl⟩
  have hBl : B.length = (l.length - i) * 2 := by rw [hB, flat_length, List.length_drop]
  have hAl : A0.length = i * 2 := by rw [hA, flat_length, List.length_take, Nat.min_eq_left hi]
  have hXl : X.length = 2 := by rw [hX, flat_length]; simp
  have hAB : A0 ++ B = flat 2 Setting.cell l := by rw [hA, hB, ← flat_append, List.take_append_drop]
  have h1B : ∀ u ∈ B, u.oneCell' = true := by rw [hB]; exact flat_one_cells oneSetting _
  have h1X : ∀ u ∈ X, u.oneCell' = true := by rw [hX]; exact flat_one_cells oneSetting _
  have hXv : ∀ j u, X[j]? = some u → w.cell? ((⟨vb, 0, none⟩ : Addr).add j) = some u := fun j u hj => by rw [addr_add]; rw [hX] at hj; exact flat_at hR j u hj
  have hcurB : ∀ j u, B[j]? = some u → w.cell? ((⟨g, i * 2, none⟩ : Addr).add j) = some u := fun j u hj => by
    rw [addr_add]
    have h1 : (A0 ++ B)[i * 2 + j]? = some u := by rw [List.getElem?_append_right (by omega), hAl, Nat.add_sub_cancel_left]; exact hj
    have h2 : i * 2 + j < l.length * 2 := by
      have := (List.getElem?_eq_some_iff.1 h1).1
      rw [hAB, flat_length] at this; exact this
    rw [hAB, ← ht, List.getElem?_take, if_pos h2] at h1
    unfold World.cell?; rw [hh]; simpa using h1
  have hfin : flat 2 Setting.cell (l.take i ++ x :: l.drop i) = A0 ++ X ++ B := by
    rw [show l.take i ++ x :: l.drop i = l.take i ++ [x] ++ l.drop i by simp, flat_append, flat_append, hA, hX, hB]
  have hlen : (l.take i ++ x :: l.drop i).length = l.length + 1 := by rw [List.length_append, List.length_cons, List.length_take, List.length_drop]; omega
  have hxl : (A0 ++ X ++ B).length = (l.length + 1) * 2 := by rw [← hfin, flat_length, hlen]
  have e1 : (i + 1) * 2 = i * 2 + 2 := Nat.succ_mul i 2
  have e2 : (l.length - i) * 2 + i * 2 = l.length * 2 := by rw [← Nat.add_mul, Nat.sub_add_cancel hi]
  have e3 : (l.length + 1) * 2 = l.length * 2 + 2 := Nat.succ_mul _ 2
  have hz1 : ¬ ((i : Int) = (l.length : Int)) := by omega
  have hw1 : IntKind.i64.wrap ((i : Int) + 1) = (i : Int) + 1 := by rw [IntKind.wrap_i64]; omega
  have htn : ((i : Int) + 1).toNat = i + 1 := by omega
  have hin : i ≤ l.length := hi
  rcases Nat.lt_or_ge l.length cap with hroom | hroom
  · -- there is room
    have hroom' : l.length + 1 ≤ cap := hroom
    have hcs : (l.length + 1) * 2 ≤ cap * 2 := Nat.mul_le_mul_right 2 hroom'
    have hov : ∀ lb cb, (callFunc 55 #[.slice (some ⟨vb, 0, none⟩) 1 vc, .slice (some ⟨g, (i + 1) * 2, none⟩) lb cb]).run Tryd.prog w = .ok (.value (.bool false)) w := fun lb cb => by
      rw [run_callFunc_extern Tryd.func55 (by kernel_rfl) (by kernel_rfl) (by kernel_rfl) (e := Extern.SlicesOverlaps.overlaps #[26, 26] #[4]) (by kernel_rfl),
        Lib.run_overlaps_apart w 26 4 57 Tryd.underlying26 2 Tryd.sizeOf57 ⟨vb, 0, none⟩ ⟨g, (i + 1) * 2, none⟩ 1 vc lb cb hne TV 57 cv.size cur.size (shape_of_cells hV) (shape_of_cells hh) (by rw [hs]; omega) (nf_of_cells hV) (nf_of_cells hV)]
      rfl
    obtain ⟨c1, hc1⟩ : ∃ c1 : Array Value, c1 = (cur.toList.take ((i + 1) * 2) ++ B ++ cur.toList.drop ((i + 1) * 2 + B.length)).toArray := ⟨_, rfl⟩
    obtain ⟨c2, hc2⟩ : ∃ c2 : Array Value, c2 = (c1.toList.take (i * 2) ++ X ++ c1.toList.drop (i * 2 + X.length)).toArray := ⟨_, rfl⟩
    have hcp1 : ∀ ty dc sc, (Builtin.copy_ #[26, 26] ty #[.slice (some ⟨g, (i + 1) * 2, none⟩) (l.length + 1 - (i + 1)) dc, .slice (some ⟨g, i * 2, none⟩) (l.length + 1 - i) sc]).run Tryd.prog w.drew = .ok (goInt ((l.length - i : Nat) : Int)) (w.drew.setRow g c1) := fun ty dc sc => by
      rw [hc1]
      exact run_copy_rows (n := 2) w.drew _ _ ty 57 g ((i + 1) * 2) (l.length + 1 - (i + 1)) dc ⟨g, i * 2, none⟩ (l.length + 1 - i) sc (l.length - i) cur _ B Tryd.underlying26 hsz hh (by simp only [Nat.min_def]; split <;> omega) hBl hcurB (by rw [hs]; omega) h1B
    have hh1 : (w.drew.setRow g c1).heap[g]? = some (.cells c1 57 (0, 0)) := setRow_heap _ g cur _ _ _ hh
    have hs1 : c1.size = cur.size := by
      rw [hc1]; simp only [List.size_toArray, List.length_append, List.length_take, List.length_drop, Array.length_toList]; rw [hs]; omega
    have hcp2 : ∀ (W : World), (∀ k, W.heap[k]? = (w.drew.setRow g c1).heap[k]?) → ∀ ty dc, (Builtin.copy_ #[26, 26] ty #[.slice (some ⟨g, i * 2, none⟩) (l.length + 1 - i) dc, .slice (some ⟨vb, 0, none⟩) 1 vc]).run Tryd.prog W = .ok (goInt ((1 : Nat) : Int)) (W.setRow g c2) := fun W hWh ty dc => by
      rw [hc2]
      exact run_copy_rows (n := 2) W _ _ ty 57 g (i * 2) (l.length + 1 - i) dc ⟨vb, 0, none⟩ 1 vc 1 c1 _ X Tryd.underlying26 hsz (by rw [hWh]; exact hh1) (by simp only [Nat.min_def]; split <;> omega) (by rw [hXl])
        (fun j u hj => by
          have := hXv j u hj
          rw [addr_add, Nat.zero_add] at this ⊢
          unfold World.cell? at this ⊢
          rw [hWh, setRow_ne hne]; exact this) (by rw [hs1, hs]; omega) h1X
    have hcl : cur.toList.length = cap * 2 := by rw [Array.length_toList, hs]
    have hic := ins_cells (A := A0) (B := B) (X := X) (R := cur.toList.drop (i * 2)) (cur := cur.toList) (i := i) (m := 2) (n := l.length) hAl hBl hXl hi (by
        have h5 : cur.toList.take (i * 2) = A0 := by
          have h6 := congrArg (List.take (i * 2)) ht
          rw [List.take_take, Nat.min_eq_left (by omega)] at h6
          rw [h6, hA]; exact flat_take l i hi
        rw [← h5, List.take_append_drop]) (by rw [List.length_drop, hcl]; omega)
    have hc1l : c1.toList = cur.toList.take ((i + 1) * 2) ++ B ++ cur.toList.drop ((i + 1) * 2 + B.length) := by rw [hc1]
    have hc2l : c2.toList = c1.toList.take (i * 2) ++ X ++ c1.toList.drop (i * 2 + X.length) := by rw [hc2]
    have hT2 : c2.toList.take ((l.length + 1) * 2) = A0 ++ X ++ B := by rw [hc2l, hc1l]; exact hic.1
    have hS2 : c2.size = cap * 2 := by rw [← Array.length_toList, hc2l, hc1l, hic.2, Array.length_toList, hs]
    have hFIN : Hid (∀ W : World, (∀ k, W.heap[k]? = (w.drew.setRow g c1).heap[k]?) → Since base w W → Lst 57 2 Setting.cell (W.setRow g c2) base (.slice (some ⟨g, 0, none⟩) (l.length + 1) cap) (l.take i ++ x :: l.drop i) ∧ Since base w (W.setRow g c2)) := fun W hWh hsi => by
      refine ⟨?_, hsi.trans (since_setRow c2 hg)⟩
      unfold Lst
      rw [hfin, hlen]
      exact own_of_row_set (setRow_heap W g c1 _ _ _ (by rw [hWh]; exact hh1)) hg hroom' hm hS2 hxl hT2
    have hs1' : Hid (Since base w (w.drew.setRow g c1)) := (Since.refl base w).drew.trans (since_setRow c1 hg)
    have hb2 : ¬ (cap = i + 1) := by omega
    have hb1 : (0 : Int) ≤ (i : Int) + 1 := by omega
    have hb3 : (i : Int) ≤ (l.length : Int) + 1 := by omega
    have mixed : Tryd.prog.follows .mixedOrders = true := by kernel_rfl
    have hci : ¬ (cap = i) := by omega
    have hcm63 : cap ≤ 9223372036854775807 := by unfold maxLen at hm; omega
    have hli : (i : Int) + 1 ≤ (l.length : Int) + 1 := by omega
    clear hcl hic hT2 hS2 hc1l hc2l hc1 hc2 ht hs hh hO hV hcv hcell hR hvb hA hB hX hBl hAl hXl hAB h1B h1X hXv hcurB hfin hlen hxl hh1 hs1 e1 e2 e3 hcs hsz hl hvl hne hm
    go_enter Tryd.func32, Tryd.ntmps32
    go_wp2_with (simp only [hov])
    go_region_law_o (refine step_copy_runI rfl _ _ 26 26 rfl (.slice (some ⟨g, (i + 1) * 2, none⟩) (l.length + 1 - (i + 1)) (cap - (i + 1))) (.slice (some ⟨g, i * 2, none⟩) (l.length + 1 - i) (cap - i)) (by simp [Act.eval, Act.put]) (by simp [Act.eval, Act.put]) (hcp1 3 (cap - (i + 1)) (cap - i)) ?_)
    go_wp2_with (at_builtin; refine wpList_copy_runI _ rfl _ _ 26 26 rfl _ _ rfl rfl (hcp2 _ (fun _ => rfl) _ _) ?_)
    go_ret
    exact ⟨_, rfl, hFIN.out _ (fun _ => rfl) hs1'.out⟩
  · -- a new row
    obtain rfl : cap = l.length := by omega
    obtain ⟨i0, z, hi0, hz0, hzs, hzb, hzc⟩ := elSetting.inf
    have hik : i + (l.length + 1 - i) = l.length + 1 := by omega
    have hkk : (l.length : Int) + 1 - (i : Int) = ((l.length + 1 - i : Nat) : Int) := by omega
    have hgA : ∀ j u, A0[j]? = some u → w.cell? ((⟨g, 0, none⟩ : Addr).add j) = some u := fun j u hj => by
      rw [addr_add, Nat.zero_add]
      have hjl : j < A0.length := (List.getElem?_eq_some_iff.1 hj).1
      have h1 : (A0 ++ B)[j]? = some u := by rw [List.getElem?_append_left hjl]; exact hj
      have h2 : j < l.length * 2 := by omega
      rw [hAB, ← ht, List.getElem?_take, if_pos h2] at h1
      unfold World.cell?; rw [hh]; simpa using h1
    have hold : (Builtin.firstCells i0.size i (.slice (some ⟨g, 0, none⟩) i l.length)).run Tryd.prog w.drew = .ok A0.toArray w.drew := by
      rw [hzs]; exact run_firstCells_some w.drew 2 i ⟨g, 0, none⟩ i l.length A0 hAl hgA
    obtain ⟨G, hG⟩ : ∃ G, G = grownCap w (l.length + 1) l.length 57 := ⟨_, rfl⟩
    obtain ⟨ROW, hROW⟩ : ∃ ROW : Array Value, ROW = A0.toArray ++ Builtin.zeroCells z.cells (l.length + 1 - i) ++ Builtin.zeroCells z.cells (G - (l.length + 1)) := ⟨_, rfl⟩
    have hrz : ∀ ty, (Builtin.append_ #[26, 3] ty #[.slice (some ⟨g, 0, none⟩) i l.length, .int .i64 ((l.length : Int) + 1 - (i : Int))]).run Tryd.prog w =
        .ok (.slice (some ⟨w.heap.size, 0, none⟩) (l.length + 1) G) (w.drew.alloc (.cells ROW 57)) := fun ty => by
      have h := Lib.run_append_grow_zeros w 26 3 ty 57 i0 z .i64 .i64 Tryd.underlying26 Tryd.underlying3 hi0 hz0 (some ⟨g, 0, none⟩) i l.length A0 hold (l.length + 1 - i) (by omega) (by omega) (by omega) (by omega) (by rw [hzb]; omega) (by rw [hzb, hik]; exact growslice_fits (by omega) (by omega))
      rw [hik] at h
      rw [hkk, hROW, hG]
      exact h
    have hGn : l.length + 1 ≤ G := by rw [hG]; exact grownCap_ge w _ _ _
    have hGm : G ≤ maxLen := by rw [hG]; exact grownCap_le_maxLen w _ _ _ (by unfold maxLen; omega)
    have hG63 : G ≤ 9223372036854775807 := by unfold maxLen at hGm; omega
    obtain ⟨Z, hZ⟩ : ∃ Z, Z = (Builtin.zeroCells z.cells (l.length + 1 - i) ++ Builtin.zeroCells z.cells (G - (l.length + 1))).toList := ⟨_, rfl⟩
    have hZl : Z.length = (l.length + 1 - i) * 2 + (G - (l.length + 1)) * 2 := by
      rw [hZ]; simp [Builtin.zeroCells, hzc]
    have hRl : ROW.toList = A0 ++ Z := by rw [hROW, hZ]; simp
    have e4 : (l.length + 1 - i) * 2 = 2 + (l.length - i) * 2 := by omega
    have e5 : G * 2 = (l.length + 1) * 2 + (G - (l.length + 1)) * 2 := by omega
    have hRs : ROW.size = G * 2 := by rw [← Array.length_toList, hRl, List.length_append, hAl, hZl]; omega
    obtain ⟨c1, hc1⟩ : ∃ c1 : Array Value, c1 = (ROW.toList.take (i * 2) ++ X ++ ROW.toList.drop (i * 2 + X.length)).toArray := ⟨_, rfl⟩
    obtain ⟨c2, hc2⟩ : ∃ c2 : Array Value, c2 = (c1.toList.take ((i + 1) * 2) ++ B ++ c1.toList.drop ((i + 1) * 2 + B.length)).toArray := ⟨_, rfl⟩
    have hic := grow_cells (A := A0) (B := B) (X := X) (R := Z) (cur := ROW.toList) (i := i) (m := 2) (n := l.length) hAl hBl hXl hi hRl (by rw [hZl]; omega)
    have hc1l : c1.toList = ROW.toList.take (i * 2) ++ X ++ ROW.toList.drop (i * 2 + X.length) := by rw [hc1]
    have hc2l : c2.toList = c1.toList.take ((i + 1) * 2) ++ B ++ c1.toList.drop ((i + 1) * 2 + B.length) := by rw [hc2]
    have hT2 : c2.toList.take ((l.length + 1) * 2) = A0 ++ X ++ B := by rw [hc2l, hc1l]; exact hic.1
    have hS2 : c2.size = G * 2 := by rw [← Array.length_toList, hc2l, hc1l, hic.2, Array.length_toList, hRs]
    have hs1 : c1.size = ROW.size := by
      rw [hc1]; simp only [List.size_toArray, List.length_append, List.length_take, List.length_drop, Array.length_toList]; rw [hRs, hXl]; omega
    have hge : ∀ k, k < w.heap.size → (w.drew.alloc (.cells ROW 57)).heap[k]? = w.heap[k]? := fun k hk => by
      show (w.heap.push _)[k]? = _
      rw [Array.getElem?_push, if_neg (by omega)]
    have hgN : (w.drew.alloc (.cells ROW 57)).heap[w.heap.size]? = some (.cells ROW 57 (0, 0)) := by
      show (w.heap.push _)[w.heap.size]? = _
      rw [Array.getElem?_push, if_pos rfl]
    have hgl : g < w.heap.size := by
      rcases Nat.lt_or_ge g w.heap.size with h | h
      · exact h
      · rw [Array.getElem?_eq_none h] at hh; cases hh
    have hcpA : ∀ (W : World), (∀ k, W.heap[k]? = (w.drew.alloc (.cells ROW 57)).heap[k]?) → ∀ ty dc, (Builtin.copy_ #[26, 26] ty #[.slice (some ⟨w.heap.size, i * 2, none⟩) (l.length + 1 - i) dc, .slice (some ⟨vb, 0, none⟩) 1 vc]).run Tryd.prog W = .ok (goInt ((1 : Nat) : Int)) (W.setRow w.heap.size c1) := fun W hWh ty dc => by
      rw [hc1]
      exact run_copy_rows (n := 2) W _ _ ty 57 w.heap.size (i * 2) (l.length + 1 - i) dc ⟨vb, 0, none⟩ 1 vc 1 ROW _ X Tryd.underlying26 hsz (by rw [hWh]; exact hgN) (by simp only [Nat.min_def]; split <;> omega) (by rw [hXl])
        (fun j u hj => by
          have := hXv j u hj
          rw [addr_add, Nat.zero_add] at this ⊢
          unfold World.cell? at this ⊢
          rw [hWh, hge _ hvl]; exact this) (by rw [hRs, hXl]; omega) h1X
    have hcpB : ∀ (W : World), (∀ k, W.heap[k]? = ((w.drew.alloc (.cells ROW 57)).setRow w.heap.size c1).heap[k]?) → ∀ ty dc sc, (Builtin.copy_ #[26, 26] ty #[.slice (some ⟨w.heap.size, (i + 1) * 2, none⟩) (l.length + 1 - (i + 1)) dc, .slice (some ⟨g, i * 2, none⟩) (l.length - i) sc]).run Tryd.prog W = .ok (goInt ((l.length - i : Nat) : Int)) (W.setRow w.heap.size c2) := fun W hWh ty dc sc => by
      rw [hc2]
      exact run_copy_rows (n := 2) W _ _ ty 57 w.heap.size ((i + 1) * 2) (l.length + 1 - (i + 1)) dc ⟨g, i * 2, none⟩ (l.length - i) sc (l.length - i) c1 _ B Tryd.underlying26 hsz (by rw [hWh]; exact setRow_heap _ _ ROW _ _ _ hgN) (by simp only [Nat.min_def]; split <;> omega) hBl
        (fun j u hj => by
          have := hcurB j u hj
          rw [addr_add] at this ⊢
          unfold World.cell? at this ⊢
          rw [hWh, setRow_ne (Nat.ne_of_lt hgl), hge _ hgl]; exact this) (by rw [hs1, hRs]; omega) h1B
    have hFIN : Hid (∀ W : World, (∀ k, W.heap[k]? = ((w.drew.alloc (.cells ROW 57)).setRow w.heap.size c1).heap[k]?) → Since base w W → Lst 57 2 Setting.cell (W.setRow w.heap.size c2) base (.slice (some ⟨w.heap.size, 0, none⟩) (l.length + 1) G) (l.take i ++ x :: l.drop i) ∧ Since base w (W.setRow w.heap.size c2)) := fun W hWh hsi => by
      refine ⟨?_, hsi.trans (since_setRow c2 hb)⟩
      unfold Lst
      rw [hfin, hlen]
      exact own_of_row_set (setRow_heap W w.heap.size c1 _ _ _ (by rw [hWh]; exact setRow_heap _ _ ROW _ _ _ hgN)) hb hGn hGm hS2 hxl hT2
    have hSI : Hid (Since base w (((w.alloc (.cells ROW 57)).drew.setRow w.heap.size c1).drew)) := (((((Since.refl base w).alloc _).drew).trans (since_setRow c1 hb)).drew)
    have hE1 : ∀ k : Nat, ((w.alloc (.cells ROW 57)).drew).heap[k]? = (w.drew.alloc (.cells ROW 57)).heap[k]? := fun _ => rfl
    have hF1 : ∀ k : Nat, (((w.alloc (.cells ROW 57)).drew.setRow w.heap.size c1).drew).heap[k]? = ((w.drew.alloc (.cells ROW 57)).setRow w.heap.size c1).heap[k]? := fun _ => rfl
    have hGi : ¬ (G = i) := by omega
    have hGim : ¬ (G = i + 1) := by omega
    have hci : ¬ (l.length = i) := by omega
    have hb1 : (0 : Int) ≤ (i : Int) + 1 := by omega
    have hb3 : (i : Int) ≤ (l.length : Int) := by omega
    have hz3 : (l.length : Int) < (l.length : Int) + 1 := by omega
    have mixed : Tryd.prog.follows .mixedOrders = true := by kernel_rfl
    obtain ⟨bs, hbs⟩ : ∃ bs, bs = w.heap.size := ⟨_, rfl⟩
    clear hic hT2 hS2 hc1l hc2l hc1 hc2 ht hs hh hO hV hcv hcell hR hvb hA hB hX hBl hAl hXl hAB h1B h1X hXv hcurB hfin hlen hxl hs1 e1 e2 e3 e4 e5 hsz hl hvl hne hm hgA hold hik hkk hROW hG hZ hZl hRl hRs hge hgN hgl hi0 hz0 hzs hzb hzc hbs bs
    go_enter Tryd.func32, Tryd.ntmps32
    go_wp2_with (first
      | (at_builtin; refine Lib.wpList_append_run _ rfl _ _ _ _ rfl _ _ rfl rfl _ _ (hrz _) ?_)
      | (at_builtin; refine wpList_copy_runI _ rfl _ _ 26 26 rfl _ _ rfl rfl (hcpA _ hE1 _ _) ?_)
      | (at_builtin; refine wpList_copy_runI _ rfl _ _ 26 26 rfl _ _ rfl rfl (hcpB _ (fun _ => rfl) _ _ _) ?_))
    go_region_law_o (refine step_copy_runI rfl _ _ 26 26 rfl (.slice (some ⟨w.heap.size, (i + 1) * 2, none⟩) (l.length + 1 - (i + 1)) (G - (i + 1))) (.slice (some ⟨g, i * 2, none⟩) (l.length - i) (l.length - i)) (by simp [Act.eval, Act.put]) (by simp [Act.eval, Act.put]) (hcpB _ hF1 3 (G - (i + 1)) (l.length - i)) ?_)
    go_wp2
    go_ret
    exact ⟨_, rfl, hFIN.out _ hF1 hSI.out⟩
set_option maxRecDepth 100000 in
set_option maxHeartbeats 4000000 in
theorem BSSetting_any (a : Option Addr) (cap : Nat) (l : List Setting) (F : FuncId) (y : Setting) (c : Setting → Int) (w : World) (eg : Enters Tryd.prog F) (H : SettingAt w a l) (hlen : l.length ≤ 1048576)
    (hf : ∀ k w', k < l.length → Ext w w' → Gives Tryd.prog F #[.agg #[.string (nth l k).name, .int .i64 (nth l k).value], .agg #[.string y.name, .int .i64 y.value]] w' (.int .i64 (c (nth l k))))
    (hm : ∀ i j, i ≤ j → j < l.length → c (nth l j) < 0 → c (nth l i) < 0) :
    Gives Tryd.prog 30 #[.slice a l.length cap, .agg #[.string y.name, .int .i64 y.value], .func (.func F) #[] #[]] w (.tuple #[.int .i64 (lowB c l : Nat), .bool (hitB c l)]) := by
  unfold Gives
  have HF := Lib.hid hf
  have HM := Lib.hid hm
  clear hf hm
  unfold Enters at eg
  obtain ⟨w1, hw1⟩ : ∃ w1, w1 = w.alloc (.cells #[.string y.name, .int .i64 y.value] 57) := ⟨_, rfl⟩
  have E0 : Ext w w1 := by rw [hw1]; exact (Ext.refl w).alloc _
  have xl : w.heap.size < w1.heap.size := by rw [hw1, size_new]; omega
  have xv0 : Hid (w1.cell? ⟨w.heap.size, 0, none⟩ = some (.string y.name)) := by show _ = _; rw [hw1, cell_new]; rfl
  have xv1 : Hid (w1.cell? ⟨w.heap.size, 1, none⟩ = some (.int .i64 y.value)) := by show _ = _; rw [hw1, cell_new]; rfl
  go_enter Tryd.func30, Tryd.ntmps30
  go_wp2_with fail
  rw [← hw1]
  clear hw1
  go_loopg [9, 10] l.length (fun g s9 s10 wr => ∃ lo hi : Nat, s9 = .int .i64 lo ∧ s10 = .int .i64 hi ∧ lo ≤ hi ∧ hi ≤ l.length ∧ hi - lo ≤ g ∧ Hid (∀ t, t < lo → c (nth l t) < 0) ∧ Hid (∀ t, hi ≤ t → t < l.length → 0 ≤ c (nth l t)) ∧ Ext w1 wr)
  case atStart => exact ⟨0, l.length, rfl, rfl, Nat.zero_le _, Nat.le_refl _, by omega, fun t ht => absurd ht (Nat.not_lt_zero _), fun t h1 h2 => by omega, Ext.refl w1⟩
  case round =>
    obtain ⟨lo, hi, rfl, rfl, hlh, hin, hg, hL, hH, he⟩ := hrel
    have xb := Nat.lt_of_lt_of_le xl he.size
    have xd0 := he.cell xv0.out
    have xd1 := he.cell xv1.out
    have heh := Lib.hid he
    by_cases hlt : lo < hi
    · obtain ⟨m, hmid⟩ : ∃ m, m = (lo + hi) / 2 := ⟨_, rfl⟩
      have hml : m < l.length := by omega
      obtain ⟨b, off, rfl⟩ := H.base hml
      obtain ⟨hb, c0, c1⟩ := Setting.at (H.ext (E0.trans he)) m hml
      have hmi : ((lo : Int) + (hi : Int)) / 2 = (m : Int) := by omega
      have hmn : (lo + hi) / 2 = m := by omega
      have hlm : lo ≤ m ∧ m < hi := by omega
      clear H hmid he
      by_cases hyx : c (nth l m) < 0
      · have hd : decide (c (nth l m) < 0) = true := decide_eq_true hyx
        go_wp2_with (simp only [hmi, hmn])
        refine region_quiet (by kernel_rfl) (by kernel_rfl) ?_
        repeat (any_goals (first | go_big_quiet_step ((exact Gives.quiet (HF.out m _ hml ((E0.trans heh.out).lift _)))) | quiet_step ((exact Gives.quiet (HF.out m _ hml ((E0.trans heh.out).lift _))))))
        refine wpQuiet_nil ?_
        intro _ hw'
        obtain ⟨y, hw''⟩ := hw'
        subst hw''
        go_wp2_with fail
        go_roundg (hi - (m + 1))
        case measure => omega
        case rel =>
          have hL2 : Hid (∀ t, t < m + 1 → c (nth l t) < 0) := fun t ht => HM.out t m (by omega) hml hyx
          exact ⟨m + 1, hi, by go_num, rfl, by omega, hin, Nat.le_refl _, hL2, hH, heh.out.lift _⟩
      · have hd : decide (c (nth l m) < 0) = false := decide_eq_false hyx
        go_wp2_with (simp only [hmi, hmn])
        refine region_quiet (by kernel_rfl) (by kernel_rfl) ?_
        repeat (any_goals (first | go_big_quiet_step ((exact Gives.quiet (HF.out m _ hml ((E0.trans heh.out).lift _)))) | quiet_step ((exact Gives.quiet (HF.out m _ hml ((E0.trans heh.out).lift _))))))
        refine wpQuiet_nil ?_
        intro _ hw'
        obtain ⟨y, hw''⟩ := hw'
        subst hw''
        go_wp2_with fail
        go_roundg (m - lo)
        case measure => omega
        case rel =>
          have hH2 : Hid (∀ t, m ≤ t → t < l.length → 0 ≤ c (nth l t)) := fun t ht htn => Int.not_lt.1 fun h => by have := HM.out m t ht htn h; omega
          exact ⟨lo, m, rfl, rfl, by omega, by omega, Nat.le_refl _, hL, hH2, heh.out.lift _⟩
    · obtain rfl : hi = lo := by omega
      have hk := lowB_eq hin hL.out hH.out
      by_cases hn : hi < l.length
      · obtain ⟨b, off, rfl⟩ := H.base hn
        obtain ⟨hb, c0, c1⟩ := Setting.at (H.ext (E0.trans he)) hi hn
        cases hz : (c (nth l hi) == 0)
        all_goals
          have hv := Lib.hid (hitB_at hk hn hz)
          have hk' := Lib.hid hk
          clear H hk he
          go_wp2_with fail
          refine region_quiet (by kernel_rfl) (by kernel_rfl) ?_
          repeat (any_goals (first | go_big_quiet_step ((exact Gives.quiet (HF.out hi _ hn ((E0.trans heh.out).lift _)))) | quiet_step ((exact Gives.quiet (HF.out hi _ hn ((E0.trans heh.out).lift _))))))
          refine wpQuiet_nil ?_
          intro _ hw'
          obtain ⟨y, hw''⟩ := hw'
          subst hw''
          go_wp2_with fail
          go_ret2
          exact ⟨ret_ib hk'.out hv.out, (E0.trans heh.out).lift _⟩
      · have hv := Lib.hid (hitB_end hk hn)
        have hk' := Lib.hid hk
        clear H hk he
        go_wp2_with fail
        refine region_quiet (by kernel_rfl) (by kernel_rfl) ?_
        repeat (any_goals (first | go_big_quiet_step ((fail)) | quiet_step ((fail))))
        refine wpQuiet_nil ?_
        intro _ hw'
        obtain ⟨y, hw''⟩ := hw'
        subst hw''
        go_wp2_with fail
        go_ret2
        exact ⟨ret_ib hk'.out hv.out, (E0.trans heh.out).lift _⟩
theorem compareSettings_any (x y : Setting) (w : World) : Gives Tryd.prog 31 #[.agg #[.string x.name, .int .i64 x.value], .agg #[.string y.name, .int .i64 y.value]] w (.int .i64 (cmpS x.name y.name)) := by
  unfold Gives
  go_enter Tryd.func31, Tryd.ntmps31
  go_wp2_with fail
  first
    | (refine (CompareS_any _ _ _).mono ?_; rintro e w' ⟨rfl, rfl⟩)
    | (refine region_quiet (by kernel_rfl) (by kernel_rfl) ?_
       repeat (any_goals (first | go_big_quiet_step ((exact Gives.quiet (Gives.same (CompareS_any _ _ _)))) | quiet_step ((exact Gives.quiet (Gives.same (CompareS_any _ _ _))))))
       refine wpQuiet_nil ?_
       intro _ hw'
       obtain ⟨y, hw''⟩ := hw'
       subst hw'')
  go_wp2_with fail
  go_ret
  exact ⟨rfl, (by repeat (first | exact Ext.refl _ | refine Ext.lift ?_ _ | refine Ext.alloc ?_ _))⟩
end Go.Proofs.YtbcpgdidajapoaaDoor
