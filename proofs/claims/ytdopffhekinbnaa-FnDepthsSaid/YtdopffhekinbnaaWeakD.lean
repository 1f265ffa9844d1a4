/- WeakDepth: what the program and the reference hand back. -/
import Derived.Test.YtdopffhekinbnaaClass
import Derived.Test.YtdopffhekinbnaaWeak
import Derived.Test.YtdopffhekinbnaaSortI
namespace Go.Proofs.Ytdopffhekinbnaa
open Go.RowKit
/-- The depths of the weak tests among the first k. -/
def weakTo (l : List Test) : Nat → List Int
  | 0 => []
  | k + 1 => if classV (nth l k) ≤ 2 then weakTo l k ++ [(nth l k).depth] else weakTo l k
theorem weakTo_y {l : List Test} {k : Nat} (h : classV (nth l k) ≤ 2) : weakTo l (k + 1) = weakTo l k ++ [(nth l k).depth] := if_pos h
theorem weakTo_n {l : List Test} {k : Nat} (h : ¬ classV (nth l k) ≤ 2) : weakTo l (k + 1) = weakTo l k := if_neg h
theorem weakTo_len (l : List Test) : ∀ k, (weakTo l k).length ≤ k
  | 0 => Nat.le_refl _
  | k + 1 => by
    have := weakTo_len l k
    unfold weakTo; split
    · rw [List.length_append]; simp; omega
    · omega
theorem weakTo_mem {l : List Test} (h : ∀ k, k < l.length → 1 ≤ (nth l k).depth ∧ (nth l k).depth ≤ 300) : ∀ k, k ≤ l.length → ∀ d ∈ weakTo l k, 1 ≤ d ∧ d ≤ 300
  | 0, _, d, hd => by cases hd
  | k + 1, hk, d, hd => by
    unfold weakTo at hd; split at hd
    · rcases List.mem_append.1 hd with h1 | h1
      · exact weakTo_mem h k (by omega) d h1
      · obtain rfl : d = (nth l k).depth := by simpa using h1
        exact h k (by omega)
    · exact weakTo_mem h k (by omega) d hd
theorem nearN_snoc (D : List Int) (x near d : Int) : nearN (D ++ [x]) near d = nearN D near d + (if -near ≤ x - d ∧ x - d ≤ near then 1 else 0) := by
  unfold nearN
  rw [List.countP_append, List.countP_singleton]
  simp only [decide_eq_true_eq]
theorem nearN_le (D : List Int) (near d : Int) : nearN D near d ≤ D.length := List.countP_le_length
def weakC (l : List Test) (near : Int) : Int := if testList l = true then (if inB near 0 300 = true then (if (topTo (nearN (weakTo l l.length) near) (weakTo l l.length)).2 = 0 then 3 else 0) else 2) else 1
def weakB (l : List Test) (near : Int) : Int := if weakC l near = 0 then (topTo (nearN (weakTo l l.length) near) (weakTo l l.length)).1 else 0
def weakM (l : List Test) (near : Int) : Int := if weakC l near = 0 then ((topTo (nearN (weakTo l l.length) near) (weakTo l l.length)).2 : Nat) else 0
section
variable {l : List Test} {near : Int}
theorem weak_1 (h : testList l = false) : weakC l near = 1 ∧ weakB l near = 0 ∧ weakM l near = 0 := by
  have : weakC l near = 1 := if_neg (by rw [h]; decide)
  exact ⟨this, if_neg (by rw [this]; decide), if_neg (by rw [this]; decide)⟩
theorem weak_2 (h : testList l = true) (h2 : inB near 0 300 = false) : weakC l near = 2 ∧ weakB l near = 0 ∧ weakM l near = 0 := by
  have : weakC l near = 2 := by unfold weakC; rw [if_pos h, if_neg (by rw [h2]; decide)]
  exact ⟨this, if_neg (by rw [this]; decide), if_neg (by rw [this]; decide)⟩
theorem weak_3 (h : testList l = true) (h2 : inB near 0 300 = true) {p : Int × Nat} (hp : topTo (nearN (weakTo l l.length) near) (weakTo l l.length) = p) (h3 : p.2 = 0) : weakC l near = 3 ∧ weakB l near = 0 ∧ weakM l near = 0 := by
  have : weakC l near = 3 := by unfold weakC; rw [if_pos h, if_pos h2, hp, if_pos h3]
  exact ⟨this, if_neg (by rw [this]; decide), if_neg (by rw [this]; decide)⟩
theorem weak_0 (h : testList l = true) (h2 : inB near 0 300 = true) {p : Int × Nat} (hp : topTo (nearN (weakTo l l.length) near) (weakTo l l.length) = p) (h3 : p.2 ≠ 0) : weakC l near = 0 ∧ weakB l near = p.1 ∧ weakM l near = (p.2 : Nat) := by
  have : weakC l near = 0 := by unfold weakC; rw [if_pos h, if_pos h2, hp, if_neg h3]
  exact ⟨this, by unfold weakB; rw [if_pos this, hp], by unfold weakM; rw [if_pos this, hp]⟩
end
theorem ret_three {a b c x y z : Int} (h1 : a = x) (h2 : b = y) (h3 : c = z) : Ending.returned (.tuple #[.int .i64 a, .int .i64 b, .int .i64 c]) = .returned (.tuple #[.int .i64 x, .int .i64 y, .int .i64 z]) := by subst h1 h2 h3; rfl
theorem abs_near {x d near : Int} : absI (x - d) ≤ near ↔ (-near ≤ x - d ∧ x - d ≤ near) := by unfold absI; split <;> omega
/-- Among the first i depths of a list: the program's loop. -/
theorem upTo_take {N : Int → Nat} {S : List Int} {i : Nat} (h : i < S.length) : upTo N (S.take (i + 1)) = if (upTo N (S.take i)).2 < N (nth S i) then (nth S i, N (nth S i)) else upTo N (S.take i) := by
  rw [List.take_succ_eq_append_getElem h, ← nth_eq S i h, upTo_snoc]
theorem nearN_take {S : List Int} {i : Nat} (h : i < S.length) (near d : Int) : nearN (S.take (i + 1)) near d = nearN (S.take i) near d + (if -near ≤ nth S i - d ∧ nth S i - d ≤ near then 1 else 0) := by
  rw [List.take_succ_eq_append_getElem h, ← nth_eq S i h, nearN_snoc]
theorem nearOk_any (n : Int) (w : World) : Calls Try.prog 28 #[.int .i64 n] w fun e w' => e = .returned (.bool (inB n 0 300)) ∧ w' = w := by
  go_enter Try.func28, Try.ntmps28
  go_wp2_with (go_at_call 46; refine (within_any _ _ _ _).mono ?_; rintro e w' ⟨rfl, rfl⟩)
  go_ret
  exact ⟨rfl, rfl⟩
theorem l08Near_any (n : Int) (w : World) : Calls Try.prog 23 #[.int .i64 n] w fun e w' => e = .returned (.bool (inB n 0 300)) ∧ w' = w := by
  go_enter Try.func23, Try.ntmps23
  go_wp2_with (go_at_call 44; refine (l00In_any _ _ _ _).mono ?_; rintro e w' ⟨rfl, rfl⟩)
  go_ret
  exact ⟨rfl, rfl⟩
set_option maxRecDepth 100000 in
set_option maxHeartbeats 4000000 in
theorem implWeakDepth_any (w : World) (a : Option Addr) (cap : Nat) (l : List Test) (H : TestAt w a l) (hsz : ∀ k, k < l.length → (nth l k).Small) (hn : l.length ≤ 1048576) (hcap : l.length ≤ cap) (near : Int) :
    Gives Try.prog 18 #[.slice a l.length cap, .int .i64 near] w (.tuple #[.int .i64 (weakB l near), .int .i64 (weakM l near), .int .i64 (weakC l near)]) := by
  unfold Gives
  have _ := hcap
  have HA := Lib.hid H
  have HV := Lib.hid fun (w' : World) (he : Ext w w') => ValidTests_any a cap l w' (H.ext he) hsz hn
  have HN := Lib.hid fun (w' : World) => nearOk_any near w'
  clear H hsz
  cases h1 : testList l
  · have hv := Lib.hid (weak_1 (near := near) h1)
    rw [h1] at HV
    clear h1
    go_enter Try.func18, Try.ntmps18
    go_wp2_with (go_at_call 27; refine (HV.out _ (by repeat (first | exact Ext.refl _ | refine Ext.lift ?_ _ | refine Ext.alloc ?_ _))).mono ?_; rintro e w' ⟨rfl, y, rfl⟩)
    go_ret3
    exact ⟨ret_three hv.out.2.1.symm hv.out.2.2.symm hv.out.1.symm, (by repeat (first | exact Ext.refl _ | refine Ext.lift ?_ _ | refine Ext.alloc ?_ _))⟩
  rw [h1] at HV
  cases h2 : inB near 0 300
  · have hv := Lib.hid (weak_2 (near := near) h1 h2)
    rw [h2] at HN
    clear h1 h2
    go_enter Try.func18, Try.ntmps18
    go_wp2_with (first | (go_at_call 27; refine (HV.out _ (by repeat (first | exact Ext.refl _ | refine Ext.lift ?_ _ | refine Ext.alloc ?_ _))).mono ?_; rintro e w' ⟨rfl, y, rfl⟩) | (go_at_call 28; refine (HN.out _).mono ?_; rintro e w' ⟨rfl, hw⟩; subst hw))
    go_ret3
    exact ⟨ret_three hv.out.2.1.symm hv.out.2.2.symm hv.out.1.symm, (by repeat (first | exact Ext.refl _ | refine Ext.lift ?_ _ | refine Ext.alloc ?_ _))⟩
  rw [h2] at HN
  obtain ⟨n0, n1⟩ := inB_iff.1 h2
  have hl16 := testList_len h1
  have hone := Lib.hid (vAll_one h1)
  have hdep := Lib.hid fun k (hk : k < l.length) => (testB_bd (vAll_one h1 k hk)).2.1
  have hpp := Lib.hid fun p hp h3 => weak_3 (p := p) h1 h2 hp h3
  have hpq := Lib.hid fun p hp h3 => weak_0 (p := p) h1 h2 hp h3
  clear h1 h2
  go_enter Try.func18, Try.ntmps18
  go_wp2_with (first | (go_at_call 27; refine (HV.out _ (by repeat (first | exact Ext.refl _ | refine Ext.lift ?_ _ | refine Ext.alloc ?_ _))).mono ?_; rintro e w' ⟨rfl, y, rfl⟩) | (go_at_call 28; refine (HN.out _).mono ?_; rintro e w' ⟨rfl, hw⟩; subst hw))
  clear HV HN
  go_loopw [7, 27] (fun o i wr => ∃ (j : Nat) (acc : List Int), j ≤ l.length ∧ i = .int .i64 j ∧ acc.length ≤ j ∧ Hid (acc = weakTo l j) ∧ Hid (Lst 2 1 celI wr w.heap.size o acc) ∧ Ext w wr) (fun _ i _ => l.length - (intOf i).toNat)
  case atStart => exact ⟨0, [], Nat.zero_le _, rfl, Nat.le_refl _, rfl, Lst.nil _ _, (by repeat (first | exact Ext.refl _ | refine Ext.lift ?_ _ | refine Ext.alloc ?_ _))⟩
  case round =>
    obtain ⟨j, acc, hj, rfl, hal, hst, HL, he⟩ := hrel
    by_cases hlt : j < l.length
    · obtain ⟨b, off, rfl⟩ := HA.out.base hlt
      obtain ⟨hb, c0, c1, c2, c3, c4⟩ := Test.at (HA.out.ext he) j hlt
      obtain ⟨W, hW⟩ : ∃ W, W = wr.alloc (.cells #[.int .i64 (nth l j).kind, .int .i64 (nth l j).score, .int .i64 (nth l j).quality, .int .i64 (nth l j).depth, .int .i64 (nth l j).hour] 41) := ⟨_, rfl⟩
      have hWE : Ext wr W := by rw [hW]; exact (Ext.refl wr).alloc _
      have x0 : W.cell? ⟨wr.heap.size, 0, none⟩ = some (.int .i64 (nth l j).kind) := by rw [hW, cell_new]; rfl
      have x1 : W.cell? ⟨wr.heap.size, 1, none⟩ = some (.int .i64 (nth l j).score) := by rw [hW, cell_new]; rfl
      have x2 : W.cell? ⟨wr.heap.size, 2, none⟩ = some (.int .i64 (nth l j).quality) := by rw [hW, cell_new]; rfl
      have x3 : W.cell? ⟨wr.heap.size, 3, none⟩ = some (.int .i64 (nth l j).depth) := by rw [hW, cell_new]; rfl
      have x4 : W.cell? ⟨wr.heap.size, 4, none⟩ = some (.int .i64 (nth l j).hour) := by rw [hW, cell_new]; rfl
      have hxl : wr.heap.size < W.heap.size := by rw [hW, size_new]; omega
      have HC := Lib.hid (Test_class (nth l j) W (hone.out j hlt))
      have hE := Lib.hid (he.trans hWE)
      have HL2 := Lib.hid (HL.out.ext hWE)
      have hW' := Lib.hid hW
      go_wp2_with fail
      rw [← hW]
      go_wp2_with fail
      clear hW hW' c0 c1 c2 c3 c4 hb HL he hWE
      refine HC.out.mono ?_
      rintro e w2 ⟨rfl, y2, rfl⟩
      clear HC
      by_cases hk : classV (nth l j) ≤ 2
      · have hn2 : Hid (acc ++ [(nth l j).depth] = weakTo l (j + 1)) := by show _ = _; rw [weakTo_y hk, ← hst.out]
        have x3' := ((Ext.refl W).lift y2).cell x3
        have hxl' := Nat.lt_of_lt_of_le hxl ((Ext.refl W).lift y2).size
        replace HL2 := Lib.hid (HL2.out.ext ((Ext.refl W).lift y2))
        replace hE := Lib.hid (hE.out.lift y2)
        clear x0 x1 x2 x3 x4 hxl hst
        generalize lift W y2 = W3 at *
        have L3 := Lib.hid (HL2.out.ext ((Ext.refl W3).alloc (.cells #[.int .i64 (nth l j).depth] 2)))
        have HR := Lib.hid (rows_int (T := 2) W3 (nth l j).depth rfl)
        have hz4 : w.heap.size ≤ (W3.alloc (.cells #[.int .i64 (nth l j).depth] 2)).heap.size := by rw [size_new]; have := hE.out.size; omega
        have E4 := Lib.hid (hE.out.alloc (.cells #[.int .i64 (nth l j).depth] 2))
        clear HL2 hE
        try dsimp only
        repeat (first | (at_builtin; refine Hid.out ?_) | go_values | go_skip | go_guarded | go_step | go_upon | go_back)
        refine Lib.hid ?_
        refine wpList_pushL elI oneI rfl _ _ rfl w.heap.size _ _ (by rfl) L3.out _ 1 1 [(nth l j).depth] rfl (by rfl) HR.out (by first | omega | (simp; omega)) (by first | omega | (simp; omega)) hz4 ?_
        intro v' w3 HL3 hs3 _
        have L5 := Lib.hid HL3
        have E5 := Lib.hid (hs3.ext E4.out (Nat.le_refl _))
        clear HL3 hs3 L3 HR E4 hz4
        clear x3' hxl'
        go_wp2_with fail
        go_roundw
        case rel => exact ⟨j + 1, acc ++ [(nth l j).depth], by omega, by go_num, by rw [List.length_append]; simp; omega, hn2.out, L5.out, E5.out⟩
        case measure => simp [intOf]; omega
      · have hn2 : Hid (acc = weakTo l (j + 1)) := by show _ = _; rw [weakTo_n hk, ← hst.out]
        have hk2 : 2 < classV (nth l j) := by omega
        clear hst
        go_wp2_with fail
        go_roundw
        case rel => exact ⟨j + 1, acc, by omega, by go_num, by omega, hn2.out, HL2.out.ext ((Ext.refl W).lift y2), hE.out.lift y2⟩
        case measure => simp [intOf]; omega
    · obtain rfl : j = l.length := by omega
      obtain ⟨a', cap', rfl, hc', -, -, -⟩ := HL.out.shape
      have hE := Lib.hid he
      have HS := Lib.hid (SortI_any wr w.heap.size a' cap' acc HL.out (by omega))
      have hmem := Lib.hid (weakTo_mem hdep.out l.length (Nat.le_refl _))
      rw [← hst.out] at hmem
      have hpos : Hid (∀ d ∈ acc, 0 < nearN acc near d) := fun d hd => nearN_self hd n0
      have hup : Hid (upTo (nearN (sortI acc) near) (sortI acc) = topTo (nearN acc near) acc) := by
        show _ = _
        have e : nearN (sortI acc) near = nearN acc near := funext fun d => nearN_perm (sortI_perm acc) near d
        rw [e]
        exact upTo_topTo (sortI_perm acc) (sortI_up acc) hpos.out
      have hp3 := Lib.hid fun p hp => hpp.out p (by rw [← hst.out]; exact hp)
      have hp0 := Lib.hid fun p hp => hpq.out p (by rw [← hst.out]; exact hp)
      have hal16 : acc.length ≤ 16 := by omega
      clear hst HL he hal hpp hpq HA hone hdep
      go_wp2_with fail
      refine HS.out.mono ?_
      rintro e w2 ⟨rfl, HL2, -, hs2⟩
      have hE2 := Lib.hid (hs2.ext hE.out (Nat.le_refl _))
      have hsl := sortI_len acc
      have hsm : Hid (∀ k, k < (sortI acc).length → 1 ≤ nth (sortI acc) k ∧ nth (sortI acc) k ≤ 300) := fun k hk => hmem.out _ ((sortI_perm acc).mem_iff.1 (nth_mem hk))
      have HL3 : Lst 2 1 celI w2 w.heap.size (.slice a' (sortI acc).length cap') (sortI acc) := by rw [hsl]; exact HL2
      obtain ⟨a3, cap3, e3, hc3, -, hR3, -⟩ := HL3.shape
      simp only [Value.slice.injEq, true_and] at e3
      obtain ⟨rfl, rfl⟩ := e3
      have HR : Hid (IntAt w2 a' (sortI acc)) := hR3
      have hlenS := Lib.hid hsl
      obtain ⟨S, hS⟩ : ∃ S, S = sortI acc := ⟨_, rfl⟩
      rw [← hS] at HR hsm hup hlenS
      rw [← hlenS.out] at hal16
      rw [← hlenS.out]
      clear HL2 HL3 hs2 HS hE hsl hR3 hc3 hS hpos hmem hc'
      go_wp2_with fail
      go_loopw [10, 11, 44] (fun be mo i wr => ∃ (q : Nat) (p : Int × Nat), q ≤ S.length ∧ i = .int .i64 q ∧ be = .int .i64 p.1 ∧ mo = .int .i64 (p.2 : Nat) ∧ p.2 ≤ 16 ∧ Hid (p = upTo (nearN S near) (S.take q)) ∧ Ext w2 wr) (fun _ _ i _ => S.length - (intOf i).toNat)
      case atStart => exact ⟨0, (0, 0), Nat.zero_le _, rfl, rfl, rfl, by simp, rfl, Ext.refl _⟩
      case round =>
        obtain ⟨q, p, hq, rfl, rfl, rfl, hp16, hpt, he⟩ := hrel
        obtain ⟨wo, hwo⟩ : ∃ wo, wo = wr := ⟨_, rfl⟩
        subst hwo
        by_cases hqt : q < S.length
        · obtain ⟨b, off, rfl⟩ := HR.out.base hqt
          obtain ⟨hb, c0⟩ := IntAt.at (HR.out.ext he) q hqt
          obtain ⟨d0, d1⟩ := hsm.out q hqt
          have hdl : decide ((q : Int) < (S.length : Int)) = true := decide_eq_true (by omega)
          go_wp2_with fail
          clear c0 hb
          go_loopw [14, 50] (fun c i wr => ∃ m : Nat, m ≤ S.length ∧ i = .int .i64 m ∧ c = .int .i64 (nearN (S.take m) near (nth S q) : Nat) ∧ Ext wo wr) (fun _ i _ => S.length - (intOf i).toNat)
          case atStart => exact ⟨0, Nat.zero_le _, rfl, rfl, Ext.refl _⟩
          case round =>
            obtain ⟨m, hm, rfl, rfl, he2⟩ := hrel
            have hnl := nearN_le (S.take m) near (nth S q)
            rw [List.length_take] at hnl
            by_cases hmt : m < S.length
            · obtain ⟨hb, c1⟩ := IntAt.at (HR.out.ext (he.trans he2)) m hmt
              obtain ⟨e0, e1⟩ := hsm.out m hmt
              have hnx := Lib.hid (nearN_take hmt near (nth S q))
              by_cases hc : absI (nth S m - nth S q) ≤ near
              · have hn2 : Hid (nearN (S.take (m + 1)) near (nth S q) = nearN (S.take m) near (nth S q) + 1) := by show _ = _; rw [hnx.out, if_pos (abs_near.1 hc)]
                clear hnx
                go_wp2_with (go_at_call 41; refine (abs_any _ _ (by omega) (by omega)).mono ?_; rintro e w' ⟨rfl, hw⟩; subst hw)
                go_roundw
                case rel => exact ⟨m + 1, by omega, by go_num, by rw [hn2.out]; simp, he2⟩
                case measure => simp [intOf]; omega
              · have hn2 : Hid (nearN (S.take (m + 1)) near (nth S q) = nearN (S.take m) near (nth S q)) := by show _ = _; rw [hnx.out, if_neg (fun h => hc (abs_near.2 h))]; rfl
                have hc' : near < absI (nth S m - nth S q) := by omega
                clear hnx hc
                go_wp2_with (go_at_call 41; refine (abs_any _ _ (by omega) (by omega)).mono ?_; rintro e w' ⟨rfl, hw⟩; subst hw)
                go_roundw
                case rel => exact ⟨m + 1, by omega, by go_num, by rw [hn2.out], he2⟩
                case measure => simp [intOf]; omega
            · obtain rfl : m = S.length := by omega
              rw [List.take_length]
              rw [List.take_length] at hnl
              have hut := Lib.hid (upTo_take (N := nearN S near) hqt)
              rw [← hpt.out] at hut
              obtain ⟨N, hN⟩ : ∃ N, N = nearN S near (nth S q) := ⟨_, rfl⟩
              rw [← hN] at hnl hut ⊢
              have hE2 := Lib.hid (he.trans he2)
              clear hpt hN he he2
              by_cases hc : p.2 < N
              · have hn2 : Hid ((nth S q, N) = upTo (nearN S near) (S.take (q + 1))) := by show _ = _; rw [hut.out, if_pos hc]
                clear hut
                go_wp2_with fail
                go_roundw
                case rel => exact ⟨q + 1, (nth S q, N), by omega, by go_num, rfl, rfl, by show N ≤ 16; omega, hn2.out, hE2.out⟩
                case measure => simp [intOf]; omega
              · have hn2 : Hid (p = upTo (nearN S near) (S.take (q + 1))) := by show _ = _; rw [hut.out, if_neg hc]
                have hc' : N ≤ p.2 := by omega
                clear hut hc
                go_wp2_with fail
                go_roundw
                case rel => exact ⟨q + 1, p, by omega, by go_num, rfl, rfl, hp16, hn2.out, hE2.out⟩
                case measure => simp [intOf]; omega
        · obtain rfl : q = S.length := by omega
          rw [List.take_length, hup.out] at hpt
          have hE3 := Lib.hid (hE2.out.trans he)
          clear he
          by_cases h0 : p.2 = 0
          · have hv := Lib.hid (hp3.out p hpt.out.symm h0)
            have hz : (((p.2 : Nat) : Int) == 0) = true := by rw [h0]; rfl
            clear hpt h0
            go_wp2_with fail
            go_ret3
            exact ⟨ret_three hv.out.2.1.symm hv.out.2.2.symm hv.out.1.symm, hE3.out⟩
          · have hv := Lib.hid (hp0.out p hpt.out.symm h0)
            have hz : (((p.2 : Nat) : Int) == 0) = false := beq_eq_false_iff_ne.2 (by omega)
            clear hpt h0
            go_wp2_with fail
            go_ret3
            exact ⟨ret_three hv.out.2.1.symm hv.out.2.2.symm hv.out.1.symm, hE3.out⟩
end Go.Proofs.Ytdopffhekinbnaa
