/- The incidents that the reference draws. -/
import Derived.Test.YtndkcgiadpdcjaaDrawInc
import Derived.Test.YtndkcgiadpdcjaaAddIncL
import Derived.Test.YtndkcgiadpdcjaaSrch
namespace Go.Proofs.Ytndkcgiadpdcjaa
open Go.RowKit
theorem Dr.grown {w W W' : World} {sb : Nat} {a : Option Addr} {cap : Nat} {code : List Int} {n : Nat} {row : Option Nat} (h : Dr w W sb a cap code n) (hg : W.grownBy W' row) (hr : ∀ g, row = some g → w.heap.size ≤ g) : Dr w W' sb a cap code n :=
  ⟨h.src.grown hg hr h.lt h.by0 (Nat.le_refl _), h.mv.grown hg hr, h.by0, h.lt⟩
def AllN (l : List Incident) : Prop := ∀ y, y ∈ l → IncN y
theorem AllN.nil : AllN [] := fun _ h => absurd h List.not_mem_nil
theorem AllN.at {l : List Incident} (h : AllN l) (k : Nat) (hk : k < l.length) : IncN (nth l k) := h _ (nth_mem hk)
theorem AllN.small {l : List Incident} (h : AllN l) : ∀ k, k < l.length → (nth l k).Small := fun k hk => (h.at k hk).small
theorem AllN.push {l : List Incident} (h : AllN l) {x : Incident} (hx : IncN x) : AllN (l ++ [x]) := fun y hy => by
  rcases List.mem_append.1 hy with h1 | h1
  · exact h y h1
  · rw [List.mem_singleton.1 h1]; exact hx
theorem AllN.add {l : List Incident} (h : AllN l) {x : Incident} (hx : IncN x) : AllN (addInc l x) := fun y hy => by
  unfold addInc addV at hy
  split at hy
  · rcases List.mem_append.1 hy with h1 | h1
    · exact h y (List.mem_of_mem_take h1)
    · rcases List.mem_cons.1 h1 with h2 | h2
      · rw [h2]; exact hx
      · exact h y (List.mem_of_mem_drop h2)
  · exact absurd hy List.not_mem_nil
theorem addInc_len (l : List Incident) (x : Incident) : (addInc l x).length ≤ l.length + 1 := addV_len
set_option maxRecDepth 100000 in
set_option maxHeartbeats 8000000 in
theorem l28Draw_any (w : World) (sb : Nat) (a : Option Addr) (cap : Nat) (code : List Int) (n : Nat) (H : Src w sb a cap code n) (hn : n ≤ 1000000) :
    Calls Try.prog 38 #[.pointer (some ⟨sb, 0, none⟩)] w fun e w' => ∃ (v : Value) (l : List Incident) (k : Nat), e = .returned v ∧ k ≤ 500 ∧ l.length ≤ 49 ∧ AllN l ∧ Lst 44 6 Incident.cell w' w.heap.size v l ∧ Src w' sb a cap code (n + k) ∧ Moved sb w w' := by
  have hsl := H.lt
  have hO := Lib.hid (Lst.new (T := 44) (n := 6) (cell := Incident.cell) (α := Incident) w w.heap.size (Nat.le_refl _))
  have HD := Lib.hid ((Dr.start H).ext ((Ext.refl w).alloc (.cells #[] 44)))
  clear H
  go_enter Try.func38, Try.ntmps38
  go_wp2_with fail
  refine (pick_any _ sb a cap code n HD.out.src (by omega) 12 (by omega)).mono ?_
  rintro e W1 ⟨r1, q1, rfl, p0, p1, hq1, S1, M1⟩
  replace p1 := p1 (by omega)
  obtain ⟨j0, rfl⟩ := Int.eq_ofNat_of_zero_le p0
  replace hO := Lib.hid (hO.out.moved M1 (by omega))
  replace HD := Lib.hid (HD.out.step S1 M1)
  clear S1 M1
  go_wp2_with fail
  go_loopw [3, 4] (fun o i wr => ∃ (j q : Nat) (L : List Incident), j ≤ 11 ∧ i = .int .i64 j ∧ q ≤ 2 + 20 * (11 - j) ∧ L.length + j ≤ 11 ∧ Hid (AllN L) ∧ Hid (Lst 44 6 Incident.cell wr w.heap.size o L) ∧ Hid (Dr w wr sb a cap code (n + q))) (fun _ i _ => (intOf i).toNat)
  case atStart => exact ⟨j0, q1, [], by omega, rfl, by omega, by simp; omega, AllN.nil, hO.out, HD.out⟩
  case round =>
    clear hO HD
    obtain ⟨j, q, L, hj, rfl, hq, hLj, hA, hO, HD⟩ := hrel
    rcases Nat.eq_zero_or_pos j with h0 | h0
    · subst h0
      go_wp2_with fail
      refine (pick_any _ sb a cap code (n + q) HD.out.src (by omega) 20 (by omega)).mono ?_
      rintro e W1 ⟨r1, q1, rfl, p0, p1, hq1, S1, M1⟩
      replace p1 := p1 (by omega)
      replace hO := Lib.hid (hO.out.moved M1 (by omega))
      replace HD := Lib.hid (HD.out.step S1 M1)
      clear S1 M1
      rcases (show r1 = 0 ∨ r1 = 1 ∨ 2 ≤ r1 by omega) with hr | hr | hr
      · subst hr
        go_wp2_with fail
        refine (l28DrawOne_any W1 sb a cap code (n + q + q1) HD.out.src (by omega)).mono ?_
        rintro e W2 ⟨x, q2, rfl, hx, hq2, S2, M2⟩
        replace hO := Lib.hid (hO.out.moved M2 (by omega))
        replace HD := Lib.hid (HD.out.step S2 M2)
        clear S2 M2
        have hx := Lib.hid hx
        go_wp2_with fail
        refine (l28Bend_any W2 sb a cap code (n + q + q1 + q2) HD.out.src (by omega) x hx.out).mono ?_
        rintro e W3 ⟨y, q3, rfl, hy, hq3, S2, M2⟩
        replace hO := Lib.hid (hO.out.moved M2 (by omega))
        replace HD := Lib.hid (HD.out.step S2 M2)
        have hzs := HD.out.size
        have hy := Lib.hid hy
        clear S2 M2 hx
        have hx := Lib.hid ((Ext.refl W3).alloc (.cells #[.int .i64 y.day, .string y.place, .string y.cause, .int .i64 y.level, .int .i64 y.caught, .int .i64 y.buried] 44))
        replace hO := Lib.hid (hO.out.ext hx.out)
        replace HD := Lib.hid (HD.out.ext hx.out)
        have HR2 : Hid (IncidentAt (W3.alloc (.cells #[.int .i64 y.day, .string y.place, .string y.cause, .int .i64 y.level, .int .i64 y.caught, .int .i64 y.buried] 44)) (some ⟨W3.heap.size, 0, none⟩) [y]) := rows_new (n := 6) (cell := Incident.cell) (T := 44) W3 #[.int .i64 y.day, .string y.place, .string y.cause, .int .i64 y.level, .int .i64 y.caught, .int .i64 y.buried] y (fun j hj => by rcases six hj with rfl | rfl | rfl | rfl | rfl | rfl <;> rfl)
        try dsimp only
        repeat (first | (at_builtin; refine Hid.out ?_) | go_values | go_skip | go_guarded | go_step | go_upon | go_back)
        refine Lib.hid ?_
        refine wpList_pushL elIncident oneIncident rfl _ _ rfl w.heap.size _ L (by rfl) hO.out _ 1 1 [y] rfl (by rfl) HR2.out (by omega) (by omega) (by rw [size_new]; omega) ?_
        intro v2 w4 L4 _ g4
        have hrow : ∀ g, u3.ownBlock = some g → w.heap.size ≤ g := fun g e => ownBlock_le hO.out g e
        replace HD := Lib.hid (HD.out.grown g4 hrow)
        have hA2 := Lib.hid (hA.out.push hy.out)
        have L4 := Lib.hid L4
        clear hO g4 hrow HR2 hx
        go_wp2_with fail
        go_ret
        refine ⟨_, L ++ [y], q + q1 + q2 + q3, rfl, by omega, by rw [List.length_append]; simp; omega, hA2.out, L4.out, ?_, HD.out.mv⟩
        rw [show n + (q + q1 + q2 + q3) = n + q + q1 + q2 + q3 by omega]
        exact HD.out.src
      · subst hr
        go_wp2_with fail
        have HT := rows_lit (cell := cellJ) (T := 2) W1 #[.int .i64 48, .int .i64 49] [48, 49] (fun k hk => by rcases (show k = 0 ∨ k = 1 by simp at hk; omega) with rfl | rfl <;> rfl) rfl
        have hx := (Ext.refl W1).alloc (.cells #[.int .i64 48, .int .i64 49] 2)
        refine (among_any _ sb a cap code (n + q + q1) (HD.out.src.ext hx) (by omega) (some ⟨W1.heap.size, 0, none⟩) 2 _ HT (by simp) (by simp) (fun p e => by cases e; have := HD.out.src.lt; show W1.heap.size ≠ sb; omega)).mono ?_
        rintro e W2 ⟨m, q2, rfl, hs1, hq2, S2, M2⟩
        have hm : 48 ≤ m ∧ m ≤ 49 := by simp only [List.mem_cons, List.not_mem_nil, or_false] at hs1; omega
        replace HD := Lib.hid ((HD.out.ext hx).step S2 M2)
        clear S2 M2 HT hx hs1 hO
        have hzs := HD.out.size
        have hO := Lib.hid (Lst.new (T := 44) (n := 6) (cell := Incident.cell) (α := Incident) W2 w.heap.size hzs)
        replace HD := Lib.hid (HD.out.ext ((Ext.refl W2).alloc (.cells #[] 44)))
        clear hA
        go_wp2_with fail
        obtain ⟨N, hN⟩ : ∃ N, N = n + q + q1 + q2 := ⟨_, rfl⟩
        rw [← hN] at HD
        replace hN := Lib.hid hN
        go_loopw [3, 8] (fun o i wr => ∃ (k : Nat) (L : List Incident), (k : Int) ≤ m ∧ i = .int .i64 k ∧ L.length ≤ k ∧ Hid (AllN L) ∧ Hid (Lst 44 6 Incident.cell wr w.heap.size o L) ∧ Hid (Dr w wr sb a cap code N)) (fun _ i _ => 49 - (intOf i).toNat)
        case atStart => exact ⟨0, [], by omega, rfl, Nat.le_refl _, AllN.nil, hO.out, HD.out⟩
        case round =>
          clear hO HD
          obtain ⟨k, L, hk, rfl, hL, hA, hO, HD⟩ := hrel
          have hzs := HD.out.size
          by_cases hlt : (k : Int) < m
          · have hd : decide ((k : Int) < m) = true := decide_eq_true hlt
            have hk49 : k < 49 := by omega
            have hcv := run_convert_bytes_arg (P := Try.prog) (wr.alloc (.cells #[.int .u8 (97 + (k : Int) % 2)] 5)) 37 5 Try.underlying37 Try.underlying5 wr.heap.size 0 1 1 [97 + (k : Int) % 2] rfl
              (fun i hi => by obtain rfl : i = 0 := by omega
                              rw [cell_new]; rfl) 9 Try.underlying9
            obtain ⟨t, ht, hts⟩ : ∃ t, t = strOfNums [97 + (k : Int) % 2] ∧ t.size = 1 := ⟨_, rfl, rfl⟩
            rw [← ht] at hcv
            clear ht
            have hbs : ((⟨#[98, 111, 119, 108]⟩ : ByteArray) ++ t).size = 5 := by rw [ByteArray.size_append, hts]; rfl
            obtain ⟨B, hB⟩ : ∃ B, B = (⟨#[98, 111, 119, 108]⟩ : ByteArray) ++ t := ⟨_, rfl⟩
            rw [← hB] at hbs
            obtain ⟨y, hy⟩ : ∃ y : Incident, y = ⟨9000 + (k : Int) / 2, B, ⟨#[114, 97, 105, 110]⟩, 1 + (k : Int) % 5, (k : Int) % 4, 0⟩ := ⟨_, rfl⟩
            have hyn : Hid (IncN y) := by
              rw [hy]
              exact ⟨by dsimp only; omega, by dsimp only; omega, (show (⟨#[114, 97, 105, 110]⟩ : ByteArray).size ≤ 100 by decide), by dsimp only; omega, by dsimp only; omega, by dsimp only; omega⟩
            obtain ⟨U, hU⟩ : ∃ U, U = (wr.alloc (.cells #[.int .u8 (97 + (k : Int) % 2)] 5)) := ⟨_, rfl⟩
            have hUz : U.heap.size = wr.heap.size + 1 := by rw [hU, size_new]
            have hx1 : Ext wr U := by rw [hU]; exact (Ext.refl _).alloc _
            have hx := Lib.hid ((Ext.refl U).alloc (.cells #[.int .i64 (9000 + (k : Int) / 2), .string B, .string ⟨#[114, 97, 105, 110]⟩, .int .i64 (1 + (k : Int) % 5), .int .i64 ((k : Int) % 4), .int .i64 0] 44))
            replace hO := Lib.hid ((hO.out.ext hx1).ext hx.out)
            replace HD := Lib.hid ((HD.out.ext hx1).ext hx.out)
            have HR2 : Hid (IncidentAt (U.alloc (.cells #[.int .i64 (9000 + (k : Int) / 2), .string B, .string ⟨#[114, 97, 105, 110]⟩, .int .i64 (1 + (k : Int) % 5), .int .i64 ((k : Int) % 4), .int .i64 0] 44)) (some ⟨U.heap.size, 0, none⟩) [y]) := by
              rw [hy]
              exact rows_new (n := 6) (cell := Incident.cell) (T := 44) U #[.int .i64 (9000 + (k : Int) / 2), .string B, .string ⟨#[114, 97, 105, 110]⟩, .int .i64 (1 + (k : Int) % 5), .int .i64 ((k : Int) % 4), .int .i64 0] ⟨9000 + (k : Int) / 2, B, ⟨#[114, 97, 105, 110]⟩, 1 + (k : Int) % 5, (k : Int) % 4, 0⟩ (fun j hj => by rcases six hj with rfl | rfl | rfl | rfl | rfl | rfl <;> rfl)
            rw [hUz, hU, hB] at HR2
            rw [hU, hB] at hO
            have hbase : w.heap.size ≤ ((wr.alloc (.cells #[.int .u8 (97 + (k : Int) % 2)] 5)).alloc (.cells #[.int .i64 (9000 + (k : Int) / 2), .string ((⟨#[98, 111, 119, 108]⟩ : ByteArray) ++ t), .string ⟨#[114, 97, 105, 110]⟩, .int .i64 (1 + (k : Int) % 5), .int .i64 ((k : Int) % 4), .int .i64 0] 44)).heap.size := by rw [size_new, size_new]; omega
            replace hbase := Lib.hid hbase
            rw [hU, hB] at HD
            rw [hB] at hbs
            clear hy hU hUz hx1 hx hB
            try dsimp only
            repeat (first | (at_builtin; refine Hid.out ?_) | go_values | go_skip | go_guarded | go_step | go_upon | go_back)
            refine Lib.hid ?_
            refine wpList_pushL elIncident oneIncident rfl _ _ rfl w.heap.size _ L (by rfl) hO.out _ 1 1 [y] rfl (by rfl) HR2.out (by omega) (by omega) hbase.out ?_
            intro v2 w4 L4 _ g4
            have hrow : ∀ g, u3.ownBlock = some g → w.heap.size ≤ g := fun g e => ownBlock_le hO.out g e
            replace HD := Lib.hid (HD.out.grown g4 hrow)
            have hA2 := Lib.hid (hA.out.push hyn.out)
            have L4 := Lib.hid L4
            have hL2 : (L ++ [y]).length ≤ k + 1 := by rw [List.length_append]; simp; omega
            clear hO g4 hrow HR2 hcv hbs hts hbase
            go_wp2_with fail
            go_roundw
            case rel => exact ⟨k + 1, L ++ [y], by omega, by go_num, hL2, hA2.out, L4.out, HD.out⟩
            case measure => simp [intOf]; omega
          · have hd : decide ((k : Int) < m) = false := decide_eq_false hlt
            go_wp2_with fail
            go_ret
            refine ⟨_, rfl, L, q + q1 + q2, by omega, by omega, hA.out, hO.out, ?_, HD.out.mv⟩
            rw [show n + (q + q1 + q2) = N by rw [hN.out]; omega]
            exact HD.out.src
      · have hr0 : (r1 == 0) = false := beq_eq_false_iff_ne.2 (by omega)
        have hr1 : (r1 == 1) = false := beq_eq_false_iff_ne.2 (by omega)
        go_wp2_with fail
        go_ret
        refine ⟨_, L, q + q1, rfl, by omega, by omega, hA.out, hO.out, ?_, HD.out.mv⟩
        rw [show n + (q + q1) = n + q + q1 by omega]
        exact HD.out.src
    · obtain ⟨oa, oc, rfl, hoc, hom, hR, -⟩ := hO.out.shape
      clear hR
      go_wp2_with fail
      refine (l28DrawOne_any wr sb a cap code (n + q) HD.out.src (by omega)).mono ?_
      rintro e W2 ⟨x, q2, rfl, hx, hq2, S2, M2⟩
      have hx := Lib.hid hx
      replace hO := Lib.hid (hO.out.moved M2 (by omega))
      replace HD := Lib.hid (HD.out.step S2 M2)
      obtain ⟨oa', oc', e', hoc', -, hR, -⟩ := hO.out.shape
      obtain ⟨rfl, -, rfl⟩ : oa = oa' ∧ L.length = L.length ∧ oc = oc' := by simpa using e'
      clear e' S2 M2
      have hc := specAddIncident_lst W2 oa oc L hR hA.out.small (by omega) hoc' x hx.out.small
      have hL2 := addInc_len L x
      have hA2 := Lib.hid (hA.out.add hx.out)
      obtain ⟨C, hC⟩ : ∃ C, C = addIncC L x := ⟨_, rfl⟩
      obtain ⟨L2, hL⟩ : ∃ L2, L2 = addInc L x := ⟨_, rfl⟩
      rw [← hC, ← hL] at hc
      rw [← hL] at hL2 hA2
      clear hC hL hR
      replace hc := Lib.hid hc
      go_wp2_with fail
      refine hc.out.mono ?_
      rintro e W3 ⟨v, rfl, hv, hE⟩
      have hz := HD.out.size
      replace hO := Lib.hid (hO.out.ext hE)
      replace hv := Lib.hid (hv.low hz)
      replace HD := Lib.hid (HD.out.ext hE)
      clear hc hE hz
      by_cases h2 : C = 0
      · subst h2
        go_wp2_with fail
        go_roundw
        case rel => exact ⟨j - 1, q + q2, L2, by omega, by go_num, by omega, by omega, hA2, hv, by rw [← Nat.add_assoc]; exact HD⟩
        case measure => simp [intOf]; omega
      · have h2' : (C == 0) = false := beq_eq_false_iff_ne.2 h2
        clear h2
        go_wp2_with fail
        go_roundw
        case rel => exact ⟨j - 1, q + q2, L, by omega, by go_num, by omega, by omega, hA, hO, by rw [← Nat.add_assoc]; exact HD⟩
        case measure => simp [intOf]; omega
end Go.Proofs.Ytndkcgiadpdcjaa
