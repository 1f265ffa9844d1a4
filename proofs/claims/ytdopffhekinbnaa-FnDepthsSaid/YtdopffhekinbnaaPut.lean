/- The reference's l00Put: a number put to its place among rising ones, once. -/
import Derived.Test.YtdopffhekinbnaaElI
import Derived.Test.YtdopffhekinbnaaSrt
import Derived.Test.YtdopffhekinbnaaLists
namespace Go.Proofs.Ytdopffhekinbnaa
open Go.RowKit
def ltI (a b : Int) : Bool := decide (a < b)
theorem ltI_iff {a b : Int} : ltI a b = true ↔ a < b := by unfold ltI; simp
theorem ltI_not {a b : Int} : ltI a b = false ↔ b ≤ a := by unfold ltI; simp
theorem slo_ltI : SLO ltI := ⟨fun a b h => by rw [ltI_iff] at h; rw [ltI_not]; omega, fun a b c h k => by rw [ltI_iff] at *; omega, fun a b h k => by rw [ltI_not] at *; omega⟩
theorem drop_nth' {α : Type} [Inhabited α] {L : List α} {k : Nat} (h : k < L.length) : L.drop k = nth L k :: L.drop (k + 1) := by
  rw [List.drop_eq_getElem_cons h, nth_eq L k h]
theorem putL_lo {n x : Int} {r : List Int} (h : x < n) : putL ltI n (x :: r) = x :: putL ltI n r := if_pos (ltI_iff.2 h)
theorem putL_eq {n : Int} {r : List Int} : putL ltI n (n :: r) = n :: r := by
  show (if _ then _ else _) = _
  rw [if_neg (by rw [ltI_iff]; omega), if_neg (by rw [ltI_iff]; omega)]
theorem putL_hi {n x : Int} {r : List Int} (h : n < x) : putL ltI n (x :: r) = n :: x :: r := by
  show (if _ then _ else _) = _
  rw [if_neg (by rw [ltI_iff]; omega), if_pos (ltI_iff.2 h)]
/-- What is still to come. -/
def putR (t : Bool) (n : Int) (r : List Int) : List Int := if t = true then r else putL ltI n r
set_option maxRecDepth 100000 in
set_option maxHeartbeats 4000000 in
theorem l00Put_lst (w : World) (a : Option Addr) (cap : Nat) (l : List Int) (n : Int) (H : IntAt w a l) (hlen : l.length ≤ 1000000) :
    Calls Try.prog 25 #[.slice a l.length cap, .int .i64 n] w (fun e w' => ∃ v, e = .returned v ∧ Lst 2 1 celI w' w.heap.size v (putL ltI n l) ∧ Ext w w') := by
  have HA := Lib.hid H
  clear H
  go_enter Try.func25, Try.ntmps25
  go_wp2_with fail
  go_loopw [5, 6, 7] (fun o d i wr => ∃ (j : Nat) (acc : List Int) (t : Bool), j ≤ l.length ∧ i = .int .i64 j ∧ d = .bool t ∧ acc.length ≤ j + 1 ∧ Hid (t = false → acc.length ≤ j) ∧ Hid (acc ++ putR t n (l.drop j) = putL ltI n l) ∧ Hid (Lst 2 1 celI wr w.heap.size o acc) ∧ Ext w wr) (fun _ _ i _ => l.length - (intOf i).toNat)
  case atStart => exact ⟨0, [], false, Nat.zero_le _, rfl, rfl, by simp, fun _ => Nat.le_refl _, rfl, Lst.new w w.heap.size (Nat.le_refl _), (by repeat (first | exact Ext.refl _ | refine Ext.lift ?_ _ | refine Ext.alloc ?_ _))⟩
  case round =>
    obtain ⟨j, acc, t, hj, rfl, rfl, hal, hal0, hst, HL, he⟩ := hrel
    have hE := Lib.hid he
    clear he
    by_cases hlt : j < l.length
    · obtain ⟨b, off, rfl⟩ := HA.out.base hlt
      obtain ⟨hb, c0⟩ := IntAt.at (HA.out.ext hE.out) j hlt
      have hdj := Lib.hid (drop_nth' hlt)
      cases t
      · rcases Int.lt_trichotomy (nth l j) n with h | h | h
        · have hn2 : Hid ((acc ++ [nth l j]) ++ putR false n (l.drop (j + 1)) = putL ltI n l) := by
            show _ = _; rw [← hst.out, hdj.out]; show _ = acc ++ putL ltI n (nth l j :: l.drop (j + 1)); rw [putL_lo h, List.append_assoc]; rfl
          have L3 := Lib.hid (HL.out.ext ((Ext.refl wr).alloc (.cells #[.int .i64 (nth l j)] 2)))
          have HR := Lib.hid (rows_int (T := 2) wr (nth l j) rfl)
          have hz4 : w.heap.size ≤ (wr.alloc (.cells #[.int .i64 (nth l j)] 2)).heap.size := by rw [size_new]; have := hE.out.size; omega
          have E4 := Lib.hid (hE.out.alloc (.cells #[.int .i64 (nth l j)] 2))
          clear HL hst hE
          try dsimp only
          repeat (first | (at_builtin; refine Hid.out ?_) | go_values | go_skip | go_guarded | go_step | go_upon | go_back)
          refine Lib.hid ?_
          refine wpList_pushL elI oneI rfl _ _ rfl w.heap.size _ _ (by rfl) L3.out _ 1 1 [nth l j] rfl (by rfl) HR.out (by first | omega | (simp; omega)) (by first | omega | (simp; omega)) hz4 ?_
          intro v' w3 HL3 hs3 _
          have L5 := Lib.hid HL3
          have E5 := Lib.hid (hs3.ext E4.out (Nat.le_refl _))
          clear HL3 hs3 L3 HR E4 hz4
          clear c0 hb
          go_wp2_with fail
          go_roundw
          case rel => exact ⟨j + 1, acc ++ [nth l j], false, by omega, by go_num, rfl, by rw [List.length_append]; simp; omega, fun _ => by rw [List.length_append]; have := hal0.out rfl; simp; omega, hn2.out, L5.out, E5.out⟩
          case measure => simp [intOf]; omega
        · rw [h] at c0 hdj
          clear h
          have hn2 : Hid ((acc ++ [n]) ++ putR true n (l.drop (j + 1)) = putL ltI n l) := by
            show _ = _; rw [← hst.out, hdj.out]; show _ = acc ++ putL ltI n (n :: l.drop (j + 1)); rw [putL_eq, List.append_assoc]; rfl
          have L3 := Lib.hid (HL.out.ext ((Ext.refl wr).alloc (.cells #[.int .i64 n] 2)))
          have HR := Lib.hid (rows_int (T := 2) wr n rfl)
          have hz4 : w.heap.size ≤ (wr.alloc (.cells #[.int .i64 n] 2)).heap.size := by rw [size_new]; have := hE.out.size; omega
          have E4 := Lib.hid (hE.out.alloc (.cells #[.int .i64 n] 2))
          clear HL hst hE
          try dsimp only
          repeat (first | (at_builtin; refine Hid.out ?_) | go_values | go_skip | go_guarded | go_step | go_upon | go_back)
          refine Lib.hid ?_
          refine wpList_pushL elI oneI rfl _ _ rfl w.heap.size _ _ (by rfl) L3.out _ 1 1 [n] rfl (by rfl) HR.out (by first | omega | (simp; omega)) (by first | omega | (simp; omega)) hz4 ?_
          intro v' w3 HL3 hs3 _
          have L5 := Lib.hid HL3
          have E5 := Lib.hid (hs3.ext E4.out (Nat.le_refl _))
          clear HL3 hs3 L3 HR E4 hz4
          clear c0 hb
          go_wp2_with fail
          go_roundw
          case rel => exact ⟨j + 1, acc ++ [n], true, by omega, by go_num, rfl, by rw [List.length_append]; have := hal0.out rfl; simp; omega, (fun h => by cases h), hn2.out, L5.out, E5.out⟩
          case measure => simp [intOf]; omega
        · have hn2 : Hid (((acc ++ [n]) ++ [nth l j]) ++ putR true n (l.drop (j + 1)) = putL ltI n l) := by
            show _ = _; rw [← hst.out, hdj.out]; show _ = acc ++ putL ltI n (nth l j :: l.drop (j + 1)); rw [putL_hi h, List.append_assoc, List.append_assoc]; rfl
          have L3 := Lib.hid (HL.out.ext ((Ext.refl wr).alloc (.cells #[.int .i64 n] 2)))
          have HR := Lib.hid (rows_int (T := 2) wr n rfl)
          have hz4 : w.heap.size ≤ (wr.alloc (.cells #[.int .i64 n] 2)).heap.size := by rw [size_new]; have := hE.out.size; omega
          have E4 := Lib.hid (hE.out.alloc (.cells #[.int .i64 n] 2))
          clear HL hst hE
          try dsimp only
          repeat (first | (at_builtin; refine Hid.out ?_) | go_values | go_skip | go_guarded | go_step | go_upon | go_back)
          refine Lib.hid ?_
          refine wpList_pushL elI oneI rfl _ _ rfl w.heap.size _ _ (by rfl) L3.out _ 1 1 [n] rfl (by rfl) HR.out (by first | omega | (simp; omega)) (by first | omega | (simp; omega)) hz4 ?_
          intro v' w3 HL3 hs3 _
          have L5 := Lib.hid HL3
          have E5 := Lib.hid (hs3.ext E4.out (Nat.le_refl _))
          clear HL3 hs3 L3 HR E4 hz4
          have L3 := Lib.hid (L5.out.ext ((Ext.refl w3).alloc (.cells #[.int .i64 (nth l j)] 2)))
          have HR := Lib.hid (rows_int (T := 2) w3 (nth l j) rfl)
          have hz4 : w.heap.size ≤ (w3.alloc (.cells #[.int .i64 (nth l j)] 2)).heap.size := by rw [size_new]; have := E5.out.size; omega
          have E4 := Lib.hid (E5.out.alloc (.cells #[.int .i64 (nth l j)] 2))
          clear c0 hb
          obtain ⟨hb, c0⟩ := IntAt.at (HA.out.ext E5.out) j hlt
          clear L5 E5
          try dsimp only
          repeat (first | (at_builtin; refine Hid.out ?_) | go_values | go_skip | go_guarded | go_step | go_upon | go_back)
          refine Lib.hid ?_
          refine wpList_pushL elI oneI rfl _ _ rfl w.heap.size _ _ (by rfl) L3.out _ 1 1 [nth l j] rfl (by rfl) HR.out (by first | omega | (simp; omega)) (by first | omega | (simp; omega)) hz4 ?_
          intro v6 w6 HL3 hs3 _
          have L6 := Lib.hid HL3
          have E6 := Lib.hid (hs3.ext E4.out (Nat.le_refl _))
          clear HL3 hs3 L3 HR E4 hz4
          go_wp2_with fail
          go_roundw
          case rel => exact ⟨j + 1, (acc ++ [n]) ++ [nth l j], true, by omega, by go_num, rfl, by rw [List.length_append, List.length_append]; have := hal0.out rfl; simp; omega, (fun h => by cases h), hn2.out, L6.out, E6.out⟩
          case measure => simp [intOf]; omega
      · have hn2 : Hid ((acc ++ [nth l j]) ++ putR true n (l.drop (j + 1)) = putL ltI n l) := by
          show _ = _; rw [← hst.out, hdj.out, List.append_assoc]; rfl
        have L3 := Lib.hid (HL.out.ext ((Ext.refl wr).alloc (.cells #[.int .i64 (nth l j)] 2)))
        have HR := Lib.hid (rows_int (T := 2) wr (nth l j) rfl)
        have hz4 : w.heap.size ≤ (wr.alloc (.cells #[.int .i64 (nth l j)] 2)).heap.size := by rw [size_new]; have := hE.out.size; omega
        have E4 := Lib.hid (hE.out.alloc (.cells #[.int .i64 (nth l j)] 2))
        clear HL hst hE
        try dsimp only
        repeat (first | (at_builtin; refine Hid.out ?_) | go_values | go_skip | go_guarded | go_step | go_upon | go_back)
        refine Lib.hid ?_
        refine wpList_pushL elI oneI rfl _ _ rfl w.heap.size _ _ (by rfl) L3.out _ 1 1 [nth l j] rfl (by rfl) HR.out (by first | omega | (simp; omega)) (by first | omega | (simp; omega)) hz4 ?_
        intro v' w3 HL3 hs3 _
        have L5 := Lib.hid HL3
        have E5 := Lib.hid (hs3.ext E4.out (Nat.le_refl _))
        clear HL3 hs3 L3 HR E4 hz4
        clear c0 hb
        go_wp2_with fail
        go_roundw
        case rel => exact ⟨j + 1, acc ++ [nth l j], true, by omega, by go_num, rfl, by rw [List.length_append]; have := hal; simp; omega, (fun h => by cases h), hn2.out, L5.out, E5.out⟩
        case measure => simp [intOf]; omega
    · obtain rfl : j = l.length := by omega
      rw [List.drop_length] at hst
      cases t
      · have hn2 : Hid (acc ++ [n] = putL ltI n l) := hst
        have L3 := Lib.hid (HL.out.ext ((Ext.refl wr).alloc (.cells #[.int .i64 n] 2)))
        have HR := Lib.hid (rows_int (T := 2) wr n rfl)
        have hz4 : w.heap.size ≤ (wr.alloc (.cells #[.int .i64 n] 2)).heap.size := by rw [size_new]; have := hE.out.size; omega
        have E4 := Lib.hid (hE.out.alloc (.cells #[.int .i64 n] 2))
        clear HL hst hE
        try dsimp only
        repeat (first | (at_builtin; refine Hid.out ?_) | go_values | go_skip | go_guarded | go_step | go_upon | go_back)
        refine Lib.hid ?_
        refine wpList_pushL elI oneI rfl _ _ rfl w.heap.size _ _ (by rfl) L3.out _ 1 1 [n] rfl (by rfl) HR.out (by first | omega | (simp; omega)) (by first | omega | (simp; omega)) hz4 ?_
        intro v' w3 HL3 hs3 _
        have L5 := Lib.hid HL3
        have E5 := Lib.hid (hs3.ext E4.out (Nat.le_refl _))
        clear HL3 hs3 L3 HR E4 hz4
        go_wp2_with fail
        go_ret
        rw [← hn2.out]
        exact ⟨_, rfl, L5.out, E5.out⟩
      · have hn2 : Hid (acc = putL ltI n l) := by show _ = _; rw [← hst.out]; exact (List.append_nil _).symm
        clear hst
        go_wp2_with fail
        go_ret
        rw [← hn2.out]
        exact ⟨_, rfl, HL.out, hE.out⟩
theorem l00Put_any (w : World) (a : Option Addr) (cap : Nat) (l : List Int) (n : Int) (H : IntAt w a l) (hlen : l.length ≤ 1000000) :
    Calls Try.prog 25 #[.slice a l.length cap, .int .i64 n] w (OutL 2 1 celI w (putL ltI n l)) := by
  refine (l00Put_lst w a cap l n H hlen).mono ?_
  rintro e w' ⟨v, rfl, hL, hE⟩
  obtain ⟨a', cap', rfl, hc', -, hR, hO⟩ := hL.shape
  exact ⟨a', cap', rfl, hc', hO, hR, hE⟩
end Go.Proofs.Ytdopffhekinbnaa
