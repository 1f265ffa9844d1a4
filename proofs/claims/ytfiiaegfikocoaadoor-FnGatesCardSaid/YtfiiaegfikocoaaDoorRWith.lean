/- A name and a list of numbers read back: the program's readWithId and readNumbers; and what both sides make of a text, in plain Lean. -/
import Derived.Test.YtfiiaegfikocoaaDoorRList
import Derived.Test.YtfiiaegfikocoaaDoorWithId
namespace Go.Proofs.YtfiiaegfikocoaaDoor
open Go.RowKit
/-! ### A list of so many numbers -/
def numsOk (s : ByteArray) (m : Nat) : Bool := listB s && decide ((listV s).length = m)
def numsL (s : ByteArray) (m : Nat) : List Int := if numsOk s m = true then listV s else List.replicate m 0
theorem numsL_len (s : ByteArray) (m : Nat) : (numsL s m).length = m := by
  unfold numsL
  split
  · rename_i h; unfold numsOk at h; rw [Bool.and_eq_true, decide_eq_true_eq] at h; exact h.2
  · simp
theorem numsL_yes {s : ByteArray} {m : Nat} (h : numsOk s m = true) : numsL s m = listV s := if_pos h
theorem numsL_no {s : ByteArray} {m : Nat} (h : numsOk s m = false) : numsL s m = List.replicate m 0 := if_neg (by rw [h]; decide)
theorem numsOk_b {s : ByteArray} {m : Nat} (h : listB s = false) : numsOk s m = false := by unfold numsOk; rw [h]; rfl
theorem numsOk_n {s : ByteArray} {m : Nat} (h : (listV s).length ≠ m) : numsOk s m = false := by unfold numsOk; rw [decide_eq_false h]; simp
theorem numsOk_y {s : ByteArray} {m : Nat} (h : listB s = true) (h2 : (listV s).length = m) : numsOk s m = true := by unfold numsOk; rw [h, decide_eq_true h2]; rfl
theorem numsOk_iff {s : ByteArray} {m : Nat} : numsOk s m = true ↔ listP s.data.toList = some (listV s) ∧ (listV s).length = m := by
  unfold numsOk; rw [Bool.and_eq_true, decide_eq_true_eq, listB_iff]
theorem numsL_bd (s : ByteArray) (m : Nat) : ∀ k, k < m → -1000000000000 ≤ nth (numsL s m) k ∧ nth (numsL s m) k ≤ 1000000000000 := by
  intro k hk
  cases h : numsOk s m
  · rw [numsL_no h, nth_eq _ _ (by simpa using hk)]; simp
  · rw [numsL_yes h]
    exact listV_in s k (by have := (numsOk_iff.1 h).2; omega)
/-! ### A name ahead -/
def headB (s : ByteArray) : ByteArray := mkB (Lib.cut s.data.toList [32]).1
def restB (s : ByteArray) : ByteArray := mkB (Lib.cut s.data.toList [32]).2.1
theorem cut_size (l : List UInt8) : (Lib.cut l [32]).1.length ≤ l.length ∧ (Lib.cut l [32]).2.1.length ≤ l.length := by
  unfold Lib.cut
  split
  · exact ⟨by simp only [List.length_take]; omega, by simp only [List.length_drop]; omega⟩
  · exact ⟨Nat.le_refl _, Nat.zero_le _⟩
theorem restB_size (s : ByteArray) : (restB s).size ≤ s.size := by
  unfold restB; rw [size_toList, mkB_toList, size_toList]; exact (cut_size _).2
theorem headB_size (s : ByteArray) : (headB s).size ≤ s.size := by
  unfold headB; rw [size_toList, mkB_toList, size_toList]; exact (cut_size _).1
def withId (s : ByteArray) (m : Nat) : ByteArray := if numsOk (restB s) m = true then headB s else ⟨#[]⟩
theorem withId_yes {s : ByteArray} {m : Nat} (h : numsOk (restB s) m = true) : withId s m = headB s := if_pos h
theorem withId_no {s : ByteArray} {m : Nat} (h : numsOk (restB s) m = false) : withId s m = ⟨#[]⟩ := if_neg (by rw [h]; decide)
theorem withId_size (s : ByteArray) (m : Nat) : (withId s m).size ≤ s.size := by
  unfold withId; split
  · exact headB_size s
  · exact Nat.zero_le _
theorem listT_no32 (L : List Int) : (32 : UInt8) ∉ listT L := listT_free L 32 (by decide) (by decide) (by decide)
/-- The text of a name and a list, cut at the blank. -/
theorem cuts_with {id : ByteArray} {L : List Int} (h : (32 : UInt8) ∉ id.data.toList) : cuts 32 (withS id L).data.toList = [id.data.toList, listT L] := by
  have e : (withS id L).data.toList = id.data.toList ++ 32 :: listT L := by
    unfold withS
    rw [ByteArray.data_append, ByteArray.data_append, Array.toList_append, Array.toList_append, listS_toList]; simp
  rw [e, cuts_hit _ h, cuts_none (listT_no32 L)]
/-- What the reference's pieces are, and what the program's cut is. -/
def twoB (s : ByteArray) (m : Nat) : Bool := decide ((cutsB 32 s).length = 2) && numsOk (nth (cutsB 32 s) 1) m
theorem cutsB_two {s : ByteArray} (h : (cutsB 32 s).length = 2) : cuts 32 s.data.toList = [(nth (cutsB 32 s) 0).data.toList, (nth (cutsB 32 s) 1).data.toList] := by
  rw [← cutsB_map]
  obtain ⟨Q, hQ⟩ : ∃ Q, Q = cutsB 32 s := ⟨_, rfl⟩
  rw [← hQ] at h ⊢
  match Q, h with
  | [x, y], _ => rfl
theorem two_cut {s : ByteArray} (h : (cutsB 32 s).length = 2) : headB s = nth (cutsB 32 s) 0 ∧ restB s = nth (cutsB 32 s) 1 := by
  have hc := cutsB_two h
  obtain ⟨p, ps, e, h1, -, h3⟩ := cut_cuts (c := 32) s.data.toList
  rw [hc] at e
  simp only [List.cons.injEq] at e
  obtain ⟨rfl, rfl⟩ := e
  obtain ⟨h3, -⟩ := h3 (by simp)
  rw [Lib.join_one] at h3
  exact ⟨by unfold headB; rw [h1]; exact mk_toList _, by unfold restB; rw [h3]; exact mk_toList _⟩
theorem withS_iff {s id : ByteArray} {L : List Int} (h : (32 : UInt8) ∉ id.data.toList) : withS id L = s ↔ cuts 32 s.data.toList = [id.data.toList, listT L] := by
  constructor
  · rintro rfl; exact cuts_with h
  · intro e
    have e2 := congrArg (fun ps => Lib.join ps [32]) e
    simp only [join_cuts] at e2
    rw [join_cons2, Lib.join_one] at e2
    rw [← mk_toList s, ← mk_toList (withS id L), e2]
    congr 2
    unfold withS
    rw [ByteArray.data_append, ByteArray.data_append, Array.toList_append, Array.toList_append, listS_toList]
section
variable {α : Type} {mk : ByteArray → List Int → α} {vb : α → Bool} {txt : α → ByteArray} {m : Nat}
/-- What the reference reads: a name, and a list of m numbers that make a valid value. -/
def readG (mk : ByteArray → List Int → α) (vb : α → Bool) (m : Nat) (s : ByteArray) : Option α :=
  if twoB s m = true ∧ vb (mk (nth (cutsB 32 s) 0) (listV (nth (cutsB 32 s) 1))) = true then some (mk (nth (cutsB 32 s) 0) (listV (nth (cutsB 32 s) 1))) else none
theorem twoB_iff {s : ByteArray} : twoB s m = true ↔ (cutsB 32 s).length = 2 ∧ numsOk (nth (cutsB 32 s) 1) m = true := by
  unfold twoB; rw [Bool.and_eq_true, decide_eq_true_eq]
theorem readG_no {s : ByteArray} (h : numsOk (restB s) m = false) : readG mk vb m s = none := by
  unfold readG
  rw [if_neg]
  rintro ⟨h1, -⟩
  obtain ⟨h2, h3⟩ := twoB_iff.1 h1
  rw [(two_cut h2).2, h3] at h; cases h
theorem readG_yes {s : ByteArray} (h : numsOk (restB s) m = true)
    (hid : ∀ id L, vb (mk id L) = true → (32 : UInt8) ∉ id.data.toList) (hin : ∀ id L, L.length = m → vb (mk id L) = true → txt (mk id L) = withS id L) (hbad : ∀ x, vb x = false → txt x = ⟨#[]⟩) :
    readG mk vb m s = if txt (mk (headB s) (listV (restB s))) = s then some (mk (headB s) (listV (restB s))) else none := by
  obtain ⟨hp, hl⟩ := numsOk_iff.1 h
  cases hv : vb (mk (headB s) (listV (restB s)))
  · have ht : txt (mk (headB s) (listV (restB s))) ≠ s := by
      rw [hbad _ hv]
      rintro rfl
      have e : restB ⟨#[]⟩ = ⟨#[]⟩ := by
        unfold restB; rw [show (⟨#[]⟩ : ByteArray).data.toList = [] from rfl, cut_none (by simp)]; rfl
      rw [e] at hp
      have : listP ([] : List UInt8) = some (listV ⟨#[]⟩) := hp
      rw [listP_nil] at this; cases this
    rw [if_neg ht]
    unfold readG
    rw [if_neg]
    rintro ⟨h1, h2⟩
    obtain ⟨h3, h4⟩ := twoB_iff.1 h1
    rw [← (two_cut h3).1, ← (two_cut h3).2, hv] at h2; cases h2
  · have hi := hid _ _ hv
    have ht := hin _ _ hl hv
    rw [ht]
    by_cases hc : (cutsB 32 s).length = 2
    · have hT : listT (listV (restB s)) = (restB s).data.toList := (listP_iff.1 hp).1
      rw [if_pos ((withS_iff hi).2 (by rw [cutsB_two hc, hT, (two_cut hc).1, (two_cut hc).2]))]
      unfold readG
      rw [if_pos]
      · rw [(two_cut hc).1, (two_cut hc).2]
      · rw [← (two_cut hc).1, ← (two_cut hc).2]
        exact ⟨twoB_iff.2 ⟨hc, by rw [← (two_cut hc).2]; exact h⟩, hv⟩
    · rw [if_neg]
      · unfold readG
        rw [if_neg]
        rintro ⟨h1, -⟩
        exact hc (twoB_iff.1 h1).1
      · intro e
        have e2 := (withS_iff hi).1 e
        apply hc
        unfold cutsB
        rw [e2]; rfl
end
section
variable {α : Type} {mk : List Int → α} {vb : α → Bool} {txt : α → ByteArray} {m : Nat}
/-- What the reference reads: a list of m numbers that make a valid value. -/
def readL (mk : List Int → α) (vb : α → Bool) (m : Nat) (s : ByteArray) : Option α :=
  if numsOk s m = true ∧ vb (mk (listV s)) = true then some (mk (listV s)) else none
theorem readL_no {s : ByteArray} (h : numsOk s m = false) : readL mk vb m s = none := by
  unfold readL; rw [if_neg]; rintro ⟨h1, -⟩; rw [h] at h1; cases h1
theorem readL_yes {s : ByteArray} (h : numsOk s m = true)
    (hin : ∀ L, L.length = m → vb (mk L) = true → txt (mk L) = listS L) (hbad : ∀ x, vb x = false → txt x = ⟨#[]⟩) :
    readL mk vb m s = if txt (mk (listV s)) = s then some (mk (listV s)) else none := by
  obtain ⟨hp, hl⟩ := numsOk_iff.1 h
  unfold readL
  cases hv : vb (mk (listV s))
  · have ht : txt (mk (listV s)) ≠ s := by
      rw [hbad _ hv]
      rintro rfl
      have : listP ([] : List UInt8) = some (listV ⟨#[]⟩) := hp
      rw [listP_nil] at this; cases this
    rw [if_neg ht, if_neg]; rintro ⟨-, h2⟩; cases h2
  · rw [if_pos ⟨h, rfl⟩, if_pos]
    rw [hin _ hl hv]
    exact listS_iff.2 (listP_iff.1 hp).1
end
theorem name_no32 {s : ByteArray} (h : nameB s = true) : (32 : UInt8) ∉ s.data.toList := by
  unfold nameB at h
  rw [Bool.and_eq_true] at h
  have hb := h.2
  unfold bytesB at hb
  rw [List.all_eq_true] at hb
  intro hm
  exact absurd (hb 32 hm) (by decide)
/-- Lists of a known length are their elements. -/
theorem list2 {L : List Int} (h : L.length = 2) : L = [nth L 0, nth L 1] := by
  match L, h with | [a, b], _ => rfl
theorem list3 {L : List Int} (h : L.length = 3) : L = [nth L 0, nth L 1, nth L 2] := by
  match L, h with | [a, b, c], _ => rfl
theorem list4 {L : List Int} (h : L.length = 4) : L = [nth L 0, nth L 1, nth L 2, nth L 3] := by
  match L, h with | [a, b, c, d], _ => rfl
theorem list6 {L : List Int} (h : L.length = 6) : L = [nth L 0, nth L 1, nth L 2, nth L 3, nth L 4, nth L 5] := by
  match L, h with | [a, b, c, d, e, f], _ => rfl
theorem intAt_zeros (w : World) (m : Nat) (T : TypeId) : IntAt (w.alloc (.cells (madeCells #[.int .i64 0] m) T)) (some ⟨w.heap.size, 0, none⟩) (List.replicate m 0) :=
  IntAt.of (by rw [size_new]; omega) fun k hk => by
    rw [List.length_replicate] at hk
    rw [Nat.zero_add, cell_new, ← Array.getElem?_toList, toList_madeCells_one, nth_eq _ _ (by simpa using hk)]; simp [hk]
set_option maxRecDepth 100000 in
set_option maxHeartbeats 2000000 in
theorem readNumbers_2 (s : ByteArray) (w : World) (hs : s.size ≤ 1048576) (ht : RTab w) :
    Calls Tryd.prog 30 #[.string s, .int .i64 2] w fun e w' => ∃ a cap, e = .returned (.tuple #[.slice a 2 cap, .bool (numsOk s 2)]) ∧ IntAt w' a (numsL s 2) ∧ Ext w w' := by
  have HR := Lib.hid (implReadList_any s w hs ht)
  have HM : Hid (∀ W : World, (Instr.makeSlice 33 (.int .i64 2) (.int .i64 2)).run Tryd.prog W = .ok (.slice (some ⟨W.heap.size, 0, none⟩) 2 2) (W.alloc (.cells (madeCells #[.int .i64 0] 2) 2))) := fun W => run_make_blk (P := Tryd.prog) (t := 33) Tryd.underlying33 (by kernel_rfl : (Tryd.prog.info? 2).map (fun i => (i.zero.map Value.cells, i.size, i.bytes)) = some (some #[.int .i64 0], 1, 8)) .i64 .i64 2 (by omega) (by omega) W
  clear ht
  cases h1 : listB s
  · have hv := Lib.hid (numsOk_b (m := 2) h1)
    rw [h1] at HR
    go_enter Tryd.func30, Tryd.ntmps30
    go_wp2_with fail
    refine HR.out.mono ?_
    rintro e W ⟨a, cap, rfl, hcap, -, E⟩
    have E0 := Lib.hid E
    have hm := HM.out
    clear E HR HM
    go_wp2_with fail
    go_ret2
    rw [hv.out]
    exact ⟨_, _, rfl, by rw [numsL_no hv.out]; exact intAt_zeros _ _ _, E0.out.alloc _⟩
  · rw [h1] at HR
    by_cases h2 : (listV s).length = 2
    · have hv := Lib.hid (numsOk_y h1 h2)
      have h2' : (((listV s).length : Int) != 2) = false := by rw [h2]; rfl
      have h3 := Lib.hid h2
      clear h2 HM
      go_enter Tryd.func30, Tryd.ntmps30
      go_wp2_with fail
      refine HR.out.mono ?_
      rintro e W ⟨a, cap, rfl, hcap, R, E⟩
      have E0 := Lib.hid E
      have R0 := Lib.hid R
      clear E R HR
      go_wp2_with fail
      go_ret2
      rw [hv.out, h3.out]
      exact ⟨a, cap, rfl, by rw [numsL_yes hv.out]; exact R0.out, E0.out⟩
    · have hv := Lib.hid (numsOk_n h2)
      have h2' : (((listV s).length : Int) != 2) = true := by rw [bne_iff_ne]; omega
      clear h2
      go_enter Tryd.func30, Tryd.ntmps30
      go_wp2_with fail
      refine HR.out.mono ?_
      rintro e W ⟨a, cap, rfl, hcap, -, E⟩
      have E0 := Lib.hid E
      have hm := HM.out
      clear E HR HM
      go_wp2_with fail
      go_ret2
      rw [hv.out]
      exact ⟨_, _, rfl, by rw [numsL_no hv.out]; exact intAt_zeros _ _ _, E0.out.alloc _⟩
set_option maxRecDepth 100000 in
set_option maxHeartbeats 2000000 in
theorem readNumbers_3 (s : ByteArray) (w : World) (hs : s.size ≤ 1048576) (ht : RTab w) :
    Calls Tryd.prog 30 #[.string s, .int .i64 3] w fun e w' => ∃ a cap, e = .returned (.tuple #[.slice a 3 cap, .bool (numsOk s 3)]) ∧ IntAt w' a (numsL s 3) ∧ Ext w w' := by
  have HR := Lib.hid (implReadList_any s w hs ht)
  have HM : Hid (∀ W : World, (Instr.makeSlice 33 (.int .i64 3) (.int .i64 3)).run Tryd.prog W = .ok (.slice (some ⟨W.heap.size, 0, none⟩) 3 3) (W.alloc (.cells (madeCells #[.int .i64 0] 3) 2))) := fun W => run_make_blk (P := Tryd.prog) (t := 33) Tryd.underlying33 (by kernel_rfl : (Tryd.prog.info? 2).map (fun i => (i.zero.map Value.cells, i.size, i.bytes)) = some (some #[.int .i64 0], 1, 8)) .i64 .i64 3 (by omega) (by omega) W
  clear ht
  cases h1 : listB s
  · have hv := Lib.hid (numsOk_b (m := 3) h1)
    rw [h1] at HR
    go_enter Tryd.func30, Tryd.ntmps30
    go_wp2_with fail
    refine HR.out.mono ?_
    rintro e W ⟨a, cap, rfl, hcap, -, E⟩
    have E0 := Lib.hid E
    have hm := HM.out
    clear E HR HM
    go_wp2_with fail
    go_ret2
    rw [hv.out]
    exact ⟨_, _, rfl, by rw [numsL_no hv.out]; exact intAt_zeros _ _ _, E0.out.alloc _⟩
  · rw [h1] at HR
    by_cases h2 : (listV s).length = 3
    · have hv := Lib.hid (numsOk_y h1 h2)
      have h2' : (((listV s).length : Int) != 3) = false := by rw [h2]; rfl
      have h3 := Lib.hid h2
      clear h2 HM
      go_enter Tryd.func30, Tryd.ntmps30
      go_wp2_with fail
      refine HR.out.mono ?_
      rintro e W ⟨a, cap, rfl, hcap, R, E⟩
      have E0 := Lib.hid E
      have R0 := Lib.hid R
      clear E R HR
      go_wp2_with fail
      go_ret2
      rw [hv.out, h3.out]
      exact ⟨a, cap, rfl, by rw [numsL_yes hv.out]; exact R0.out, E0.out⟩
    · have hv := Lib.hid (numsOk_n h2)
      have h2' : (((listV s).length : Int) != 3) = true := by rw [bne_iff_ne]; omega
      clear h2
      go_enter Tryd.func30, Tryd.ntmps30
      go_wp2_with fail
      refine HR.out.mono ?_
      rintro e W ⟨a, cap, rfl, hcap, -, E⟩
      have E0 := Lib.hid E
      have hm := HM.out
      clear E HR HM
      go_wp2_with fail
      go_ret2
      rw [hv.out]
      exact ⟨_, _, rfl, by rw [numsL_no hv.out]; exact intAt_zeros _ _ _, E0.out.alloc _⟩
set_option maxRecDepth 100000 in
set_option maxHeartbeats 2000000 in
theorem readNumbers_4 (s : ByteArray) (w : World) (hs : s.size ≤ 1048576) (ht : RTab w) :
    Calls Tryd.prog 30 #[.string s, .int .i64 4] w fun e w' => ∃ a cap, e = .returned (.tuple #[.slice a 4 cap, .bool (numsOk s 4)]) ∧ IntAt w' a (numsL s 4) ∧ Ext w w' := by
  have HR := Lib.hid (implReadList_any s w hs ht)
  have HM : Hid (∀ W : World, (Instr.makeSlice 33 (.int .i64 4) (.int .i64 4)).run Tryd.prog W = .ok (.slice (some ⟨W.heap.size, 0, none⟩) 4 4) (W.alloc (.cells (madeCells #[.int .i64 0] 4) 2))) := fun W => run_make_blk (P := Tryd.prog) (t := 33) Tryd.underlying33 (by kernel_rfl : (Tryd.prog.info? 2).map (fun i => (i.zero.map Value.cells, i.size, i.bytes)) = some (some #[.int .i64 0], 1, 8)) .i64 .i64 4 (by omega) (by omega) W
  clear ht
  cases h1 : listB s
  · have hv := Lib.hid (numsOk_b (m := 4) h1)
    rw [h1] at HR
    go_enter Tryd.func30, Tryd.ntmps30
    go_wp2_with fail
    refine HR.out.mono ?_
    rintro e W ⟨a, cap, rfl, hcap, -, E⟩
    have E0 := Lib.hid E
    have hm := HM.out
    clear E HR HM
    go_wp2_with fail
    go_ret2
    rw [hv.out]
    exact ⟨_, _, rfl, by rw [numsL_no hv.out]; exact intAt_zeros _ _ _, E0.out.alloc _⟩
  · rw [h1] at HR
    by_cases h2 : (listV s).length = 4
    · have hv := Lib.hid (numsOk_y h1 h2)
      have h2' : (((listV s).length : Int) != 4) = false := by rw [h2]; rfl
      have h3 := Lib.hid h2
      clear h2 HM
      go_enter Tryd.func30, Tryd.ntmps30
      go_wp2_with fail
      refine HR.out.mono ?_
      rintro e W ⟨a, cap, rfl, hcap, R, E⟩
      have E0 := Lib.hid E
      have R0 := Lib.hid R
      clear E R HR
      go_wp2_with fail
      go_ret2
      rw [hv.out, h3.out]
      exact ⟨a, cap, rfl, by rw [numsL_yes hv.out]; exact R0.out, E0.out⟩
    · have hv := Lib.hid (numsOk_n h2)
      have h2' : (((listV s).length : Int) != 4) = true := by rw [bne_iff_ne]; omega
      clear h2
      go_enter Tryd.func30, Tryd.ntmps30
      go_wp2_with fail
      refine HR.out.mono ?_
      rintro e W ⟨a, cap, rfl, hcap, -, E⟩
      have E0 := Lib.hid E
      have hm := HM.out
      clear E HR HM
      go_wp2_with fail
      go_ret2
      rw [hv.out]
      exact ⟨_, _, rfl, by rw [numsL_no hv.out]; exact intAt_zeros _ _ _, E0.out.alloc _⟩
end Go.Proofs.YtfiiaegfikocoaaDoor
