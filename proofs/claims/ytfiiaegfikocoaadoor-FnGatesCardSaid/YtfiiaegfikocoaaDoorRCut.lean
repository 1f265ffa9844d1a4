/- Texts cut at a byte: the reference's l01Split, and Go's Split, SplitN and Cut. No conditions beyond lengths that fit. -/
import Derived.Test.YtfiiaegfikocoaaDoorRDec
import Derived.Test.YtfiiaegfikocoaaDoorLst
namespace Go.Proofs.YtfiiaegfikocoaaDoor
open Go.RowKit
abbrev cellS : ByteArray → Nat → Value := fun (x : ByteArray) (_ : Nat) => Value.string x
abbrev StrAt (w : World) (a : Option Addr) (l : List ByteArray) : Prop := RowsAt 1 cellS w a l
theorem oneStr : ∀ (x : ByteArray) (j : Nat), j < 1 → (cellS x j).oneCell' = true := fun _ _ _ => rfl
theorem StrAt.at {w : World} {b off : Nat} {l : List ByteArray} (h : StrAt w (some ⟨b, off, none⟩) l) (k : Nat) (hk : k < l.length) : b < w.heap.size ∧ w.cell? ⟨b, off + k, none⟩ = some (.string (nth l k)) :=
  let h' := RowsAt.at h k hk; ⟨h'.1, by have := h'.2 0 (by decide); rwa [Nat.mul_one] at this⟩
theorem StrAt.of {w : World} {b off : Nat} {l : List ByteArray} (hb : b < w.heap.size) (h : ∀ k, k < l.length → w.cell? ⟨b, off + k, none⟩ = some (.string (nth l k))) : StrAt w (some ⟨b, off, none⟩) l :=
  fun k hk => ⟨b, off, rfl, hb, fun j hj => by obtain rfl : j = 0 := by omega
                                               rw [Nat.mul_one]; exact h k hk⟩
def mkB (l : List UInt8) : ByteArray := ⟨l.toArray⟩
theorem mkB_toList (l : List UInt8) : (mkB l).data.toList = l := toList_mk l
/-- The pieces, as strings. -/
def cutsB (c : UInt8) (s : ByteArray) : List ByteArray := (cuts c s.data.toList).map mkB
theorem cutsB_len (c : UInt8) (s : ByteArray) : 1 ≤ (cutsB c s).length ∧ (cutsB c s).length ≤ s.size + 1 := by
  unfold cutsB; rw [List.length_map, size_toList]; exact cuts_len _
theorem piece_size {c : UInt8} {s p : ByteArray} (h : p ∈ cutsB c s) : p.size ≤ s.size := by
  unfold cutsB at h
  rw [List.mem_map] at h
  obtain ⟨q, hq, rfl⟩ := h
  rw [size_toList, mkB_toList, size_toList]
  have key : ∀ (n : Nat) (l : List UInt8), l.length ≤ n → ∀ q ∈ cuts c l, q.length ≤ l.length := by
    intro n
    induction n with
    | zero => intro l hl q hq; have : l = [] := List.length_eq_zero_iff.1 (by omega)
              subst this; simp [cuts] at hq; subst hq; simp
    | succ n ih =>
      intro l hl q hq
      rcases cuts_cases c l with h | ⟨a, b, e, h⟩
      · rw [cuts_none h] at hq; simp only [List.mem_singleton] at hq; subst hq; exact Nat.le_refl _
      · rw [e, cuts_hit b h] at hq
        rw [e, List.length_append, List.length_cons]
        rcases List.mem_cons.1 hq with rfl | hq
        · omega
        · have := ih b (by rw [e, List.length_append, List.length_cons] at hl; omega) q hq
          omega
  exact key _ _ (Nat.le_refl _) q hq
theorem extract_mk {s : ByteArray} {a b : Nat} : s.extract a b = mkB ((s.data.toList.drop a).take (b - a)) := by
  have h := Lib.extract_data s a b
  rw [← h]; exact (mk_toList _).symm
theorem extract_end {s : ByteArray} {a b : Nat} (hb : s.size ≤ b) : s.extract a b = mkB (s.data.toList.drop a) := by
  rw [extract_mk, List.take_of_length_le (by rw [List.length_drop, ← size_toList]; omega)]
theorem rows_str {T : TypeId} (w : World) (x : ByteArray) {n : Nat} (hn : n = w.heap.size) : StrAt (w.alloc (.cells #[.string x] T)) (some ⟨n, 0, none⟩) [x] := by
  subst hn
  refine rows_new (n := 1) (cell := cellS) w #[.string x] x (fun j hj => ?_)
  obtain rfl : j = 0 := by omega
  rfl
theorem elStrs : El Tryd.prog 48 9 1 16 := El.mk' Tryd.underlying48 (by kernel_rfl) (by decide)
/-- What the reference's cut has done before byte k. -/
structure Cutting (c : UInt8) (s : ByteArray) (k fr : Nat) (L : List ByteArray) : Prop where
  eq : ∃ ps, cuts c (s.data.toList.take k) = ps ++ [(s.data.toList.drop fr).take (k - fr)] ∧ L = ps.map mkB
  le : fr ≤ k
  few : L.length ≤ k
theorem Cutting.start (c : UInt8) (s : ByteArray) : Cutting c s 0 0 [] := ⟨⟨[], by simp [cuts], rfl⟩, Nat.le_refl _, Nat.le_refl _⟩
theorem take_snoc {s : ByteArray} {k : Nat} (h : k < s.size) : s.data.toList.take (k + 1) = s.data.toList.take k ++ [s[k]] := by
  have := take_byte h 0 (Nat.zero_le _); simpa using this
theorem Cutting.skip {c : UInt8} {s : ByteArray} {k fr : Nat} {L : List ByteArray} (h : Cutting c s k fr L) (hk : k < s.size) (hc : s[k] ≠ c) : Cutting c s (k + 1) fr L := by
  obtain ⟨⟨ps, e, rfl⟩, hle, hf⟩ := h
  refine ⟨⟨ps, ?_, rfl⟩, by omega, by omega⟩
  rw [take_snoc hk, cuts_snoc _ _ _ _ e, if_neg hc, take_byte hk fr hle]
theorem Cutting.cut {c : UInt8} {s : ByteArray} {k fr : Nat} {L : List ByteArray} (h : Cutting c s k fr L) (hk : k < s.size) (hc : s[k] = c) : Cutting c s (k + 1) (k + 1) (L ++ [s.extract fr k]) := by
  obtain ⟨⟨ps, e, rfl⟩, hle, hf⟩ := h
  refine ⟨⟨ps ++ [(s.data.toList.drop fr).take (k - fr)], ?_, ?_⟩, Nat.le_refl _, by rw [List.length_append]; simp only [List.length_cons, List.length_nil]; omega⟩
  · rw [take_snoc hk, cuts_snoc _ _ _ _ e, if_pos hc, Nat.sub_self, List.take_zero, List.append_assoc]; rfl
  · rw [List.map_append, extract_mk]; rfl
theorem Cutting.done {c : UInt8} {s : ByteArray} {fr : Nat} {L : List ByteArray} (h : Cutting c s s.size fr L) : L ++ [s.extract fr s.size] = cutsB c s := by
  obtain ⟨⟨ps, e, rfl⟩, hle, hf⟩ := h
  unfold cutsB
  rw [List.take_of_length_le (by rw [← size_toList]; exact Nat.le_refl _)] at e
  rw [e, List.map_append, extract_mk]; rfl
set_option maxRecDepth 100000 in
set_option maxHeartbeats 4000000 in
theorem l01Split_any (s : ByteArray) (c : UInt8) (ci : Int) (w : World) (hc : ci = (c.toNat : Int)) (hs : s.size ≤ 1048576) :
    Calls Tryd.prog 18 #[.string s, .int .u8 ci] w (OutL 9 1 cellS w (cutsB c s)) := by
  subst hc
  have hO : Lst 9 1 cellS (w.alloc (.cells #[] 9)) w.heap.size (.slice (some ⟨w.heap.size, 0, none⟩) 0 0) ([] : List ByteArray) := Lst.new w _ (Nat.le_refl _)
  have hE := (Ext.refl w).alloc (.cells #[] 9)
  go_enter Tryd.func18, Tryd.ntmps18
  go_wp2_with fail
  go_loopw [5, 6, 7] (fun o f i wr => ∃ (k fr : Nat) (L : List ByteArray), k ≤ s.size ∧ i = .int .i64 k ∧ f = .int .i64 fr ∧ fr ≤ k ∧ L.length ≤ k ∧ Hid (Cutting c s k fr L) ∧ Hid (Lst 9 1 cellS wr w.heap.size o L) ∧ Ext w wr) (fun _ _ i _ => s.size - (intOf i).toNat)
  case atStart => exact ⟨0, 0, [], Nat.zero_le _, rfl, rfl, Nat.le_refl _, Nat.le_refl _, Cutting.start c s, hO, hE⟩
  case round =>
    clear hO hE
    obtain ⟨k, fr, L, hk, rfl, rfl, hfr, hL, HC, HO, he⟩ := hrel
    obtain ⟨ad, cap, rfl, hcap, hcm, -, -⟩ := HO.out.shape
    have hsz := he.size
    by_cases hlt : k < s.size
    · by_cases hb : s[k] = c
      · have hb' : ((s[k].toNat : Int) == (c.toNat : Int)) = true := by rw [hb]; simp
        have HC2 := Lib.hid (HC.out.cut hlt hb)
        have HO1 : Hid (Lst 9 1 cellS (wr.alloc (.cells #[.string (s.extract fr k)] 9)) w.heap.size (.slice ad L.length cap) L) := HO.out.ext ((Ext.refl _).alloc _)
        have HR1 : Hid (StrAt (wr.alloc (.cells #[.string (s.extract fr k)] 9)) (some ⟨wr.heap.size, 0, none⟩) [s.extract fr k]) := rows_str _ _ rfl
        have hE1 := Lib.hid (he.alloc (.cells #[.string (s.extract fr k)] 9))
        clear hb HC HO
        go_wp2_with (at_builtin; refine wpList_pushL elStrs oneStr rfl _ _ rfl w.heap.size _ L rfl HO1.out _ 1 1 [s.extract fr k] rfl rfl HR1.out (by omega) (by omega) (by rw [size_new]; omega) ?_; intro v' w3 HL hs3 _)
        have HL2 := Lib.hid HL
        have hE2 := Lib.hid (hs3.ext hE1.out (Nat.le_refl _))
        clear HL hs3 HO1 HR1 hE1
        go_wp2_with fail
        go_roundw
        case rel => exact ⟨k + 1, k + 1, L ++ [s.extract fr k], by omega, by go_num, by go_num, Nat.le_refl _, by rw [List.length_append]; simp only [List.length_cons, List.length_nil]; omega, HC2.out, HL2.out, hE2.out⟩
        case measure => simp [intOf]; omega
      · have hb' : ((s[k].toNat : Int) == (c.toNat : Int)) = false := by
          rw [beq_eq_false_iff_ne]; intro h; exact hb (UInt8.toNat_inj.1 (by omega))
        have HC2 := Lib.hid (HC.out.skip hlt hb)
        clear hb HC
        go_wp2_with fail
        go_roundw
        case rel => exact ⟨k + 1, fr, L, by omega, by go_num, rfl, by omega, by omega, HC2.out, HO.out, he⟩
        case measure => simp [intOf]; omega
    · obtain rfl : k = s.size := by omega
      have HV : Hid (L ++ [s.extract fr s.size] = cutsB c s) := HC.out.done
      have HO1 : Hid (Lst 9 1 cellS (wr.alloc (.cells #[.string (s.extract fr s.size)] 9)) w.heap.size (.slice ad L.length cap) L) := HO.out.ext ((Ext.refl _).alloc _)
      have HR1 : Hid (StrAt (wr.alloc (.cells #[.string (s.extract fr s.size)] 9)) (some ⟨wr.heap.size, 0, none⟩) [s.extract fr s.size]) := rows_str _ _ rfl
      have hE1 := Lib.hid (he.alloc (.cells #[.string (s.extract fr s.size)] 9))
      clear HC HO
      go_wp2_with (at_builtin; refine wpList_pushL elStrs oneStr rfl _ _ rfl w.heap.size _ L rfl HO1.out _ 1 1 [s.extract fr s.size] rfl rfl HR1.out (by omega) (by omega) (by rw [size_new]; omega) ?_; intro v' w3 HL hs3 _)
      rw [HV.out] at HL
      obtain ⟨a9, c9, rfl, hc9, hm9, R9, O9⟩ := HL.shape
      have R10 := Lib.hid R9
      have O10 := Lib.hid O9
      have hE2 := Lib.hid (hs3.ext hE1.out (Nat.le_refl _))
      clear HL hs3 HO1 HR1 hE1 R9 O9
      go_wp2_with fail
      go_ret
      exact ⟨a9, c9, rfl, hc9, O10.out, R10.out, hE2.out⟩
theorem strAt_new (w : World) (l : List ByteArray) (cs : Array Value) (T : TypeId) (h : ∀ k, k < l.length → cs[k]? = some (.string (nth l k))) : StrAt (w.alloc (.cells cs T)) (some ⟨w.heap.size, 0, none⟩) l :=
  StrAt.of (by rw [size_new]; omega) fun k hk => by rw [Nat.zero_add, cell_new]; exact h k hk
/-- The pieces that Go's SplitN hands back. -/
def partsB (c : UInt8) (k : Nat) (s : ByteArray) : List ByteArray := (Lib.splitK [c] 0 k s.data.toList).map mkB
theorem splitB_parts (c : UInt8) (k : Nat) (s : ByteArray) : Lib.splitB ⟨#[c]⟩ 0 k s = partsB c k s := by
  have h := Lib.splitB_data ⟨#[c]⟩ 0 k s
  unfold partsB
  have e : (⟨#[c]⟩ : ByteArray).data.toList = [c] := rfl
  rw [e] at h
  rw [← h, List.map_map]
  have : (mkB ∘ fun (x : ByteArray) => x.data.toList) = id := by funext x; exact mk_toList x
  rw [this, List.map_id]
theorem Split_any (s : ByteArray) (c : UInt8) (w : World) (hs : s.size ≤ 1048576) (ht : RTab w) :
    Calls Tryd.prog 29 #[.string s, .string ⟨#[c]⟩] w fun e w' => ∃ a cap, e = .returned (.slice a (cutsB c s).length cap) ∧ StrAt w' a (cutsB c s) ∧ Ext w w' := by
  obtain ⟨m, hm⟩ := ht.max
  refine (Tryd.strings_Split s ⟨#[c]⟩ m w (by omega) hm (Nat.le_refl 1)).mono fun e w' ⟨he, hw⟩ => ?_
  have e1 : Lib.countB s ⟨#[c]⟩ + 1 = (cutsB c s).length := by
    unfold cutsB; rw [List.length_map, ← count_cuts]
  have e2 : Lib.splitB ⟨#[c]⟩ 0 (Lib.countB s ⟨#[c]⟩) s = cutsB c s := by
    rw [splitB_parts]; unfold partsB cutsB
    rw [splitK_cuts, if_pos (by rw [← count_cuts]; exact Nat.le_refl _)]
  rw [e1] at he
  rw [e2] at hw
  refine ⟨_, _, he, ?_, by rw [hw]; exact (Ext.refl _).alloc _⟩
  rw [hw]
  exact strAt_new w _ _ _ fun k hk => by simp [nth_eq _ _ hk, hk]
theorem SplitN_any (s : ByteArray) (c : UInt8) (n : Nat) (w : World) (hs : s.size ≤ 1048576) (ht : RTab w) (h1 : 1 ≤ n) (hn : n ≤ 1048576) :
    Calls Tryd.prog 66 #[.string s, .string ⟨#[c]⟩, .int .i64 (n : Int)] w fun e w' => ∃ a cap, e = .returned (.slice a (partsB c (min n (s.size + 1) - 1) s).length cap) ∧ StrAt w' a (partsB c (min n (s.size + 1) - 1) s) ∧ Ext w w' := by
  obtain ⟨m, hm⟩ := ht.max
  refine (Tryd.strings_SplitN s ⟨#[c]⟩ n m w (by omega) hm (Nat.le_refl 1) h1 (by omega)).mono fun e w' ⟨he, hw⟩ => ?_
  rw [splitB_parts] at he hw
  refine ⟨_, _, he, ?_, by rw [hw]; exact (Ext.refl _).alloc _⟩
  rw [hw]
  exact strAt_new w _ _ _ fun k hk => by
    unfold Lib.cellsOf
    rw [List.getElem?_toArray, List.getElem?_append_left (by simpa using hk), List.getElem?_map, List.getElem?_eq_getElem hk, nth_eq _ _ hk]; rfl
theorem Cut_any (s : ByteArray) (c : UInt8) (w : World) (hs : s.size ≤ 1048576) (ht : RTab w) :
    Calls Tryd.prog 21 #[.string s, .string ⟨#[c]⟩] w fun e w' => e = .returned (.tuple #[.string (mkB (Lib.cut s.data.toList [c]).1), .string (mkB (Lib.cut s.data.toList [c]).2.1), .bool (Lib.cut s.data.toList [c]).2.2]) ∧ Ext w w' := by
  obtain ⟨m, hm⟩ := ht.max
  exact (Tryd.strings_Cut s ⟨#[c]⟩ m w (by omega) hm).mono fun e w' ⟨he, n, hw⟩ => ⟨he, hw ▸ (Ext.refl _).drewN n⟩
end Go.Proofs.YtfiiaegfikocoaaDoor
