/- Numbers read back: the program's ReadDecimal (by Go's strconv) and the reference's l01Number. Both hand back 'numP' of the text. The variables that are read: strconv's table and errors, the package bytealg's MaxLen. -/
import Derived.Test.YtfiiaegfikocoaaDoorListText
import Derived.Test.YtfiiaegfikocoaaDoorCuts
import Derived.Lib.SmallJoins
namespace Go.Proofs.YtfiiaegfikocoaaDoor
open Go.RowKit
def numV (s : ByteArray) : Int := (numP s.data.toList).getD 0
def numB (s : ByteArray) : Bool := (numP s.data.toList).isSome
theorem num_some {s : ByteArray} {n : Int} (h : numP s.data.toList = some n) : numV s = n ∧ numB s = true := by unfold numV numB; rw [h]; exact ⟨rfl, rfl⟩
theorem num_none {s : ByteArray} (h : numP s.data.toList = none) : numV s = 0 ∧ numB s = false := by unfold numV numB; rw [h]; exact ⟨rfl, rfl⟩
theorem num_bd {s : ByteArray} : -1000000000000000000 < numV s ∧ numV s < 1000000000000000000 := by
  unfold numV
  cases h : numP s.data.toList with
  | none => simp
  | some n => have := numP_iff.1 h; exact this.2
/-- What an error that a variable holds looks like. -/
def ErrCell (w : World) (g : Nat) : Prop := ∃ ev, w.cell? ⟨g, 0, none⟩ = some ev ∧ (ev = .nilIface ∨ ∃ te pe, ev = .iface te pe)
theorem ErrCell.ext {w w' : World} {g : Nat} (h : ErrCell w g) (he : Ext w w') : ErrCell w' g := by
  obtain ⟨ev, h1, h2⟩ := h; exact ⟨ev, he.cell h1, h2⟩
/-- The variables that are read. -/
structure RTab (w : World) : Prop where
  tab : Tab w
  syn : ErrCell w 1
  rng : ErrCell w 2
  max : ∃ m, w.cell? ⟨0, 0, none⟩ = some (.int .i64 m)
theorem RTab.ext {w w' : World} (h : RTab w) (he : Ext w w') : RTab w' :=
  ⟨h.tab.ext he, h.syn.ext he, h.rng.ext he, by obtain ⟨m, hm⟩ := h.max; exact ⟨m, he.cell hm⟩⟩
theorem toList_mk (l : List UInt8) : (⟨l.toArray⟩ : ByteArray).data.toList = l := by simp
theorem mk_toList (s : ByteArray) : (⟨s.data.toList.toArray⟩ : ByteArray) = s := by cases s; simp
theorem mk_inj {l : List UInt8} {s : ByteArray} : (⟨l.toArray⟩ : ByteArray) = s ↔ l = s.data.toList := by
  constructor
  · rintro rfl; simp
  · rintro rfl; exact mk_toList s
theorem size_toList (s : ByteArray) : s.size = s.data.toList.length := Lib.size_eq s
theorem decS_iff {n : Int} {s : ByteArray} : decS n = s ↔ Lib.itoa n = s.data.toList := mk_inj
/-- How strconv.ParseInt ends: the number and no error, or some number and an error. -/
theorem ParseInt_ok (s : ByteArray) (w : World) (hs : s.size ≤ 1048576) {v : Int} (h : Lib.parseIntB 64 s.data.toList = .ok v) :
    Calls Tryd.prog 45 #[.string s, .int .i64 10, .int .i64 64] w fun e w' => e = .returned (.tuple #[.int .i64 v, .nilIface]) ∧ Ext w w' :=
  (Tryd.strconv_ParseInt_10_at64_ok s (by omega) v h w).mono fun e w' ⟨he, hw⟩ => ⟨he, by
    rcases hw with rfl | ⟨t, rfl⟩
    · exact Ext.refl _
    · exact Ext.of_below (Go.Joins.below_bytesWorld _ _ _ _ (Nat.le_refl _))⟩
theorem ParseInt_bad (s : ByteArray) (w : World) (hs : s.size ≤ 1048576) (ht : RTab w) (h : ∀ v, Lib.parseIntB 64 s.data.toList ≠ .ok v) :
    Calls Tryd.prog 45 #[.string s, .int .i64 10, .int .i64 64] w fun e w' => (∃ v T N, e = .returned (.tuple #[.int .i64 v, .iface T (.pointer (some ⟨N, 0, none⟩))])) ∧ Ext w w' := by
  rcases hp : Lib.parseIntB 64 s.data.toList with v | _ | _
  · exact absurd hp (h v)
  · obtain ⟨ev, h1, h2⟩ := ht.syn
    exact (Any.strconv_ParseInt_10_at64_syntax Tryd.laysC174 s (by omega) hp ev w h1 h2).mono fun e w' ⟨N, he, _, _, hb⟩ => ⟨⟨_, _, N, he⟩, Ext.of_below hb⟩
  · obtain ⟨ev, h1, h2⟩ := ht.rng
    exact (Tryd.strconv_ParseInt_10_at64_range s (by omega) hp ev w h1 h2).mono fun e w' ⟨N, he, _, _, hb⟩ => ⟨⟨_, _, N, he⟩, Ext.of_below hb⟩
set_option maxRecDepth 100000 in
set_option maxHeartbeats 2000000 in
theorem ReadDecimal_any (s : ByteArray) (w : World) (hs : s.size ≤ 1048576) (ht : RTab w) :
    Gives Tryd.prog 22 #[.string s] w (.tuple #[.int .i64 (numV s), .bool (numB s)]) := by
  unfold Gives
  have HT := Lib.hid ht
  by_cases hp : ∃ v, Lib.parseIntB 64 s.data.toList = .ok v
  · obtain ⟨v, hv⟩ := hp
    have HP := Lib.hid (ParseInt_ok s w hs hv)
    have hn := Lib.hid (numP_ok hv)
    obtain ⟨t, htt⟩ : ∃ t : ByteArray, t = ⟨(Lib.trimPrefix s.data.toList [45]).toArray⟩ := ⟨_, rfl⟩
    have htz : Hid (t.size = bare s.data.toList) := by show _ = _; rw [htt, size_toList, toList_mk]; rfl
    have HTr : Hid (∀ w', Calls Tryd.prog 46 #[.string s, .string ⟨#[45]⟩] w' fun e w'' => e = .returned (.string t) ∧ w'' = w') := fun w' => by
      have := Tryd.strings_TrimPrefix s ⟨#[45]⟩ w'
      rw [htt]; exact this
    have hb := Lib.parseIntB_bounds hv
    have e63 : ((2 ^ (64 - 1) : Nat) : Int) = 9223372036854775808 := by decide
    rw [e63] at hb
    have HD : Hid (∀ w', Ext w w' → Gives Tryd.prog 33 #[.int .i64 v] w' (.string (decS v))) := fun w' he => Decimal_any v w' (by omega) (by omega) (HT.out.tab.ext he)
    clear ht htt hb e63 hv
    by_cases h1 : bare s.data.toList ≤ 18
    · have ht18 : t.size ≤ 18 := by rw [htz.out]; exact h1
      cases h2 : sEq (decS v) s
      · have hno := Lib.hid (num_none (s := s) (by rw [hn.out, if_neg]; rintro ⟨-, h3⟩; rw [sEq_not] at h2; exact h2 (decS_iff.2 h3)))
        clear h1 hn
        go_enter Tryd.func22, Tryd.ntmps22
        go_wp2_with fail
        refine HP.out.mono ?_
        rintro e w1 ⟨rfl, E1⟩
        replace E1 := Lib.hid E1
        go_wp2_with (first | (go_at_call 46; refine (HTr.out _).mono ?_; rintro e w' ⟨rfl, rfl⟩) | (go_at_call 33; refine (HD.out _ E1.out).mono ?_; rintro e w' ⟨rfl, y, rfl⟩))
        go_ret2
        rw [hno.out.1, hno.out.2]
        exact ⟨rfl, E1.out.lift _⟩
      · have hyes := Lib.hid (num_some (s := s) (n := v) (by rw [hn.out, if_pos ⟨h1, decS_iff.1 (sEq_iff.1 h2)⟩]))
        clear h1 hn
        go_enter Tryd.func22, Tryd.ntmps22
        go_wp2_with fail
        refine HP.out.mono ?_
        rintro e w1 ⟨rfl, E1⟩
        replace E1 := Lib.hid E1
        go_wp2_with (first | (go_at_call 46; refine (HTr.out _).mono ?_; rintro e w' ⟨rfl, rfl⟩) | (go_at_call 33; refine (HD.out _ E1.out).mono ?_; rintro e w' ⟨rfl, y, rfl⟩))
        go_ret2
        rw [hyes.out.1, hyes.out.2]
        exact ⟨rfl, E1.out.lift _⟩
    · have ht18 : 18 < t.size := by rw [htz.out]; omega
      have hno := Lib.hid (num_none (s := s) (by rw [hn.out, if_neg]; rintro ⟨h3, -⟩; exact h1 h3))
      clear h1 hn
      go_enter Tryd.func22, Tryd.ntmps22
      go_wp2_with fail
      refine HP.out.mono ?_
      rintro e w1 ⟨rfl, E1⟩
      replace E1 := Lib.hid E1
      go_wp2_with (first | (go_at_call 46; refine (HTr.out _).mono ?_; rintro e w' ⟨rfl, rfl⟩) | (go_at_call 33; refine (HD.out _ E1.out).mono ?_; rintro e w' ⟨rfl, y, rfl⟩))
      go_ret2
      rw [hno.out.1, hno.out.2]
      exact ⟨rfl, E1.out⟩
  · have HP := Lib.hid (ParseInt_bad s w hs ht (fun v hv => hp ⟨v, hv⟩))
    have hno := Lib.hid (num_none (s := s) (numP_bad fun v hv => hp ⟨v, hv⟩))
    clear ht hp
    go_enter Tryd.func22, Tryd.ntmps22
    go_wp2_with fail
    refine HP.out.mono ?_
    rintro e w1 ⟨⟨v, T, N, rfl⟩, E1⟩
    replace E1 := Lib.hid E1
    go_wp2_with fail
    go_ret2
    rw [hno.out.1, hno.out.2]
    exact ⟨rfl, E1.out⟩
/-! ### The reference's own -/
theorem digitB_isD (c : UInt8) : digitB (c.toNat : Int) = isD c := by
  unfold digitB isD
  rw [Bool.eq_iff_iff]; simp only [Bool.and_eq_true, decide_eq_true_eq]; omega
theorem get_toList {s : ByteArray} {k : Nat} (h : k < s.size) : s.data.toList[k]'(by rw [← size_toList]; exact h) = s[k] := by
  rw [show s[k] = s.data.toList[k]'(by rw [← size_toList]; exact h) from rfl]
theorem take_byte {s : ByteArray} {k : Nat} (h : k < s.size) (a : Nat) (ha : a ≤ k) : (s.data.toList.drop a).take (k + 1 - a) = (s.data.toList.drop a).take (k - a) ++ [s[k]] := by
  have hl : k - a < (s.data.toList.drop a).length := by rw [List.length_drop, ← size_toList]; omega
  rw [show k + 1 - a = (k - a) + 1 by omega, List.take_succ_eq_append_getElem hl]
  congr 2
  rw [List.getElem_drop, ← get_toList h]
  congr 1; omega
/-- The digits from a on, as a number; with a sign. -/
def sgn (a : Nat) (n : Int) : Int := if a = 1 then -n else n
theorem numP_at {s : ByteArray} (h0 : 0 < s.size) {a : Nat} (ha : a = if s[0] = 45 then 1 else 0) : numP s.data.toList = (magP (s.data.toList.drop a) (decide (1 < s.size))).map (fun (m : Nat) => sgn a (m : Int)) := by
  have hl : 0 < s.data.toList.length := by rw [← size_toList]; exact h0
  cases hs : s.data.toList with
  | nil => rw [hs] at hl; exact absurd hl (by simp)
  | cons c r =>
    have hc : s[0] = c := by rw [← get_toList h0]; simp [hs]
    have hsz : s.size = r.length + 1 := by rw [size_toList, hs]; rfl
    simp only [numP]
    rw [hc] at ha
    by_cases h : c = 45
    · rw [if_pos h] at ha ⊢
      subst ha
      rw [List.drop_succ_cons, List.drop_zero]
      by_cases hr : r = []
      · subst hr; rfl
      · have : decide (1 < s.size) = true := by rw [decide_eq_true_eq]; have := List.length_pos_iff.2 hr; omega
        rw [this]; rfl
    · rw [if_neg h] at ha ⊢
      subst ha
      rw [List.drop_zero, hsz]; rfl
theorem head_drop {s : ByteArray} {a : Nat} (h : a < s.size) : (s.data.toList.drop a).head? = some s[a] := by
  rw [List.head?_drop, List.getElem?_eq_getElem (by rw [← size_toList]; exact h), get_toList h]
theorem mag_bad {s : ByteArray} {a : Nat} (h : s.size ≤ a ∨ 18 < s.size - a ∨ (∃ h : a < s.size, s[a] = 48 ∧ 1 < s.size)) : magP (s.data.toList.drop a) (decide (1 < s.size)) = none := by
  unfold magP
  rw [if_pos]
  rcases h with h | h | ⟨h, h1, h2⟩
  · exact .inl (List.drop_eq_nil_of_le (by rw [← size_toList]; exact h))
  · exact .inr (.inl (by rw [List.length_drop, ← size_toList]; exact h))
  · exact .inr (.inr ⟨by rw [head_drop h, h1], decide_eq_true h2⟩)
theorem mag_digit {s : ByteArray} {a k : Nat} (ha : a ≤ k) (hk : k < s.size) (h : isD s[k] = false) : magP (s.data.toList.drop a) (decide (1 < s.size)) = none := by
  unfold magP
  split
  · rfl
  · rw [if_neg]
    rw [List.all_eq_true]
    intro hall
    have hm : s[k] ∈ s.data.toList.drop a := by
      rw [← get_toList hk, List.mem_iff_getElem]
      exact ⟨k - a, by rw [List.length_drop, ← size_toList]; omega, by rw [List.getElem_drop]; congr 1; omega⟩
    rw [hall _ hm] at h; cases h
theorem mag_good {s : ByteArray} {a : Nat} (h0 : a < s.size) (h1 : s.size - a ≤ 18) (h2 : ¬ (s[a] = 48 ∧ 1 < s.size)) (h3 : ∀ k, (hk : k < s.size) → a ≤ k → isD s[k] = true) : magP (s.data.toList.drop a) (decide (1 < s.size)) = some (numD 0 (s.data.toList.drop a)) := by
  unfold magP
  rw [if_neg, if_pos]
  · rw [List.all_eq_true]
    intro x hx
    obtain ⟨j, hj, rfl⟩ := List.getElem_of_mem hx
    rw [List.length_drop, ← size_toList] at hj
    have := h3 (a + j) (by omega) (by omega)
    rw [← get_toList (by omega)] at this
    rw [List.getElem_drop]; exact this
  · rintro (h | h | ⟨h, h'⟩)
    · have := congrArg List.length h
      rw [List.length_drop, ← size_toList, List.length_nil] at this; omega
    · rw [List.length_drop, ← size_toList] at h; omega
    · rw [head_drop h0] at h
      simp only [Option.some.injEq] at h
      exact h2 ⟨h, of_decide_eq_true h'⟩
/-- The number that the bytes from a up to k spell. -/
def partN (s : ByteArray) (a k : Nat) : Nat := numD 0 ((s.data.toList.drop a).take (k - a))
theorem partN_start (s : ByteArray) (a : Nat) : partN s a a = 0 := by unfold partN; rw [Nat.sub_self]; rfl
theorem partN_next {s : ByteArray} {a k : Nat} (ha : a ≤ k) (hk : k < s.size) : partN s a (k + 1) = 10 * partN s a k + (s[k].toNat - 48) := by
  unfold partN; rw [take_byte hk a ha, numD_snoc]
theorem partN_end {s : ByteArray} {a : Nat} : partN s a s.size = numD 0 (s.data.toList.drop a) := by
  unfold partN; rw [List.take_of_length_le (by rw [List.length_drop, ← size_toList]; exact Nat.le_refl _)]
theorem partN_lt {s : ByteArray} {a k : Nat} (ha : a ≤ k) (hk : k ≤ s.size) (h : k - a ≤ 18) (h3 : ∀ j, (hj : j < s.size) → a ≤ j → j < k → isD s[j] = true) : partN s a k < 1000000000000000000 := by
  unfold partN
  have h1 := numD_lt ((s.data.toList.drop a).take (k - a)) (fun c hc => by
    obtain ⟨j, hj, rfl⟩ := List.getElem_of_mem hc
    rw [List.length_take, List.length_drop, ← size_toList] at hj
    have := h3 (a + j) (by omega) (by omega) (by omega)
    rw [← get_toList (by omega)] at this
    rw [List.getElem_take, List.getElem_drop]; exact this) 0
  have h4 : 10 ^ ((s.data.toList.drop a).take (k - a)).length ≤ 10 ^ 18 := Nat.pow_le_pow_right (by decide) (by rw [List.length_take]; omega)
  have e18 : (10 : Nat) ^ 18 = 1000000000000000000 := by decide
  omega
theorem partN_lt17 {s : ByteArray} {a k : Nat} (ha : a ≤ k) (hk : k ≤ s.size) (h : k - a ≤ 17) (h3 : ∀ j, (hj : j < s.size) → a ≤ j → j < k → isD s[j] = true) : partN s a k < 100000000000000000 := by
  unfold partN
  have h1 := numD_lt ((s.data.toList.drop a).take (k - a)) (fun c hc => by
    obtain ⟨j, hj, rfl⟩ := List.getElem_of_mem hc
    rw [List.length_take, List.length_drop, ← size_toList] at hj
    have := h3 (a + j) (by omega) (by omega) (by omega)
    rw [← get_toList (by omega)] at this
    rw [List.getElem_take, List.getElem_drop]; exact this) 0
  have h4 : 10 ^ ((s.data.toList.drop a).take (k - a)).length ≤ 10 ^ 17 := Nat.pow_le_pow_right (by decide) (by rw [List.length_take]; omega)
  have e17 : (10 : Nat) ^ 17 = 100000000000000000 := by decide
  omega
set_option maxRecDepth 100000 in
set_option maxHeartbeats 4000000 in
theorem l01Number_any (s : ByteArray) (w : World) (hs : s.size ≤ 1048576) :
    Calls Tryd.prog 41 #[.string s] w fun e w' => e = .returned (.tuple #[.int .i64 (numV s), .bool (numB s)]) ∧ w' = w := by
  rcases Nat.eq_zero_or_pos s.size with h0 | h0
  · have hno := Lib.hid (num_none (s := s) (by
      have : s.data.toList = [] := List.length_eq_zero_iff.1 (by rw [← size_toList]; exact h0)
      rw [this]; rfl))
    go_enter Tryd.func41, Tryd.ntmps41
    go_wp2_with fail
    go_ret2
    rw [hno.out.1, hno.out.2]
    exact ⟨rfl, rfl⟩
  by_cases hm : s[0] = 45
  · have hat : 1 = if s[0] = 45 then 1 else 0 := by rw [if_pos hm]
    have hm' : ((s[0].toNat : Int) == 45) = true := by rw [hm]; rfl
    clear hm
    have hN : Hid (numP s.data.toList = (magP (s.data.toList.drop 1) (decide (1 < s.size))).map (fun (m : Nat) => sgn 1 (m : Int))) := numP_at h0 hat
    clear hat
    by_cases hA : s.size = 1
    · have hno := Lib.hid (num_none (s := s) (by rw [hN.out, mag_bad (.inl (by omega))]; rfl))
      have hA' : ((s.size : Int) == 1) = true := by rw [hA]; rfl
      go_enter Tryd.func41, Tryd.ntmps41
      go_wp2_with fail
      go_ret2
      rw [hno.out.1, hno.out.2]
      exact ⟨rfl, rfl⟩
    have hA' : ((s.size : Int) == 1) = false := by rw [beq_eq_false_iff_ne]; omega
    have hgt : 1 < s.size := by omega
    by_cases hB : 18 < s.size - 1
    · have hno := Lib.hid (num_none (s := s) (by rw [hN.out, mag_bad (.inr (.inl hB))]; rfl))
      have hB' : 18 + 1 < s.size := by omega
      clear hB hA
      go_enter Tryd.func41, Tryd.ntmps41
      go_wp2_with fail
      go_ret2
      rw [hno.out.1, hno.out.2]
      exact ⟨rfl, rfl⟩
    have hB' : s.size ≤ 18 + 1 := by omega
    clear hB hA
    by_cases hC : s[1] = 48 ∧ 1 < s.size
    · have hno := Lib.hid (num_none (s := s) (by rw [hN.out, mag_bad (.inr (.inr ⟨hgt, hC.1, hC.2⟩))]; rfl))
      have hC' : ((s[1].toNat : Int) == 48) = true := by rw [hC.1]; rfl
      have hC2 : 1 < s.size := hC.2
      clear hC
      go_enter Tryd.func41, Tryd.ntmps41
      go_wp2_with fail
      go_ret2
      rw [hno.out.1, hno.out.2]
      exact ⟨rfl, rfl⟩
    have hQ : Hid (∀ (h3 : ∀ k, (hk : k < s.size) → 1 ≤ k → isD s[k] = true), numV s = sgn 1 (partN s 1 s.size : Int) ∧ numB s = true) := fun h3 => num_some (by rw [hN.out, mag_good hgt (by omega) hC h3, partN_end]; rfl)
    have hZ : Hid (∀ k, (hk : k < s.size) → 1 ≤ k → isD s[k] = false → numV s = 0 ∧ numB s = false) := fun k hk ha h => num_none (by rw [hN.out, mag_digit ha hk h]; rfl)
    rcases (show ((s[1].toNat : Int) == 48) = false ∨ (((s[1].toNat : Int) == 48) = true ∧ ¬ 1 < s.size) by
      rcases Bool.eq_false_or_eq_true ((s[1].toNat : Int) == 48) with h | h
      · refine .inr ⟨h, fun h2 => hC ⟨?_, h2⟩⟩
        rw [beq_iff_eq] at h
        exact UInt8.toNat_inj.1 (by show s[1].toNat = 48; omega)
      · exact .inl h) with hC' | ⟨hC', hC2⟩
    all_goals try exact absurd hgt hC2
    all_goals
      clear hC hN
      go_enter Tryd.func41, Tryd.ntmps41
      go_wp2_with fail
      go_loop [5, 6] (fun n i => ∃ k : Nat, 1 ≤ k ∧ k ≤ s.size ∧ i = .int .i64 k ∧ n = .int .i64 (partN s 1 k : Int) ∧ Hid (∀ j, (hj : j < s.size) → 1 ≤ j → j < k → isD s[j] = true)) (fun _ i => s.size - (intOf i).toNat)
      case atStart => exact ⟨1, Nat.le_refl _, by omega, rfl, by rw [partN_start]; rfl, fun j _ h1 h2 => absurd h1 (by omega)⟩
      case round =>
        obtain ⟨k, ha, hk, rfl, rfl, hall⟩ := hrel
        by_cases hlt : k < s.size
        · have hb := partN_lt17 ha hk (by omega) hall.out
          cases h3 : digitB (s[k].toNat : Int)
          · have hno := Lib.hid (hZ.out k hlt ha (by rw [← digitB_isD]; exact h3))
            go_wp2_with (go_at_call 57; refine (l01Digit_any _ _).mono ?_; rintro e w' ⟨rfl, rfl⟩; rw [h3])
            go_ret2
            rw [hno.out.1, hno.out.2]
            exact ⟨rfl, rfl⟩
          · have hd : isD s[k] = true := by rw [← digitB_isD]; exact h3
            have hd2 := isD_iff.1 hd
            have hn : Hid (partN s 1 (k + 1) = 10 * partN s 1 k + (s[k].toNat - 48)) := partN_next ha hlt
            have hall2 : Hid (∀ j, (hj : j < s.size) → 1 ≤ j → j < k + 1 → isD s[j] = true) := fun j hj h1 h2 => by
              rcases Nat.lt_or_ge j k with h4 | h4
              · exact hall.out j hj h1 h4
              · obtain rfl : j = k := by omega
                exact hd
            clear hd hall
            obtain ⟨d0, d1⟩ := hd2
            go_wp2_with (go_at_call 57; refine (l01Digit_any _ _).mono ?_; rintro e w' ⟨rfl, rfl⟩; rw [h3])
            go_round
            case rel => exact ⟨k + 1, by omega, by omega, by go_num, by rw [hn.out]; simp only [Value.int.injEq, true_and]; omega, hall2.out⟩
            case measure => simp [intOf]; omega
        · obtain rfl : k = s.size := by omega
          have hb := partN_lt ha hk (by omega) hall.out
          have hyes := Lib.hid (hQ.out fun j hj h1 => hall.out j hj h1 hj)
          clear hall
          go_wp2
          go_ret2
          rw [hyes.out.1, hyes.out.2]
          exact ⟨rfl, rfl⟩
  · have hat : 0 = if s[0] = 45 then 1 else 0 := by rw [if_neg hm]
    have hm' : ((s[0].toNat : Int) == 45) = false := by
      rw [beq_eq_false_iff_ne]; intro h; exact hm (UInt8.toNat_inj.1 (by show s[0].toNat = 45; omega))
    clear hm
    have hN : Hid (numP s.data.toList = (magP (s.data.toList.drop 0) (decide (1 < s.size))).map (fun (m : Nat) => sgn 0 (m : Int))) := numP_at h0 hat
    clear hat
    by_cases hA : s.size = 0
    · have hno := Lib.hid (num_none (s := s) (by rw [hN.out, mag_bad (.inl (by omega))]; rfl))
      have hA' : ((s.size : Int) == 0) = true := by rw [hA]; rfl
      go_enter Tryd.func41, Tryd.ntmps41
      go_wp2_with fail
      go_ret2
      rw [hno.out.1, hno.out.2]
      exact ⟨rfl, rfl⟩
    have hA' : ((s.size : Int) == 0) = false := by rw [beq_eq_false_iff_ne]; omega
    have hgt : 0 < s.size := by omega
    by_cases hB : 18 < s.size - 0
    · have hno := Lib.hid (num_none (s := s) (by rw [hN.out, mag_bad (.inr (.inl hB))]; rfl))
      have hB' : 18 + 0 < s.size := by omega
      clear hB hA
      go_enter Tryd.func41, Tryd.ntmps41
      go_wp2_with fail
      go_ret2
      rw [hno.out.1, hno.out.2]
      exact ⟨rfl, rfl⟩
    have hB' : s.size ≤ 18 + 0 := by omega
    clear hB hA
    by_cases hC : s[0] = 48 ∧ 1 < s.size
    · have hno := Lib.hid (num_none (s := s) (by rw [hN.out, mag_bad (.inr (.inr ⟨hgt, hC.1, hC.2⟩))]; rfl))
      have hC' : ((s[0].toNat : Int) == 48) = true := by rw [hC.1]; rfl
      have hC2 : 1 < s.size := hC.2
      clear hC
      go_enter Tryd.func41, Tryd.ntmps41
      go_wp2_with fail
      go_ret2
      rw [hno.out.1, hno.out.2]
      exact ⟨rfl, rfl⟩
    have hQ : Hid (∀ (h3 : ∀ k, (hk : k < s.size) → 0 ≤ k → isD s[k] = true), numV s = sgn 0 (partN s 0 s.size : Int) ∧ numB s = true) := fun h3 => num_some (by rw [hN.out, mag_good hgt (by omega) hC h3, partN_end]; rfl)
    have hZ : Hid (∀ k, (hk : k < s.size) → 0 ≤ k → isD s[k] = false → numV s = 0 ∧ numB s = false) := fun k hk ha h => num_none (by rw [hN.out, mag_digit ha hk h]; rfl)
    rcases (show ((s[0].toNat : Int) == 48) = false ∨ (((s[0].toNat : Int) == 48) = true ∧ ¬ 1 < s.size) by
      rcases Bool.eq_false_or_eq_true ((s[0].toNat : Int) == 48) with h | h
      · refine .inr ⟨h, fun h2 => hC ⟨?_, h2⟩⟩
        rw [beq_iff_eq] at h
        exact UInt8.toNat_inj.1 (by show s[0].toNat = 48; omega)
      · exact .inl h) with hC' | ⟨hC', hC2⟩
    all_goals try exact absurd hgt hC2
    all_goals
      clear hC hN
      go_enter Tryd.func41, Tryd.ntmps41
      go_wp2_with fail
      go_loop [5, 6] (fun n i => ∃ k : Nat, 0 ≤ k ∧ k ≤ s.size ∧ i = .int .i64 k ∧ n = .int .i64 (partN s 0 k : Int) ∧ Hid (∀ j, (hj : j < s.size) → 0 ≤ j → j < k → isD s[j] = true)) (fun _ i => s.size - (intOf i).toNat)
      case atStart => exact ⟨0, Nat.le_refl _, by omega, rfl, by rw [partN_start]; rfl, fun j _ h1 h2 => absurd h1 (by omega)⟩
      case round =>
        obtain ⟨k, ha, hk, rfl, rfl, hall⟩ := hrel
        by_cases hlt : k < s.size
        · have hb := partN_lt17 ha hk (by omega) hall.out
          cases h3 : digitB (s[k].toNat : Int)
          · have hno := Lib.hid (hZ.out k hlt ha (by rw [← digitB_isD]; exact h3))
            go_wp2_with (go_at_call 57; refine (l01Digit_any _ _).mono ?_; rintro e w' ⟨rfl, rfl⟩; rw [h3])
            go_ret2
            rw [hno.out.1, hno.out.2]
            exact ⟨rfl, rfl⟩
          · have hd : isD s[k] = true := by rw [← digitB_isD]; exact h3
            have hd2 := isD_iff.1 hd
            have hn : Hid (partN s 0 (k + 1) = 10 * partN s 0 k + (s[k].toNat - 48)) := partN_next ha hlt
            have hall2 : Hid (∀ j, (hj : j < s.size) → 0 ≤ j → j < k + 1 → isD s[j] = true) := fun j hj h1 h2 => by
              rcases Nat.lt_or_ge j k with h4 | h4
              · exact hall.out j hj h1 h4
              · obtain rfl : j = k := by omega
                exact hd
            clear hd hall
            obtain ⟨d0, d1⟩ := hd2
            go_wp2_with (go_at_call 57; refine (l01Digit_any _ _).mono ?_; rintro e w' ⟨rfl, rfl⟩; rw [h3])
            go_round
            case rel => exact ⟨k + 1, by omega, by omega, by go_num, by rw [hn.out]; simp only [Value.int.injEq, true_and]; omega, hall2.out⟩
            case measure => simp [intOf]; omega
        · obtain rfl : k = s.size := by omega
          have hb := partN_lt ha hk (by omega) hall.out
          have hyes := Lib.hid (hQ.out fun j hj h1 => hall.out j hj h1 hj)
          clear hall
          go_wp2
          go_ret2
          rw [hyes.out.1, hyes.out.2]
          exact ⟨rfl, rfl⟩
end Go.Proofs.YtfiiaegfikocoaaDoor
