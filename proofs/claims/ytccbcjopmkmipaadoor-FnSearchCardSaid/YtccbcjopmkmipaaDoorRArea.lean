/- An area as text and read back. What the program's and the reference's functions hand back. -/
import Derived.Test.YtccbcjopmkmipaaDoorRCut
import Derived.Test.YtccbcjopmkmipaaDoorSearch
import Derived.Test.YtccbcjopmkmipaaDoorAnd
namespace Go.Proofs.YtccbcjopmkmipaaDoor
open Go.RowKit
theorem name_no32 {s : ByteArray} (h : nameB s = true) : (32 : UInt8) ∉ s.data.toList := by
  unfold nameB at h
  rw [Bool.and_eq_true] at h
  have hb := h.2
  unfold bytesB at hb
  rw [List.all_eq_true] at hb
  intro hm
  exact absurd (hb 32 hm) (by decide)
theorem areaB_bd {x : Area} (h : areaB x = true) : x.id.size ≤ 10 ∧ (0 ≤ x.chance ∧ x.chance ≤ 1000) ∧ (1 ≤ x.minutes ∧ x.minutes ≤ 600) ∧ nameB x.id = true := by
  unfold areaB at h; simp only [Bool.and_eq_true, inB_iff] at h
  exact ⟨nameB_size h.1.1, h.1.2, h.2, h.1.1⟩
def areaS (x : Area) : ByteArray := if areaB x = true then x.id ++ ⟨#[32]⟩ ++ decS x.chance ++ ⟨#[47]⟩ ++ decS x.minutes else ⟨#[]⟩
def headC (c : UInt8) (s : ByteArray) : ByteArray := mkB (Lib.cut s.data.toList [c]).1
def restC (c : UInt8) (s : ByteArray) : ByteArray := mkB (Lib.cut s.data.toList [c]).2.1
theorem cutC_size (c : UInt8) (l : List UInt8) : (Lib.cut l [c]).1.length ≤ l.length ∧ (Lib.cut l [c]).2.1.length ≤ l.length := by
  unfold Lib.cut
  split
  · exact ⟨by simp only [List.length_take]; omega, by simp only [List.length_drop]; omega⟩
  · exact ⟨Nat.le_refl _, Nat.zero_le _⟩
theorem restC_size (c : UInt8) (s : ByteArray) : (restC c s).size ≤ s.size := by
  unfold restC; rw [size_toList, mkB_toList, size_toList]; exact (cutC_size c _).2
theorem headC_size (c : UInt8) (s : ByteArray) : (headC c s).size ≤ s.size := by
  unfold headC; rw [size_toList, mkB_toList, size_toList]; exact (cutC_size c _).1
theorem two_key {c : UInt8} {s : ByteArray} {a b : List UInt8} (h : s.data.toList = a ++ c :: b) (ha : c ∉ a) (hb : c ∉ b) : headC c s = mkB a ∧ restC c s = mkB b ∧ cutsB c s = [mkB a, mkB b] := by
  unfold headC restC cutsB
  rw [h, cut_hit b ha, cuts_hit b ha, cuts_none hb]
  exact ⟨rfl, rfl, rfl⟩
theorem two_len {c : UInt8} {s : ByteArray} (h : (cutsB c s).length = 2) : ∃ a b, s.data.toList = a ++ c :: b ∧ c ∉ a ∧ c ∉ b := by
  have e : (cuts c s.data.toList).length = 2 := by unfold cutsB at h; rwa [List.length_map] at h
  have hf := cuts_free (c := c) s.data.toList
  have hj := join_cuts (c := c) s.data.toList
  obtain ⟨Q, hQ⟩ : ∃ Q, Q = cuts c s.data.toList := ⟨_, rfl⟩
  rw [← hQ] at e hf hj
  match Q, e with
  | [x, y], _ =>
    refine ⟨x, y, ?_, hf x (by simp), hf y (by simp)⟩
    rw [← hj, join_cons2, Lib.join_one]; simp
def pairB (s : ByteArray) : Bool := decide ((cutsB 47 s).length = 2) && numB (nth (cutsB 47 s) 0) && numB (nth (cutsB 47 s) 1)
def pairL (s : ByteArray) : List Int := [numV (nth (cutsB 47 s) 0), numV (nth (cutsB 47 s) 1)]
def areaQ (s : ByteArray) : Area := ⟨nth (cutsB 32 s) 0, numV (nth (cutsB 47 (nth (cutsB 32 s) 1)) 0), numV (nth (cutsB 47 (nth (cutsB 32 s) 1)) 1)⟩
def areaI (s : ByteArray) : Area := ⟨headC 32 s, numV (headC 47 (restC 32 s)), numV (restC 47 (restC 32 s))⟩
def readArea (s : ByteArray) : Option Area := if (cutsB 32 s).length = 2 ∧ pairB (nth (cutsB 32 s) 1) = true ∧ areaB (areaQ s) = true then some (areaQ s) else none
def resArea (s : ByteArray) : Area := (readArea s).getD ⟨⟨#[]⟩, 0, 0⟩
def okArea (s : ByteArray) : Bool := (readArea s).isSome
theorem readArea_some {s : ByteArray} {x : Area} (h : readArea s = some x) : resArea s = x ∧ okArea s = true := by unfold resArea okArea; rw [h]; exact ⟨rfl, rfl⟩
theorem readArea_none {s : ByteArray} (h : readArea s = none) : resArea s = ⟨⟨#[]⟩, 0, 0⟩ ∧ okArea s = false := by unfold resArea okArea; rw [h]; exact ⟨rfl, rfl⟩
theorem dec_num {q : ByteArray} (h : numB q = true) : decS (numV q) = q := by
  unfold numB at h
  rw [Option.isSome_iff_exists] at h
  obtain ⟨n, hn⟩ := h
  rw [(num_some hn).1]
  exact decS_iff.2 (numP_iff.1 hn).1
theorem area_bytes (p : ByteArray) (c m : Int) : (p ++ ⟨#[32]⟩ ++ decS c ++ ⟨#[47]⟩ ++ decS m).data.toList = p.data.toList ++ 32 :: ((decS c).data.toList ++ 47 :: (decS m).data.toList) := by
  simp only [ByteArray.data_append, Array.toList_append, List.append_assoc]; rfl
theorem decS_toList (n : Int) : (decS n).data.toList = Lib.itoa n := (decS_iff.1 rfl).symm
/-- What the program takes out of a text, and when. -/
theorem readArea_p (s : ByteArray) : readArea s = if numB (headC 47 (restC 32 s)) = true ∧ numB (restC 47 (restC 32 s)) = true ∧ areaS (areaI s) = s then some (areaI s) else none := by
  by_cases hS : (cutsB 32 s).length = 2 ∧ pairB (nth (cutsB 32 s) 1) = true ∧ areaB (areaQ s) = true
  · obtain ⟨h1, h2, h3⟩ := hS
    unfold readArea
    rw [if_pos ⟨h1, h2, h3⟩]
    obtain ⟨a, b, e, ha, hb⟩ := two_len h1
    obtain ⟨k1, k2, k3⟩ := two_key e ha hb
    unfold pairB at h2
    simp only [Bool.and_eq_true, decide_eq_true_eq] at h2
    obtain ⟨⟨g1, g2⟩, g3⟩ := h2
    rw [k3] at g1 g2 g3
    change (cutsB 47 (mkB b)).length = 2 at g1
    change numB (nth (cutsB 47 (mkB b)) 0) = true at g2
    change numB (nth (cutsB 47 (mkB b)) 1) = true at g3
    obtain ⟨c, d, e2, hc, hd⟩ := two_len g1
    obtain ⟨l1, l2, l3⟩ := two_key e2 hc hd
    rw [l3] at g2 g3
    change numB (mkB c) = true at g2
    change numB (mkB d) = true at g3
    have hq : areaQ s = ⟨mkB a, numV (mkB c), numV (mkB d)⟩ := by
      unfold areaQ; rw [k3]
      show (⟨mkB a, numV (nth (cutsB 47 (mkB b)) 0), numV (nth (cutsB 47 (mkB b)) 1)⟩ : Area) = _
      rw [l3]; rfl
    have hi : areaI s = ⟨mkB a, numV (mkB c), numV (mkB d)⟩ := by
      unfold areaI; rw [k1, k2, l1, l2]
    rw [hq] at h3 ⊢
    rw [hi, k2, l1, l2]
    rw [if_pos]
    refine ⟨g2, g3, ?_⟩
    unfold areaS
    rw [if_pos h3]
    show mkB a ++ ⟨#[32]⟩ ++ decS (numV (mkB c)) ++ ⟨#[47]⟩ ++ decS (numV (mkB d)) = s
    rw [← mk_toList s, ← mk_toList (mkB a ++ _ ++ _ ++ _ ++ _)]
    congr 2
    rw [area_bytes, dec_num g2, dec_num g3, mkB_toList, mkB_toList, mkB_toList, e]
    rw [mkB_toList] at e2
    rw [e2]
  · unfold readArea
    rw [if_neg hS, if_neg]
    rintro ⟨h1, h2, h3⟩
    apply hS
    cases hv : areaB (areaI s)
    · unfold areaS at h3
      rw [if_neg (by rw [hv]; decide)] at h3
      rw [← h3] at h1
      exact absurd h1 (by decide)
    · obtain ⟨-, -, -, hn⟩ := areaB_bd hv
      unfold areaS at h3
      rw [if_pos hv] at h3
      have hid : (32 : UInt8) ∉ (headC 32 s).data.toList := name_no32 hn
      have e := congrArg (fun x : ByteArray => x.data.toList) h3
      simp only [area_bytes, decS_toList] at e
      have f1 : (32 : UInt8) ∉ Lib.itoa (areaI s).chance := itoa_free _ _ (by decide) (by decide)
      have f2 : (32 : UInt8) ∉ Lib.itoa (areaI s).minutes := itoa_free _ _ (by decide) (by decide)
      have f3 : (47 : UInt8) ∉ Lib.itoa (areaI s).chance := itoa_free _ _ (by decide) (by decide)
      have f4 : (47 : UInt8) ∉ Lib.itoa (areaI s).minutes := itoa_free _ _ (by decide) (by decide)
      obtain ⟨k1, k2, k3⟩ := two_key e.symm hid (by simp [f1, f2])
      obtain ⟨l1, l2, l3⟩ := two_key (s := restC 32 s) (a := Lib.itoa (areaI s).chance) (b := Lib.itoa (areaI s).minutes) (by rw [k2, mkB_toList]) f3 f4
      have n1 : nth (cutsB 32 s) 0 = headC 32 s := by rw [k3]; exact k1.symm
      have n2 : nth (cutsB 32 s) 1 = restC 32 s := by rw [k3]; exact k2.symm
      have n3 : nth (cutsB 47 (restC 32 s)) 0 = headC 47 (restC 32 s) := by rw [l3]; exact l1.symm
      have n4 : nth (cutsB 47 (restC 32 s)) 1 = restC 47 (restC 32 s) := by rw [l3]; exact l2.symm
      refine ⟨by rw [k3]; rfl, ?_, ?_⟩
      · unfold pairB
        rw [n2, n3, n4, h1, h2, l3]; rfl
      · have : areaQ s = areaI s := by unfold areaQ areaI; rw [n1, n2, n3, n4]
        rw [this]; exact hv
end Go.Proofs.YtccbcjopmkmipaaDoor
