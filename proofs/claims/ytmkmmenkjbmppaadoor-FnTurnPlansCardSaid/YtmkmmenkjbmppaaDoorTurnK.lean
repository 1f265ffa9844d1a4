/- Turns given to people: the keys of the counts, and what the map of counts holds. Plain Lean. -/
import Derived.Test.YtmkmmenkjbmppaaDoorTurnP
import Derived.Test.YtmkmmenkjbmppaaDoorListText
import Derived.Maps.Views
namespace Go.Proofs.YtmkmmenkjbmppaaDoor
open Go.RowKit Go.Maps
def dg (n : Nat) : UInt8 := UInt8.ofNat (48 + n)
theorem dg_inj {n m : Nat} (hn : n < 100) (hm : m < 100) (h : dg n = dg m) : n = m := by
  unfold dg at h
  have h2 := congrArg UInt8.toNat h
  rw [UInt8.toNat_ofNat', UInt8.toNat_ofNat'] at h2
  omega
theorem dg_ne {n : Nat} (hn : n < 10) {c : UInt8} (hc : c.toNat < 48 ∨ 57 < c.toNat) : dg n ≠ c := fun h => by
  unfold dg at h
  have h2 := congrArg UInt8.toNat h
  rw [UInt8.toNat_ofNat'] at h2
  omega
theorem itoa1 {n : Nat} (h : n < 10) : Lib.itoa (n : Int) = [dg n] := by
  unfold Lib.itoa
  rw [if_neg (by omega), Int.toNat_natCast, Lib.decDigits, dif_pos h]; rfl
theorem itoa2 {n : Nat} (h : 10 ≤ n) (h2 : n < 100) : Lib.itoa (n : Int) = [dg (n / 10), dg (n % 10)] := by
  unfold Lib.itoa
  rw [if_neg (by omega), Int.toNat_natCast, Lib.decDigits, dif_neg (by omega), Lib.decDigits, dif_pos (by omega)]; rfl
/-- Numbers of one digit. -/
def OneD (l : List Int) : Prop := ∀ x ∈ l, 0 ≤ x ∧ x < 10
theorem OneD.tail {x : Int} {l : List Int} (h : OneD (x :: l)) : OneD l := fun y hy => h y (List.mem_cons_of_mem _ hy)
theorem itoaD {x : Int} (h : 0 ≤ x ∧ x < 10) : Lib.itoa x = [dg x.toNat] := by
  have := itoa1 (n := x.toNat) (by omega)
  rwa [Int.toNat_of_nonneg h.1] at this
theorem tail_inj : ∀ {l m : List Int}, OneD l → OneD m → Lib.joinTail [44] (l.map Lib.itoa) = Lib.joinTail [44] (m.map Lib.itoa) → l = m
  | [], [], _, _, _ => rfl
  | [], y :: m, _, _, h => by simp [Lib.joinTail] at h
  | x :: l, [], _, _, h => by simp [Lib.joinTail] at h
  | x :: l, y :: m, hl, hm, h => by
    have hx := hl x (List.mem_cons_self ..)
    have hy := hm y (List.mem_cons_self ..)
    have e : ∀ (z : Int) (r : List Int), Lib.joinTail [44] ((z :: r).map Lib.itoa) = 44 :: (Lib.itoa z ++ Lib.joinTail [44] (r.map Lib.itoa)) := fun z r => by simp [Lib.joinTail]
    rw [e, e, itoaD hx, itoaD hy] at h
    simp only [List.cons_append, List.nil_append, List.cons.injEq, true_and] at h
    have := dg_inj (by omega) (by omega) h.1
    rw [tail_inj hl.tail hm.tail h.2, show x = y by omega]
/-- The bytes of a list of numbers. -/
def listL (l : List Int) : List UInt8 := if l.length = 0 then [45] else Lib.join (l.map Lib.itoa) [44]
theorem listS_L (l : List Int) : (listS l).data.toList = listL l := by
  unfold listS listL
  split
  · rfl
  · rw [joinK_join l _ (Nat.le_refl _), List.take_length]
theorem listL_nil : listL [] = [45] := rfl
theorem listL_cons (x : Int) (l : List Int) : listL (x :: l) = Lib.itoa x ++ Lib.joinTail [44] (l.map Lib.itoa) := by
  unfold listL
  rw [if_neg (by simp), List.map_cons, Lib.join_cons]
theorem listL_inj : ∀ {l m : List Int}, OneD l → OneD m → listL l = listL m → l = m
  | [], [], _, _, _ => rfl
  | [], y :: m, _, hm, h => by
    have hy := hm y (List.mem_cons_self ..)
    rw [listL_nil, listL_cons, itoaD hy] at h
    simp only [List.cons_append, List.cons.injEq] at h
    exact absurd h.1.symm (dg_ne (by omega) (.inl (by decide)))
  | x :: l, [], hl, _, h => by
    have hx := hl x (List.mem_cons_self ..)
    rw [listL_nil, listL_cons, itoaD hx] at h
    simp only [List.cons_append, List.cons.injEq] at h
    exact absurd h.1 (dg_ne (by omega) (.inl (by decide)))
  | x :: l, y :: m, hl, hm, h => by
    have hx := hl x (List.mem_cons_self ..)
    have hy := hm y (List.mem_cons_self ..)
    rw [listL_cons, listL_cons, itoaD hx, itoaD hy] at h
    simp only [List.cons_append, List.nil_append, List.cons.injEq] at h
    have := dg_inj (by omega) (by omega) h.1
    rw [tail_inj hl.tail hm.tail h.2, show x = y by omega]
/-- The key of the turns that are given. -/
def keyT (n : Nat) (r : List Int) : ByteArray := decS (n : Int) ++ ⟨#[58]⟩ ++ listS r
theorem keyT_L (n : Nat) (r : List Int) : (keyT n r).data.toList = Lib.itoa (n : Int) ++ 58 :: listL r := by
  unfold keyT
  rw [ByteArray.data_append, ByteArray.data_append, Array.toList_append, Array.toList_append, listS_L]
  simp [decS]
theorem keyT_inj {n m : Nat} {r s : List Int} (hn : n < 100) (hm : m < 100) (hr : OneD r) (hs : OneD s) (h : keyT n r = keyT m s) : n = m ∧ r = s := by
  have h := congrArg (fun x : ByteArray => x.data.toList) h
  simp only [keyT_L] at h
  rcases Nat.lt_or_ge n 10 with h1 | h1
  · rcases Nat.lt_or_ge m 10 with h2 | h2
    · rw [itoa1 h1, itoa1 h2] at h
      simp only [List.cons_append, List.nil_append, List.cons.injEq, true_and] at h
      exact ⟨dg_inj hn hm h.1, listL_inj hr hs h.2⟩
    · rw [itoa1 h1, itoa2 h2 hm] at h
      simp only [List.cons_append, List.nil_append, List.cons.injEq] at h
      exact absurd h.2.1.symm (dg_ne (by omega) (.inr (by decide)))
  · rcases Nat.lt_or_ge m 10 with h2 | h2
    · rw [itoa2 h1 hn, itoa1 h2] at h
      simp only [List.cons_append, List.nil_append, List.cons.injEq] at h
      exact absurd h.2.1 (dg_ne (by omega) (.inr (by decide)))
    · rw [itoa2 h1 hn, itoa2 h2 hm] at h
      simp only [List.cons_append, List.nil_append, List.cons.injEq, true_and] at h
      have e1 := dg_inj (by omega) (by omega) h.1
      have e2 := dg_inj (by omega) (by omega) h.2.1
      exact ⟨by omega, listL_inj hr hs h.2.2⟩
theorem recT_sub {G : Nat} {g : List Int} {x : Int} (h : x ∈ recT G g) : x ∈ g := List.mem_of_mem_drop h
theorem OneD.rec {G : Nat} {g : List Int} (h : OneD g) : OneD (recT G g) := fun x hx => h x (recT_sub hx)
theorem OneD.push {g : List Int} (h : OneD g) {p : Nat} (hp : p < 10) : OneD (g ++ [(p : Int)]) := fun x hx => by
  rcases List.mem_append.1 hx with h1 | h1
  · exact h x h1
  · rw [List.mem_singleton.1 h1]; omega
theorem keyT_size {n : Nat} {g : List Int} (hn : n < 100) (hg : g.length ≤ 12) (h : OneD g) : (keyT n g).size ≤ 1000 := by
  have h1 := decS_size (n : Int) (by omega) (by omega)
  have h2 : (listS g).size ≤ 22 * 12 + 1 := by
    unfold listS
    split
    · decide
    · have := joinK_size (l := g) (fun k hk => by have := h _ (nth_mem hk); omega) (Nat.le_refl _)
      omega
  unfold keyT
  rw [ByteArray.size_append, ByteArray.size_append]
  have : (⟨#[58]⟩ : ByteArray).size = 1 := rfl
  omega
/-- Every number in the map is the number of ways at its key. -/
structure MemoT (A : List (List Int)) (P G T : Nat) (D : DataW Unit) : Prop where
  isM : IsMap D
  val : ∀ (g : List Int) (f : Nat), g.length + f = T → OneD g → Go.Maps.has D (.string (keyT g.length (recT G g)).data.toList) = true → D.atKey (.string (keyT g.length (recT G g)).data.toList) (.lit (.int .i64 0)) = .lit (.int .i64 (cntT A P G f g : Nat))
theorem MemoT.nil (A : List (List Int)) (P G T : Nat) : MemoT A P G T (.map []) := ⟨isMap_empty, fun _ _ _ _ h => by simp [Go.Maps.has] at h⟩
theorem key_ne {n m : ByteArray} (h : m ≠ n) : (Lit.string m.data.toList) ≠ .string n.data.toList := fun e => h (by
  have e2 : m.data.toList = n.data.toList := by injection e
  exact ByteArray.ext (Array.toList_inj.1 e2))
theorem MemoT.put {A : List (List Int)} {P G T : Nat} {D : DataW Unit} (h : MemoT A P G T D) (hG : 1 ≤ G) (hT : T < 100) {g : List Int} {f : Nat} (hg : g.length + f = T) (h1 : OneD g) : MemoT A P G T (D.put (.string (keyT g.length (recT G g)).data.toList) (.lit (.int .i64 (cntT A P G f g : Nat)))) where
  isM := h.isM.put _ _
  val := fun g' f' hg' h1' hh => by
    by_cases e : keyT g'.length (recT G g') = keyT g.length (recT G g)
    · obtain ⟨e1, e2⟩ := keyT_inj (by omega) (by omega) h1'.rec h1.rec e
      rw [e, atKey_put_same h.isM (show WideAt.IsKeyLit (.string (keyT g.length (recT G g)).data.toList) from True.intro)]
      rw [show f' = f by omega, cntT_rec A P hG f g' g e1 e2]
    · rw [has_put_other (key_ne e)] at hh
      rw [atKey_put_other (key_ne e)]
      exact h.val g' f' hg' h1' hh
end Go.Proofs.YtmkmmenkjbmppaaDoor
