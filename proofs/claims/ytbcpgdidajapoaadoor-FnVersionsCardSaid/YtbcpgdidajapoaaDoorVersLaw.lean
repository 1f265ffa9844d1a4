/- The law FnVersions: changes lead from one state to another, a commit is the last version and no other's parent, and an undone one has the state before: for all inputs, of any length. -/
import Derived.Test.YtbcpgdidajapoaaDoorCards
import Derived.Test.YtbcpgdidajapoaaDoorTie
import Derived.Test.YtbcpgdidajapoaaDoorDec
import Derived.Test.YtbcpgdidajapoaaDoorLift
import Derived.Deep.DeepHandedRow
import Derived.Lib.LaidTab
import Derived.Test.YtbcpgdidajapoaaDoorApplyP
import Derived.Test.YtbcpgdidajapoaaDoorGrow
import Derived.Test.YtbcpgdidajapoaaDoorMrgP
import Derived.Test.YtbcpgdidajapoaaDoorVGrow
import Derived.Test.YtbcpgdidajapoaaDoorUndo
import Derived.Test.YtbcpgdidajapoaaDoorCommon
import Derived.Test.YtbcpgdidajapoaaDoorHeads
import Derived.Test.YtbcpgdidajapoaaDoorVersionText
import Derived.Test.YtbcpgdidajapoaaDoorCommitC
import Derived.Test.YtbcpgdidajapoaaDoorOwnO
import Derived.Test.YtbcpgdidajapoaaDoorVrsV
import Derived.Test.YtbcpgdidajapoaaDoorState
import Derived.Test.YtbcpgdidajapoaaDoorDrawH
namespace Go.Proofs.YtbcpgdidajapoaaDoor
open Go.ChangeShapes Go.WideShapes Go.ChangeAt Go.RowKit
theorem gTab : Tryd.prog.globalNamed "internal/strconv.uint64pow10" = some 0 := by kernel_rfl
def laidList : List (String × DataW Unit) := [("math/bits.deBruijn32tab", Rows.laid_math_bits_deBruijn32tab), ("math/bits.deBruijn64tab", Rows.laid_math_bits_deBruijn64tab), ("internal/strconv.uint64pow10", Rows.laid_internal_strconv_uint64pow10)]
theorem gTabType : (Tryd.prog.globals[0]?).map (·.type) = some 113 := by kernel_rfl
theorem tab_of_laid {W : World} (h : laidMetH Tryd.prog laidList W) : Tab W := by
  have h2 := h.filter (fun x => x.1.length == 28)
  exact Lib.tabIs_of_head (rest := []) gTab gTabType Tryd.underlying113 Tryd.underlying80 (by kernel_rfl) (by kernel_rfl) h2
def datCells : DataW Unit → Array Value
  | .agg l => (l.map fun | .lit (.int k n) => Value.int k n | _ => .nilFunc).toArray
  | _ => #[]
def putCells (c : Array Value) : Obj → Obj
  | .cells _ t frozen => .cells c t frozen
  | o => o
/-- A world for the witness. -/
noncomputable def laidWorld (os : Os) : World :=
  { World.holding Tryd.prog os ⟨#[], #[], []⟩ with heap := (((World.holding Tryd.prog os ⟨#[], #[], []⟩).heap.modify 0 (putCells (datCells Rows.laid_internal_strconv_uint64pow10))).modify 1 (putCells (datCells Rows.laid_math_bits_deBruijn32tab))).modify 2 (putCells (datCells Rows.laid_math_bits_deBruijn64tab)) }
end Go.Proofs.YtbcpgdidajapoaaDoor
namespace Go.Proofs.YtbcpgdidajapoaaDoor
open Go.RowKit
theorem thg_filter {m n : ByteArray} (h : n ≠ m) : ∀ (l : List Setting), thg (l.filter (fun z => !decide (z.name = m))) n = thg l n
  | [] => rfl
  | y :: l => by
    rw [List.filter_cons]
    by_cases h1 : y.name = m
    · rw [decide_eq_true h1, if_neg (by decide), thg_filter h l, thg_ne (by rw [h1]; exact Ne.symm h)]
    · rw [decide_eq_false h1, if_pos (by rfl)]
      show (if y.name = n then some y.value else _) = (if y.name = n then some y.value else _)
      rw [thg_filter h l]
theorem thg_set (e : Setting) (n : ByteArray) : ∀ (l : List Setting), thg (setS e l) n = if n = e.name then some e.value else thg l n
  | [] => by
    show (if e.name = n then some e.value else none) = if n = e.name then some e.value else none
    by_cases h : n = e.name
    · rw [if_pos h.symm, if_pos h]
    · rw [if_neg (fun h2 => h h2.symm), if_neg h]
  | y :: l => by
    have e1 : setS e (y :: l) = if sLt y.name e.name = true then y :: setS e l else e :: (y :: l).filter (fun z => !decide (z.name = e.name)) := rfl
    rw [e1]
    by_cases h1 : sLt y.name e.name = true
    · rw [if_pos h1]
      have hne : y.name ≠ e.name := fun h2 => by rw [h2, sLt_irrefl] at h1; cases h1
      show (if y.name = n then some y.value else thg (setS e l) n) = if n = e.name then _ else (if y.name = n then _ else thg l n)
      rw [thg_set e n l]
      by_cases h2 : y.name = n
      · rw [if_pos h2, if_pos h2, if_neg (fun h3 => hne (h2.trans h3))]
      · rw [if_neg h2, if_neg h2]
    · rw [if_neg h1]
      show (if e.name = n then some e.value else thg _ n) = _
      by_cases h2 : n = e.name
      · rw [if_pos h2.symm, if_pos h2]
      · rw [if_neg (fun h3 => h2 h3.symm), if_neg h2, thg_filter h2]
theorem incS_tail {y : Setting} {l : List Setting} (h : IncS (y :: l)) : IncS l ∧ ∀ z ∈ l, y.name ≠ z.name := by
  unfold IncS IncK Inc at h
  rw [List.map_cons, List.pairwise_cons] at h
  exact ⟨h.2, fun z hz e => by have := h.1 _ (List.mem_map.2 ⟨z, hz, rfl⟩); rw [e, sLt_irrefl] at this; cases this⟩
theorem thg_del (n : ByteArray) : ∀ (l : List Setting) (k : Nat), IncS l → k < l.length → thg (l.take k ++ l.drop (k + 1)) n = if n = (nth l k).name then none else thg l n
  | [], _, _, h => absurd h (Nat.not_lt_zero _)
  | y :: l, 0, h, _ => by
    obtain ⟨-, h2⟩ := incS_tail h
    show thg l n = if n = y.name then none else (if y.name = n then some y.value else thg l n)
    by_cases h3 : n = y.name
    · rw [if_pos h3]; exact thg_out fun z hz => by rw [h3]; exact Ne.symm (h2 z hz)
    · rw [if_neg h3, if_neg (fun h4 => h3 h4.symm)]
  | y :: l, k + 1, h, hk => by
    obtain ⟨h1, h2⟩ := incS_tail h
    have hk' : k < l.length := by simpa using hk
    show (if y.name = n then some y.value else thg (l.take k ++ l.drop (k + 1)) n) = if n = (nth l k).name then none else (if y.name = n then some y.value else thg l n)
    rw [thg_del n l k h1 hk']
    by_cases h3 : y.name = n
    · rw [if_pos h3, if_pos h3, if_neg (fun h4 => h2 _ (nth_mem hk') (h3.trans h4))]
    · rw [if_neg h3, if_neg h3]
theorem thg_mem : ∀ {l : List Setting}, IncS l → ∀ y ∈ l, thg l y.name = some y.value
  | [], _, _, h => by cases h
  | z :: l, h, y, hy => by
    obtain ⟨h1, h2⟩ := incS_tail h
    show (if z.name = y.name then some z.value else thg l y.name) = _
    rcases List.mem_cons.1 hy with rfl | hy
    · exact if_pos rfl
    · rw [if_neg (h2 y hy), thg_mem h1 y hy]
theorem thg_ext {l m : List Setting} (hl : IncS l) (hm : IncS m) (h : ∀ n, thg l n = thg m n) : l = m := by
  have e1 := gather (names3_inc l m []) hl (fun w hw => names3_mem.2 ⟨w, .inl hw, rfl⟩)
  have e2 := gather (names3_inc l m []) hm (fun w hw => names3_mem.2 ⟨w, .inr (.inl hw), rfl⟩)
  refine e1.symm.trans (Eq.trans (flat_congr fun n _ => ?_) e2)
  rw [h n]
/-- The changes. -/
def dropP (b : List Setting) (y : Setting) : Bool := (thg b y.name).isNone
def setP (a : List Setting) (y : Setting) : Bool := !decide (thg a y.name = some y.value)
def chg (k : Int) (y : Setting) : Change := ⟨k, y.name, y.value⟩
def diffL (a b : List Setting) : List Change := (a.filter (dropP b)).map (chg 2) ++ (b.filter (setP a)).map (chg 1)
/-- What stands at a name behind the first changes. -/
def finF (a : List Setting) (cs : List Change) (n : ByteArray) : Nat → Option Int
  | 0 => thg a n
  | k + 1 => if n = (nth cs k).name then (if (nth cs k).kind = 1 then some (nth cs k).value else none) else finF a cs n k
theorem finF_not {a : List Setting} {cs : List Change} {n : ByteArray} : ∀ {k : Nat}, (∀ j, j < k → n ≠ (nth cs j).name) → finF a cs n k = thg a n
  | 0, _ => rfl
  | k + 1, h => by
    show (if n = (nth cs k).name then _ else finF a cs n k) = _
    rw [if_neg (h k (by omega)), finF_not fun j hj => h j (by omega)]
theorem finF_at {a : List Setting} {cs : List Change} {n : ByteArray} {j : Nat} (hj : n = (nth cs j).name) : ∀ {k : Nat}, j < k → (∀ i, j < i → i < k → n ≠ (nth cs i).name) → finF a cs n k = if (nth cs j).kind = 1 then some (nth cs j).value else none
  | 0, h, _ => absurd h (Nat.not_lt_zero _)
  | k + 1, h, h2 => by
    show (if n = (nth cs k).name then _ else finF a cs n k) = _
    rcases (show j = k ∨ j < k by omega) with rfl | h3
    · rw [if_pos hj]
    · rw [if_neg (h2 k h3 (by omega)), finF_at hj h3 fun i hi hk => h2 i hi (by omega)]
theorem diff_mem {a b : List Setting} {c : Change} (h : c ∈ diffL a b) : (∃ y ∈ a, thg b y.name = none ∧ c = chg 2 y) ∨ (∃ y ∈ b, thg a y.name ≠ some y.value ∧ c = chg 1 y) := by
  unfold diffL at h
  rcases List.mem_append.1 h with h | h
  · obtain ⟨y, hy, rfl⟩ := List.mem_map.1 h
    obtain ⟨h1, h2⟩ := List.mem_filter.1 hy
    exact .inl ⟨y, h1, by unfold dropP at h2; simpa using h2, rfl⟩
  · obtain ⟨y, hy, rfl⟩ := List.mem_map.1 h
    obtain ⟨h1, h2⟩ := List.mem_filter.1 hy
    exact .inr ⟨y, h1, by unfold setP at h2; simpa using h2, rfl⟩
theorem diff_len (a b : List Setting) : (diffL a b).length ≤ a.length + b.length := by
  unfold diffL
  rw [List.length_append, List.length_map, List.length_map]
  have := List.length_filter_le (dropP b) a
  have := List.length_filter_le (setP a) b
  omega
theorem diff_names {a b : List Setting} (ha : IncS a) (hb : IncS b) : ((diffL a b).map Change.name).Pairwise (fun x y => x ≠ y) := by
  have hs : ∀ {l : List Setting} (p : Setting → Bool) (k : Int), IncS l → (((l.filter p).map (chg k)).map Change.name).Pairwise (fun x y => x ≠ y) := fun {l} p k hl => by
    rw [List.map_map]
    refine List.Pairwise.imp ?_ (List.Pairwise.sublist (List.Sublist.map Setting.name (List.filter_sublist (p := p))) (show (l.map Setting.name).Pairwise _ from hl))
    intro x y h e
    rw [e, sLt_irrefl] at h; cases h
  unfold diffL
  rw [List.map_append, List.pairwise_append]
  refine ⟨hs _ _ ha, hs _ _ hb, fun x hx y hy e => ?_⟩
  rw [List.map_map] at hx hy
  obtain ⟨u, hu, rfl⟩ := List.mem_map.1 hx
  obtain ⟨v, hv, rfl⟩ := List.mem_map.1 hy
  have h1 := (List.mem_filter.1 hu).2
  have h2 := (List.mem_filter.1 hv).1
  unfold dropP at h1
  change u.name = v.name at e
  rw [e, thg_mem hb v h2] at h1
  cases h1
theorem diff_uniq {a b : List Setting} (ha : IncS a) (hb : IncS b) {i j : Nat} (hij : i < j) (hj : j < (diffL a b).length) : (nth (diffL a b) i).name ≠ (nth (diffL a b) j).name := by
  have := List.pairwise_iff_getElem.1 (diff_names ha hb) i j (by rw [List.length_map]; omega) (by rw [List.length_map]; exact hj) hij
  rw [List.getElem_map, List.getElem_map] at this
  rw [nth_eq _ i (by omega), nth_eq _ j hj]
  exact this
theorem diff_uniq2 {a b : List Setting} (ha : IncS a) (hb : IncS b) {i j : Nat} (hi : i < (diffL a b).length) (hj : j < (diffL a b).length) (hij : i ≠ j) : (nth (diffL a b) i).name ≠ (nth (diffL a b) j).name := by
  rcases (show i < j ∨ j < i by omega) with h | h
  · exact diff_uniq ha hb h hj
  · exact Ne.symm (diff_uniq ha hb h hi)
/-- Behind all changes stands the other state. -/
theorem diff_fin {a b : List Setting} (ha : IncS a) (hb : IncS b) (n : ByteArray) : finF a (diffL a b) n (diffL a b).length = thg b n := by
  have hin : ∀ {c : Change}, c ∈ diffL a b → c.name = n → finF a (diffL a b) n (diffL a b).length = if c.kind = 1 then some c.value else none := fun {c} hc hn => by
    obtain ⟨j, hj, e⟩ := mem_nth hc
    have := finF_at (a := a) (cs := diffL a b) (n := n) (j := j) (by rw [e, hn]) hj (fun i hi hk e2 => diff_uniq ha hb hi hk (by rw [e, hn]; exact e2))
    rw [this, e]
  have hout : (∀ c ∈ diffL a b, c.name ≠ n) → finF a (diffL a b) n (diffL a b).length = thg a n := fun h => finF_not fun j hj e => h _ (nth_mem hj) e.symm
  cases hb1 : thg b n with
  | none =>
    cases ha1 : thg a n with
    | none =>
      rw [hout fun c hc e => ?_, ha1]
      rcases diff_mem hc with ⟨y, hy, h1, rfl⟩ | ⟨y, hy, h1, rfl⟩
      · have := thg_mem ha y hy
        rw [show y.name = n from e, ha1] at this; cases this
      · have := thg_mem hb y hy
        rw [show y.name = n from e, hb1] at this; cases this
    | some v =>
      obtain ⟨k, hk, e⟩ := thg_some ha1
      have hm : (⟨n, v⟩ : Setting) ∈ a := by rw [← e]; exact nth_mem hk
      exact hin (c := chg 2 ⟨n, v⟩) (List.mem_append.2 (.inl (List.mem_map.2 ⟨_, List.mem_filter.2 ⟨hm, by unfold dropP; rw [hb1]; rfl⟩, rfl⟩))) rfl
  | some v =>
    obtain ⟨k, hk, e⟩ := thg_some hb1
    have hm : (⟨n, v⟩ : Setting) ∈ b := by rw [← e]; exact nth_mem hk
    by_cases ha1 : thg a n = some v
    · rw [hout fun c hc e => ?_, ha1]
      rcases diff_mem hc with ⟨y, hy, h1, rfl⟩ | ⟨y, hy, h1, rfl⟩
      · rw [show y.name = n from e, hb1] at h1; cases h1
      · have h2 := thg_mem hb y hy
        rw [show y.name = n from e, hb1] at h2
        rw [show y.name = n from e, ha1, h2] at h1
        exact h1 rfl
    · exact hin (c := chg 1 ⟨n, v⟩) (List.mem_append.2 (.inr (List.mem_map.2 ⟨_, List.mem_filter.2 ⟨hm, by unfold setP; simp [ha1]⟩, rfl⟩))) rfl
theorem idx_thg {l : List Setting} {n : ByteArray} {v : Int} (hv : thg l n = some v) : 0 ≤ idxS n l ∧ (idxS n l).toNat < l.length ∧ nth l (idxS n l).toNat = ⟨n, v⟩ := by
  rcases thg_idx (n := n) (l := l) with ⟨-, h2⟩ | ⟨k, v2, h1, h2, h3, h4⟩
  · rw [hv] at h2; cases h2
  · rw [hv] at h4
    simp only [Option.some.injEq] at h4
    subst h4
    change idxS n l = _ at h1
    rw [h1, Int.toNat_natCast]
    exact ⟨by omega, h2, h3⟩
theorem diff_run {a b : List Setting} (ha : IncS a) (hb : IncS b) (hl : a.length + (a.length + b.length) ≤ 24) : ∀ k, k ≤ (diffL a b).length → (runC a (diffL a b) k).1 = 0 ∧ IncS (runC a (diffL a b) k).2 ∧ (runC a (diffL a b) k).2.length ≤ a.length + k ∧ ∀ n, thg (runC a (diffL a b) k).2 n = finF a (diffL a b) n k
  | 0, _ => ⟨rfl, ha, Nat.le_refl _, fun _ => rfl⟩
  | k + 1, hk => by
    obtain ⟨h1, h2, h3, h4⟩ := diff_run ha hb hl k (by omega)
    have hcl := diff_len a b
    rw [runC_succ h1]
    generalize (runC a (diffL a b) k).2 = S at h2 h3 h4
    have hF : ∀ n, finF a (diffL a b) n (k + 1) = if n = (nth (diffL a b) k).name then (if (nth (diffL a b) k).kind = 1 then some (nth (diffL a b) k).value else none) else finF a (diffL a b) n k := fun _ => rfl
    have hfree : finF a (diffL a b) (nth (diffL a b) k).name k = thg a (nth (diffL a b) k).name := finF_not fun j hj e => diff_uniq ha hb hj (by omega) e.symm
    have hlen := setK_len slo_sLt (nm := Setting.name) (e := (nth (diffL a b) k).set) h2
    rcases diff_mem (nth_mem (show k < (diffL a b).length by omega)) with ⟨y, hy, h5, h6⟩ | ⟨y, hy, h5, h6⟩
    · have hk2 : (nth (diffL a b) k).kind ≠ 1 := by rw [h6]; exact (show (2 : Int) ≠ 1 by decide)
      have hv : thg S (nth (diffL a b) k).name = some (nth (diffL a b) k).value := by
        rw [h4, hfree, h6]; exact thg_mem ha y hy
      obtain ⟨i1, i2, i3⟩ := idx_thg hv
      have e1 : chE S (nth (diffL a b) k) = 0 := by
        unfold chE
        rw [if_neg hk2, if_neg (by omega), if_pos (by rw [i3])]
      have e2 : chN S (nth (diffL a b) k) = S.take (idxS (nth (diffL a b) k).name S).toNat ++ S.drop ((idxS (nth (diffL a b) k).name S).toNat + 1) := if_neg hk2
      refine ⟨e1, ?_, ?_, fun n => ?_⟩
      · show IncS (chN S _); rw [e2]; exact incK_del h2 _
      · show (chN S _).length ≤ _; rw [e2]; have := len_del S _ i2; omega
      · show thg (chN S _) n = _
        rw [e2, thg_del n S _ h2 i2, i3, hF, if_neg hk2, h4]
    · have hk1 : (nth (diffL a b) k).kind = 1 := by rw [h6]; rfl
      have hle : (setS (nth (diffL a b) k).set S).length ≤ S.length + 1 := by
        show (setK Setting.name sLt _ S).length ≤ _
        split at hlen <;> omega
      have e1 : chE S (nth (diffL a b) k) = 0 := by
        unfold chE
        rw [if_pos hk1, if_neg (by omega)]
      have e2 : chN S (nth (diffL a b) k) = setS (nth (diffL a b) k).set S := if_pos hk1
      refine ⟨e1, ?_, ?_, fun n => ?_⟩
      · show IncS (chN S _); rw [e2]; exact setK_inc slo_sLt h2
      · show (chN S _).length ≤ _; rw [e2]; omega
      · show thg (chN S _) n = _
        rw [e2, thg_set, hF, if_pos hk1, h4]; rfl
/-- The changes made: the other state. -/
theorem diff_apply {a b : List Setting} (ha : settingList a = true) (hb : settingList b = true) (hl : a.length + (a.length + b.length) ≤ 24) : applyC a (diffL a b) = 0 ∧ applyV a (diffL a b) = b := by
  have ia := incS_of ha
  have ib := incS_of hb
  obtain ⟨h1, h2, -, h4⟩ := diff_run ia ib hl _ (Nat.le_refl _)
  have hall : allCh (diffL a b) = true := allB_end fun k hk => by
    rcases diff_mem (nth_mem hk) with ⟨y, hy, -, e⟩ | ⟨y, hy, -, e⟩
    · rw [e]
      obtain ⟨i, hi, rfl⟩ := mem_nth hy
      unfold changeB
      rw [show (chg 2 (nth a i)).set = nth a i from rfl, state_one ha hi]; rfl
    · rw [e]
      obtain ⟨i, hi, rfl⟩ := mem_nth hy
      unfold changeB
      rw [show (chg 1 (nth b i)).set = nth b i from rfl, state_one hb hi]; rfl
  obtain ⟨e1, e2⟩ := apply_ok ha hall h1
  refine ⟨e1, ?_⟩
  rw [e2]
  exact thg_ext h2 ib fun n => by rw [h4, diff_fin ia ib]
end Go.Proofs.YtbcpgdidajapoaaDoor
namespace Go.Proofs.YtbcpgdidajapoaaDoor
open Go.RowKit
namespace Grow
variable {P : Program} {md : Region.Mode}
def preB (md : Region.Mode) (ops : Array Oper) (n : Nat) : List Nat → Array Bool → Bool
  | [], _ => true
  | i :: is, listed => (Region.ready md ops listed).contains i && Region.free md ops listed i && decide (i < n) && preB md ops n is (listed.setIfInBounds i true)
def setAll : List Nat → Array Bool → Array Bool
  | [], l => l
  | i :: is, l => setAll is (l.setIfInBounds i true)
theorem anyL_of_pre {l : List Oper} {n k : Nat} {Q : Exit → Act → World → Prop} {w : World} (hsel : Region.noSelect l.toArray = true) (hs : Region.sinkB md l.toArray n = true) (hc : Region.chainB md l.toArray n = true) (hn : n < l.toArray.size) :
    ∀ (is : List Nat) (listed : Array Bool) (a : Act) (w' : World), Ext w w' → HeadInv md l.toArray n listed → preB md l.toArray n is listed = true →
      heads P l.toArray w (fun a' => ∀ w'', Ext w w'' → anyL P md l.toArray n (tailL P md l n Q) k (setAll is listed) a' w'') (pick l is) a → anyL P md l.toArray n (tailL P md l n Q) (is.length + k) listed a w'
  | [], listed, a, w', he, _, _, h => by
    have := h w' he
    simpa [setAll] using this
  | i :: is, listed, a, w', he, inv, hB, h => by
    simp only [preB, Bool.and_eq_true, decide_eq_true_eq] at hB
    obtain ⟨⟨⟨hr, hf⟩, hin⟩, hB'⟩ := hB
    have hr' : i ∈ Region.ready md l.toArray listed := by simpa using hr
    obtain ⟨-, o, ho, -⟩ := mem_ready.1 hr'
    have ho' : l[i]? = some o := by simpa using ho
    simp only [pick, ho'] at h
    obtain ⟨v, hy, h⟩ := h
    have := anyL_first ho (Region.noSelect_spec hsel) hs hc hn hin (fun _ _ _ h => seqB_ready h.1) (is.length + k) listed a w' inv (Region.free_spec ho hf) hr' (hy.grow he)
      (fun w'' h2 => anyL_of_pre hsel hs hc hn is _ _ w'' (he.trans h2) (inv.set hr' hin) hB' h)
    rw [show (i :: is).length + k = is.length + k + 1 by simp only [List.length_cons]; omega]
    exact this
def newB (md : Region.Mode) (ops : Array Oper) (n k : Nat) (hs : List Nat) : Bool :=
  Region.noSelect ops && decide (n < ops.size) && Region.sinkB md ops n && Region.chainB md ops n && decide (hs.length + k = n) && preB md ops n hs (Array.replicate ops.size false)
theorem region_new {id : Nat} {Q : Exit → Act → World → Prop} {a : Act} {w : World} {l : List Oper} (n k : Nat) (hs : List Nat) (hm : P.follows .mixedOrders = true) (hB : newB .any l.toArray n k hs = true)
    (h : heads P l.toArray w (fun a' => ∀ w'', Ext w w'' → anyL P .any l.toArray n (tailL P .any l n Q) k (setAll hs (Array.replicate l.toArray.size false)) a' w'') (pick l hs) a) : (Code.region id l.toArray true).wp P Q a w := by
  simp only [newB, Bool.and_eq_true, decide_eq_true_eq] at hB
  obtain ⟨⟨⟨⟨⟨hsel, hn⟩, hsk⟩, hch⟩, hlen⟩, hf⟩ := hB
  have inv : HeadInv .any l.toArray n (Array.replicate l.toArray.size false) := by
    refine ⟨by simp, fun j oj _ hl => ?_, fun t _ ht => ?_⟩
    · rw [getD_replicate_false] at hl; cases hl
    · have ht' : t < l.length := by simpa using ht
      simp [ht']
  have h1 := anyL_of_pre (P := P) (md := .any) (Q := Q) (w := w) (k := k) hsel hsk hch hn hs _ a w.drew ((Ext.refl w).drew) inv hf h
  rw [hlen] at h1
  refine wp_region_any hm ?_
  have h2 := wpAny_of_anyL (L := tailL P .any l n Q) (g := l.toArray.size - n) (Q' := Q) (fun listed a w ⟨hB, hw⟩ => by
    have e : (l.drop n).length = l.toArray.size - n := by simp
    have := wpAny_of_seq (P := P) (ops := l.toArray) (md := .any) (Q' := Q) (l.drop n) n listed a w (fun j => by simp [List.getElem?_drop]) (by rw [e]; exact hB) hw
    rwa [e] at this) n _ a w.drew h1
  rw [show n + (l.toArray.size - n) = l.toArray.size by omega] at h2
  exact h2
/-- An operation that lays a new block. -/
structure Item where
  idx : Nat
  dst : Nat
  obj : Obj
def ptr (b : Nat) : Value := .pointer (some ⟨b, 0, none⟩)
def Item.Ok (P : Program) (ops : Array Oper) (x : Item) : Prop :=
  ∃ o, ops[x.idx]? = some o ∧ o.dst = some x.dst ∧ ∀ (a : Act) (w : World), Region.wanted o (yielded ops a.tmps) = true ∧ (execOp a.eval o).run P w = .ok (.value (ptr w.heap.size)) (w.alloc x.obj)
def putAll (b : Nat → Nat) : List Item → Act → Act
  | [], a => a
  | x :: U, a => putAll b U (a.put (some x.dst) (ptr (b x.idx)))
def idxs (U : List Item) : List Nat := U.map Item.idx
def without (i : Nat) (U : List Item) : List Item := U.filter fun x => x.idx != i
def newsB (md : Region.Mode) (ops : Array Oper) (n : Nat) : Nat → List Nat → Array Bool → Bool
  | 0, U, _ => U.isEmpty
  | f + 1, U, listed => !(Region.ready md ops listed).isEmpty && (Region.ready md ops listed).all (fun i => U.contains i && decide (i < n) && newsB md ops n f (U.filter fun j => j != i) (listed.setIfInBounds i true))
theorem putAll_put {b : Nat → Nat} {d : Nat} {v : Value} : ∀ {U : List Item} {a : Act}, (∀ x ∈ U, x.dst ≠ d) → putAll b U (a.put (some d) v) = (putAll b U a).put (some d) v
  | [], _, _ => rfl
  | x :: U, a, h => by
    have hx : x.dst ≠ d := h x (by simp)
    show putAll b U ((a.put (some d) v).put (some x.dst) _) = (putAll b U (a.put (some x.dst) _)).put (some d) v
    rw [Act.put_comm a v _ (fun d' e e2 => hx (Option.some.inj (e2.trans e.symm))), putAll_put (fun y hy => h y (by simp [hy]))]
theorem putAll_congr {b b' : Nat → Nat} : ∀ {U : List Item} {a : Act}, (∀ x ∈ U, b x.idx = b' x.idx) → putAll b U a = putAll b' U a
  | [], _, _ => rfl
  | x :: U, a, h => by
    show putAll b U _ = putAll b' U _
    rw [h x (by simp), putAll_congr (fun y hy => h y (by simp [hy]))]
theorem setAll_set {i : Nat} : ∀ {U : List Nat} {l : Array Bool}, (∀ j ∈ U, j ≠ i) → setAll U (l.setIfInBounds i true) = (setAll U l).setIfInBounds i true
  | [], _, _ => rfl
  | j :: U, l, h => by
    have hj : j ≠ i := h j (by simp)
    show setAll U ((l.setIfInBounds i true).setIfInBounds j true) = (setAll U (l.setIfInBounds j true)).setIfInBounds i true
    rw [Array.setIfInBounds_comm _ _ (Ne.symm hj), setAll_set (fun y hy => h y (by simp [hy]))]
theorem without_eq {i : Nat} : ∀ {U : List Item}, (∀ y ∈ U, y.idx ≠ i) → without i U = U := by
  intro U h
  unfold without
  rw [List.filter_eq_self]
  intro y hy; simpa using h y hy
theorem split_item {U : List Item} {i : Nat} (hnd : (idxs U).Nodup) (hi : i ∈ idxs U) : ∃ U1 x U2, U = U1 ++ x :: U2 ∧ x.idx = i ∧ without i U = U1 ++ U2 := by
  obtain ⟨x, hx, rfl⟩ := List.mem_map.1 hi
  obtain ⟨U1, U2, rfl⟩ := List.append_of_mem hx
  unfold idxs at hnd
  rw [List.map_append, List.map_cons, List.nodup_append, List.nodup_cons] at hnd
  refine ⟨U1, x, U2, rfl, rfl, ?_⟩
  have h1 : without x.idx U1 = U1 := without_eq fun y hy e => (hnd.2.2 _ (List.mem_map.2 ⟨y, hy, rfl⟩) _ (List.mem_cons_self ..)) e
  have h2 : without x.idx U2 = U2 := without_eq fun y hy e => hnd.2.1.1 (List.mem_map.2 ⟨y, hy, e⟩)
  unfold without at *
  rw [List.filter_append, List.filter_cons, if_neg (by simp), h1, h2]
theorem putAll_split {b : Nat → Nat} {x : Item} {U2 : List Item} : ∀ {U1 : List Item} {a : Act}, (∀ y ∈ U1, y.dst ≠ x.dst) → putAll b (U1 ++ x :: U2) a = putAll b (U1 ++ U2) (a.put (some x.dst) (ptr (b x.idx)))
  | [], _, _ => rfl
  | y :: U1, a, h => by
    have hy : y.dst ≠ x.dst := h y (by simp)
    show putAll b (U1 ++ x :: U2) (a.put (some y.dst) _) = putAll b (U1 ++ U2) ((a.put (some x.dst) _).put (some y.dst) _)
    rw [putAll_split (fun z hz => h z (by simp [hz])), Act.put_comm a _ _ (fun d' e e2 => hy (Option.some.inj (e2.trans e.symm)))]
theorem setAll_split {i : Nat} {U2 : List Nat} : ∀ {U1 : List Nat} {l : Array Bool}, (∀ y ∈ U1, y ≠ i) → setAll (U1 ++ i :: U2) l = setAll (U1 ++ U2) (l.setIfInBounds i true)
  | [], _, _ => rfl
  | y :: U1, l, h => by
    have hy : y ≠ i := h y (by simp)
    show setAll (U1 ++ i :: U2) (l.setIfInBounds y true) = setAll (U1 ++ U2) ((l.setIfInBounds i true).setIfInBounds y true)
    rw [setAll_split (fun z hz => h z (by simp [hz])), Array.setIfInBounds_comm _ _ (Ne.symm hy)]
theorem obj_ext {w w' : World} {b : Nat} {z : Obj} (h : w.heap[b]? = some z) (he : Ext w w') : w'.heap[b]? = some z := by
  have hlt : b < w.heap.size := by
    rcases Nat.lt_or_ge b w.heap.size with h1 | h1
    · exact h1
    · rw [Array.getElem?_eq_none h1] at h; cases h
  rw [he.below.block b hlt]; exact h
theorem anyL_news {ops : Array Oper} {n : Nat} {L : Array Bool → Act → World → Prop} :
    ∀ (f : Nat) (U : List Item) (listed : Array Bool) (a : Act) (w : World), newsB md ops n f (idxs U) listed = true → (idxs U).Nodup → (U.map Item.dst).Nodup → (∀ x ∈ U, x.Ok P ops) →
      (∀ (b : Nat → Nat) (w' : World), Ext w w' → (∀ x ∈ U, w.heap.size ≤ b x.idx ∧ w'.heap[b x.idx]? = some x.obj) → (∀ x ∈ U, ∀ y ∈ U, x.idx ≠ y.idx → b x.idx ≠ b y.idx) → L (setAll (idxs U) listed) (putAll b U a) w') →
      anyL P md ops n L f listed a w
  | 0, U, listed, a, w, hB, _, _, _, h => by
    have : U = [] := by
      cases U with
      | nil => rfl
      | cons x U => simp [newsB, idxs] at hB
    subst this
    exact h (fun _ => 0) w (Ext.refl w) (fun _ hx => by cases hx) (fun _ hx => by cases hx)
  | f + 1, U, listed, a, w, hB, hnd, hdd, hok, h => by
    simp only [newsB, Bool.and_eq_true, Bool.not_eq_true', List.all_eq_true] at hB
    refine ⟨fun e => by rw [e] at hB; simp at hB, fun i hi => ?_⟩
    obtain ⟨⟨hc, hin⟩, hB'⟩ := hB.2 i hi
    refine ⟨by simpa using hin, fun o ho => ?_⟩
    have hiU : i ∈ idxs U := by simpa using hc
    obtain ⟨U1, x, U2, rfl, rfl, hwo⟩ := split_item hnd hiU
    obtain ⟨o', ho', hd', hrun⟩ := hok x (by simp)
    rw [ho] at ho'
    obtain rfl := Option.some.inj ho'
    have hnd' := hnd
    unfold idxs at hnd'
    rw [List.map_append, List.map_cons, List.nodup_append, List.nodup_cons] at hnd'
    have hdd' := hdd
    rw [List.map_append, List.map_cons, List.nodup_append, List.nodup_cons] at hdd'
    have e1 : ∀ y ∈ U1, y.idx ≠ x.idx := fun y hy e => hnd'.2.2 _ (List.mem_map.2 ⟨y, hy, rfl⟩) _ (List.mem_cons_self ..) e
    have e2 : ∀ y ∈ U2, y.idx ≠ x.idx := fun y hy e => hnd'.2.1.1 (List.mem_map.2 ⟨y, hy, e⟩)
    have e3 : ∀ y ∈ U1, y.dst ≠ x.dst := fun y hy e => hdd'.2.2 _ (List.mem_map.2 ⟨y, hy, rfl⟩) _ (List.mem_cons_self ..) e
    have hmem : ∀ y, y ∈ U1 ++ U2 → y ∈ U1 ++ x :: U2 := fun y hy => by
      rcases List.mem_append.1 hy with h1 | h1
      · exact List.mem_append.2 (.inl h1)
      · exact List.mem_append.2 (.inr (List.mem_cons_of_mem _ h1))
    have hne : ∀ y ∈ U1 ++ U2, y.idx ≠ x.idx := fun y hy => by
      rcases List.mem_append.1 hy with h1 | h1
      · exact e1 y h1
      · exact e2 y h1
    have hidx : (idxs (U1 ++ x :: U2)).filter (fun j => j != x.idx) = idxs (U1 ++ U2) := by
      rw [← hwo]; unfold idxs without; rw [List.filter_map]; rfl
    rw [hidx] at hB'
    unfold op
    rw [if_pos (hrun a w).1, (hrun a w).2]
    refine ⟨(Ext.refl w).alloc _, fun w1 hw1 => ?_⟩
    rw [hd']
    have hsz : w.heap.size < w1.heap.size := by have := hw1.size; rw [size_new] at this; omega
    have hobj : (w.alloc x.obj).heap[w.heap.size]? = some x.obj := by
      show (w.heap.push _)[w.heap.size]? = _
      simp
    refine anyL_news f (U1 ++ U2) _ _ w1 hB' ?_ ?_ (fun y hy => hok y (hmem y hy)) (fun b w' hw' hb hbd => ?_)
    · exact hnd.sublist (List.Sublist.map _ (List.Sublist.append (List.Sublist.refl _) (List.sublist_cons_self _ _)))
    · exact hdd.sublist (List.Sublist.map _ (List.Sublist.append (List.Sublist.refl _) (List.sublist_cons_self _ _)))
    · have hup : ∀ y ∈ U1 ++ U2, (fun i => if i = x.idx then w.heap.size else b i) y.idx = b y.idx := fun y hy => if_neg (hne y hy)
      have h0 := h (fun i => if i = x.idx then w.heap.size else b i) w' (((Ext.refl w).alloc _).trans (hw1.trans hw')) (fun y hy => by
          by_cases e : y.idx = x.idx
          · have : y = x := by
              rcases List.mem_append.1 hy with h1 | h1
              · exact absurd e (e1 y h1)
              · rcases List.mem_cons.1 h1 with h2 | h2
                · exact h2
                · exact absurd e (e2 y h2)
            subst this
            simp only [if_pos]
            exact ⟨Nat.le_refl _, obj_ext hobj (hw1.trans hw')⟩
          · have hy' : y ∈ U1 ++ U2 := by
              rcases List.mem_append.1 hy with h1 | h1
              · exact List.mem_append.2 (.inl h1)
              · rcases List.mem_cons.1 h1 with h2 | h2
                · exact absurd (by rw [h2]) e
                · exact List.mem_append.2 (.inr h2)
            simp only [if_neg e]
            have := hb y hy'
            exact ⟨by omega, this.2⟩) (fun y hy z hz hyz => by
          have key : ∀ y, y ∈ U1 ++ x :: U2 → y.idx ≠ x.idx → y ∈ U1 ++ U2 := fun y hy e => by
            rcases List.mem_append.1 hy with h1 | h1
            · exact List.mem_append.2 (.inl h1)
            · rcases List.mem_cons.1 h1 with h2 | h2
              · exact absurd (by rw [h2]) e
              · exact List.mem_append.2 (.inr h2)
          by_cases e : y.idx = x.idx <;> by_cases e' : z.idx = x.idx
          · omega
          · simp only [if_pos e, if_neg e']
            have := (hb z (key z hz e')).1; omega
          · simp only [if_neg e, if_pos e']
            have := (hb y (key y hy e)).1; omega
          · simp only [if_neg e, if_neg e']
            exact hbd y (key y hy e) z (key z hz e') hyz)
      have es : setAll (idxs (U1 ++ x :: U2)) listed = setAll (idxs (U1 ++ U2)) (listed.setIfInBounds x.idx true) := by
        unfold idxs
        rw [List.map_append, List.map_cons, List.map_append]
        exact setAll_split (fun j hj e => by obtain ⟨y, hy, rfl⟩ := List.mem_map.1 hj; exact e1 y hy e)
      rw [es, putAll_split e3, putAll_congr hup] at h0
      simpa using h0
end Grow
end Go.Proofs.YtbcpgdidajapoaaDoor
namespace Go.Proofs.YtbcpgdidajapoaaDoor
open Go.RowKit
set_option maxRecDepth 100000 in
set_option maxHeartbeats 2000000 in
theorem valueAt_any (a : Option Addr) (cap : Nat) (l : List Setting) (n : ByteArray) (w : World) (H : SettingAt w a l) (hl : l.length ≤ 1048576) :
    Gives Tryd.prog 25 #[.slice a l.length cap, .string n] w (.tuple #[.int .i64 ((thg l n).getD 0), .bool (thg l n).isSome]) := by
  unfold Gives
  have HA := Lib.hid H
  clear H
  go_enter Tryd.func25, Tryd.ntmps25
  go_wp2_with fail
  go_loopw [10] (fun i wr => ∃ k : Nat, k ≤ l.length ∧ i = .int .i64 k ∧ Hid (∀ j, j < k → (nth l j).name ≠ n) ∧ Ext w wr) (fun i _ => l.length - (intOf i).toNat)
  case atStart => exact ⟨0, Nat.zero_le _, rfl, upto_zero, Ext.refl _⟩
  case round =>
    obtain ⟨k, hk, rfl, hall, he⟩ := hrel
    by_cases hlt : k < l.length
    · obtain ⟨b, off, rfl⟩ := HA.out.base hlt
      obtain ⟨hb, c0, c1⟩ := Setting.at (HA.out.ext he) k hlt
      cases h1 : sEq (nth l k).name n
      · have hnx : Hid (∀ j, j < k + 1 → (nth l j).name ≠ n) := upto_succ hall.out (sEq_not.1 h1)
        go_wp2_with fail
        go_roundw
        case rel => exact ⟨k + 1, by omega, by go_num, hnx.out, he.alloc _⟩
        case measure => simp [intOf]; omega
      · have hv : Hid (thg l n = some (nth l k).value) := thg_at hall.out hlt (sEq_iff.1 h1)
        go_wp2_with fail
        go_ret2
        exact ⟨by rw [hv.out]; rfl, he.alloc _⟩
    · have hv : Hid (thg l n = none) := thg_none fun j hj => hall.out j (by omega)
      go_wp2_with fail
      go_ret2
      exact ⟨by rw [hv.out]; rfl, he⟩
end Go.Proofs.YtbcpgdidajapoaaDoor
namespace Go.Proofs.YtbcpgdidajapoaaDoor
open Go.RowKit
theorem elChange : El Tryd.prog 29 61 3 32 := El.mk' Tryd.underlying29 (by kernel_rfl) (by decide)
theorem oneChange : ∀ (x : Change) (j : Nat), j < 3 → (Change.cell x j).oneCell' = true := fun x j hj => by rcases (show j = 0 ∨ j = 1 ∨ j = 2 by omega) with rfl | rfl | rfl <;> rfl
def d1L (x y : List Setting) (k : Nat) : List Change := ((x.take k).filter (dropP y)).map (chg 2)
def d2L (x y : List Setting) (k : Nat) : List Change := d1L x y x.length ++ ((y.take k).filter (setP x)).map (chg 1)
theorem d1_yes {x y : List Setting} {k : Nat} (hk : k < x.length) (h : thg y (nth x k).name = none) : d1L x y (k + 1) = d1L x y k ++ [chg 2 (nth x k)] := by
  unfold d1L
  rw [take_snoc' hk, List.filter_append, List.map_append, List.filter_cons, if_pos (by unfold dropP; rw [h]; rfl)]; rfl
theorem d1_no {x y : List Setting} {k : Nat} {v : Int} (hk : k < x.length) (h : thg y (nth x k).name = some v) : d1L x y (k + 1) = d1L x y k := by
  unfold d1L
  rw [take_snoc' hk, List.filter_append, List.map_append, List.filter_cons, if_neg (by unfold dropP; rw [h]; exact Bool.false_ne_true)]; simp
theorem d2_yes {x y : List Setting} {k : Nat} (hk : k < y.length) (h : thg x (nth y k).name ≠ some (nth y k).value) : d2L x y (k + 1) = d2L x y k ++ [chg 1 (nth y k)] := by
  unfold d2L
  rw [take_snoc' hk, List.filter_append, List.map_append, List.filter_cons, if_pos (by unfold setP; rw [decide_eq_false h]; rfl), List.append_assoc]; rfl
theorem d2_no {x y : List Setting} {k : Nat} (hk : k < y.length) (h : thg x (nth y k).name = some (nth y k).value) : d2L x y (k + 1) = d2L x y k := by
  unfold d2L
  rw [take_snoc' hk, List.filter_append, List.map_append, List.filter_cons, if_neg (by unfold setP; rw [decide_eq_true h]; decide)]; simp
theorem d1_len (x y : List Setting) (k : Nat) : (d1L x y k).length ≤ x.length := by
  unfold d1L
  rw [List.length_map]
  have := List.length_filter_le (dropP y) (x.take k)
  rw [List.length_take] at this
  omega
theorem d2_len (x y : List Setting) (k : Nat) : (d2L x y k).length ≤ x.length + y.length := by
  unfold d2L
  rw [List.length_append, List.length_map]
  have := List.length_filter_le (setP x) (y.take k)
  have := d1_len x y x.length
  rw [List.length_take] at *
  omega
theorem d2_end (x y : List Setting) : d2L x y y.length = diffL x y := by
  unfold d2L d1L diffL
  rw [List.take_length, List.take_length]
set_option maxRecDepth 100000 in
set_option maxHeartbeats 8000000 in
theorem implDiffStates_any (w : World) (a1 a2 : Option Addr) (p1 p2 : Nat) (x y : List Setting) (H1 : SettingAt w a1 x) (H2 : SettingAt w a2 y) (hx : settingList x = true) (hy : settingList y = true) (sx : ∀ k, k < x.length → (nth x k).Small) (sy : ∀ k, k < y.length → (nth y k).Small) :
    Calls Tryd.prog 8 #[.slice a1 x.length p1, .slice a2 y.length p2] w fun e w' => ∃ va vc, e = .returned (.tuple #[.slice va (diffL x y).length vc, .int .i64 0]) ∧ (diffL x y).length ≤ vc ∧ ChangeAt w' va (diffL x y) ∧ Ext w w' := by
  have lx := state_len hx
  have ly := state_len hy
  have HV1 := Lib.hid (ValidSettings_any a1 p1 x w H1 sx (by omega))
  have HV2 := Lib.hid fun (W : World) (he : Ext w W) => ValidSettings_any a2 p2 y W (RowsAt.ext H2 he) sy (by omega)
  rw [hx] at HV1
  rw [hy] at HV2
  have HA1 := Lib.hid H1
  have HA2 := Lib.hid H2
  have HT2 := Lib.hid fun (W : World) (n : ByteArray) (he : Ext w W) => valueAt_any a2 p2 y n W (RowsAt.ext H2 he) (by omega)
  have HT1 := Lib.hid fun (W : World) (n : ByteArray) (he : Ext w W) => valueAt_any a1 p1 x n W (RowsAt.ext H1 he) (by omega)
  clear H1 H2 hx hy sx sy
  go_enter Tryd.func8, Tryd.ntmps8
  go_wp2_with fail
  refine HV1.out.mono ?_
  rintro e w1 ⟨rfl, E1⟩
  go_wp2_with fail
  refine (HV2.out w1 E1).mono ?_
  rintro e w2 ⟨rfl, E2⟩
  have E0 := Lib.hid (E1.trans E2)
  clear HV1 HV2 E1 E2
  go_wp2_with fail
  go_loopw [6, 25] (fun o i wr => ∃ k : Nat, k ≤ x.length ∧ i = .int .i64 k ∧ Hid (Lst 61 3 Change.cell wr w.heap.size o (d1L x y k)) ∧ Ext w wr) (fun _ i _ => x.length - (intOf i).toNat)
  case atStart => exact ⟨0, Nat.zero_le _, rfl, Lst.nil _ _, E0.out⟩
  case round =>
    clear E0
    obtain ⟨k, hk, rfl, hL, he⟩ := hrel
    by_cases hlt : k < x.length
    · obtain ⟨b, off, rfl⟩ := RowsAt.base HA1.out hlt
      obtain ⟨hb, c0, c1⟩ := Setting.at (RowsAt.ext HA1.out he) k hlt
      have hz : w.heap.size ≤ wr.heap.size := he.size
      have hl1 : decide (k < (x).length) = true := decide_eq_true hlt
      have hX := (Ext.refl wr).alloc (.cells #[.string (nth x k).name, .int .i64 (nth x k).value] 57)
      have q0 : (wr.alloc (.cells #[.string (nth x k).name, .int .i64 (nth x k).value] 57)).cell? ⟨wr.heap.size, 0, none⟩ = some (.string (nth x k).name) := by rw [cell_new]; rfl
      have q1 : (wr.alloc (.cells #[.string (nth x k).name, .int .i64 (nth x k).value] 57)).cell? ⟨wr.heap.size, 1, none⟩ = some (.int .i64 (nth x k).value) := by rw [cell_new]; rfl
      replace q0 := Lib.hid q0
      replace q1 := Lib.hid q1
      replace hX := Lib.hid hX
      have hE := Lib.hid (he.trans hX.out)
      replace hL := Lib.hid (hL.out.ext hX.out)
      clear he
      have HT := Lib.hid (HT2.out _ (nth x k).name hE.out)
      cases h : thg y (nth x k).name with
      | none =>
        rw [h] at HT
        have hnx := Lib.hid (d1_yes hlt h)
        go_wp2_with fail
        refine HT.out.mono ?_
        rintro e W2 ⟨rfl, E2⟩
        have d0 := E2.cell q0.out
        have d1 := E2.cell q1.out
        have dl := block_lt d0
        replace hE := Lib.hid (hE.out.trans E2)
        replace hL := Lib.hid (hL.out.ext E2)
        clear E2 q0 q1 hX c0 c1 hb
        clear HT h
        have hx9 := Lib.hid ((Ext.refl W2).alloc (.cells #[.int .i64 2, .string (nth x k).name, .int .i64 (nth x k).value] 61))
        have HR2 : Hid (ChangeAt (W2.alloc (.cells #[.int .i64 2, .string (nth x k).name, .int .i64 (nth x k).value] 61)) (some ⟨W2.heap.size, 0, none⟩) [chg 2 (nth x k)]) := rows_new (n := 3) (cell := Change.cell) (T := 61) W2 #[.int .i64 2, .string (nth x k).name, .int .i64 (nth x k).value] (chg 2 (nth x k)) (fun j hj => by rcases (show j = 0 ∨ j = 1 ∨ j = 2 by omega) with rfl | rfl | rfl <;> rfl)
        have hL9 := Lib.hid (hL.out.ext hx9.out)
        have hb9 : Hid (w.heap.size ≤ (W2.alloc (.cells #[.int .i64 2, .string (nth x k).name, .int .i64 (nth x k).value] 61)).heap.size) := by show _ ≤ _; rw [size_new]; have := hE.out.size; omega
        have hc9 := (d1_len x y k)
        go_wp2_with (at_builtin; refine wpList_pushL elChange oneChange rfl _ _ rfl w.heap.size _ _ (by rfl) hL9.out _ 1 1 [chg 2 (nth x k)] rfl (by rfl) HR2.out (by omega) (by omega) hb9.out ?_; intro v3 w3 L3 s3 _; have L3 := Lib.hid L3; have E3 := Lib.hid (s3 w (hE.out.trans hx9.out) (Nat.le_refl _)); clear hL9 hb9 HR2 hx9 s3 hL hE hc9 d0 d1)
        go_roundw
        case rel => exact ⟨k + 1, by omega, by go_num, by rw [hnx.out]; exact L3.out, E3.out⟩
        case measure => simp [intOf]; omega
      | some v =>
        rw [h] at HT
        have hnx := Lib.hid (d1_no hlt h)
        go_wp2_with fail
        refine HT.out.mono ?_
        rintro e W2 ⟨rfl, E2⟩
        have d0 := E2.cell q0.out
        have d1 := E2.cell q1.out
        have dl := block_lt d0
        replace hE := Lib.hid (hE.out.trans E2)
        replace hL := Lib.hid (hL.out.ext E2)
        clear E2 q0 q1 hX c0 c1 hb
        clear HT h d0 d1
        go_wp2_with fail
        go_roundw
        case rel => exact ⟨k + 1, by omega, by go_num, by rw [hnx.out]; exact hL.out, hE.out⟩
        case measure => simp [intOf]; omega
    · obtain rfl : k = x.length := by omega
      have hl1 : decide (x.length < x.length) = false := decide_eq_false (by omega)
      have he := Lib.hid he
      go_wp2_with fail
      go_loopw [6, 46] (fun o i wr => ∃ k : Nat, k ≤ y.length ∧ i = .int .i64 k ∧ Hid (Lst 61 3 Change.cell wr w.heap.size o (d2L x y k)) ∧ Ext w wr) (fun _ i _ => y.length - (intOf i).toNat)
      case atStart => exact ⟨0, Nat.zero_le _, rfl, by show Lst _ _ _ _ _ _ (d1L x y x.length ++ []); rw [List.append_nil]; exact hL.out, he.out⟩
      case round =>
        clear hL he hl1
        obtain ⟨k, hk, rfl, hL, he⟩ := hrel
        by_cases hlt : k < y.length
        · obtain ⟨b, off, rfl⟩ := RowsAt.base HA2.out hlt
          obtain ⟨hb, c0, c1⟩ := Setting.at (RowsAt.ext HA2.out he) k hlt
          have hz : w.heap.size ≤ wr.heap.size := he.size
          have hl1 : decide (k < (y).length) = true := decide_eq_true hlt
          have hX := (Ext.refl wr).alloc (.cells #[.string (nth y k).name, .int .i64 (nth y k).value] 57)
          have q0 : (wr.alloc (.cells #[.string (nth y k).name, .int .i64 (nth y k).value] 57)).cell? ⟨wr.heap.size, 0, none⟩ = some (.string (nth y k).name) := by rw [cell_new]; rfl
          have q1 : (wr.alloc (.cells #[.string (nth y k).name, .int .i64 (nth y k).value] 57)).cell? ⟨wr.heap.size, 1, none⟩ = some (.int .i64 (nth y k).value) := by rw [cell_new]; rfl
          replace q0 := Lib.hid q0
          replace q1 := Lib.hid q1
          replace hX := Lib.hid hX
          have hE := Lib.hid (he.trans hX.out)
          replace hL := Lib.hid (hL.out.ext hX.out)
          clear he
          have HT := Lib.hid (HT1.out _ (nth y k).name hE.out)
          cases h : thg x (nth y k).name with
          | none =>
            rw [h] at HT
            have hnx := Lib.hid (d2_yes hlt (show thg x (nth y k).name ≠ some (nth y k).value by rw [h]; intro e; cases e))
            go_wp2_with fail
            refine HT.out.mono ?_
            rintro e W2 ⟨rfl, E2⟩
            have d0 := E2.cell q0.out
            have d1 := E2.cell q1.out
            have dl := block_lt d0
            replace hE := Lib.hid (hE.out.trans E2)
            replace hL := Lib.hid (hL.out.ext E2)
            clear E2 q0 q1 hX c0 c1 hb
            clear HT h
            have hx9 := Lib.hid ((Ext.refl W2).alloc (.cells #[.int .i64 1, .string (nth y k).name, .int .i64 (nth y k).value] 61))
            have HR2 : Hid (ChangeAt (W2.alloc (.cells #[.int .i64 1, .string (nth y k).name, .int .i64 (nth y k).value] 61)) (some ⟨W2.heap.size, 0, none⟩) [chg 1 (nth y k)]) := rows_new (n := 3) (cell := Change.cell) (T := 61) W2 #[.int .i64 1, .string (nth y k).name, .int .i64 (nth y k).value] (chg 1 (nth y k)) (fun j hj => by rcases (show j = 0 ∨ j = 1 ∨ j = 2 by omega) with rfl | rfl | rfl <;> rfl)
            have hL9 := Lib.hid (hL.out.ext hx9.out)
            have hb9 : Hid (w.heap.size ≤ (W2.alloc (.cells #[.int .i64 1, .string (nth y k).name, .int .i64 (nth y k).value] 61)).heap.size) := by show _ ≤ _; rw [size_new]; have := hE.out.size; omega
            have hc9 := (d2_len x y k)
            go_wp2_with (at_builtin; refine wpList_pushL elChange oneChange rfl _ _ rfl w.heap.size _ _ (by rfl) hL9.out _ 1 1 [chg 1 (nth y k)] rfl (by rfl) HR2.out (by omega) (by omega) hb9.out ?_; intro v3 w3 L3 s3 _; have L3 := Lib.hid L3; have E3 := Lib.hid (s3 w (hE.out.trans hx9.out) (Nat.le_refl _)); clear hL9 hb9 HR2 hx9 s3 hL hE hc9 d0 d1)
            go_roundw
            case rel => exact ⟨k + 1, by omega, by go_num, by rw [hnx.out]; exact L3.out, E3.out⟩
            case measure => simp [intOf]; omega
          | some v =>
            rw [h] at HT
            by_cases hv : v = (nth y k).value
            · have hnx := Lib.hid (d2_no hlt (show thg x (nth y k).name = some (nth y k).value by rw [h, hv]))
              have hvb : (v != (nth y k).value) = false := by rw [hv]; simp
              clear hv
              go_wp2_with fail
              refine HT.out.mono ?_
              rintro e W2 ⟨rfl, E2⟩
              have d0 := E2.cell q0.out
              have d1 := E2.cell q1.out
              have dl := block_lt d0
              replace hE := Lib.hid (hE.out.trans E2)
              replace hL := Lib.hid (hL.out.ext E2)
              clear E2 q0 q1 hX c0 c1 hb
              clear HT h
              go_wp2_with fail
              clear d0 d1
              go_roundw
              case rel => exact ⟨k + 1, by omega, by go_num, by rw [hnx.out]; exact hL.out, hE.out⟩
              case measure => simp [intOf]; omega
            · have hnx := Lib.hid (d2_yes hlt (show thg x (nth y k).name ≠ some (nth y k).value by rw [h]; intro e; simp only [Option.some.injEq] at e; exact hv e))
              have hvb : (v != (nth y k).value) = true := bne_iff_ne.2 hv
              clear hv
              go_wp2_with fail
              refine HT.out.mono ?_
              rintro e W2 ⟨rfl, E2⟩
              have d0 := E2.cell q0.out
              have d1 := E2.cell q1.out
              have dl := block_lt d0
              replace hE := Lib.hid (hE.out.trans E2)
              replace hL := Lib.hid (hL.out.ext E2)
              clear E2 q0 q1 hX c0 c1 hb
              clear HT h
              have hx9 := Lib.hid ((Ext.refl W2).alloc (.cells #[.int .i64 1, .string (nth y k).name, .int .i64 (nth y k).value] 61))
              have HR2 : Hid (ChangeAt (W2.alloc (.cells #[.int .i64 1, .string (nth y k).name, .int .i64 (nth y k).value] 61)) (some ⟨W2.heap.size, 0, none⟩) [chg 1 (nth y k)]) := rows_new (n := 3) (cell := Change.cell) (T := 61) W2 #[.int .i64 1, .string (nth y k).name, .int .i64 (nth y k).value] (chg 1 (nth y k)) (fun j hj => by rcases (show j = 0 ∨ j = 1 ∨ j = 2 by omega) with rfl | rfl | rfl <;> rfl)
              have hL9 := Lib.hid (hL.out.ext hx9.out)
              have hb9 : Hid (w.heap.size ≤ (W2.alloc (.cells #[.int .i64 1, .string (nth y k).name, .int .i64 (nth y k).value] 61)).heap.size) := by show _ ≤ _; rw [size_new]; have := hE.out.size; omega
              have hc9 := (d2_len x y k)
              go_wp2_with (at_builtin; refine wpList_pushL elChange oneChange rfl _ _ rfl w.heap.size _ _ (by rfl) hL9.out _ 1 1 [chg 1 (nth y k)] rfl (by rfl) HR2.out (by omega) (by omega) hb9.out ?_; intro v3 w3 L3 s3 _; have L3 := Lib.hid L3; have E3 := Lib.hid (s3 w (hE.out.trans hx9.out) (Nat.le_refl _)); clear hL9 hb9 HR2 hx9 s3 hL hE hc9 d0 d1)
              go_roundw
              case rel => exact ⟨k + 1, by omega, by go_num, by rw [hnx.out]; exact L3.out, E3.out⟩
              case measure => simp [intOf]; omega
        · obtain rfl : k = y.length := by omega
          have hl1 : decide (y.length < y.length) = false := decide_eq_false (by omega)
          have hfin := Lib.hid (d2_end x y)
          rw [hfin.out] at hL
          obtain ⟨va, vc, rfl, hvc, -, hR, -⟩ := hL.out.shape
          have hR := Lib.hid hR
          clear hL
          go_wp2_with fail
          go_ret2
          exact ⟨va, vc, rfl, hvc, hR.out, he⟩
end Go.Proofs.YtbcpgdidajapoaaDoor
namespace Go.Proofs.YtbcpgdidajapoaaDoor
open Go.RowKit
abbrev nxS : ByteArray := ⟨#[110, 101, 120, 116]⟩
abbrev nextV (P : List VerP) (p : Int) (s : List Setting) : VerP := ⟨(P.length : Int) + 1, p, nxS, s⟩
theorem stateP_ok' {P : List VerP} (h : histP P = true) {n : Int} (h0 : 0 ≤ n) (h1 : n ≤ P.length) : settingList (stateP P n) = true := by
  unfold stateP; split
  · rfl
  · exact ((histP_bd h).2 _ (by omega)).2.2.2
section
variable {P : List VerP} {p : Int} {s : List Setting}
theorem next_commit (h : histP P = true) (hl : P.length ≤ 5) (p0 : 0 ≤ p) (p1 : p ≤ P.length) (hs : settingList s = true) : commitC P p nxS s = 0 ∧ commitV P p nxS s = P ++ [nextV P p s] := by
  obtain ⟨h1, h2⟩ := commit_0 (P := P) (p := p) (m := nxS) (s := s) (by rw [h, hs]; decide) (inB_iff.2 ⟨p0, p1⟩)
  rw [h1, h2]
  exact ⟨if_neg (by omega), if_neg (by omega)⟩
theorem next_hist (h : histP P = true) (hl : P.length ≤ 5) (p0 : 0 ≤ p) (p1 : p ≤ P.length) (hs : settingList s = true) : histP (P ++ [nextV P p s]) = true :=
  hist_more h (by omega) p0 p1 (by decide) hs
theorem next_len (P : List VerP) (p : Int) (s : List Setting) : (P ++ [nextV P p s]).length = P.length + 1 := by rw [List.length_append]; rfl
theorem next_code (h : histP (P ++ [nextV P p s]) = true) : vcodeP (P ++ [nextV P p s]) [(P.length : Int) + 1] = 0 := by
  rw [vcodeP_one _ h, inB_iff.2 ⟨by omega, by rw [next_len]; omega⟩]; rfl
theorem next_code2 (h : histP (P ++ [nextV P p s]) = true) : vcodeP (P ++ [nextV P p s]) [(P.length : Int) + 1, (P.length : Int) + 1] = 0 := by
  rw [vcodeP_two _ _ h, inB_iff.2 ⟨by omega, by rw [next_len]; omega⟩]; rfl
theorem next_at (P : List VerP) (p : Int) (s : List Setting) : nth (P ++ [nextV P p s]) (((P.length : Int) + 1).toNat - 1) = nextV P p s := by
  rw [show ((P.length : Int) + 1).toNat - 1 = P.length by omega, nth_last]
theorem next_state (p0 : 0 ≤ p) (p1 : p ≤ P.length) : stateP (P ++ [nextV P p s]) p = stateP P p := by
  unfold stateP
  split
  · rfl
  · rw [nth_pre (by omega)]
theorem undo_memo {n : Int} (h0 : 1 ≤ n) (h1 : n ≤ 6) : memoB (undoM n) = true := by
  rcases (show n = 1 ∨ n = 2 ∨ n = 3 ∨ n = 4 ∨ n = 5 ∨ n = 6 by omega) with rfl | rfl | rfl | rfl | rfl | rfl
  · rw [show undoM 1 = ⟨#[117, 110, 100, 111, 32, 49]⟩ by unfold undoM decS Lib.itoa; rw [if_neg (by omega), show ((1 : Int)).toNat = 1 from rfl, Lib.decDigits]; rfl]; decide
  · rw [show undoM 2 = ⟨#[117, 110, 100, 111, 32, 50]⟩ by unfold undoM decS Lib.itoa; rw [if_neg (by omega), show ((2 : Int)).toNat = 2 from rfl, Lib.decDigits]; rfl]; decide
  · rw [show undoM 3 = ⟨#[117, 110, 100, 111, 32, 51]⟩ by unfold undoM decS Lib.itoa; rw [if_neg (by omega), show ((3 : Int)).toNat = 3 from rfl, Lib.decDigits]; rfl]; decide
  · rw [show undoM 4 = ⟨#[117, 110, 100, 111, 32, 52]⟩ by unfold undoM decS Lib.itoa; rw [if_neg (by omega), show ((4 : Int)).toNat = 4 from rfl, Lib.decDigits]; rfl]; decide
  · rw [show undoM 5 = ⟨#[117, 110, 100, 111, 32, 53]⟩ by unfold undoM decS Lib.itoa; rw [if_neg (by omega), show ((5 : Int)).toNat = 5 from rfl, Lib.decDigits]; rfl]; decide
  · rw [show undoM 6 = ⟨#[117, 110, 100, 111, 32, 54]⟩ by unfold undoM decS Lib.itoa; rw [if_neg (by omega), show ((6 : Int)).toNat = 6 from rfl, Lib.decDigits]; rfl]; decide
theorem next_undo (h : histP P = true) (hl : P.length ≤ 5) (p0 : 0 ≤ p) (p1 : p ≤ P.length) (hs : settingList s = true) :
    undoC (P ++ [nextV P p s]) ((P.length : Int) + 1) = 0 ∧ undoV (P ++ [nextV P p s]) ((P.length : Int) + 1) = (P ++ [nextV P p s]) ++ [⟨(P.length : Int) + 2, (P.length : Int) + 1, undoM ((P.length : Int) + 1), stateP P p⟩] ∧ histP ((P ++ [nextV P p s]) ++ [⟨(P.length : Int) + 2, (P.length : Int) + 1, undoM ((P.length : Int) + 1), stateP P p⟩]) = true := by
  have hQ := next_hist h hl p0 p1 hs
  have hc := next_code hQ
  have hp : parP (P ++ [nextV P p s]) ((P.length : Int) + 1) = p := by unfold parP; rw [next_at]
  have hlen := next_len P p s
  refine ⟨?_, ?_, ?_⟩
  · unfold undoC; rw [if_pos hc]; unfold addCode; rw [if_neg (by omega)]
  · unfold undoV
    rw [if_pos hc, hp, next_state p0 p1]
    unfold addVers
    rw [if_neg (by omega), hlen]
    first | rfl | (congr 3; done) | (congr 3; push_cast; omega)
  · have := hist_more hQ (by omega) (p := (P.length : Int) + 1) (by omega) (by rw [hlen]; push_cast; omega) (undo_memo (n := (P.length : Int) + 1) (by omega) (by omega)) (stateP_ok' h p0 p1)
    rw [hlen] at this
    rw [show (P.length : Int) + 2 = ((P.length + 1 : Nat) : Int) + 1 by push_cast; omega]
    exact this
theorem next_line (h : histP (P ++ [nextV P p s]) = true) : ancV (P ++ [nextV P p s]) ((P.length : Int) + 1) = lineP (P ++ [nextV P p s]) p := by
  unfold ancV
  rw [if_pos (next_code h), lineP_pos h (by omega) (by rw [next_len]; push_cast; omega), next_at]
  rfl
theorem line_has (h : histP (P ++ [nextV P p s]) = true) (p0 : 0 ≤ p) (p1 : p ≤ P.length) : hasB (lineP (P ++ [nextV P p s]) p) p = decide (0 < p) := by
  by_cases h0 : 0 < p
  · rw [decide_eq_true h0, lineP_pos h h0 (by rw [next_len]; push_cast; omega)]
    exact hasB_iff.2 (List.mem_cons_self ..)
  · rw [decide_eq_false h0, lineP_zero _ (by omega)]
    rfl
theorem line_bd (h : histP (P ++ [nextV P p s]) = true) (p1 : p ≤ P.length) : (lineP (P ++ [nextV P p s]) p).length ≤ 32 ∧ (∀ k, k < (lineP (P ++ [nextV P p s]) p).length → 1 ≤ nth (lineP (P ++ [nextV P p s]) p) k ∧ nth (lineP (P ++ [nextV P p s]) p) k ≤ P.length) ∧ ∀ k, k + 1 < (lineP (P ++ [nextV P p s]) p).length → nth (lineP (P ++ [nextV P p s]) p) (k + 1) < nth (lineP (P ++ [nextV P p s]) p) k := by
  obtain ⟨h1, h2⟩ := lineF_low h p.toNat p (by rw [next_len]; push_cast; omega)
  have h3 := (histP_bd h).1
  rw [next_len] at h3
  have h4 := lineF_len (P ++ [nextV P p s]) p.toNat p
  refine ⟨by show (lineF _ _ _).length ≤ 32; omega, fun k hk => ?_, fun k hk => ?_⟩
  · have := h1 _ (nth_mem hk)
    exact ⟨by show 1 ≤ nth (lineF _ _ _) k; omega, by show nth (lineF _ _ _) k ≤ _; omega⟩
  · have hk' : k + 1 < (lineF (P ++ [nextV P p s]) p.toNat p).length := hk
    have := List.pairwise_iff_getElem.1 h2 k (k + 1) (by omega) hk' (by omega)
    rw [← nth_eq _ k (by omega), ← nth_eq _ (k + 1) hk'] at this
    exact this
theorem next_heads (h : histP (P ++ [nextV P p s]) = true) : headsC (P ++ [nextV P p s]) = 0 ∧ hasB (headsV (P ++ [nextV P p s])) ((P.length : Int) + 1) = true := by
  refine ⟨if_pos h, ?_⟩
  have hA : ∀ n, n ≤ P.length + 1 → headAt (P ++ [nextV P p s]) P.length n = true := fun n => by
    induction n with
    | zero => intro _; rfl
    | succ n ih =>
      intro hn
      have hb := (histP_bd h).2 n (by rw [next_len]; omega)
      have hb2 := (histP_bd h).2 P.length (by rw [next_len]; omega)
      show (headAt _ _ n && !((nth (P ++ [nextV P p s]) n).parent == (nth (P ++ [nextV P p s]) P.length).number)) = true
      rw [ih (by omega), show ((nth (P ++ [nextV P p s]) n).parent == (nth (P ++ [nextV P p s]) P.length).number) = false from beq_eq_false_iff_ne.2 (by omega)]
      rfl
  have e : headsV (P ++ [nextV P p s]) = headsTo (P ++ [nextV P p s]) P.length ++ [(P.length : Int) + 1] := by
    unfold headsV
    rw [if_pos h, next_len, headsTo_y (by rw [next_len]; exact hA _ (Nat.le_refl _)), nth_last]
  rw [e]
  exact hasB_iff.2 (List.mem_append.2 (.inr (List.mem_cons_self ..)))
theorem next_com (h : histP (P ++ [nextV P p s]) = true) : comV (P ++ [nextV P p s]) ((P.length : Int) + 1) ((P.length : Int) + 1) = (P.length : Int) + 1 := by
  unfold comV
  rw [if_pos (next_code2 h)]
  unfold comP
  rw [lineP_pos h (by omega) (by rw [next_len]; push_cast; omega)]
  exact if_pos (hasB_iff.2 (List.mem_cons_self ..))
end
theorem stTxt_pos (x : Version) : ∀ k, 1 ≤ (stTxt x k).size
  | 0 => by simp only [stTxt, ByteArray.size_append]; have : (⟨#[60]⟩ : ByteArray).size = 1 := rfl; omega
  | k + 1 => by have := stTxt_pos x k; simp only [stTxt, ByteArray.size_append]; omega
theorem version_text {x : Version} (h : versionB x = true) : sEq (versionS x) ⟨#[]⟩ = false := by
  refine sEq_not.2 fun e => ?_
  have h1 := congrArg ByteArray.size e
  have h2 := stTxt_pos x x.state.length
  unfold versionS at h1
  rw [if_pos h] at h1
  split at h1
  · rw [h1] at h2; exact absurd h2 (by decide)
  · rw [ByteArray.size_append] at h1
    have : (⟨#[]⟩ : ByteArray).size = 0 := rfl
    omega
end Go.Proofs.YtbcpgdidajapoaaDoor
namespace Go.Proofs.YtbcpgdidajapoaaDoor
open Go.RowKit
theorem run_clear_one (w : World) (ty : TypeId) (b o n c : Nat) (hn : n = 1) (hc : ∀ j, j < 2 → (w.cell? ⟨b, o + j, none⟩).isSome = true) (hf : ∀ j, j < 2 → w.frozen? ⟨b, o + j, none⟩ = false) :
    (Builtin.clear_ #[26] ty #[.slice (some ⟨b, o, none⟩) n c]).run Tryd.prog w = .ok (.tuple #[]) (w.setCells b o [.string ⟨#[]⟩, .int .i64 0]) := by
  subst hn
  have hzv : ∀ w, (zeroValue 57).run Tryd.prog w = .ok (.agg #[.string ⟨#[]⟩, .int .i64 0]) w := Tryd.zeroValue57
  have hst := run_storeCells_cells (P := Tryd.prog) b o [.string ⟨#[]⟩, .int .i64 0] 0 w (by simpa using hc) (by simpa using hf) (by intro v hv; simp at hv; rcases hv with rfl | rfl <;> rfl)
  simp only [Nat.add_zero] at hst
  have hzc : (Builtin.zeroCells (Value.agg #[.string ⟨#[]⟩, .int .i64 0]).cells 1).toList = [.string ⟨#[]⟩, .int .i64 0] := by kernel_rfl
  simp [Builtin.clear_, run_underlying Tryd.underlying26, hzv, hzc, hst]
theorem rows_deleted {W : World} {g N i : Nat} {l : List Setting} {news : List Value} (hB : Blk W g 57 N) (hR : SettingAt W (some ⟨g, 0, none⟩) l) (hN : l.length * 2 ≤ N) (hi : i < l.length) (hn : news = flat 2 Setting.cell (l.drop (i + 1))) :
    SettingAt (W.setCells g (i * 2) news) (some ⟨g, 0, none⟩) (l.take i ++ l.drop (i + 1)) := by
  have hnl : news.length = (l.length - (i + 1)) * 2 := by rw [hn, flat_length, List.length_drop]
  intro k hk
  rw [List.length_append, List.length_take, List.length_drop] at hk
  refine ⟨g, 0, rfl, (hB.setCells g news (i * 2) W).lt, fun j hj => ?_⟩
  rw [Nat.zero_add]
  rcases Nat.lt_or_ge k i with h | h
  · have e : nth (l.take i ++ l.drop (i + 1)) k = nth l k := by simp [nth, List.getElem?_append_left (show k < (l.take i).length by rw [List.length_take]; omega), h]
    rw [e, World.cell?_setCells_out g news _ W ⟨g, k * 2 + j, none⟩ (fun _ _ => .inl (by show k * 2 + j < i * 2; omega))]
    obtain ⟨b, off, e2, _, hc⟩ := hR k (by omega)
    simp only [Option.some.injEq, Addr.mk.injEq, and_true] at e2
    obtain ⟨rfl, rfl⟩ := e2
    have := hc j hj
    rwa [Nat.zero_add] at this
  · have e : nth (l.take i ++ l.drop (i + 1)) k = nth (l.drop (i + 1)) (k - i) := by
      simp only [nth, List.getD_eq_getElem?_getD]
      rw [List.getElem?_append_right (by rw [List.length_take]; omega), List.length_take, Nat.min_eq_left (by omega)]
    have hg := flat_get (n := 2) (cell := Setting.cell) (l.drop (i + 1)) (k - i) (by rw [List.length_drop]; omega) j hj
    rw [← hn] at hg
    have := World.cell?_setCells_in g news (i * 2) W (fun j' hj' => by obtain ⟨u, hu⟩ := hB.cell (o := i * 2 + j') (by omega); rw [hu]; rfl) ((k - i) * 2 + j) (by omega)
    rw [show k * 2 + j = i * 2 + ((k - i) * 2 + j) by omega, this, ← List.getElem?_eq_getElem, hg, e]
set_option maxRecDepth 100000 in
set_option maxHeartbeats 8000000 in
theorem DeleteSetting_any (v : Value) (l : List Setting) (base i : Nat) (w : World) (hO : Lst 57 2 Setting.cell w base v l) (_ : base ≤ w.heap.size) (hi : i < l.length) (hl : l.length ≤ 1048576) :
    Calls Tryd.prog 33 #[v, .int .i64 i, .int .i64 ((i : Int) + 1)] w fun e w' => ∃ v', e = .returned v' ∧ Lst 57 2 Setting.cell w' base v' (l.take i ++ l.drop (i + 1)) ∧ Since base w w' := by
  obtain ⟨g, cap, rfl, hg, hB, hR, hc, hm⟩ := hO.parts (by omega)
  have hm' : cap ≤ 9223372036854775807 := by unfold maxLen at hm; omega
  obtain ⟨i0, z0, hi0, hz0, hz1, -, hz2⟩ := elSetting.inf
  have t43 := elSetting.und
  obtain ⟨news, hnews⟩ : ∃ news, news = flat 2 Setting.cell (l.drop (i + 1)) := ⟨_, rfl⟩
  have hlen : news.length = (l.length - (i + 1)) * 2 := by rw [hnews, flat_length, List.length_drop]
  have hBd : Blk w.drew g 57 (cap * 2) := hB
  have hRd : SettingAt w.drew (some ⟨g, 0, none⟩) l := hR
  have s1 : Hid (news.length = (l.length - (i + 1)) * 2) := hlen
  have s2 : Hid (∀ u ∈ news, u.oneCell' = true) := by
    intro u hu; rw [hnews] at hu
    obtain ⟨y, j, _, hj, rfl⟩ := flat_mem hu; exact oneSetting y j hj
  have s3 : Hid (∀ t, t < news.length → (w.drew.cell? ⟨g, 0 + i * 2 + t, none⟩).isSome = true ∧ w.drew.frozen? ⟨g, 0 + i * 2 + t, none⟩ = false) := fun t ht => by
    rw [hlen] at ht
    obtain ⟨u, hu⟩ := hBd.cell (o := 0 + i * 2 + t) (by omega)
    exact ⟨by rw [hu]; rfl, hBd.frozen _⟩
  have hsrc : Hid (∀ A : Addr, (cap = i + 1 ∨ A = ⟨g, (i + 1) * 2, none⟩) → ∀ t u, news[t]? = some u → w.drew.cell? (A.add t) = some u) := fun A hA t u hu => by
    have ht : t < news.length := (List.getElem?_eq_some_iff.1 hu).1
    rcases hA with h | rfl
    · rw [hlen] at ht; omega
    · rw [addr_add]
      rw [hnews] at hu
      have hd := RowsAt.drop hRd (i + 1)
      rw [Nat.zero_add] at hd
      exact flat_at hd t u hu
  obtain ⟨W1, hW1⟩ : ∃ W1, W1 = w.drew.setCells g (0 + i * 2) news := ⟨_, rfl⟩
  have hW : Hid (W1 = w.drew.setCells g (0 + i * 2) news) := hW1
  have hB1 : Hid (Blk W1 g 57 (cap * 2)) := by show Blk _ _ _ _; rw [hW1]; exact hBd.setCells g news _ _
  have hR1 : Hid (SettingAt W1 (some ⟨g, 0, none⟩) (l.take i ++ l.drop (i + 1))) := by
    show RowsAt _ _ _ _ _
    rw [hW1, Nat.zero_add]; exact rows_deleted hBd hRd (by omega) hi hnews
  have hS1 : Hid (Since base w W1) := fun w0 he hw0 => by rw [hW1]; exact ext_setCells (Nat.le_trans hw0 hg) news _ _ he.drew
  have hcl : ∀ ty o n c, o = (l.length - 1) * 2 → n = 1 → (Builtin.clear_ #[26] ty #[.slice (some ⟨g, o, none⟩) n c]).run Tryd.prog W1 = .ok (.tuple #[]) (W1.setCells g o [.string ⟨#[]⟩, .int .i64 0]) := fun ty o n c ho hn =>
    run_clear_one W1 ty g o n c hn (fun j hj => by obtain ⟨u, hu⟩ := hB1.out.cell (o := o + j) (by omega); rw [hu]; rfl) (fun j hj => hB1.out.frozen _)
  have hC := Lib.hid hcl
  have hnl : Hid ((l.take i ++ l.drop (i + 1)).length = l.length - 1) := by show _ = _; rw [List.length_append, List.length_take, List.length_drop]; omega
  have hfin : Hid (∀ o n, n = l.length - 1 → o = (l.length - 1) * 2 → Lst 57 2 Setting.cell (W1.setCells g o [.string ⟨#[]⟩, .int .i64 0]) base (.slice (some ⟨g, 0, none⟩) n cap) (l.take i ++ l.drop (i + 1)) ∧ Since base w (W1.setCells g o [.string ⟨#[]⟩, .int .i64 0])) := fun o n hn ho => by
    subst hn
    refine ⟨?_, fun w0 he hw0 => ext_setCells (Nat.le_trans hw0 hg) _ _ _ (hS1.out w0 he hw0)⟩
    have hRR : SettingAt (W1.setCells g o [.string ⟨#[]⟩, .int .i64 0]) (some ⟨g, 0, none⟩) (l.take i ++ l.drop (i + 1)) := fun k hk => by
      obtain ⟨b, off, e, hbl, hcell⟩ := hR1.out k hk
      simp only [Option.some.injEq, Addr.mk.injEq, and_true] at e
      obtain ⟨rfl, rfl⟩ := e
      rw [hnl.out] at hk
      refine ⟨g, 0, rfl, (hB1.out.setCells g _ o W1).lt, fun j hj => ?_⟩
      rw [World.cell?_setCells_out g _ _ W1 ⟨g, 0 + k * 2 + j, none⟩ (fun _ _ => .inl (by show 0 + k * 2 + j < o; omega))]
      exact hcell j hj
    have := Lst.of_rows (T := 57) (base := base) (hB1.out.setCells g [.string ⟨#[]⟩, .int .i64 0] o W1) hg hRR (by rw [hnl.out]; omega) hm
    rwa [hnl.out] at this
  have hic : i ≤ cap := by omega
  have hjc : i + 1 ≤ cap := by omega
  have hw1 : IntKind.i64.wrap ((i : Int) + 1) = (i : Int) + 1 := by rw [IntKind.wrap_i64]; omega
  have htn : ((i : Int) + 1).toNat = i + 1 := by omega
  have hne : ((i : Int) == (i : Int) + 1) = false := by rw [beq_eq_false_iff_ne]; omega
  clear hcl hW1 hR hB hO hRd hBd hnews hlen
  have mixed : Tryd.prog.follows .mixedOrders = true := by kernel_rfl
  have k1 : (i : Int) ≤ (i : Int) + 1 := by omega
  have k2 : (i : Int) + 1 ≤ (l.length : Int) := by omega
  have k3 : (l.length : Int) ≤ (cap : Int) := by omega
  have k4 : (i : Int) + 1 ≤ (cap : Int) := by omega
  have k5 : 0 ≤ (i : Int) + 1 := by omega
  rcases Nat.lt_or_ge (i + 1) cap with hcc | hcc
  · have hcc1 : ¬ cap = i + 1 := by omega
    go_enter Tryd.func33, Tryd.ntmps33
    go_wp2_with fail
    go_region_law_o (refine step_append_room rfl (.tmp 22) (.tmp 25) 26 rfl 57 i0 2 t43 hi0 hz1 g 0 i cap (by simp [Act.eval, Act.put]) ⟨g, (i + 1) * 2, none⟩ (l.length - (i + 1)) (cap - (i + 1)) news (by simp [Act.eval, Act.put]) s1.out (hsrc.out _ (.inr rfl)) s2.out (by omega) s3.out ?_; rw [← hW.out])
    go_wp2_with fail
    rw [hC.out _ _ _ _ (by omega) (by omega)]
    go_wp2_with fail
    go_ret
    refine ⟨_, rfl, ?_, ?_⟩
    · exact (hfin.out _ _ (by omega) (by omega)).1
    · exact (hfin.out _ _ rfl (by omega)).2
  · obtain rfl : cap = i + 1 := by omega
    go_enter Tryd.func33, Tryd.ntmps33
    go_wp2_with fail
    go_region_law_o (refine step_append_room rfl (.tmp 22) (.tmp 25) 26 rfl 57 i0 2 t43 hi0 hz1 g 0 i (i + 1) (by simp [Act.eval, Act.put]) ⟨g, 0, none⟩ 0 0 news (by simp [Act.eval, Act.put]) (by rw [s1.out]; omega) (hsrc.out _ (by first | exact .inl rfl | exact .inl trivial)) s2.out (by omega) s3.out ?_; rw [← hW.out])
    go_wp2_with fail
    rw [hC.out _ _ _ _ (by omega) (by omega)]
    go_wp2_with fail
    go_ret
    refine ⟨_, rfl, ?_, ?_⟩
    · exact (hfin.out _ _ (by omega) (by omega)).1
    · exact (hfin.out _ _ rfl (by omega)).2
set_option maxRecDepth 100000 in
set_option maxHeartbeats 4000000 in
theorem IndexWrong_any (a : Option Addr) (cap : Nat) (l : List Change) (w : World) (H : ChangeAt w a l) (hsz : ∀ k, k < l.length → (nth l k).name.size ≤ 2000000) (hlen : l.length ≤ 1048576) :
    Calls Tryd.prog 53 #[.slice a l.length cap, .func (.func 26) #[] #[]] w fun e w' => ∃ i : Int, e = .returned (.int .i64 i) ∧ Ext w w' ∧ ((0 ≤ i ∧ allCh l = false) ∨ (i = -1 ∧ allCh l = true)) := by
  have HA := Lib.hid H
  have HZ := Lib.hid hsz
  clear H hsz
  go_enter Tryd.func53, Tryd.ntmps53
  go_wp2_with fail
  go_loopw [8] (fun i wr => ∃ k : Nat, k ≤ l.length ∧ i = .int .i64 k ∧ Hid (∀ j, j < k → changeB (nth l j) = true) ∧ Ext w wr) (fun i _ => l.length - (intOf i).toNat)
  case atStart => exact ⟨0, Nat.zero_le _, rfl, upto_zero, (by repeat (first | exact Ext.refl _ | refine Ext.lift ?_ _ | refine Ext.alloc ?_ _))⟩
  case round =>
    obtain ⟨k, hk, rfl, hall, he⟩ := hrel
    by_cases hlt : k < l.length
    · obtain ⟨b, off, rfl⟩ := HA.out.base hlt
      obtain ⟨hb, c0, c1, c2⟩ := Change.at (HA.out.ext he) k hlt
      have hcall := Lib.hid (wrong_any (nth l k) wr (HZ.out k hlt))
      have hE := Lib.hid he
      clear he
      cases h2 : changeB (nth l k)
      · have hv : Hid (allCh l = false) := allB_bad hlt h2
        rw [h2] at hcall
        go_wp2_with fail
        refine hcall.out.mono ?_
        rintro e w' ⟨rfl, y, rfl⟩
        go_wp2_with fail
        go_ret
        exact ⟨_, rfl, hE.out.lift y, .inl ⟨by omega, hv.out⟩⟩
      · have hnx : Hid (∀ j, j < k + 1 → changeB (nth l j) = true) := upto_succ hall.out h2
        rw [h2] at hcall
        go_wp2_with fail
        refine hcall.out.mono ?_
        rintro e w' ⟨rfl, y, rfl⟩
        go_wp2_with fail
        go_roundw
        case rel => exact ⟨k + 1, by omega, by go_num, hnx.out, hE.out.lift y⟩
        case measure => simp [intOf]; omega
    · obtain rfl : k = l.length := by omega
      have hv : Hid (allCh l = true) := allB_end hall.out
      go_wp2_with fail
      go_ret
      exact ⟨-1, rfl, he, .inr ⟨rfl, hv.out⟩⟩
set_option maxRecDepth 100000 in
theorem ContainsWrong_any (a : Option Addr) (cap : Nat) (l : List Change) (w : World) (H : ChangeAt w a l) (hsz : ∀ k, k < l.length → (nth l k).name.size ≤ 2000000) (hlen : l.length ≤ 1048576) :
    Gives Tryd.prog 28 #[.slice a l.length cap, .func (.func 26) #[] #[]] w (.bool (!allCh l)) := by
  unfold Gives
  have HI := Lib.hid (IndexWrong_any a cap l w H hsz hlen)
  clear H hsz
  go_enter Tryd.func28, Tryd.ntmps28
  go_wp2_with fail
  refine HI.out.mono ?_
  rintro e w' ⟨i, rfl, ⟨y, rfl⟩, h⟩
  clear HI
  rcases h with ⟨h0, h1⟩ | ⟨rfl, h1⟩
  · have h1 := Lib.hid h1
    go_wp2_with fail
    go_ret
    exact ⟨ret_bool (by rw [h1.out]; simp; try omega), (by repeat (first | exact Ext.refl _ | refine Ext.lift ?_ _ | refine Ext.alloc ?_ _))⟩
  · have h1 := Lib.hid h1
    go_wp2_with fail
    go_ret
    exact ⟨ret_bool (by rw [h1.out]; simp), (by repeat (first | exact Ext.refl _ | refine Ext.lift ?_ _ | refine Ext.alloc ?_ _))⟩
end Go.Proofs.YtbcpgdidajapoaaDoor
namespace Go.Proofs.YtbcpgdidajapoaaDoor
open Go.RowKit
theorem cmp_mono {l : List Setting} (h : IncS l) (n : ByteArray) : ∀ i j, i ≤ j → j < l.length → cmpS (nth l j).name n < 0 → cmpS (nth l i).name n < 0 := fun i j hij hj hc => by
  rcases Nat.lt_or_ge i j with h1 | h1
  · rw [cmpS_lt] at hc ⊢
    exact sLt_trans (inc_lt h h1 hj) hc
  · obtain rfl : i = j := by omega
    exact hc
theorem hitB_lt {α : Type} [Inhabited α] {c : α → Int} {l : List α} (h : hitB c l = true) : lowB c l < l.length := by
  unfold hitB at h
  simp only [Bool.and_eq_true, decide_eq_true_eq] at h
  exact h.1
set_option maxRecDepth 100000 in
set_option maxHeartbeats 16000000 in
theorem implApplyChanges_any (w : World) (a : Option Addr) (cap : Nat) (l : List Setting) (H : SettingAt w a l) (hsz : ∀ k, k < l.length → (nth l k).Small) (hn : l.length ≤ 1048576) (_ : l.length ≤ cap)
    (a2 : Option Addr) (cap2 : Nat) (cs : List Change) (H2 : ChangeAt w a2 cs) (hsz2 : ∀ k, k < cs.length → (nth cs k).Small) (hn2 : cs.length ≤ 1048576) (_ : cs.length ≤ cap2) :
    Calls Tryd.prog 9 #[.slice a l.length cap, .slice a2 cs.length cap2] w (OutS 57 2 Setting.cell w (applyV l cs) [.int .i64 (applyC l cs)]) := by
  have HC := Lib.hid H2
  have HZ : Hid (∀ k, k < cs.length → (nth cs k).name.size ≤ 2000000) := fun k hk => by have := hsz2 k hk; unfold Change.Small at this; omega
  have HV := Lib.hid (ValidSettings_any a cap l w H hsz hn)
  have HX := Lib.hid fun (W : World) (he : Ext w W) => ContainsWrong_any a2 cap2 cs W (RowsAt.ext H2 he) HZ.out hn2
  have HK := Lib.hid fun (W : World) (he : Ext w W) => CloneSetting_any a cap l W (RowsAt.ext H he) hn
  clear H H2 hsz hsz2
  obtain ⟨C, hC⟩ : ∃ C, C = applyC l cs := ⟨_, rfl⟩
  obtain ⟨V, hV⟩ : ∃ V, V = applyV l cs := ⟨_, rfl⟩
  rw [← hC, ← hV]
  have hB : Hid (∀ x : Int, (applyC l cs = x ∧ applyV l cs = []) → C = x ∧ V = []) := fun x h => ⟨hC.trans h.1, hV.trans h.2⟩
  have hC := Lib.hid hC
  have hV := Lib.hid hV
  cases h1 : settingList l
  · obtain ⟨rfl, rfl⟩ := hB.out 1 (apply_1 h1)
    rw [h1] at HV
    go_enter Tryd.func9, Tryd.ntmps9
    go_wp2_with (go_at_call 24; refine HV.out.mono ?_; rintro e w' ⟨rfl, y, rfl⟩)
    go_ret2
    exact OutS.nil (T := 57) none 0 rfl (by repeat (first | exact Ext.refl _ | refine Ext.lift ?_ _ | refine Ext.alloc ?_ _))
  rw [h1] at HV
  cases h2 : allCh cs
  · obtain ⟨rfl, rfl⟩ := hB.out 1 (apply_2 h2)
    rw [h2] at HX
    clear h1
    go_enter Tryd.func9, Tryd.ntmps9
    go_wp2_with (first | (go_at_call 24; refine HV.out.mono ?_; rintro e w' ⟨rfl, y, rfl⟩) | (go_at_call 28; refine (HX.out _ (by repeat (first | exact Ext.refl _ | refine Ext.lift ?_ _ | refine Ext.alloc ?_ _))).mono ?_; rintro e w' ⟨rfl, y2, rfl⟩))
    go_ret2
    exact OutS.nil (T := 57) none 0 rfl (by repeat (first | exact Ext.refl _ | refine Ext.lift ?_ _ | refine Ext.alloc ?_ _))
  rw [h2] at HX
  have hG := Lib.hid (goodS_of h1)
  have hl24 : l.length ≤ 24 := hG.out.len
  have hAll : Hid (∀ k, k < cs.length → (nth cs k).kind = 1 ∨ (nth cs k).kind = 2) := fun k hk => (changeB_bd (allB_iff.1 h2 k hk)).1
  have h1h := Lib.hid h1
  have h2h := Lib.hid h2
  clear h1 h2
  go_enter Tryd.func9, Tryd.ntmps9
  go_wp2_with (first | (go_at_call 24; refine HV.out.mono ?_; rintro e w' ⟨rfl, y, rfl⟩) | (go_at_call 28; refine (HX.out _ (by repeat (first | exact Ext.refl _ | refine Ext.lift ?_ _ | refine Ext.alloc ?_ _))).mono ?_; rintro e w' ⟨rfl, y2, rfl⟩))
  refine (HK.out _ (by repeat (first | exact Ext.refl _ | refine Ext.lift ?_ _ | refine Ext.alloc ?_ _))).mono ?_
  rintro e W0 ⟨v, rfl, hL, hE0⟩
  have hL0 : Hid (Lst 57 2 Setting.cell W0 w.heap.size v l) := Lst.low hL (by simp; try omega)
  have hE0 : Hid (Ext w W0) := Ext.trans (by repeat (first | exact Ext.refl _ | refine Ext.lift ?_ _ | refine Ext.alloc ?_ _)) hE0
  clear HV HX HK hL
  have hsz0 := hE0.out.size
  go_wp2_with fail
  go_loopw [7, 24] (fun o i wr => ∃ k : Nat, k ≤ cs.length ∧ i = .int .i64 k ∧ Hid ((runC l cs k).1 = 0) ∧ Hid (Lst 57 2 Setting.cell wr w.heap.size o (runC l cs k).2) ∧ Ext w wr) (fun _ i _ => cs.length - (intOf i).toNat)
  case atStart => exact ⟨0, Nat.zero_le _, rfl, rfl, hL0.out, hE0.out⟩
  case round =>
    clear hL0 hE0
    obtain ⟨k, hk, rfl, h0, hO, he⟩ := hrel
    have hg := Lib.hid (runC_good hG.out h0.out)
    have hE := Lib.hid he
    have hszr := he.size
    clear he
    by_cases hlt : k < cs.length
    · have hsu := Lib.hid (runC_succ h0.out)
      have hEnd : Hid (∀ x : Int, chE (runC l cs k).2 (nth cs k) = x → x ≠ 0 → C = x ∧ V = []) := fun x h hx => hB.out x (apply_bad h1h.out h2h.out h0.out hlt h hx)
      have hO2 : Hid (chE (runC l cs k).2 (nth cs k) = 0 → (runC l cs (k + 1)).1 = 0) := fun h => by rw [hsu.out]; exact h
      have hN2 : Hid ((runC l cs (k + 1)).2 = chN (runC l cs k).2 (nth cs k)) := by show _ = _; rw [hsu.out]
      have hlen : (runC l cs k).2.length ≤ 24 := hg.out.len
      generalize (runC l cs k).2 = L at *
      clear hsu h0
      obtain ⟨va, vc, rfl, hvc, hvm, hvR, -⟩ := hO.out.shape
      have hvR := Lib.hid hvR
      obtain ⟨b, off, rfl⟩ := HC.out.base hlt
      obtain ⟨hb, c0, c1, c2⟩ := Change.at (HC.out.ext hE.out) k hlt
      have hkind := hAll.out k hlt
      obtain ⟨ch, hch⟩ : ∃ ch, ch = nth cs k := ⟨_, rfl⟩
      rw [← hch] at c0 c1 c2 hkind hEnd hO2 hN2
      clear hch
      have hx1 := Lib.hid ((Ext.refl wr).alloc (.cells #[.int .i64 ch.kind, .string ch.name, .int .i64 ch.value] 61))
      have HS := Lib.hid (BSSetting_any va vc L 31 ch.set (fun y => cmpS y.name ch.name) (wr.alloc (.cells #[.int .i64 ch.kind, .string ch.name, .int .i64 ch.value] 61)) (enters_of Tryd.func31 (by kernel_rfl) rfl) (RowsAt.ext hvR.out hx1.out) (by omega) (fun j W _ _ => compareSettings_any (nth L j) ch.set W) (cmp_mono hg.out.inc ch.name))
      have hpl : lowB (fun y => cmpS y.name ch.name) L ≤ L.length := posOf_le _ _
      have F0 := Lib.hid (fun h => hitB_lt (c := fun y => cmpS y.name ch.name) (l := L) h)
      have F1 := Lib.hid (fun h1 h2 => ch_set hg.out (c := ch) h1 h2)
      have F2 := Lib.hid (fun h1 h2 h3 => ch_full hg.out (c := ch) h1 h2 h3)
      have F3 := Lib.hid (fun h1 h2 h3 => ch_ins hg.out (c := ch) h1 h2 h3)
      have F4 := Lib.hid (fun h1 h2 => ch_none hg.out (c := ch) h1 h2)
      have F5 := Lib.hid (fun h1 h2 => ch_has hg.out (c := ch) h1 h2)
      generalize lowB (fun y => cmpS y.name ch.name) L = p at *
      generalize hitB (fun y => cmpS y.name ch.name) L = hit at *
      clear hvR
      go_wp2_with fail
      refine HS.out.mono ?_
      rintro e W1' ⟨rfl, y, rfl⟩
      clear HS
      obtain ⟨W1, hW1⟩ : ∃ W1, W1 = lift (wr.alloc (.cells #[.int .i64 ch.kind, .string ch.name, .int .i64 ch.value] 61)) y := ⟨_, rfl⟩
      obtain ⟨bx, hbx⟩ : ∃ bx, bx = wr.heap.size := ⟨_, rfl⟩
      have e1 : Ext wr W1 := by rw [hW1]; exact (by repeat (first | exact Ext.refl _ | refine Ext.lift ?_ _ | refine Ext.alloc ?_ _))
      have e2 : Ext (wr.alloc (.cells #[.int .i64 ch.kind, .string ch.name, .int .i64 ch.value] 61)) W1 := by rw [hW1]; exact (by repeat (first | exact Ext.refl _ | refine Ext.lift ?_ _ | refine Ext.alloc ?_ _))
      have d0 : W1.cell? ⟨bx, 0, none⟩ = some (.int .i64 ch.kind) := by rw [hbx]; exact e2.cell (by rw [cell_new]; rfl)
      have d1 : W1.cell? ⟨bx, 0 + 1, none⟩ = some (.string ch.name) := by rw [hbx]; exact e2.cell (by rw [cell_new]; rfl)
      have d2 : W1.cell? ⟨bx, 0 + 1 + 1, none⟩ = some (.int .i64 ch.value) := by rw [hbx]; exact e2.cell (by rw [cell_new]; rfl)
      have hbl : bx < W1.heap.size := by have := e2.size; rw [size_new] at this; omega
      have hbw : wr.heap.size ≤ bx := by omega
      have hO1 := Lib.hid (hO.out.ext e1)
      have hE1 := Lib.hid (hE.out.trans e1)
      rw [← hW1, ← hbx]
      clear hW1 hbx e1 e2 hO hE c0 c1 c2 hb hx1
      rcases hkind with hk1 | hk1
      · have q1 : (ch.kind == 1) = true := by rw [hk1]; rfl
        cases hit
        · by_cases h24 : L.length = 24
          · obtain ⟨rfl, rfl⟩ := hEnd.out 5 (F2.out hk1 rfl h24) (by decide)
            have q2 : ((L.length : Int) == 24) = true := by rw [h24]; rfl
            clear F0 F1 F2 F3 F4 F5 hk1 h24
            go_wp2_with fail
            go_ret2
            exact OutS.nil (T := 57) none 0 rfl hE1.out
          · obtain ⟨g1, g2⟩ := F3.out hk1 rfl h24
            have hz := Lib.hid (hO2.out g1)
            have hL2 := Lib.hid (hN2.out.trans g2)
            have q2 : ((L.length : Int) == 24) = false := by rw [beq_eq_false_iff_ne]; omega
            have hx2 := Lib.hid ((Ext.refl W1).alloc (.cells #[.string ch.name, .int .i64 ch.value] 57))
            have HI := Lib.hid (InsertSetting_any _ L w.heap.size p W1.heap.size 1 ch.set #[.string ch.name, .int .i64 ch.value] 57 (W1.alloc (.cells #[.string ch.name, .int .i64 ch.value] 57)) (hO1.out.ext hx2.out) (by rw [size_new]; omega) hpl (by omega) (alloc_get W1 _ _ rfl) (fun j hj => by rcases (show j = 0 ∨ j = 1 by omega) with rfl | rfl <;> rfl) (fun e => by have := ownsRow_lt hO1.out _ e; omega))
            have hE2 := Lib.hid (hE1.out.trans hx2.out)
            clear F0 F1 F2 F3 F4 F5 hk1 h24 g1 g2 hEnd hO2 hN2 hO1 hx2
            go_wp2_with fail
            refine HI.out.mono ?_
            rintro e W2 ⟨v2, rfl, L2, S2⟩
            have L2 := Lib.hid L2
            have hE3 := Lib.hid (S2 w hE2.out (Nat.le_refl _))
            clear HI S2
            go_wp2_with fail
            go_roundw
            case rel => exact ⟨k + 1, by omega, by go_num, hz.out, by rw [hL2.out]; exact L2.out, hE3.out⟩
            case measure => simp [intOf]; omega
        · obtain ⟨g1, g2⟩ := F1.out hk1 rfl
          have hpp := F0.out rfl
          have hz := Lib.hid (hO2.out g1)
          have hL2 := Lib.hid (hN2.out.trans g2)
          obtain ⟨xg, xc, xe, hxg, hxB, hxR, hxc, hxm⟩ := hO1.out.parts (by omega)
          simp only [Value.slice.injEq, true_and] at xe
          obtain ⟨rfl, rfl⟩ := xe
          have hxl := hxB.lt
          obtain ⟨u0, v0⟩ := hxB.cell (o := p * 2) (by omega)
          obtain ⟨u1, v1⟩ := hxB.cell (o := p * 2 + 1) (by omega)
          have f0 := hxB.frozen (p * 2)
          have f1 := hxB.frozen (p * 2 + 1)
          have hput := Lib.hid (Lst.put (base := w.heap.size) hxg hxB hxR hxc hxm hpp ch.set [.string ch.name, .int .i64 ch.value] rfl (fun j hj => by rcases (show j = 0 ∨ j = 1 by omega) with rfl | rfl <;> rfl))
          have hE3 : Hid (Ext w (W1.setCells xg (p * 2) [.string ch.name, .int .i64 ch.value])) := ext_setCells hxg _ _ _ hE1.out
          clear F0 F1 F2 F3 F4 F5 hk1 g1 g2 hEnd hO2 hN2 hO1 hxB hxR hE1
          go_wp2_with fail
          go_roundw
          case rel => exact ⟨k + 1, by omega, by go_num, hz.out, by rw [hL2.out]; first | exact hput.out | (have := hput.out; rw [List.length_set] at this; exact this), hE3.out⟩
          case measure => simp [intOf]; omega
      · have hk2 : ch.kind ≠ 1 := by omega
        have q1 : (ch.kind == 1) = false := by rw [beq_eq_false_iff_ne]; exact hk2
        cases hit
        · obtain ⟨rfl, rfl⟩ := hEnd.out 3 (F4.out hk2 rfl) (by decide)
          clear F0 F1 F2 F3 F4 F5 hk1 hk2
          go_wp2_with fail
          go_ret2
          exact OutS.nil (T := 57) none 0 rfl hE1.out
        · obtain ⟨hpp, hnm, g1, g2⟩ := F5.out hk2 rfl
          have g2 := Lib.hid (hN2.out.trans g2)
          have g1 := Lib.hid g1
          obtain ⟨xg, xc, xe, hxg, hxB, hxR, hxc, hxm⟩ := hO1.out.parts (by omega)
          simp only [Value.slice.injEq, true_and] at xe
          obtain ⟨rfl, rfl⟩ := xe
          obtain ⟨hxl, v0, v1⟩ := Setting.at hxR p hpp
          rw [Nat.zero_add] at v0 v1
          rw [hnm] at v0
          by_cases hval : (nth L p).value = ch.value
          · rw [hval] at v1
            rw [if_pos hval] at g1
            have hz := Lib.hid (hO2.out g1.out)
            have HD := Lib.hid fun (W : World) (he : Ext W1 W) => DeleteSetting_any _ L w.heap.size p W (hO1.out.ext he) (by have := he.size; omega) hpp (by omega)
            clear F0 F1 F2 F3 F4 F5 hk1 hk2 hEnd hO2 hN2 hval hnm hxB hxR
            go_wp2_with fail
            refine region_quiet (by kernel_rfl) (by kernel_rfl) ?_
            repeat (any_goals (first | go_big_quiet_step ((fail)) | quiet_step ((fail))))
            refine wpQuiet_nil ?_
            intro _ hw'
            obtain ⟨y, hw''⟩ := hw'
            subst hw''
            go_wp2_with fail
            refine (HD.out _ (by repeat (first | exact Ext.refl _ | refine Ext.lift ?_ _ | refine Ext.alloc ?_ _))).mono ?_
            rintro e W2 ⟨v2, rfl, L2, S2⟩
            have L2 := Lib.hid L2
            have hE3 := Lib.hid (S2 w (hE1.out.lift y) (Nat.le_refl _))
            clear HD S2
            go_wp2_with fail
            go_roundw
            case rel => exact ⟨k + 1, by omega, by go_num, hz.out, by rw [g2.out]; exact L2.out, hE3.out⟩
            case measure => simp [intOf]; omega
          · rw [if_neg hval] at g1
            obtain ⟨rfl, rfl⟩ := hEnd.out 6 g1.out (by decide)
            have hval' : ((nth L p).value == ch.value) = false := by simpa using hval
            clear F0 F1 F2 F3 F4 F5 hk1 hk2 hEnd hO2 hN2 hnm hxB hxR
            go_wp2_with fail
            refine region_quiet (by kernel_rfl) (by kernel_rfl) ?_
            repeat (any_goals (first | go_big_quiet_step ((fail)) | quiet_step ((fail))))
            refine wpQuiet_nil ?_
            intro _ hw'
            obtain ⟨y, hw''⟩ := hw'
            subst hw''
            go_wp2_with fail
            go_ret2
            exact OutS.nil (T := 57) none 0 rfl (hE1.out.lift y)
    · obtain rfl : k = cs.length := by omega
      obtain ⟨rfl, rfl⟩ : C = 0 ∧ V = (runC l cs cs.length).2 := by
        obtain ⟨e1, e2⟩ := apply_ok h1h.out h2h.out h0.out
        exact ⟨hC.out.trans e1, hV.out.trans e2⟩
      generalize (runC l cs cs.length).2 = L at *
      obtain ⟨va, vc, rfl, hvc, hvm, hvR, hvO⟩ := hO.out.shape
      have hvR := Lib.hid hvR
      have hvO := Lib.hid hvO
      go_wp2_with fail
      go_ret2
      exact ⟨va, vc, rfl, hvc, hvO.out, hvR.out, hE.out⟩
end Go.Proofs.YtbcpgdidajapoaaDoor
namespace Go.Proofs.YtbcpgdidajapoaaDoor
open Go.RowKit
theorem OutSO.nil {w w' : World} {rest : List Value} {e : Ending} (a : Option Addr) (cap : Nat) (he : e = .returned (.tuple (.slice a 0 cap :: rest).toArray)) (hE : Ext w w') : OutSO w [] rest e w' :=
  ⟨a, cap, he, Nat.zero_le _, .inl rfl, RowsAt.nil, hE⟩
set_option maxRecDepth 100000 in
set_option maxHeartbeats 4000000 in
theorem implAncestorsOf_any (w : World) (a : Option Addr) (cap : Nat) (l : List Version) (H : VersAt w a l) (hsz : ∀ k, k < l.length → (nth l k).Small) (hn : l.length ≤ 1048576) (x : Int) :
    Calls Tryd.prog 14 #[.slice a l.length cap, .int .i64 x] w (OutSO w (ancV (strips l) x) [.int .i64 (vcodeP (strips l) [x])]) := by
  have HV : Hid (Gives Tryd.prog 39 #[.slice a l.length cap, .slice (some ⟨w.heap.size, 0, none⟩) 1 1] (w.alloc (.cells #[.int .i64 x] 2)) (.int .i64 (vcodeP (strips l) [x]))) :=
    versionsCode_any _ a cap l (some ⟨w.heap.size, 0, none⟩) 1 [x] (H.ext ((Ext.refl _).alloc _)) hsz hn (rows_int w x rfl) (by simp)
  by_cases h0 : vcodeP (strips l) [x] = 0
  · obtain ⟨hh, hall⟩ := vcodeP_zero h0
    have hall2 : inB x 1 l.length = true := by rw [strips_len] at hall; unfold allIn at hall; simpa using hall
    have hx := inB_iff.1 hall2
    have hl32 := (hist_bd hh).1
    have hlp := lineP_len (strips l) x
    have hpos := lineP_pos hh (n := x) (by omega) (by rw [strips_len]; exact hx.2)
    have hu : Hid (ancV (strips l) x = (lineP (strips l) x).tail) := if_pos h0
    have HC := Lib.hid fun (w' : World) (he : Ext w w') => lineOf_any w' a cap l x (H.ext he) hh (by omega) hx.2
    obtain ⟨T, hT⟩ : ∃ T, T = lineP (strips l) (nth (strips l) (x.toNat - 1)).parent := ⟨_, rfl⟩
    rw [← hT] at hpos
    rw [hpos] at HC hu hlp
    have hTl : T.length + 1 ≤ 32 := by rw [List.length_cons] at hlp; omega
    have h0' := Lib.hid h0
    clear h0 hh hall hall2 hx H hsz hpos hT hlp
    rw [h0'.out] at HV
    go_enter Tryd.func14, Tryd.ntmps14
    go_wp2_with fail
    refine HV.out.mono ?_
    rintro e w' ⟨rfl, z, rfl⟩
    clear HV
    have E0 : Ext w (lift (w.alloc (.cells #[.int .i64 x] 2)) z) := (by repeat (first | exact Ext.refl _ | refine Ext.lift ?_ _ | refine Ext.alloc ?_ _))
    go_wp2_with fail
    refine (HC.out _ E0).mono ?_
    rintro e w2 ⟨ma, mc, rfl, hmc, hO, HM, E1⟩
    rcases hO with h | ⟨g, N, rfl, hg, hB, hN⟩
    · exact absurd h (by simp)
    rw [List.length_cons] at hmc hN
    have hsz0 := E0.size
    have HO2 : Hid (OwnO w2 w.heap.size 2 (some ⟨g, 1, none⟩) T.length) := .inr ⟨g, 1, N, rfl, by omega, hB, by omega⟩
    have HM2 : Hid (IntAt w2 (some ⟨g, 1, none⟩) T) := IntAt.of hB.lt fun k hk => by
      have := (IntAt.at (l := x :: T) HM (k + 1) (by simp; omega)).2
      rw [nth_cons_succ] at this
      rw [← this]; congr 2; omega
    have E2 := Lib.hid (E0.trans E1)
    clear HM E1 E0 HC hB hN hg hsz0
    have hmc' := Lib.hid hmc
    simp only [List.length_cons]
    by_cases hm1 : mc = 1
    · subst hm1
      obtain rfl : T = [] := List.eq_nil_of_length_eq_zero (by omega)
      go_wp2_with fail
      go_ret2
      rw [hu.out, h0'.out]
      exact OutSO.nil (some ⟨g, 0, none⟩) 0 rfl E2.out
    · have hm2 : 1 < mc := by omega
      clear hm1
      go_wp2_with fail
      all_goals
        go_ret2
        rw [hu.out, h0'.out]
        exact ⟨some ⟨g, 1, none⟩, mc - 1, rfl, by rw [List.tail_cons]; have := hmc'.out; omega, HO2.out, HM2.out, E2.out⟩
  · have hu : Hid (ancV (strips l) x = []) := if_neg h0
    obtain ⟨c, hc⟩ : ∃ c, c = vcodeP (strips l) [x] := ⟨_, rfl⟩
    rw [← hc] at HV h0 ⊢
    have hd : (c == 0) = false := beq_eq_false_iff_ne.2 h0
    clear h0 H hsz hc
    go_enter Tryd.func14, Tryd.ntmps14
    go_wp2_with fail
    refine HV.out.mono ?_
    rintro e w' ⟨rfl, z, rfl⟩
    go_wp2_with fail
    go_ret2
    rw [hu.out]
    exact OutSO.nil none 0 rfl (by repeat (first | exact Ext.refl _ | refine Ext.lift ?_ _ | refine Ext.alloc ?_ _))
end Go.Proofs.YtbcpgdidajapoaaDoor
namespace Go.Proofs.YtbcpgdidajapoaaDoor
open Go.RowKit
set_option maxRecDepth 100000 in
set_option maxHeartbeats 4000000 in
theorem l27Same_same (a : Option Addr) (cap : Nat) (a2 : Option Addr) (cap2 : Nat) (l : List Setting) (w : World) (H : SettingAt w a l) (H2 : SettingAt w a2 l) (hlen : l.length ≤ 1048576) :
    Gives Tryd.prog 34 #[.slice a l.length cap, .slice a2 l.length cap2] w (.bool true) := by
  unfold Gives
  go_enter Tryd.func34, Tryd.ntmps34
  go_wp2_with fail
  go_loopw [5] (fun i wr => ∃ k : Nat, k ≤ l.length ∧ i = .int .i64 k ∧ Ext w wr) (fun i _ => l.length - (intOf i).toNat)
  case atStart => exact ⟨0, Nat.zero_le _, rfl, Ext.refl w⟩
  case round =>
    obtain ⟨k, hk, rfl, he⟩ := hrel
    by_cases hlt : k < l.length
    · obtain ⟨b, off, rfl⟩ := RowsAt.base H hlt
      obtain ⟨hb, c0, c1⟩ := Setting.at (RowsAt.ext H he) k hlt
      obtain ⟨b2, off2, rfl⟩ := RowsAt.base H2 hlt
      obtain ⟨hb2, d0, d1⟩ := Setting.at (RowsAt.ext H2 he) k hlt
      have h0 : sEq (nth l k).name (nth l k).name = true := sEq_iff.2 rfl
      have he := Lib.hid he
      clear H H2
      go_wp2_with fail
      refine region_quiet (by kernel_rfl) (by kernel_rfl) ?_
      repeat (any_goals (first | go_big_quiet_step ((fail)) | quiet_step ((fail))))
      refine wpQuiet_nil ?_
      intro _ hw'
      obtain ⟨y, hw''⟩ := hw'
      subst hw''
      go_wp2
      go_roundw
      case rel => exact ⟨k + 1, by omega, by go_num, he.out.lift y⟩
      case measure => simp [intOf]; omega
    · go_wp2
      go_ret
      exact ⟨rfl, he⟩
theorem SameState_same (a : Option Addr) (cap : Nat) (a2 : Option Addr) (cap2 : Nat) (l : List Setting) (w : World) (H : SettingAt w a l) (H2 : SettingAt w a2 l) (hlen : l.length ≤ 1048576) :
    Gives Tryd.prog 10 #[.slice a l.length cap, .slice a2 l.length cap2] w (.bool true) := by
  unfold Gives
  have HV := Lib.hid (l27Same_same a cap a2 cap2 l w H H2 hlen)
  clear H H2
  go_enter Tryd.func10, Tryd.ntmps10
  go_wp2_with fail
  refine HV.out.mono ?_
  rintro e w' ⟨rfl, E⟩
  go_wp2_with fail
  go_ret
  exact ⟨rfl, E⟩
theorem specValidHistory_any (a : Option Addr) (cap : Nat) (l : List Version) (w : World) (H : VersAt w a l) (hsz : ∀ k, k < l.length → (nth l k).Small) (hlen : l.length ≤ 1048576) :
    Gives Tryd.prog 18 #[.slice a l.length cap] w (.bool (histP (strips l))) := by
  unfold Gives
  have HV := Lib.hid (l27Ok_any a cap l w H hsz hlen)
  clear H hsz
  go_enter Tryd.func18, Tryd.ntmps18
  go_wp2_with fail
  refine HV.out.mono ?_
  rintro e w' ⟨rfl, E⟩
  go_wp2_with fail
  go_ret
  exact ⟨rfl, E⟩
end Go.Proofs.YtbcpgdidajapoaaDoor
namespace Go.Proofs.YtbcpgdidajapoaaDoor
open Go.RowKit
theorem setting_small {l : List Setting} (h : settingList l = true) : ∀ k, k < l.length → (nth l k).Small := fun k hk => by
  have := (settingB_bd (state_one h hk)).1
  unfold Setting.Small; omega
theorem hist_small {w : World} {a : Option Addr} {l : List Version} (h : histP (strips l) = true) (hA : VersAt w a l) : ∀ k, k < l.length → (nth l k).Small := fun k hk => by
  obtain ⟨-, h2⟩ := hist_bd h
  obtain ⟨-, -, h3, h4⟩ := h2 k hk
  exact ⟨by have := memoB_size h3; omega, setting_small h4, by have := state_len h4; omega, hA.cap k hk⟩
theorem diff_small {x y : List Setting} (hx : settingList x = true) (hy : settingList y = true) : ∀ k, k < (diffL x y).length → (nth (diffL x y) k).Small := fun k hk => by
  rcases diff_mem (nth_mem hk) with ⟨z, hz, -, e⟩ | ⟨z, hz, -, e⟩
  · obtain ⟨i, hi, rfl⟩ := mem_nth hz
    rw [e]; exact setting_small hx i hi
  · obtain ⟨i, hi, rfl⟩ := mem_nth hz
    rw [e]; exact setting_small hy i hi
theorem SameState_eq (a : Option Addr) (cap : Nat) (a2 : Option Addr) (cap2 : Nat) (l l2 : List Setting) (hl : l = l2) (w : World) (H : SettingAt w a l) (H2 : SettingAt w a2 l2) (hlen : l.length ≤ 1048576) :
    Gives Tryd.prog 10 #[.slice a l.length cap, .slice a2 l2.length cap2] w (.bool true) := by
  subst hl
  exact SameState_same a cap a2 cap2 l w H H2 hlen
set_option maxHeartbeats 400000 in
theorem r8Has_any (a : Option Addr) (cap : Nat) (l : List Int) (n : Int) (w : World) (H : IntAt w a l) (hlen : l.length ≤ 1000000000000) :
    Calls Tryd.prog 17 #[.slice a l.length cap, .int .i64 n] w fun e w' => e = .returned (.bool (hasB l n)) ∧ w' = w := by
  go_enter Tryd.func17, Tryd.ntmps17
  go_wp2
  go_loop [5] (fun i => ∃ k : Nat, k ≤ l.length ∧ i = .int .i64 k ∧ Hid (∀ j, j < k → nth l j ≠ n)) (fun i => l.length - (intOf i).toNat)
  case atStart => exact ⟨0, Nat.zero_le _, rfl, upto_zero⟩
  case round =>
    obtain ⟨k, hk, rfl, hall⟩ := hrel
    by_cases hlt : k < l.length
    · obtain ⟨b, off, rfl⟩ := H.base hlt
      obtain ⟨hb, c0⟩ := IntAt.at H k hlt
      clear H
      cases h1 : (nth l k == n)
      · have hne : Hid (nth l k ≠ n) := beq_eq_false_iff_ne.1 h1
        go_wp2
        go_round
        case rel => exact ⟨k + 1, by omega, by go_num, upto_succ hall.out hne.out⟩
        case measure => simp [intOf]; omega
      · have hv : Hid (true = hasB l n) := hasB_true hlt (beq_iff_eq.1 h1)
        go_wp2
        go_ret
        exact ⟨ret_bool hv.out, rfl⟩
    · have hv : Hid (false = hasB l n) := hasB_false fun j hj => hall.out j (by omega)
      clear H
      go_wp2
      go_ret
      exact ⟨ret_bool hv.out, rfl⟩
theorem nth_push' {ord : List Int} {x : Int} {i : Nat} (h : i < (ord ++ [x]).length) : (i < ord.length ∧ nth (ord ++ [x]) i = nth ord i) ∨ (i = ord.length ∧ nth (ord ++ [x]) i = x) := by
  rcases Nat.lt_or_ge i ord.length with h1 | h1
  · exact .inl ⟨h1, by simp [nth, List.getElem?_append_left h1]⟩
  · have : i = ord.length := by rw [List.length_append] at h; simp only [List.length_cons, List.length_nil] at h; omega
    subst this
    exact .inr ⟨rfl, by simp [nth]⟩
set_option maxRecDepth 100000 in
set_option maxHeartbeats 16000000 in
theorem versions_law (w : World) (ht : Tab w) (a0 : Option Addr) (cap0 : Nat) (l0 : List UInt8) (H0 : RowsAt 1 (fun (x : UInt8) (_ : Nat) => Value.int .u8 x.toNat) w a0 l0) (_ : ∀ k, k < l0.length → True) (hn0 : l0.length ≤ 9223372036854775807) (_ : l0.length ≤ cap0)
    (a1 : Option Addr) (cap1 : Nat) (l1 : List UInt8) (H1 : RowsAt 1 (fun (x : UInt8) (_ : Nat) => Value.int .u8 x.toNat) w a1 l1) (_ : ∀ k, k < l1.length → True) (hn1 : l1.length ≤ 9223372036854775807) (_ : l1.length ≤ cap1) :
    Gives Tryd.prog 3 #[.slice a0 l0.length cap0, .slice a1 l1.length cap1] w (.bool true) := by
  unfold Gives
  have HT := Lib.hid ht
  have B0 := Lib.hid (ByteAt.of8 H0)
  have B1 := Lib.hid (ByteAt.of8 H1)
  have R0 := Lib.hid (byte_range l0)
  have R1 := Lib.hid (byte_range l1)
  rw [show l0.length = (l0.map fun x => (x.toNat : Int)).length by simp] at hn0 ⊢
  rw [show l1.length = (l1.map fun x => (x.toNat : Int)).length by simp] at hn1 ⊢
  clear H0 H1 ht
  generalize (l0.map fun x => (x.toNat : Int)) = code at *
  generalize (l1.map fun x => (x.toNat : Int)) = more at *
  have HL := Lib.hid (r8Long_any a0 a1 code.length more.length cap0 cap1 w hn0 hn1)
  go_enter Tryd.func3, Tryd.ntmps3
  go_wp2_with fail
  refine HL.out.mono ?_
  rintro e w' ⟨b, rfl, hb, rfl⟩
  clear HL
  cases b
  case true =>
    go_wp2_with fail
    go_ret
    exact ⟨rfl, Ext.refl _⟩
  obtain ⟨f0, f1⟩ := hb rfl
  clear hb
  go_wp2_with fail
  refine (R8History_any w' a0 cap0 code B0.out R0.out f0).mono ?_
  rintro e w1 ⟨na, nc, l, rfl, hnc, hl5, hGH, hNA, E1⟩
  have hNA := Lib.hid hNA
  have hh := hGH.hist
  have E1 := Lib.hid E1
  clear hGH
  go_wp2_with fail
  refine (R8State_any w1 a1 cap1 more (RowsAt.ext B1.out E1.out) R1.out f1).mono ?_
  rintro e w2 ⟨xa, xc, x, rfl, hxc, hGx, hXR, E2⟩
  have hxl := hGx.len
  have hx := hGx.valid (by omega)
  have hXR := Lib.hid hXR
  have hGx := Lib.hid hGx
  replace hNA := Lib.hid (hNA.out.ext E2)
  replace E1 := Lib.hid (E1.out.trans E2)
  clear E2
  go_wp2_with fail
  refine (R8Changed_any w2 a0 cap0 code (RowsAt.ext B0.out E1.out) R0.out f0 xa xc x hXR.out 5 hGx.out (by omega)).mono ?_
  rintro e w3 ⟨ya, yc, y, rfl, hyc, hGy, hYR, E2⟩
  have hyl := hGy.len
  have hy := hGy.valid (by omega)
  have hYR := Lib.hid hYR
  replace hXR := Lib.hid (RowsAt.ext hXR.out E2)
  replace hNA := Lib.hid (hNA.out.ext E2)
  replace E1 := Lib.hid (E1.out.trans E2)
  clear E2 hGy hGx B0 R0 f0
  have sx := Lib.hid (setting_small hx)
  have sy := Lib.hid (setting_small hy)
  have hds := Lib.hid (diff_small hx hy)
  obtain ⟨ap1, ap2⟩ := diff_apply hx hy (by omega)
  have hdl := diff_len x y
  have HDF := Lib.hid (implDiffStates_any w3 xa ya xc yc x y hXR.out hYR.out hx hy sx.out sy.out)
  have hx := Lib.hid hx
  have HAP := Lib.hid fun (W : World) (he : Ext w3 W) (va : Option Addr) (vc : Nat) (hc : (diffL x y).length ≤ vc) (h : ChangeAt W va (diffL x y)) => implApplyChanges_any W xa xc x (RowsAt.ext hXR.out he) sx.out (by omega) hxc va vc (diffL x y) h hds.out (by omega) hc
  rw [ap1, ap2] at HAP
  clear ap1 ap2 hy
  obtain ⟨D, hD⟩ : ∃ D, D = diffL x y := ⟨_, rfl⟩
  rw [← hD] at HDF HAP hdl
  clear hD hds
  go_wp2_with fail
  refine HDF.out.mono ?_
  rintro e w4 ⟨va, vc, rfl, hvc, hVR, E2⟩
  have HAP2 := Lib.hid (HAP.out w4 E2 va vc hvc hVR)
  clear HDF HAP hVR
  replace hYR := Lib.hid (RowsAt.ext hYR.out E2)
  replace hXR := Lib.hid (RowsAt.ext hXR.out E2)
  replace hNA := Lib.hid (hNA.out.ext E2)
  replace E1 := Lib.hid (E1.out.trans E2)
  clear E2
  go_wp2_with fail
  refine HAP2.out.mono ?_
  rintro e w5 ⟨ta, tc, he5, -, -, hTR, E2⟩
  have he5' : e = .returned (.tuple #[.slice ta y.length tc, .int .i64 0]) := he5
  subst he5'
  have hSS := Lib.hid (SameState_same ta tc ya yc y w5 hTR (RowsAt.ext hYR.out E2) (by omega))
  replace hXR := Lib.hid (RowsAt.ext hXR.out E2)
  replace hNA := Lib.hid (hNA.out.ext E2)
  replace E1 := Lib.hid (E1.out.trans E2)
  clear E2 he5 hTR HAP2 hYR
  go_wp2_with fail
  refine hSS.out.mono ?_
  rintro e w6 ⟨rfl, E2⟩
  replace hXR := Lib.hid (RowsAt.ext hXR.out E2)
  replace hNA := Lib.hid (hNA.out.ext E2)
  replace E1 := Lib.hid (E1.out.trans E2)
  clear E2 hSS
  go_wp2_with fail
  refine (r8At_q w6 a1 cap1 more (RowsAt.ext B1.out E1.out) R1.out f1 0 (by omega) (l.length + 1) (by omega)).mono ?_
  rintro e w7 ⟨p, rfl, p0, p1, E2⟩
  replace p1 := p1 (by omega)
  replace hXR := Lib.hid (RowsAt.ext hXR.out E2)
  replace hNA := Lib.hid (hNA.out.ext E2)
  replace E1 := Lib.hid (E1.out.trans E2)
  clear E2
  have hP : (strips l).length = l.length := strips_len l
  have hp1 : p ≤ ((strips l).length : Int) := by rw [hP]; omega
  obtain ⟨cm1, cm2⟩ := next_commit hh (by omega) p0 hp1 hx.out
  have hQ := next_hist hh (by omega) p0 hp1 hx.out
  obtain ⟨un1, un2, un3⟩ := next_undo hh (by omega) p0 hp1 hx.out
  have HC := Lib.hid (implCommitState_any w7 na nc l hNA.out (hist_small hh hNA.out) (by omega) p nxS (by decide) xa xc x hXR.out sx.out (by omega) hxc)
  rw [cm1, cm2] at HC
  clear cm1 cm2
  have vc1 := next_code hQ
  have vc2 := next_code2 hQ
  have an1 := next_line hQ
  have an2 := line_has hQ p0 hp1
  obtain ⟨lb1, lb2, lb3⟩ := line_bd hQ hp1
  obtain ⟨hd1, hd2⟩ := next_heads hQ
  have cm3 := next_com hQ
  have hat := next_at (strips l) p x
  rw [hP] at un1 un2 un3 vc1 vc2 an1 lb2 hd2 cm3 hat
  have hQl : (strips l ++ [nextV (strips l) p x]).length = l.length + 1 := by rw [next_len, hP]
  obtain ⟨Q, hQe⟩ : ∃ Q, Q = strips l ++ [nextV (strips l) p x] := ⟨_, rfl⟩
  rw [← hQe] at HC hQ un1 un2 un3 vc1 vc2 an1 an2 lb1 lb2 lb3 hd1 hd2 cm3 hat hQl
  replace hQe := Lib.hid hQe
  go_wp2_with fail
  refine HC.out.mono ?_
  rintro e w8 ⟨ca, cc, l2, he5, hl2, -, hVR, E2⟩
  have he5' : e = .returned (.tuple #[.slice ca l2.length cc, .int .i64 0]) := he5
  subst he5'
  have h2A := Lib.hid hVR.at'
  replace hNA := Lib.hid (hNA.out.ext E2)
  replace E1 := Lib.hid (E1.out.trans E2)
  have h2len : l2.length = l.length + 1 := by rw [← strips_len l2, hl2, hQl]
  have h2s := Lib.hid (hist_small (by rw [hl2]; exact hQ) hVR.at')
  have HUN := Lib.hid fun (W : World) (he : Ext w8 W) (ht : Tab W) => implUndoVersion_any W ht ca cc l2 (h2A.out.ext he) h2s.out (by omega) ((l.length : Int) + 1)
  have HAN := Lib.hid fun (W : World) (he : Ext w8 W) => implAncestorsOf_any W ca cc l2 (h2A.out.ext he) h2s.out (by omega) ((l.length : Int) + 1)
  have HHD := Lib.hid fun (W : World) (he : Ext w8 W) => implHeadsOf_any W ca cc l2 (h2A.out.ext he) h2s.out (by omega)
  have HCA := Lib.hid fun (W : World) (he : Ext w8 W) => implCommonAncestor_any W ca cc l2 (h2A.out.ext he) h2s.out (by omega) ((l.length : Int) + 1) ((l.length : Int) + 1)
  rw [hl2, un1, un2] at HUN
  rw [hl2, an1, vc1] at HAN
  rw [hl2, hd1] at HHD
  rw [hl2, cm3, vc2] at HCA
  have hx2 : (nth l2 l.length).strip = nextV (strips l) p x := by
    rw [← nth_strips (by omega), hl2]
    rw [show ((l.length : Int) + 1).toNat - 1 = l.length by omega] at hat
    exact hat
  have hvt : Hid (sEq (versionS (nth l2 l.length)) ⟨#[]⟩ = false) := by
    refine version_text ?_
    unfold Version.strip at hx2
    simp only [nextV, VerP.mk.injEq] at hx2
    unfold versionB
    rw [hx2.1, hx2.2.1, hx2.2.2.1, hx2.2.2.2, hP, inB_iff.2 ⟨by omega, by omega⟩, inB_iff.2 ⟨by omega, by omega⟩, hx.out]
    decide
  clear HC he5 hVR E2 hx2 un1 un2 vc1 vc2 an1 hd1 cm3 hat hl2 hQl
  have h2b : ((l2.length : Int) != (l.length : Int) + 1) = false := by rw [h2len]; simp
  have h2l : l.length < l2.length := by omega
  replace h2len := Lib.hid h2len
  obtain ⟨U, hU⟩ : ∃ U, U = lineP Q p := ⟨_, rfl⟩
  rw [← hU] at HAN an2 lb1 lb2 lb3
  obtain ⟨HV, hHV⟩ : ∃ HV, HV = headsV Q := ⟨_, rfl⟩
  have hHl : HV.length ≤ 32 := by rw [hHV]; exact headsV_len Q
  rw [← hHV] at HHD hd2
  have hUb := Lib.hid lb2
  have hUd := Lib.hid lb3
  replace an2 := Lib.hid an2
  replace hd2 := Lib.hid hd2
  clear hU hHV lb2 lb3 sx sy B1 R1 f1 hXR
  go_wp2_with fail
  refine (HUN.out w8 (Ext.refl _) (HT.out.ext E1.out)).mono ?_
  rintro e w9 ⟨ga, gc, l3, he5, hl3, -, hVR, E2⟩
  have he5' : e = .returned (.tuple #[.slice ga l3.length gc, .int .i64 0]) := he5
  subst he5'
  have h3A := Lib.hid hVR.at'
  have hH3 : histP (strips l3) = true := by rw [hl3]; exact un3
  have h3len : l3.length = l.length + 2 := by rw [← strips_len l3, hl3, List.length_append, hQe.out, List.length_append, hP]; rfl
  have h3s := Lib.hid (hist_small hH3 hVR.at')
  have hx3 : (nth l3 (l.length + 1)).state = stateP (strips l) p := by
    have h9 : (nth l3 (l.length + 1)).strip = nth (strips l3) (l.length + 1) := (nth_strips (by omega)).symm
    rw [hl3, show l.length + 1 = Q.length by rw [hQe.out, List.length_append, hP]; rfl, nth_last] at h9
    rw [show Q.length = l.length + 1 by rw [hQe.out, List.length_append, hP]; rfl] at h9
    exact congrArg VerP.state h9
  have hVH := Lib.hid fun (W : World) (he : Ext w9 W) => specValidHistory_any ga gc l3 W (h3A.out.ext he) h3s.out (by omega)
  rw [hH3] at hVH
  have h3b : ((l3.length : Int) != (l.length : Int) + 1 + 1) = false := by rw [h3len]; simp; omega
  have h3l : l.length + 1 < l3.length := by omega
  replace hx3 := Lib.hid hx3
  replace h3len := Lib.hid h3len
  have EB := Lib.hid E2
  replace E1 := Lib.hid (E1.out.trans E2)
  clear he5 hVR hH3 un3 hl3 E2 HUN hQ hQe hP
  go_wp2_with fail
  refine (HAN.out w9 EB.out).mono ?_
  rintro e wa ⟨ua, uc, he5, -, -, hUR, E2⟩
  have he5' : e = .returned (.tuple #[.slice ua U.length uc, .int .i64 0]) := he5
  subst he5'
  have hUR : Hid (IntAt wa ua U) := hUR
  have E9 := Lib.hid E2
  replace EB := Lib.hid (EB.out.trans E2)
  replace E1 := Lib.hid (E1.out.trans E2)
  clear he5 E2 HAN
  go_wp2_with fail
  refine (HHD.out wa EB.out).mono ?_
  rintro e wb ⟨da, dc, he5, -, -, hDR, E2⟩
  have he5' : e = .returned (.tuple #[.slice da HV.length dc, .int .i64 0]) := he5
  subst he5'
  have hDR : Hid (IntAt wb da HV) := hDR
  replace hUR := Lib.hid (RowsAt.ext hUR.out E2)
  replace E9 := Lib.hid (E9.out.trans E2)
  replace EB := Lib.hid (EB.out.trans E2)
  replace E1 := Lib.hid (E1.out.trans E2)
  clear he5 E2 HHD
  go_wp2_with fail
  refine (HCA.out wb EB.out).mono ?_
  rintro e wc ⟨rfl, E2⟩
  have hRH := Lib.hid (r8Has_any da dc HV ((l.length : Int) + 1) wc (RowsAt.ext hDR.out E2) (by omega))
  rw [hd2.out] at hRH
  replace hUR := Lib.hid (RowsAt.ext hUR.out E2)
  replace E9 := Lib.hid (E9.out.trans E2)
  replace EB := Lib.hid (EB.out.trans E2)
  replace E1 := Lib.hid (E1.out.trans E2)
  clear E2 HCA hDR
  go_wp2_with fail
  refine hRH.out.mono ?_
  rintro e wd ⟨rfl, rfl⟩
  clear hRH
  go_wp2_with fail
  refine (hVH.out wd E9.out).mono ?_
  rintro e we ⟨rfl, E2⟩
  replace hUR := Lib.hid (RowsAt.ext hUR.out E2)
  replace h3A := Lib.hid ((h3A.out.ext E9.out).ext E2)
  replace EB := Lib.hid (EB.out.trans E2)
  replace h2A := Lib.hid (h2A.out.ext EB.out)
  replace hNA := Lib.hid (hNA.out.ext EB.out)
  replace E1 := Lib.hid (E1.out.trans E2)
  clear E2 hVH E9 EB h2b h3b
  obtain ⟨b3, off3, rfl⟩ := RowsAt.base h3A.out.row h3l
  obtain ⟨hb3, -, -, -, c3⟩ := Version.at h3A.out.row (l.length + 1) h3l
  have hS3 := Lib.hid (h3A.out.inn (l.length + 1) h3l)
  have h3n : (nth l3 (l.length + 1)).state.length ≤ 1048576 := by have := (h3s.out (l.length + 1) h3l).2.2.1; omega
  rcases Int.lt_or_le 0 p with hp0 | hp0
  · obtain ⟨pm, rfl⟩ : ∃ pm : Nat, p = (pm : Int) + 1 := ⟨(p - 1).toNat, by omega⟩
    have hpl : pm < l.length := by omega
    obtain ⟨b4, off4, rfl⟩ := RowsAt.base hNA.out.row hpl
    obtain ⟨hb4, -, -, -, d3⟩ := Version.at hNA.out.row pm hpl
    have heq : (nth l3 (l.length + 1)).state = (nth l pm).state := by
      rw [hx3.out]
      unfold stateP
      rw [if_neg (by omega), show ((pm : Int) + 1).toNat - 1 = pm by omega, nth_strips hpl]
      rfl
    have hSS := Lib.hid fun (W : World) (he : Ext we W) => SameState_eq (nth l3 (l.length + 1)).addr (nth l3 (l.length + 1)).cap (nth l pm).addr (nth l pm).cap (nth l3 (l.length + 1)).state (nth l pm).state heq W (RowsAt.ext hS3.out he) (RowsAt.ext (hNA.out.inn pm hpl) he) h3n
    have hd : decide (0 < (pm : Int) + 1) = true := decide_eq_true (by omega)
    rw [hd] at an2
    clear hp0 heq h3n hS3 hx3 h3A hNA
    go_wp2_with fail
    refine (hSS.out _ (by repeat (first | exact Ext.refl _ | refine Ext.lift ?_ _ | refine Ext.alloc ?_ _))).mono ?_
    rintro e wi ⟨rfl, E2⟩
    have E3 := ((Ext.refl we).alloc (.cells #[] 57)).trans E2
    have hUR := Lib.hid (RowsAt.ext hUR.out E3)
    have h2A := Lib.hid (h2A.out.ext E3)
    have EE := Lib.hid (E1.out.trans E3)
    have hRH := Lib.hid (r8Has_any ua uc U ((pm : Int) + 1) wi hUR.out (by omega))
    rw [an2.out] at hRH
    clear E1 E2 E3 hSS c3 d3 hb3 hb4
    have EI := Lib.hid (Ext.refl wi)
    go_wp2_with fail
    refine hRH.out.mono ?_
    rintro e wj ⟨rfl, hwj⟩
    subst hwj
    clear hRH
    go_wp2_with fail
    go_loopw [25] (fun i wt => ∃ k : Nat, k ≤ U.length ∧ i = .int .i64 k ∧ Ext w' wt ∧ Ext wj wt) (fun i _ => U.length - (intOf i).toNat)
    case atStart => exact ⟨0, Nat.zero_le _, rfl, EE.out, EI.out⟩
    case round =>
      clear EE EI
      obtain ⟨k, hk, rfl, he, hi⟩ := hrel
      by_cases hlt : k < U.length
      · have hRR := RowsAt.ext hUR.out hi
        obtain ⟨b, off, rfl⟩ := RowsAt.base hRR hlt
        obtain ⟨hb, c0⟩ := IntAt.at hRR k hlt
        obtain ⟨u0, u1⟩ := hUb.out k hlt
        have hk1 : decide (k < U.length) = true := decide_eq_true hlt
        have x1 : decide (nth U k < 1) = false := decide_eq_false (by omega)
        have x2 : decide ((l.length : Int) + 1 ≤ nth U k) = false := decide_eq_false (by omega)
        have he := Lib.hid he
        have hi := Lib.hid hi
        rcases Nat.eq_zero_or_pos k with h0k | h0k
        · have hk0 : decide (0 < k) = false := decide_eq_false (by omega)
          clear hRR h0k
          go_wp2_with fail
          refine region_quiet (by kernel_rfl) (by kernel_rfl) ?_
          repeat (any_goals (first | go_big_quiet_step ((fail)) | quiet_step ((fail))))
          refine wpQuiet_nil ?_
          intro _ hw'
          obtain ⟨y, hw''⟩ := hw'
          subst hw''
          go_wp2
          go_roundw
          case rel => exact ⟨k + 1, by omega, by go_num, he.out.lift y, hi.out.lift y⟩
          case measure => simp [intOf]; omega
        · obtain ⟨k, rfl⟩ : ∃ m, k = m + 1 := ⟨k - 1, by omega⟩
          obtain ⟨-, c1⟩ := IntAt.at hRR k (by omega)
          have hdn := hUd.out k hlt
          have x3 : decide (nth U k ≤ nth U (k + 1)) = false := decide_eq_false (by omega)
          clear hRR
          go_wp2_with fail
          refine region_quiet (by kernel_rfl) (by kernel_rfl) ?_
          repeat (any_goals (first | go_big_quiet_step ((fail)) | quiet_step ((fail))))
          refine wpQuiet_nil ?_
          intro _ hw'
          obtain ⟨y, hw''⟩ := hw'
          subst hw''
          go_wp2
          go_roundw
          case rel => exact ⟨k + 1 + 1, by omega, by go_num, he.out.lift y, hi.out.lift y⟩
          case measure => simp [intOf]; omega
      · have hk1 : decide (k < U.length) = false := decide_eq_false hlt
        have hNA := h2A.out.ext hi
        obtain ⟨b2, off2, rfl⟩ := RowsAt.base hNA.row h2l
        obtain ⟨hb2, e0, e1, e2, e3⟩ := Version.at hNA.row l.length h2l
        have hVT := Lib.hid (implVersionText (nth l2 l.length) wr (HT.out.ext he) (h2s.out l.length h2l) (hNA.inn l.length h2l))
        have hEE := Lib.hid he
        clear hNA hUR hUb hUd he hi
        go_wp2_with fail
        refine hVT.out.mono ?_
        rintro e wu ⟨rfl, E9⟩
        have hEE := Lib.hid (hEE.out.trans E9)
        have hvt2 := hvt.out
        clear hVT E9 hvt
        go_wp2_with fail
        go_ret
        exact ⟨rfl, hEE.out⟩
  · obtain rfl : p = 0 := by omega
    have heq : (nth l3 (l.length + 1)).state = [] := by rw [hx3.out]; rfl
    have hSS := Lib.hid fun (W : World) (he : Ext we W) (g : Nat) => SameState_eq (nth l3 (l.length + 1)).addr (nth l3 (l.length + 1)).cap (some ⟨g, 0, none⟩) 0 (nth l3 (l.length + 1)).state [] heq W (RowsAt.ext hS3.out he) RowsAt.nil h3n
    rw [show decide ((0 : Int) < 0) = false by decide] at an2
    clear hp0 heq h3n hS3 hx3 h3A hNA
    go_wp2_with fail
    refine (hSS.out _ (by repeat (first | exact Ext.refl _ | refine Ext.lift ?_ _ | refine Ext.alloc ?_ _)) _).mono ?_
    rintro e wi ⟨rfl, E2⟩
    have E3 := ((Ext.refl we).alloc (.cells #[] 57)).trans E2
    have hUR := Lib.hid (RowsAt.ext hUR.out E3)
    have h2A := Lib.hid (h2A.out.ext E3)
    have EE := Lib.hid (E1.out.trans E3)
    have hRH := Lib.hid (r8Has_any ua uc U 0 wi hUR.out (by omega))
    rw [an2.out] at hRH
    clear E1 E2 E3 hSS c3 hb3
    have EI := Lib.hid (Ext.refl wi)
    go_wp2_with fail
    refine hRH.out.mono ?_
    rintro e wj ⟨rfl, hwj⟩
    subst hwj
    clear hRH
    go_wp2_with fail
    go_loopw [25] (fun i wt => ∃ k : Nat, k ≤ U.length ∧ i = .int .i64 k ∧ Ext w' wt ∧ Ext wj wt) (fun i _ => U.length - (intOf i).toNat)
    case atStart => exact ⟨0, Nat.zero_le _, rfl, EE.out, EI.out⟩
    case round =>
      clear EE EI
      obtain ⟨k, hk, rfl, he, hi⟩ := hrel
      by_cases hlt : k < U.length
      · have hRR := RowsAt.ext hUR.out hi
        obtain ⟨b, off, rfl⟩ := RowsAt.base hRR hlt
        obtain ⟨hb, c0⟩ := IntAt.at hRR k hlt
        obtain ⟨u0, u1⟩ := hUb.out k hlt
        have hk1 : decide (k < U.length) = true := decide_eq_true hlt
        have x1 : decide (nth U k < 1) = false := decide_eq_false (by omega)
        have x2 : decide ((l.length : Int) + 1 ≤ nth U k) = false := decide_eq_false (by omega)
        have he := Lib.hid he
        have hi := Lib.hid hi
        rcases Nat.eq_zero_or_pos k with h0k | h0k
        · have hk0 : decide (0 < k) = false := decide_eq_false (by omega)
          clear hRR h0k
          go_wp2_with fail
          refine region_quiet (by kernel_rfl) (by kernel_rfl) ?_
          repeat (any_goals (first | go_big_quiet_step ((fail)) | quiet_step ((fail))))
          refine wpQuiet_nil ?_
          intro _ hw'
          obtain ⟨y, hw''⟩ := hw'
          subst hw''
          go_wp2
          go_roundw
          case rel => exact ⟨k + 1, by omega, by go_num, he.out.lift y, hi.out.lift y⟩
          case measure => simp [intOf]; omega
        · obtain ⟨k, rfl⟩ : ∃ m, k = m + 1 := ⟨k - 1, by omega⟩
          obtain ⟨-, c1⟩ := IntAt.at hRR k (by omega)
          have hdn := hUd.out k hlt
          have x3 : decide (nth U k ≤ nth U (k + 1)) = false := decide_eq_false (by omega)
          clear hRR
          go_wp2_with fail
          refine region_quiet (by kernel_rfl) (by kernel_rfl) ?_
          repeat (any_goals (first | go_big_quiet_step ((fail)) | quiet_step ((fail))))
          refine wpQuiet_nil ?_
          intro _ hw'
          obtain ⟨y, hw''⟩ := hw'
          subst hw''
          go_wp2
          go_roundw
          case rel => exact ⟨k + 1 + 1, by omega, by go_num, he.out.lift y, hi.out.lift y⟩
          case measure => simp [intOf]; omega
      · have hk1 : decide (k < U.length) = false := decide_eq_false hlt
        have hNA := h2A.out.ext hi
        obtain ⟨b2, off2, rfl⟩ := RowsAt.base hNA.row h2l
        obtain ⟨hb2, e0, e1, e2, e3⟩ := Version.at hNA.row l.length h2l
        have hVT := Lib.hid (implVersionText (nth l2 l.length) wr (HT.out.ext he) (h2s.out l.length h2l) (hNA.inn l.length h2l))
        have hEE := Lib.hid he
        clear hNA hUR hUb hUd he hi
        go_wp2_with fail
        refine hVT.out.mono ?_
        rintro e wu ⟨rfl, E9⟩
        have hEE := Lib.hid (hEE.out.trans E9)
        have hvt2 := hvt.out
        clear hVT E9 hvt
        go_wp2_with fail
        go_ret
        exact ⟨rfl, hEE.out⟩
open Go.ChangeShapes Go.WideShapes Go.ChangeAt
open Go.ChangeMaps (open_string shut_string)
namespace lawFnVersions
set_option maxRecDepth 100000 in
theorem contract (H : Type) (enc : TypeId × Value → H) (W : World) (base : Nat) (args : Array Value) (ds gs : List (DataW H)) (before : List MemPlace)
    (hval : ∀ (j : Nat) t v, Tryd.f3.params[j]? = some t → args[j]? = some v → Value.okWide Tryd.prog W .any base t v)
    (hW : DataW.Whole enc Tryd.prog Tryd.f3.params.toList Rows.fnVersionsSpec.vars false W args.toList ds gs before) (hL : laidMetH Tryd.prog Rows.fnVersionsRow.laid W) :
    Calls Tryd.prog 3 args W fun e W' => ∃ v, e = .returned v ∧ Rows.fnVersionsSpec.post enc Tryd.prog Tryd.f3 false true false false W args v W' := by
  have ht : Tab W := tab_of_laid hL
  have hW' := hW
  obtain ⟨p, q, hA0, hV, rfl, hfz, hnd⟩ := hW
  have hA : DataW.TrodAll enc Tryd.prog W 0 (fun _ => true) true Tryd.f3.params.toList args.toList ds p := hA0
  rw [Tryd.params3] at hA hval
  obtain ⟨v0, vs0, d0, ds0, p0, q0, hargs, rfl, rfl, h0, r0⟩ := trodAll_cons hA
  obtain ⟨v1, vs1, d1, ds1, p1, q1, rfl, rfl, rfl, h1, r1⟩ := trodAll_cons r0
  obtain ⟨rfl, rfl, rfl⟩ := trodAll_nil r1
  obtain rfl : args = #[v0, v1] := by cases args; simp_all
  obtain ⟨rfl, rfl⟩ := trodVars_none hV
  have k0 := h0
  have lt0 : ∀ x ∈ p0, x.block < W.heap.size := by obtain ⟨m, hm⟩ := k0; exact DataW.trod_lt m _ _ _ hm
  obtain ⟨a0, len0, cap0, rfl⟩ := okWide_slice Tryd.underlying22 (hval 0 22 v0 rfl rfl)
  obtain ⟨fuel0, hf0⟩ := h0
  obtain ⟨b0, c0, l0, e0, hl0, hc0, H0, Q0⟩ := open_rows (fun (x : UInt8) (_ : Nat) => Value.int .u8 x.toNat) (fun _ => True) Tryd.underlying22 (by kernel_rfl : Tryd.prog.cellsOf 5 = 1) (by decide) (fun _ _ _ => byte_el) hf0
  simp only [Value.cells, List.cons.injEq, Value.slice.injEq, and_true] at e0
  obtain ⟨rfl, rfl, rfl⟩ := e0
  have k1 := h1
  have lt1 : ∀ x ∈ p1, x.block < W.heap.size := by obtain ⟨m, hm⟩ := k1; exact DataW.trod_lt m _ _ _ hm
  obtain ⟨a1, len1, cap1, rfl⟩ := okWide_slice Tryd.underlying22 (hval 1 22 v1 rfl rfl)
  obtain ⟨fuel1, hf1⟩ := h1
  obtain ⟨b1, c1, l1, e1, hl1, hc1, H1, Q1⟩ := open_rows (fun (x : UInt8) (_ : Nat) => Value.int .u8 x.toNat) (fun _ => True) Tryd.underlying22 (by kernel_rfl : Tryd.prog.cellsOf 5 = 1) (by decide) (fun _ _ _ => byte_el) hf1
  simp only [Value.cells, List.cons.injEq, Value.slice.injEq, and_true] at e1
  obtain ⟨rfl, rfl, rfl⟩ := e1
  clear hA0
  refine (versions_law W ht a0 cap0 l0 H0 Q0 (by omega) hl0 a1 cap1 l1 H1 Q1 (by omega) hl1).mono fun e W' ⟨he, bx⟩ => ?_
  have bel := bx.below
  subst he
  exact ⟨_, rfl, _, _, _, [], _, [], hW', trodAll_mk1 (shut_bool Tryd.underlying4 _), (trodAll_cons_mk (Below.trod laidOut (by kernel_rfl) (of_decide_eq_true (by kernel_rfl)) k0 bel lt0) (trodAll_cons_mk (Below.trod laidOut (by kernel_rfl) (of_decide_eq_true (by kernel_rfl)) k1 bel lt1) trodAll_mk0)), rfl, bel.frame _, fun h => by cases h⟩
theorem laid_met (os : Os) : laidMet Tryd.prog Rows.fnVersionsRow.laid ((laidWorld os).forCall (fun _ _ => 0) ⟨#[], #[.slice none 0 0, .slice none 0 0], []⟩).memory :=
  laidMet_of_run' 8 (by kernel_rfl) (by kernel_rfl)
theorem reads (os : Os) {H : Type} (enc : TypeId × Value → H) : ∃ places, DataW.whole enc Tryd.prog ((laidWorld os).forCall (fun _ _ => 0) ⟨#[], #[.slice none 0 0, .slice none 0 0], []⟩).memory Tryd.f3.params.toList Rows.fnVersionsSpec.vars false (#[.slice none 0 0, .slice none 0 0] : Array Value).toList 8 = some ([.nil, .nil], [], places) :=
  ⟨[], by kernel_rfl⟩
set_option maxRecDepth 100000 in
theorem lifted (os : Os) (started : os.Started) (H : Type) (enc : TypeId × Value → H) (F : Stop.Interp) :
    ReturnsInHanded {} Tryd.checked os 3 .any ((OpenSpec.ofChange Rows.fnVersionsSpec).preRow enc Tryd.prog Tryd.f3 Rows.fnVersionsRow.domain false Rows.fnVersionsRow.laid) (((OpenSpec.ofChange Rows.fnVersionsSpec).at F).post enc Tryd.prog Tryd.f3 false true false false) := by
  obtain ⟨places, hx⟩ := reads os enc
  refine returnsInHanded_of_row (C := Tryd.checked) (s := OpenSpec.ofChange Rows.fnVersionsSpec) own started (by kernel_rfl) Tryd.func3
    (witness_row_at (enc := enc) (C := Tryd.checked) false (laidWorld os) #[.slice none 0 0, .slice none 0 0] rfl (by kernel_rfl) (by kernel_rfl) (by kernel_rfl)
      (OpenSpec.preRow_of_cond 8 hx (by kernel_rfl) (fun k hk => by cases hk) (by kernel_rfl) (laid_met os))) ?_
  intro W base args ds gs before hval hW _ _ _ hL _ _
  exact contract H enc W base args ds gs before hval hW hL
theorem said : Rows.FnVersionsSaid :=
  OpenClaim.holds_of_cond 3 Tryd.f3 rfl rfl rfl rfl rfl rfl rfl ⟨rfl, rfl, rfl, rfl, rfl⟩ rfl rfl rfl rfl rfl (by kernel_rfl) Tryd.func3 (by kernel_rfl)
    (of_decide_eq_true (by kernel_rfl)) (by unfold Func.isWrapper; first | (rw [if_pos (by decide +kernel)]; kernel_rfl) | (rw [if_neg (by decide +kernel)]; exact ⟨rfl, rfl⟩))
    (fun os started H enc _ F => by rw [OpenClaim.pre_eq_preRow]; exact lifted os started H enc F)
theorem plain (f : FuncId) (fn : Func) (hf : Tryd.pinned.checked.prog.funcNamed Rows.fnVersionsRow.func = some f) (hfn : Tryd.pinned.checked.prog.funcs[f]? = some fn) :
    false = Tryd.pinned.checked.prog.looks [] ∧ ∀ (j : Nat) t, fn.params[j]? = some t → Tryd.pinned.checked.prog.wantsStandIn t = false := by
  obtain rfl : f = 3 := Option.some.inj ((show Tryd.prog.funcNamed Rows.fnVersionsRow.func = some 3 by kernel_rfl).symm.trans hf) |>.symm
  obtain rfl : fn = Tryd.f3 := (Option.some.inj (Tryd.func3.symm.trans hfn)).symm
  refine ⟨by kernel_rfl, fun j t ht => ?_⟩
  rw [Tryd.params3] at ht
  have hm := Array.mem_of_getElem? ht
  have hm2 : t = 22 := by simpa using hm
  rcases hm2 with rfl
  · exact (show Tryd.prog.wantsStandIn 22 = false by kernel_rfl)
/-- The given statement. -/
theorem card : Rows.FnVersionsCardSaid :=
  Claim7.holds_tied_plain_at .later [] _ _ _ _ said (fun _ h => by cases h) (by kernel_rfl) (fun _ h => by cases h) fnVersions_row_tie rfl ⟨rfl, rfl⟩ (by kernel_rfl) rfl plain (by kernel_rfl)
end lawFnVersions
end Go.Proofs.YtbcpgdidajapoaaDoor
