/- A region that draws its order: operations that hand back the same value in whatever grown world are run first; then some operations that lay new blocks, in any order; then a tail, one after the other. -/
import Derived.Test.YtbcpgdidajapoaaGrow
namespace Go.Proofs.Ytbcpgdidajapoaa
open Go.RowKit
namespace Grow
variable {P : Program} {md : Region.Mode}
def preB (md : Region.Mode) (ops : Array Oper) (n : Nat) : List Nat → Array Bool → Bool
  | [], _ => true
  | i :: is, listed => (Region.ready md ops listed).contains i && Region.free md ops listed i && decide (i < n) && preB md ops n is (listed.setIfInBounds i true)
def setAll : List Nat → Array Bool → Array Bool
  | [], l => l
  | i :: is, l => setAll is (l.setIfInBounds i true)
theorem anyL_of_pre {l : List Oper} {n k : Nat} {Q : Exit → Act → World → Prop} {w : World} (hsel : Region.noSelect l.toArray = true) (hs : Region.sinkB md l.toArray n = true) (hc : Region.chainB md l.toArray n = true) (hn : n < l.toArray.size) :
    ∀ (is : List Nat) (listed : Array Bool) (a : Act) (w' : World), Ext w w' → HeadInv md l.toArray n listed → preB md l.toArray n is listed = true →
      heads P l.toArray w (fun a' => ∀ w'', Ext w w'' → anyL P md l.toArray n (tailL P md l n Q) k (setAll is listed) a' w'') (pick l is) a → anyL P md l.toArray n (tailL P md l n Q) (is.length + k) listed a w'
  | [], listed, a, w', he, _, _, h => by
    have := h w' he
    simpa [setAll] using this
  | i :: is, listed, a, w', he, inv, hB, h => by
    simp only [preB, Bool.and_eq_true, decide_eq_true_eq] at hB
    obtain ⟨⟨⟨hr, hf⟩, hin⟩, hB'⟩ := hB
    have hr' : i ∈ Region.ready md l.toArray listed := by simpa using hr
    obtain ⟨-, o, ho, -⟩ := mem_ready.1 hr'
    have ho' : l[i]? = some o := by simpa using ho
    simp only [pick, ho'] at h
    obtain ⟨v, hy, h⟩ := h
    have := anyL_first ho (Region.noSelect_spec hsel) hs hc hn hin (fun _ _ _ h => seqB_ready h.1) (is.length + k) listed a w' inv (Region.free_spec ho hf) hr' (hy.grow he)
      (fun w'' h2 => anyL_of_pre hsel hs hc hn is _ _ w'' (he.trans h2) (inv.set hr' hin) hB' h)
    rw [show (i :: is).length + k = is.length + k + 1 by simp only [List.length_cons]; omega]
    exact this
def newB (md : Region.Mode) (ops : Array Oper) (n k : Nat) (hs : List Nat) : Bool :=
  Region.noSelect ops && decide (n < ops.size) && Region.sinkB md ops n && Region.chainB md ops n && decide (hs.length + k = n) && preB md ops n hs (Array.replicate ops.size false)
theorem region_new {id : Nat} {Q : Exit → Act → World → Prop} {a : Act} {w : World} {l : List Oper} (n k : Nat) (hs : List Nat) (hm : P.follows .mixedOrders = true) (hB : newB .any l.toArray n k hs = true)
    (h : heads P l.toArray w (fun a' => ∀ w'', Ext w w'' → anyL P .any l.toArray n (tailL P .any l n Q) k (setAll hs (Array.replicate l.toArray.size false)) a' w'') (pick l hs) a) : (Code.region id l.toArray true).wp P Q a w := by
  simp only [newB, Bool.and_eq_true, decide_eq_true_eq] at hB
  obtain ⟨⟨⟨⟨⟨hsel, hn⟩, hsk⟩, hch⟩, hlen⟩, hf⟩ := hB
  have inv : HeadInv .any l.toArray n (Array.replicate l.toArray.size false) := by
    refine ⟨by simp, fun j oj _ hl => ?_, fun t _ ht => ?_⟩
    · rw [getD_replicate_false] at hl; cases hl
    · have ht' : t < l.length := by simpa using ht
      simp [ht']
  have h1 := anyL_of_pre (P := P) (md := .any) (Q := Q) (w := w) (k := k) hsel hsk hch hn hs _ a w.drew ((Ext.refl w).drew) inv hf h
  rw [hlen] at h1
  refine wp_region_any hm ?_
  have h2 := wpAny_of_anyL (L := tailL P .any l n Q) (g := l.toArray.size - n) (Q' := Q) (fun listed a w ⟨hB, hw⟩ => by
    have e : (l.drop n).length = l.toArray.size - n := by simp
    have := wpAny_of_seq (P := P) (ops := l.toArray) (md := .any) (Q' := Q) (l.drop n) n listed a w (fun j => by simp [List.getElem?_drop]) (by rw [e]; exact hB) hw
    rwa [e] at this) n _ a w.drew h1
  rw [show n + (l.toArray.size - n) = l.toArray.size by omega] at h2
  exact h2
/-- An operation that lays a new block. -/
structure Item where
  idx : Nat
  dst : Nat
  obj : Obj
def ptr (b : Nat) : Value := .pointer (some ⟨b, 0, none⟩)
def Item.Ok (P : Program) (ops : Array Oper) (x : Item) : Prop :=
  ∃ o, ops[x.idx]? = some o ∧ o.dst = some x.dst ∧ ∀ (a : Act) (w : World), Region.wanted o (yielded ops a.tmps) = true ∧ (execOp a.eval o).run P w = .ok (.value (ptr w.heap.size)) (w.alloc x.obj)
def putAll (b : Nat → Nat) : List Item → Act → Act
  | [], a => a
  | x :: U, a => putAll b U (a.put (some x.dst) (ptr (b x.idx)))
def idxs (U : List Item) : List Nat := U.map Item.idx
def without (i : Nat) (U : List Item) : List Item := U.filter fun x => x.idx != i
def newsB (md : Region.Mode) (ops : Array Oper) (n : Nat) : Nat → List Nat → Array Bool → Bool
  | 0, U, _ => U.isEmpty
  | f + 1, U, listed => !(Region.ready md ops listed).isEmpty && (Region.ready md ops listed).all (fun i => U.contains i && decide (i < n) && newsB md ops n f (U.filter fun j => j != i) (listed.setIfInBounds i true))
theorem putAll_put {b : Nat → Nat} {d : Nat} {v : Value} : ∀ {U : List Item} {a : Act}, (∀ x ∈ U, x.dst ≠ d) → putAll b U (a.put (some d) v) = (putAll b U a).put (some d) v
  | [], _, _ => rfl
  | x :: U, a, h => by
    have hx : x.dst ≠ d := h x (by simp)
    show putAll b U ((a.put (some d) v).put (some x.dst) _) = (putAll b U (a.put (some x.dst) _)).put (some d) v
    rw [Act.put_comm a v _ (fun d' e e2 => hx (Option.some.inj (e2.trans e.symm))), putAll_put (fun y hy => h y (by simp [hy]))]
theorem putAll_congr {b b' : Nat → Nat} : ∀ {U : List Item} {a : Act}, (∀ x ∈ U, b x.idx = b' x.idx) → putAll b U a = putAll b' U a
  | [], _, _ => rfl
  | x :: U, a, h => by
    show putAll b U _ = putAll b' U _
    rw [h x (by simp), putAll_congr (fun y hy => h y (by simp [hy]))]
theorem setAll_set {i : Nat} : ∀ {U : List Nat} {l : Array Bool}, (∀ j ∈ U, j ≠ i) → setAll U (l.setIfInBounds i true) = (setAll U l).setIfInBounds i true
  | [], _, _ => rfl
  | j :: U, l, h => by
    have hj : j ≠ i := h j (by simp)
    show setAll U ((l.setIfInBounds i true).setIfInBounds j true) = (setAll U (l.setIfInBounds j true)).setIfInBounds i true
    rw [Array.setIfInBounds_comm _ _ (Ne.symm hj), setAll_set (fun y hy => h y (by simp [hy]))]
theorem without_eq {i : Nat} : ∀ {U : List Item}, (∀ y ∈ U, y.idx ≠ i) → without i U = U := by
  intro U h
  unfold without
  rw [List.filter_eq_self]
  intro y hy; simpa using h y hy
theorem split_item {U : List Item} {i : Nat} (hnd : (idxs U).Nodup) (hi : i ∈ idxs U) : ∃ U1 x U2, U = U1 ++ x :: U2 ∧ x.idx = i ∧ without i U = U1 ++ U2 := by
  obtain ⟨x, hx, rfl⟩ := List.mem_map.1 hi
  obtain ⟨U1, U2, rfl⟩ := List.append_of_mem hx
  unfold idxs at hnd
  rw [List.map_append, List.map_cons, List.nodup_append, List.nodup_cons] at hnd
  refine ⟨U1, x, U2, rfl, rfl, ?_⟩
  have h1 : without x.idx U1 = U1 := without_eq fun y hy e => (hnd.2.2 _ (List.mem_map.2 ⟨y, hy, rfl⟩) _ (List.mem_cons_self ..)) e
  have h2 : without x.idx U2 = U2 := without_eq fun y hy e => hnd.2.1.1 (List.mem_map.2 ⟨y, hy, e⟩)
  unfold without at *
  rw [List.filter_append, List.filter_cons, if_neg (by simp), h1, h2]
theorem putAll_split {b : Nat → Nat} {x : Item} {U2 : List Item} : ∀ {U1 : List Item} {a : Act}, (∀ y ∈ U1, y.dst ≠ x.dst) → putAll b (U1 ++ x :: U2) a = putAll b (U1 ++ U2) (a.put (some x.dst) (ptr (b x.idx)))
  | [], _, _ => rfl
  | y :: U1, a, h => by
    have hy : y.dst ≠ x.dst := h y (by simp)
    show putAll b (U1 ++ x :: U2) (a.put (some y.dst) _) = putAll b (U1 ++ U2) ((a.put (some x.dst) _).put (some y.dst) _)
    rw [putAll_split (fun z hz => h z (by simp [hz])), Act.put_comm a _ _ (fun d' e e2 => hy (Option.some.inj (e2.trans e.symm)))]
theorem setAll_split {i : Nat} {U2 : List Nat} : ∀ {U1 : List Nat} {l : Array Bool}, (∀ y ∈ U1, y ≠ i) → setAll (U1 ++ i :: U2) l = setAll (U1 ++ U2) (l.setIfInBounds i true)
  | [], _, _ => rfl
  | y :: U1, l, h => by
    have hy : y ≠ i := h y (by simp)
    show setAll (U1 ++ i :: U2) (l.setIfInBounds y true) = setAll (U1 ++ U2) ((l.setIfInBounds i true).setIfInBounds y true)
    rw [setAll_split (fun z hz => h z (by simp [hz])), Array.setIfInBounds_comm _ _ (Ne.symm hy)]
theorem obj_ext {w w' : World} {b : Nat} {z : Obj} (h : w.heap[b]? = some z) (he : Ext w w') : w'.heap[b]? = some z := by
  have hlt : b < w.heap.size := by
    rcases Nat.lt_or_ge b w.heap.size with h1 | h1
    · exact h1
    · rw [Array.getElem?_eq_none h1] at h; cases h
  rw [he.below.block b hlt]; exact h
theorem anyL_news {ops : Array Oper} {n : Nat} {L : Array Bool → Act → World → Prop} :
    ∀ (f : Nat) (U : List Item) (listed : Array Bool) (a : Act) (w : World), newsB md ops n f (idxs U) listed = true → (idxs U).Nodup → (U.map Item.dst).Nodup → (∀ x ∈ U, x.Ok P ops) →
      (∀ (b : Nat → Nat) (w' : World), Ext w w' → (∀ x ∈ U, w.heap.size ≤ b x.idx ∧ w'.heap[b x.idx]? = some x.obj) → (∀ x ∈ U, ∀ y ∈ U, x.idx ≠ y.idx → b x.idx ≠ b y.idx) → L (setAll (idxs U) listed) (putAll b U a) w') →
      anyL P md ops n L f listed a w
  | 0, U, listed, a, w, hB, _, _, _, h => by
    have : U = [] := by
      cases U with
      | nil => rfl
      | cons x U => simp [newsB, idxs] at hB
    subst this
    exact h (fun _ => 0) w (Ext.refl w) (fun _ hx => by cases hx) (fun _ hx => by cases hx)
  | f + 1, U, listed, a, w, hB, hnd, hdd, hok, h => by
    simp only [newsB, Bool.and_eq_true, Bool.not_eq_true', List.all_eq_true] at hB
    refine ⟨fun e => by rw [e] at hB; simp at hB, fun i hi => ?_⟩
    obtain ⟨⟨hc, hin⟩, hB'⟩ := hB.2 i hi
    refine ⟨by simpa using hin, fun o ho => ?_⟩
    have hiU : i ∈ idxs U := by simpa using hc
    obtain ⟨U1, x, U2, rfl, rfl, hwo⟩ := split_item hnd hiU
    obtain ⟨o', ho', hd', hrun⟩ := hok x (by simp)
    rw [ho] at ho'
    obtain rfl := Option.some.inj ho'
    have hnd' := hnd
    unfold idxs at hnd'
    rw [List.map_append, List.map_cons, List.nodup_append, List.nodup_cons] at hnd'
    have hdd' := hdd
    rw [List.map_append, List.map_cons, List.nodup_append, List.nodup_cons] at hdd'
    have e1 : ∀ y ∈ U1, y.idx ≠ x.idx := fun y hy e => hnd'.2.2 _ (List.mem_map.2 ⟨y, hy, rfl⟩) _ (List.mem_cons_self ..) e
    have e2 : ∀ y ∈ U2, y.idx ≠ x.idx := fun y hy e => hnd'.2.1.1 (List.mem_map.2 ⟨y, hy, e⟩)
    have e3 : ∀ y ∈ U1, y.dst ≠ x.dst := fun y hy e => hdd'.2.2 _ (List.mem_map.2 ⟨y, hy, rfl⟩) _ (List.mem_cons_self ..) e
    have hmem : ∀ y, y ∈ U1 ++ U2 → y ∈ U1 ++ x :: U2 := fun y hy => by
      rcases List.mem_append.1 hy with h1 | h1
      · exact List.mem_append.2 (.inl h1)
      · exact List.mem_append.2 (.inr (List.mem_cons_of_mem _ h1))
    have hne : ∀ y ∈ U1 ++ U2, y.idx ≠ x.idx := fun y hy => by
      rcases List.mem_append.1 hy with h1 | h1
      · exact e1 y h1
      · exact e2 y h1
    have hidx : (idxs (U1 ++ x :: U2)).filter (fun j => j != x.idx) = idxs (U1 ++ U2) := by
      rw [← hwo]; unfold idxs without; rw [List.filter_map]; rfl
    rw [hidx] at hB'
    unfold op
    rw [if_pos (hrun a w).1, (hrun a w).2]
    refine ⟨(Ext.refl w).alloc _, fun w1 hw1 => ?_⟩
    rw [hd']
    have hsz : w.heap.size < w1.heap.size := by have := hw1.size; rw [size_new] at this; omega
    have hobj : (w.alloc x.obj).heap[w.heap.size]? = some x.obj := by
      show (w.heap.push _)[w.heap.size]? = _
      simp
    refine anyL_news f (U1 ++ U2) _ _ w1 hB' ?_ ?_ (fun y hy => hok y (hmem y hy)) (fun b w' hw' hb hbd => ?_)
    · exact hnd.sublist (List.Sublist.map _ (List.Sublist.append (List.Sublist.refl _) (List.sublist_cons_self _ _)))
    · exact hdd.sublist (List.Sublist.map _ (List.Sublist.append (List.Sublist.refl _) (List.sublist_cons_self _ _)))
    · have hup : ∀ y ∈ U1 ++ U2, (fun i => if i = x.idx then w.heap.size else b i) y.idx = b y.idx := fun y hy => if_neg (hne y hy)
      have h0 := h (fun i => if i = x.idx then w.heap.size else b i) w' (((Ext.refl w).alloc _).trans (hw1.trans hw')) (fun y hy => by
          by_cases e : y.idx = x.idx
          · have : y = x := by
              rcases List.mem_append.1 hy with h1 | h1
              · exact absurd e (e1 y h1)
              · rcases List.mem_cons.1 h1 with h2 | h2
                · exact h2
                · exact absurd e (e2 y h2)
            subst this
            simp only [if_pos]
            exact ⟨Nat.le_refl _, obj_ext hobj (hw1.trans hw')⟩
          · have hy' : y ∈ U1 ++ U2 := by
              rcases List.mem_append.1 hy with h1 | h1
              · exact List.mem_append.2 (.inl h1)
              · rcases List.mem_cons.1 h1 with h2 | h2
                · exact absurd (by rw [h2]) e
                · exact List.mem_append.2 (.inr h2)
            simp only [if_neg e]
            have := hb y hy'
            exact ⟨by omega, this.2⟩) (fun y hy z hz hyz => by
          have key : ∀ y, y ∈ U1 ++ x :: U2 → y.idx ≠ x.idx → y ∈ U1 ++ U2 := fun y hy e => by
            rcases List.mem_append.1 hy with h1 | h1
            · exact List.mem_append.2 (.inl h1)
            · rcases List.mem_cons.1 h1 with h2 | h2
              · exact absurd (by rw [h2]) e
              · exact List.mem_append.2 (.inr h2)
          by_cases e : y.idx = x.idx <;> by_cases e' : z.idx = x.idx
          · omega
          · simp only [if_pos e, if_neg e']
            have := (hb z (key z hz e')).1; omega
          · simp only [if_neg e, if_pos e']
            have := (hb y (key y hy e)).1; omega
          · simp only [if_neg e, if_neg e']
            exact hbd y (key y hy e) z (key z hz e') hyz)
      have es : setAll (idxs (U1 ++ x :: U2)) listed = setAll (idxs (U1 ++ U2)) (listed.setIfInBounds x.idx true) := by
        unfold idxs
        rw [List.map_append, List.map_cons, List.map_append]
        exact setAll_split (fun j hj e => by obtain ⟨y, hy, rfl⟩ := List.mem_map.1 hj; exact e1 y hy e)
      rw [es, putAll_split e3, putAll_congr hup] at h0
      simpa using h0
end Grow
end Go.Proofs.Ytbcpgdidajapoaa
