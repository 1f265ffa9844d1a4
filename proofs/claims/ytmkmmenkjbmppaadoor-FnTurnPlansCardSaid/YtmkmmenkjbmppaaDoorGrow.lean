/- A region that draws its order: some operations ('heads', named by their numbers) hand back the same value in whatever grown world they run, so they may be run first; the others ('tail') come one after the other. Between two operations the world may grow. -/
import Derived.Test.YtmkmmenkjbmppaaDoorBase
import Derived.StillTail
namespace Go.Proofs.YtmkmmenkjbmppaaDoor
open Go.RowKit
namespace Grow
variable {P : Program} {md : Region.Mode} {ops : Array Oper} {Q : Act → World → Prop}
def upon (P : Program) (w : World) (K : Value → World → Prop) : Result Next → Prop
  | .ok (.value v) w' => Ext w w' ∧ ∀ w'', Ext w' w'' → K v w''
  | .ok .skip w' => Ext w w' ∧ ∀ w'', Ext w' w'' → K undef w''
  | .ok (.enter f args) w' => Calls P f args w' fun e w'' => ∃ v, e = .returned v ∧ Ext w w'' ∧ ∀ w3, Ext w'' w3 → K v w3
  | _ => False
def op (P : Program) (ops : Array Oper) (o : Oper) (K : Act → World → Prop) (a : Act) (w : World) : Prop :=
  if Region.wanted o (yielded ops a.tmps) = true then upon P w (fun v w' => K (a.put o.dst v) w') ((execOp a.eval o).run P w) else ∀ w', Ext w w' → K (a.put o.dst undef) w'
theorem upon_mono {w : World} {K K' : Value → World → Prop} (h : ∀ v w', Ext w w' → (∀ w'', Ext w' w'' → K v w'') → K' v w') {r : Result Next} (hr : upon P w K r) : upon P w K' r := by
  cases r with
  | ok n w' =>
    cases n <;> simp only [upon] at hr ⊢
    case value u => exact ⟨hr.1, fun w'' h1 => h _ _ (hr.1.trans h1) fun w3 h2 => hr.2 _ (h1.trans h2)⟩
    case skip => exact ⟨hr.1, fun w'' h1 => h _ _ (hr.1.trans h1) fun w3 h2 => hr.2 _ (h1.trans h2)⟩
    case enter f args => exact hr.mono fun e w'' ⟨v, he, hc, hk⟩ => ⟨v, he, hc, fun w3 h1 => h _ _ (hc.trans h1) fun w4 h2 => hk _ (h1.trans h2)⟩
  | halt x w' => simp only [upon] at hr
theorem op_mono {o : Oper} {K K' : Act → World → Prop} {a : Act} {w : World} (h : ∀ a' w', Ext w w' → (∀ w'', Ext w' w'' → K a' w'') → K' a' w') (ho : op P ops o K a w) : op P ops o K' a w := by
  unfold op at *
  split
  · rename_i hw'; rw [if_pos hw'] at ho
    exact upon_mono (K := fun v w' => K (a.put o.dst v) w') (fun v w' h1 h2 => h _ _ h1 h2) ho
  · rename_i hw'; rw [if_neg hw'] at ho
    exact fun w' h1 => h _ _ h1 fun w'' h2 => ho _ (h1.trans h2)
theorem upon_wp {o : Oper} {K : Act → World → Prop} {a : Act} {w : World} {Q' : Exit → Act → World → Prop} (h : upon P w (fun v w' => K (a.put o.dst v) w') ((execOp a.eval o).run P w)) : o.wp P a w K Q' := by
  unfold Oper.wp
  generalize (execOp a.eval o).run P w = r at *
  cases r with
  | ok n w' =>
    cases n <;> simp only [upon] at h <;> simp only [Oper.upon]
    case value u => exact h.2 _ (Ext.refl _)
    case skip => exact h.2 _ (Ext.refl _)
    case enter f args => exact h.mono fun e w'' ⟨v, he, _, hk⟩ => by subst he; exact hk _ (Ext.refl _)
  | halt x w' => simp only [upon] at h
def any (P : Program) (md : Region.Mode) (ops : Array Oper) (Q : Act → World → Prop) : Nat → Array Bool → Act → World → Prop
  | 0, listed, a, w => Region.ready md ops listed = [] ∧ Q a w
  | fuel + 1, listed, a, w => (Region.ready md ops listed = [] → Q a w) ∧
      ∀ i ∈ Region.ready md ops listed, ∀ o, ops[i]? = some o → op P ops o (any P md ops Q fuel (listed.setIfInBounds i true)) a w
theorem any_sound {Q' : Exit → Act → World → Prop} (hQ : ∀ a w, Q a w → Q' .normal a w) : ∀ (fuel : Nat) (listed : Array Bool) (a : Act) (w : World),
    any P md ops Q fuel listed a w → wpAny P md ops Q' fuel listed a w
  | 0, _, _, _, h => ⟨h.1, hQ _ _ h.2⟩
  | fuel + 1, listed, a, w, h => ⟨fun h0 => hQ _ _ (h.1 h0), fun i hi => by
      obtain ⟨-, o, ho, -⟩ := mem_ready.1 hi
      have h1 := op_mono (K' := wpAny P md ops Q' fuel (listed.setIfInBounds i true)) (fun a' w' _ hk => any_sound hQ fuel _ a' w' (hk _ (Ext.refl _))) (h.2 i hi o ho)
      unfold wpOp
      simp only [ho]
      unfold op at h1
      split
      · rename_i hw'; rw [if_pos hw'] at h1; exact .inl (upon_wp h1)
      · rename_i hw'; rw [if_neg hw'] at h1; exact h1 _ (Ext.refl _)⟩
/-- The operation hands back v in every world grown from w. -/
def Yc (P : Program) (ops : Array Oper) (o : Oper) (v : Value) (a : Act) (w : World) : Prop :=
  (Region.wanted o (yielded ops a.tmps) = true ∧ ∀ w', Ext w w' →
    (∃ w'', (execOp a.eval o).run P w' = .ok (.value v) w'' ∧ Ext w' w'') ∨ ∃ f args w'', (execOp a.eval o).run P w' = .ok (.enter f args) w'' ∧ Calls P f args w'' fun e w3 => e = .returned v ∧ Ext w' w3)
  ∨ (Region.wanted o (yielded ops a.tmps) = false ∧ v = undef)
theorem Yc.grow {o : Oper} {v : Value} {a : Act} {w w' : World} (h : Yc P ops o v a w) (he : Ext w w') : Yc P ops o v a w' := by
  rcases h with ⟨h1, h2⟩ | h
  · exact .inl ⟨h1, fun w'' h3 => h2 _ (he.trans h3)⟩
  · exact .inr h
theorem Yc.op {o : Oper} {v : Value} {a : Act} {w : World} {K : Act → World → Prop} (hy : Yc P ops o v a w) (h : ∀ w', Ext w w' → K (a.put o.dst v) w') : op P ops o K a w := by
  unfold Grow.op
  rcases hy with ⟨h1, h2⟩ | ⟨h1, rfl⟩
  · rw [if_pos h1]
    rcases h2 w (Ext.refl w) with ⟨w'', e, he⟩ | ⟨f, args, w'', e, hc⟩
    · rw [e]; exact ⟨he, fun w3 h3 => h _ (he.trans h3)⟩
    · rw [e]; exact hc.mono fun e' w3 ⟨e1, e2⟩ => ⟨v, e1, e2, fun w4 h4 => h _ (e2.trans h4)⟩
  · rw [if_neg (by simp [h1])]; exact h
theorem op_put {oi oj : Oper} {v : Value} (hap : oi.apart ops oj = true) (hsi : ∀ cs b, oi.op ≠ .select cs b) (hsj : ∀ cs b, oj.op ≠ .select cs b)
    {K : Act → World → Prop} {a : Act} {w : World} (hy : Yc P ops oi v a w) (h : op P ops oj K (a.put oi.dst v) w) :
    op P ops oj (fun a' w' => Yc P ops oi v a' w ∧ K (a'.put oi.dst v) w') a w := by
  obtain ⟨h1, h2, h3⟩ := Oper.apart_spec hap
  have keep : ∀ u, Yc P ops oi v (a.put oj.dst u) w := fun u => by
    unfold Yc at *
    rw [execOp_put oi hsi a oj.dst u h3, wanted_put oi a oj.dst u h3]; exact hy
  unfold op at *
  rw [wanted_put oj a oi.dst v h1, execOp_put oj hsj a oi.dst v h1] at h
  split
  · rename_i hw'; rw [if_pos hw'] at h
    exact upon_mono (K := fun u w' => K ((a.put oi.dst v).put oj.dst u) w') (fun u w' _ hk => ⟨keep u, by rw [← Act.put_comm a v u h2]; exact hk _ (Ext.refl _)⟩) h
  · rename_i hw'; rw [if_neg hw'] at h
    exact fun w' h4 => ⟨keep _, by rw [← Act.put_comm a v undef h2]; exact h _ h4⟩
theorem any_first {i : Nat} {oi : Oper} {v : Value} (hi : ops[i]? = some oi) (hsel : ∀ (j : Nat) (o : Oper) cs b, ops[j]? = some o → o.op ≠ .select cs b) :
    ∀ (fuel : Nat) (listed : Array Bool) (a : Act) (w : World),
      (∀ j oj, ops[j]? = some oj → j ≠ i → listed.getD j true = false → (∀ e ∈ oj.after, Region.binds md e = true → e.on ≠ i) → oi.apart ops oj = true) →
      i ∈ Region.ready md ops listed → Yc P ops oi v a w →
      (∀ w', Ext w w' → any P md ops Q fuel (listed.setIfInBounds i true) (a.put oi.dst v) w') → any P md ops Q (fuel + 1) listed a w := by
  intro fuel
  induction fuel with
  | zero =>
    intro listed a w _ hr hy H
    refine ⟨fun h => (by rw [h] at hr; cases hr), fun j hj oj hoj => ?_⟩
    by_cases hji : j = i
    · subst hji
      obtain rfl : oi = oj := by rw [hi] at hoj; exact Option.some.inj hoj
      exact hy.op H
    · have := ready_mono hj hji
      rw [(H w (Ext.refl w)).1] at this
      cases this
  | succ fuel ih =>
    intro listed a w hfree hr hy H
    refine ⟨fun h => (by rw [h] at hr; cases hr), fun j hj oj hoj => ?_⟩
    by_cases hji : j = i
    · subst hji
      obtain rfl : oi = oj := by rw [hi] at hoj; exact Option.some.inj hoj
      exact hy.op H
    · have h1 := (H w (Ext.refl w)).2 j (ready_mono hj hji) oj hoj
      obtain ⟨hjun, oj', hoj', hall⟩ := mem_ready.1 hj
      obtain rfl : oj = oj' := by rw [hoj] at hoj'; exact Option.some.inj hoj'
      have hnot : ∀ e ∈ oj.after, Region.binds md e = true → e.on ≠ i := fun e he hb heq => by
        have g1 := hall e he hb
        rw [heq, getD_both (mem_ready.1 hr).1] at g1
        cases g1
      have h2 := op_put (hfree j oj hoj hji hjun hnot) (fun cs b => hsel i oi cs b hi) (fun cs b => hsel j oj cs b hoj) hy h1
      refine op_mono (fun a' w' hc h3 => ih (listed.setIfInBounds j true) a' w' (fun k ok hk hki hun hno => hfree k ok hk hki (by
        by_cases hjk : j = k
        · subst hjk; exact hjun
        · rw [getD_set_ne true hjk] at hun; exact hun) hno) (ready_mono hr (Ne.symm hji)) ((h3 _ (Ext.refl _)).1.grow hc) fun w'' h4 => ?_) h2
      rw [Array.setIfInBounds_comm _ _ hji]
      exact (h3 _ h4).2
def seq (P : Program) (ops : Array Oper) (Q : Act → World → Prop) : List (Bool × Oper) → Act → World → Prop
  | [], a, w => Q a w
  | (false, o) :: l, a, w => op P ops o (seq P ops Q l) a w
  | (true, o) :: l, a, w => ∃ v, Yc P ops o v a w ∧ ∀ w', Ext w w' → seq P ops Q l (a.put o.dst v) w'
def heads (P : Program) (ops : Array Oper) (w : World) (K : Act → Prop) : List Oper → Act → Prop
  | [], a => K a
  | o :: l, a => ∃ v, Yc P ops o v a w ∧ heads P ops w K l (a.put o.dst v)
def seqB (md : Region.Mode) (ops : Array Oper) : List (Bool × Nat) → Array Bool → Bool
  | [], listed => (Region.ready md ops listed).isEmpty
  | (false, t) :: ts, listed => decide (Region.ready md ops listed = [t]) && seqB md ops ts (listed.setIfInBounds t true)
  | (true, t) :: ts, listed => (Region.ready md ops listed).contains t && Region.free md ops listed t && seqB md ops ts (listed.setIfInBounds t true)
def headB (md : Region.Mode) (ops : Array Oper) (ts : List (Bool × Nat)) : List Nat → Array Bool → Bool
  | [], listed => seqB md ops ts listed
  | i :: is, listed => (Region.ready md ops listed).contains i && Region.free md ops listed i && headB md ops ts is (listed.setIfInBounds i true)
/-- The operations of these numbers. -/
def pick (l : List Oper) : List Nat → List Oper
  | [] => []
  | i :: is => match l[i]? with
    | some o => o :: pick l is
    | none => pick l is
/-- The same, with a mark each: 'it hands back the same value in whatever grown world'. -/
def pickB (l : List Oper) : List (Bool × Nat) → List (Bool × Oper)
  | [] => []
  | (b, i) :: is => match l[i]? with
    | some o => (b, o) :: pickB l is
    | none => pickB l is
theorem any_of_seq {l : List Oper} (hs : Region.noSelect l.toArray = true) : ∀ (ts : List (Bool × Nat)) (listed : Array Bool) (a : Act) (w : World), seqB md l.toArray ts listed = true → seq P l.toArray Q (pickB l ts) a w → any P md l.toArray Q ts.length listed a w
  | [], _, _, _, hB, h => ⟨by simpa [seqB] using hB, h⟩
  | (false, t) :: ts, listed, a, w, hB, h => by
    simp only [seqB, Bool.and_eq_true, decide_eq_true_eq] at hB
    refine ⟨fun h1 => (by rw [hB.1] at h1; cases h1), fun i hi o ho => ?_⟩
    rw [hB.1] at hi
    obtain rfl : i = t := by simpa using hi
    have ho' : l[i]? = some o := by simpa using ho
    simp only [pickB, ho'] at h
    exact op_mono (fun a' w' _ h' => any_of_seq hs ts _ a' w' hB.2 (h' _ (Ext.refl _))) h
  | (true, t) :: ts, listed, a, w, hB, h => by
    simp only [seqB, Bool.and_eq_true] at hB
    obtain ⟨⟨hr, hf⟩, hB'⟩ := hB
    have hr' : t ∈ Region.ready md l.toArray listed := by simpa using hr
    obtain ⟨-, o, ho, -⟩ := mem_ready.1 hr'
    have ho' : l[t]? = some o := by simpa using ho
    simp only [pickB, ho'] at h
    obtain ⟨v, hy, h⟩ := h
    exact any_first (Q := Q) ho (Region.noSelect_spec hs) ts.length listed a w (Region.free_spec ho hf) hr' hy (fun w'' h2 => any_of_seq hs ts _ _ w'' hB' (h w'' h2))
theorem any_of_heads {l : List Oper} {ts : List (Bool × Nat)} {w : World} (hs : Region.noSelect l.toArray = true) : ∀ (is : List Nat) (listed : Array Bool) (a : Act) (w' : World), Ext w w' →
    headB md l.toArray ts is listed = true → heads P l.toArray w (fun a' => ∀ w'', Ext w w'' → seq P l.toArray Q (pickB l ts) a' w'') (pick l is) a → any P md l.toArray Q (is.length + ts.length) listed a w'
  | [], listed, a, w', he, hB, h => by
    have := any_of_seq hs ts listed a w' (by simpa [headB] using hB) (h w' he)
    simpa using this
  | i :: is, listed, a, w', he, hB, h => by
    simp only [headB, Bool.and_eq_true] at hB
    obtain ⟨⟨hr, hf⟩, hB'⟩ := hB
    have hr' : i ∈ Region.ready md l.toArray listed := by simpa using hr
    obtain ⟨-, o, ho, -⟩ := mem_ready.1 hr'
    have ho' : l[i]? = some o := by simpa using ho
    simp only [pick, ho'] at h
    obtain ⟨v, hy, h⟩ := h
    have := any_first (Q := Q) ho (Region.noSelect_spec hs) (is.length + ts.length) listed a w' (Region.free_spec ho hf) hr' (hy.grow he)
      (fun w'' h2 => any_of_heads hs is _ _ w'' (he.trans h2) hB' h)
    rw [show (i :: is).length + ts.length = is.length + ts.length + 1 by simp only [List.length_cons]; omega]
    exact this
def okB (ops : Array Oper) (hs : List Nat) (ts : List (Bool × Nat)) : Bool := Region.noSelect ops && headB .any ops ts hs (Array.replicate ops.size false) && decide (hs.length + ts.length = ops.size)
theorem region {id : Nat} {Q : Exit → Act → World → Prop} {a : Act} {w : World} {l : List Oper} (hs : List Nat) (ts : List (Bool × Nat)) (hm : P.follows .mixedOrders = true) (hB : okB l.toArray hs ts = true)
    (h : heads P l.toArray w (fun a' => ∀ w'', Ext w w'' → seq P l.toArray (Q .normal) (pickB l ts) a' w'') (pick l hs) a) : (Code.region id l.toArray true).wp P Q a w := by
  simp only [okB, Bool.and_eq_true, decide_eq_true_eq] at hB
  obtain ⟨⟨hsel, hh⟩, hn⟩ := hB
  refine wp_region_any hm (any_sound (Q := Q .normal) (fun _ _ h => h) _ _ _ _ ?_)
  have := any_of_heads (md := .any) (Q := Q .normal) (w := w) hsel hs (Array.replicate l.toArray.size false) a w.drew ((Ext.refl _).drew) hh h
  rw [hn] at this
  exact this
theorem heads_nil {K : Act → Prop} {a : Act} {w : World} (h : K a) : heads P ops w K [] a := h
theorem heads_step {K : Act → Prop} {o : Oper} {l : List Oper} {a : Act} {w : World} (h : ∀ K' : Act → Prop, (∀ a, heads P ops w K l a → K' a) → Region.wanted o (yielded ops a.tmps) = true ∧ ∃ v, (∀ w', Ext w w' → (execOp a.eval o).run P w' = .ok (.value v) w') ∧ K' (a.put o.dst v)) :
    heads P ops w K (o :: l) a := by
  obtain ⟨h1, v, h2, h3⟩ := h _ (fun _ h => h)
  exact ⟨v, .inl ⟨h1, fun w' hw => .inl ⟨_, h2 w' hw, Ext.refl _⟩⟩, h3⟩
theorem heads_skip {K : Act → Prop} {o : Oper} {l : List Oper} {a : Act} {w : World} (h : ∀ K' : Act → Prop, (∀ a, heads P ops w K l a → K' a) → Region.wanted o (yielded ops a.tmps) = false ∧ K' (a.put o.dst undef)) :
    heads P ops w K (o :: l) a := by
  obtain ⟨h1, h3⟩ := h _ (fun _ h => h)
  exact ⟨undef, .inr ⟨h1, rfl⟩, h3⟩
theorem heads_call {K : Act → Prop} {o : Oper} {l : List Oper} {a : Act} {w : World} (f : FuncId) (args : Array Value) (v : Value) (h : ∀ K' : Act → Prop, (∀ a, heads P ops w K l a → K' a) → Region.wanted o (yielded ops a.tmps) = true ∧ (∀ w', Ext w w' → (execOp a.eval o).run P w' = .ok (.enter f args) w') ∧ (∀ w', Ext w w' → Gives P f args w' v) ∧ K' (a.put o.dst v)) :
    heads P ops w K (o :: l) a := by
  obtain ⟨h1, h2, h3, h4⟩ := h _ (fun _ h => h)
  exact ⟨v, .inl ⟨h1, fun w' hw => .inr ⟨_, _, _, h2 w' hw, h3 w' hw⟩⟩, h4⟩
theorem seq_nil {a : Act} {w : World} (h : Q a w) : seq P ops Q [] a w := h
theorem seq_step {o : Oper} {l : List (Bool × Oper)} {a : Act} {w : World} (h : ∀ K' : Act → World → Prop, (∀ a w, seq P ops Q l a w → K' a w) → Region.wanted o (yielded ops a.tmps) = true ∧ upon P w (fun v w' => K' (a.put o.dst v) w') ((execOp a.eval o).run P w)) :
    seq P ops Q ((false, o) :: l) a w := by
  obtain ⟨h1, h2⟩ := h _ (fun _ _ h => h)
  show op _ _ _ _ _ _
  unfold op; rw [if_pos h1]; exact h2
theorem seq_pure {o : Oper} {l : List (Bool × Oper)} {a : Act} {w : World} (h : ∀ K' : Act → World → Prop, (∀ a w, seq P ops Q l a w → K' a w) → Region.wanted o (yielded ops a.tmps) = true ∧ ∃ v, (∀ w', Ext w w' → (execOp a.eval o).run P w' = .ok (.value v) w') ∧ ∀ w', Ext w w' → K' (a.put o.dst v) w') :
    seq P ops Q ((true, o) :: l) a w := by
  obtain ⟨h1, v, h2, h3⟩ := h _ (fun _ _ h => h)
  exact ⟨v, .inl ⟨h1, fun w' hw => .inl ⟨_, h2 w' hw, Ext.refl _⟩⟩, h3⟩
theorem seq_pcall {o : Oper} {l : List (Bool × Oper)} {a : Act} {w : World} (f : FuncId) (args : Array Value) (v : Value) (h : ∀ K' : Act → World → Prop, (∀ a w, seq P ops Q l a w → K' a w) → Region.wanted o (yielded ops a.tmps) = true ∧ (∀ w', Ext w w' → (execOp a.eval o).run P w' = .ok (.enter f args) w') ∧ (∀ w', Ext w w' → Gives P f args w' v) ∧ ∀ w', Ext w w' → K' (a.put o.dst v) w') :
    seq P ops Q ((true, o) :: l) a w := by
  obtain ⟨h1, h2, h3, h4⟩ := h _ (fun _ _ h => h)
  exact ⟨v, .inl ⟨h1, fun w' hw => .inr ⟨_, _, _, h2 w' hw, h3 w' hw⟩⟩, h4⟩
/-! ### A tail that may write: the operations from number n on come last and one after the other, and are walked as ever -/
theorem wpOp_of_op {Q' : Exit → Act → World → Prop} {i : Nat} {o : Oper} {K : Act → World → Prop} {a : Act} {w : World} (ho : ops[i]? = some o) (h1 : op P ops o K a w) : wpOp P ops Q' i K a w := by
  unfold wpOp
  simp only [ho]
  unfold op at h1
  split
  · rename_i hw'; rw [if_pos hw'] at h1; exact .inl (upon_wp h1)
  · rename_i hw'; rw [if_neg hw'] at h1; exact h1 _ (Ext.refl _)
def anyL (P : Program) (md : Region.Mode) (ops : Array Oper) (n : Nat) (L : Array Bool → Act → World → Prop) : Nat → Array Bool → Act → World → Prop
  | 0, listed, a, w => L listed a w
  | f + 1, listed, a, w => Region.ready md ops listed ≠ [] ∧ ∀ i ∈ Region.ready md ops listed, i < n ∧ ∀ o, ops[i]? = some o → op P ops o (anyL P md ops n L f (listed.setIfInBounds i true)) a w
theorem wpAny_of_anyL {n g : Nat} {L : Array Bool → Act → World → Prop} {Q' : Exit → Act → World → Prop} (hL : ∀ listed a w, L listed a w → wpAny P md ops Q' g listed a w) :
    ∀ (f : Nat) (listed : Array Bool) (a : Act) (w : World), anyL P md ops n L f listed a w → wpAny P md ops Q' (f + g) listed a w
  | 0, listed, a, w, h => by rw [Nat.zero_add]; exact hL _ _ _ h
  | f + 1, listed, a, w, h => by
    rw [show f + 1 + g = (f + g) + 1 by omega]
    exact ⟨fun h0 => absurd h0 h.1, fun i hi => by
      obtain ⟨-, o, ho, -⟩ := mem_ready.1 hi
      exact wpOp_of_op ho (op_mono (K' := wpAny P md ops Q' (f + g) (listed.setIfInBounds i true)) (fun a' w' _ hk => wpAny_of_anyL hL f _ a' w' (hk _ (Ext.refl _))) ((h.2 i hi).2 o ho))⟩
theorem anyL_first {n i : Nat} {oi : Oper} {v : Value} {L : Array Bool → Act → World → Prop} (hi : ops[i]? = some oi) (hsel : ∀ (j : Nat) (o : Oper) cs b, ops[j]? = some o → o.op ≠ .select cs b)
    (hs : Region.sinkB md ops n = true) (hc : Region.chainB md ops n = true) (hn : n < ops.size) (hin : i < n) (hdone : ∀ listed a w, L listed a w → ∀ j ∈ Region.ready md ops listed, n ≤ j) :
    ∀ (f : Nat) (listed : Array Bool) (a : Act) (w : World), HeadInv md ops n listed →
      (∀ j oj, ops[j]? = some oj → j ≠ i → listed.getD j true = false → (∀ e ∈ oj.after, Region.binds md e = true → e.on ≠ i) → oi.apart ops oj = true) →
      i ∈ Region.ready md ops listed → Yc P ops oi v a w →
      (∀ w', Ext w w' → anyL P md ops n L f (listed.setIfInBounds i true) (a.put oi.dst v) w') → anyL P md ops n L (f + 1) listed a w := by
  intro f
  induction f with
  | zero =>
    intro listed a w inv _ hr hy H
    have hun := (mem_ready.1 hr).1
    refine ⟨fun h => (by rw [h] at hr; cases hr), fun j hj => ?_⟩
    have hjn : j < n := by
      rcases Nat.lt_or_ge j n with h | h
      · exact h
      · exact absurd hj (tail_waits hs hc hn inv _ i rfl hin hun j h)
    refine ⟨hjn, fun oj hoj => ?_⟩
    by_cases hji : j = i
    · subst hji
      obtain rfl : oi = oj := by rw [hi] at hoj; exact Option.some.inj hoj
      exact hy.op H
    · have := hdone _ _ _ (H w (Ext.refl w)) j (ready_mono hj hji)
      omega
  | succ f ih =>
    intro listed a w inv hfree hr hy H
    have hun := (mem_ready.1 hr).1
    refine ⟨fun h => (by rw [h] at hr; cases hr), fun j hj => ?_⟩
    have hjn : j < n := by
      rcases Nat.lt_or_ge j n with h | h
      · exact h
      · exact absurd hj (tail_waits hs hc hn inv _ i rfl hin hun j h)
    refine ⟨hjn, fun oj hoj => ?_⟩
    by_cases hji : j = i
    · subst hji
      obtain rfl : oi = oj := by rw [hi] at hoj; exact Option.some.inj hoj
      exact hy.op H
    · have h1 := ((H w (Ext.refl w)).2 j (ready_mono hj hji)).2 oj hoj
      obtain ⟨hjun, oj', hoj', hall⟩ := mem_ready.1 hj
      obtain rfl : oj = oj' := by rw [hoj] at hoj'; exact Option.some.inj hoj'
      have hnot : ∀ e ∈ oj.after, Region.binds md e = true → e.on ≠ i := fun e he hb heq => by
        have g1 := hall e he hb
        rw [heq, getD_both hun] at g1
        cases g1
      have h2 := op_put (hfree j oj hoj hji hjun hnot) (fun cs b => hsel i oi cs b hi) (fun cs b => hsel j oj cs b hoj) hy h1
      refine op_mono (fun a' w' hc' h3 => ih (listed.setIfInBounds j true) a' w' (inv.set hj hjn) (fun k ok hk hki hun' hno => hfree k ok hk hki (by
        by_cases hjk : j = k
        · subst hjk; exact hjun
        · rw [getD_set_ne true hjk] at hun'; exact hun') hno) (ready_mono hr (Ne.symm hji)) ((h3 _ (Ext.refl _)).1.grow hc') fun w'' h4 => ?_) h2
      rw [Array.setIfInBounds_comm _ _ hji]
      exact (h3 _ h4).2
def stepB (md : Region.Mode) (ops : Array Oper) (n : Nat) : List (Bool × Nat) → Array Bool → Bool
  | [], listed => Region.seqB md ops (ops.size - n) n listed
  | (false, t) :: ts, listed => decide (Region.ready md ops listed = [t]) && decide (t < n) && stepB md ops n ts (listed.setIfInBounds t true)
  | (true, t) :: ts, listed => (Region.ready md ops listed).contains t && Region.free md ops listed t && decide (t < n) && stepB md ops n ts (listed.setIfInBounds t true)
def firstB (md : Region.Mode) (ops : Array Oper) (n : Nat) (ts : List (Bool × Nat)) : List Nat → Array Bool → Bool
  | [], listed => stepB md ops n ts listed
  | i :: is, listed => (Region.ready md ops listed).contains i && Region.free md ops listed i && decide (i < n) && firstB md ops n ts is (listed.setIfInBounds i true)
def tailB (md : Region.Mode) (ops : Array Oper) (n : Nat) (hs : List Nat) (ts : List (Bool × Nat)) : Bool :=
  Region.noSelect ops && decide (n < ops.size) && Region.sinkB md ops n && Region.chainB md ops n && decide (hs.length + ts.length = n) && firstB md ops n ts hs (Array.replicate ops.size false)
def tailL (P : Program) (md : Region.Mode) (l : List Oper) (n : Nat) (Q : Exit → Act → World → Prop) (listed : Array Bool) (a : Act) (w : World) : Prop :=
  Region.seqB md l.toArray (l.toArray.size - n) n listed = true ∧ wpList P l.toArray Q (l.drop n) a w
theorem anyL_of_seq {l : List Oper} {n : Nat} {Q : Exit → Act → World → Prop} (hsel : Region.noSelect l.toArray = true) (hs : Region.sinkB md l.toArray n = true) (hc : Region.chainB md l.toArray n = true) (hn : n < l.toArray.size) :
    ∀ (ts : List (Bool × Nat)) (listed : Array Bool) (a : Act) (w : World), HeadInv md l.toArray n listed → stepB md l.toArray n ts listed = true →
      seq P l.toArray (fun a w => wpList P l.toArray Q (l.drop n) a w) (pickB l ts) a w → anyL P md l.toArray n (tailL P md l n Q) ts.length listed a w
  | [], _, _, _, _, hB, h => ⟨hB, h⟩
  | (false, t) :: ts, listed, a, w, inv, hB, h => by
    simp only [stepB, Bool.and_eq_true, decide_eq_true_eq] at hB
    obtain ⟨⟨hr, htn⟩, hB'⟩ := hB
    have hmem : t ∈ Region.ready md l.toArray listed := by rw [hr]; simp
    refine ⟨fun h1 => (by rw [hr] at h1; cases h1), fun i hi => ?_⟩
    rw [hr] at hi
    obtain rfl : i = t := by simpa using hi
    refine ⟨htn, fun o ho => ?_⟩
    have ho' : l[i]? = some o := by simpa using ho
    simp only [pickB, ho'] at h
    exact op_mono (fun a' w' _ h' => anyL_of_seq hsel hs hc hn ts _ a' w' (inv.set hmem htn) hB' (h' _ (Ext.refl _))) h
  | (true, t) :: ts, listed, a, w, inv, hB, h => by
    simp only [stepB, Bool.and_eq_true, decide_eq_true_eq] at hB
    obtain ⟨⟨⟨hr, hf⟩, htn⟩, hB'⟩ := hB
    have hr' : t ∈ Region.ready md l.toArray listed := by simpa using hr
    obtain ⟨-, o, ho, -⟩ := mem_ready.1 hr'
    have ho' : l[t]? = some o := by simpa using ho
    simp only [pickB, ho'] at h
    obtain ⟨v, hy, h⟩ := h
    exact anyL_first ho (Region.noSelect_spec hsel) hs hc hn htn (fun _ _ _ h => seqB_ready h.1) ts.length listed a w inv (Region.free_spec ho hf) hr' hy (fun w'' h2 => anyL_of_seq hsel hs hc hn ts _ _ w'' (inv.set hr' htn) hB' (h w'' h2))
theorem anyL_of_heads {l : List Oper} {n : Nat} {ts : List (Bool × Nat)} {Q : Exit → Act → World → Prop} {w : World} (hsel : Region.noSelect l.toArray = true) (hs : Region.sinkB md l.toArray n = true) (hc : Region.chainB md l.toArray n = true) (hn : n < l.toArray.size) :
    ∀ (is : List Nat) (listed : Array Bool) (a : Act) (w' : World), Ext w w' → HeadInv md l.toArray n listed → firstB md l.toArray n ts is listed = true →
      heads P l.toArray w (fun a' => ∀ w'', Ext w w'' → seq P l.toArray (fun a w => wpList P l.toArray Q (l.drop n) a w) (pickB l ts) a' w'') (pick l is) a → anyL P md l.toArray n (tailL P md l n Q) (is.length + ts.length) listed a w'
  | [], listed, a, w', he, inv, hB, h => by
    have := anyL_of_seq (Q := Q) hsel hs hc hn ts listed a w' inv (by simpa [firstB] using hB) (h w' he)
    simpa using this
  | i :: is, listed, a, w', he, inv, hB, h => by
    simp only [firstB, Bool.and_eq_true, decide_eq_true_eq] at hB
    obtain ⟨⟨⟨hr, hf⟩, hin⟩, hB'⟩ := hB
    have hr' : i ∈ Region.ready md l.toArray listed := by simpa using hr
    obtain ⟨-, o, ho, -⟩ := mem_ready.1 hr'
    have ho' : l[i]? = some o := by simpa using ho
    simp only [pick, ho'] at h
    obtain ⟨v, hy, h⟩ := h
    have := anyL_first ho (Region.noSelect_spec hsel) hs hc hn hin (fun _ _ _ h => seqB_ready h.1) (is.length + ts.length) listed a w' inv (Region.free_spec ho hf) hr' (hy.grow he)
      (fun w'' h2 => anyL_of_heads hsel hs hc hn is _ _ w'' (he.trans h2) (inv.set hr' hin) hB' h)
    rw [show (i :: is).length + ts.length = is.length + ts.length + 1 by simp only [List.length_cons]; omega]
    exact this
theorem region_tail {id : Nat} {Q : Exit → Act → World → Prop} {a : Act} {w : World} {l : List Oper} (n : Nat) (hs : List Nat) (ts : List (Bool × Nat)) (hm : P.follows .mixedOrders = true) (hB : tailB .any l.toArray n hs ts = true)
    (h : heads P l.toArray w (fun a' => ∀ w'', Ext w w'' → seq P l.toArray (fun a w => wpList P l.toArray Q (l.drop n) a w) (pickB l ts) a' w'') (pick l hs) a) : (Code.region id l.toArray true).wp P Q a w := by
  simp only [tailB, Bool.and_eq_true, decide_eq_true_eq] at hB
  obtain ⟨⟨⟨⟨⟨hsel, hn⟩, hsk⟩, hch⟩, hlen⟩, hf⟩ := hB
  have inv : HeadInv .any l.toArray n (Array.replicate l.toArray.size false) := by
    refine ⟨by simp, fun j oj _ hl => ?_, fun t _ ht => ?_⟩
    · rw [getD_replicate_false] at hl; cases hl
    · have ht' : t < l.length := by simpa using ht
      simp [ht']
  have h1 := anyL_of_heads (P := P) (md := .any) (Q := Q) (w := w) hsel hsk hch hn hs _ a w.drew ((Ext.refl w).drew) inv hf h
  rw [hlen] at h1
  refine wp_region_any hm ?_
  have h2 := wpAny_of_anyL (L := tailL P .any l n Q) (g := l.toArray.size - n) (Q' := Q) (fun listed a w ⟨hB, hw⟩ => by
    have e : (l.drop n).length = l.toArray.size - n := by simp
    have := wpAny_of_seq (P := P) (ops := l.toArray) (md := .any) (Q' := Q) (l.drop n) n listed a w (fun j => by simp [List.getElem?_drop]) (by rw [e]; exact hB) hw
    rwa [e] at this) n _ a w.drew h1
  rw [show n + (l.toArray.size - n) = l.toArray.size by omega] at h2
  exact h2
/-- A call at which the world grows. -/
theorem gives_upon {f : FuncId} {args : Array Value} {w : World} {v : Value} {K : Value → World → Prop} (h : Gives P f args w v) (hk : ∀ w', Ext w w' → K v w') : upon P w K (.ok (.enter f args) w) :=
  Calls.mono h fun _ _ ⟨he, hw⟩ => ⟨v, he, hw, fun _ h3 => hk _ (hw.trans h3)⟩
end Grow
end Go.Proofs.YtmkmmenkjbmppaaDoor
