/- A list of versions that a call builds: it grows by one version, with a state of its own, at a time. -/
import Derived.Test.YtbcpgdidajapoaaDoorVrs
import Derived.Test.YtbcpgdidajapoaaDoorSrch
import Derived.Test.YtbcpgdidajapoaaDoorAdd
import Derived.Lib.LazyBuf
namespace Go.Proofs.YtbcpgdidajapoaaDoor
open Go.RowKit
abbrev VersionAt (w : World) (a : Option Addr) (l : List Version) : Prop := RowsAt 4 Version.cell w a l
theorem elVersion : El Tryd.prog 24 48 4 56 := El.mk' Tryd.underlying24 (by kernel_rfl) (by decide)
theorem oneVersion : ∀ (x : Version) (j : Nat), j < 4 → (Version.cell x j).oneCell' = true := by
  intro x j hj
  rcases (show j = 0 ∨ j = 1 ∨ j = 2 ∨ j = 3 by omega) with rfl | rfl | rfl | rfl <;> rfl
theorem elSetting : El Tryd.prog 26 57 2 24 := El.mk' Tryd.underlying26 (by kernel_rfl) (by decide)
theorem oneSetting : ∀ (x : Setting) (j : Nat), j < 2 → (Setting.cell x j).oneCell' = true := by
  intro x j hj
  rcases (show j = 0 ∨ j = 1 by omega) with rfl | rfl <;> rfl
set_option maxRecDepth 100000 in
set_option maxHeartbeats 4000000 in
theorem CloneVersion_any (a : Option Addr) (cap : Nat) (l : List Version) (w : World) (H : VersionAt w a l) (hlen : l.length ≤ 1048576) :
    Calls Tryd.prog 58 #[.slice a l.length cap] w fun e w' => ∃ v, e = .returned v ∧ Lst 48 4 Version.cell w' w.heap.size v l ∧ Ext w w' := by
  cases a with
  | none =>
    have h0 : l = [] := by
      cases l with
      | nil => rfl
      | cons x r => obtain ⟨b, off, h⟩ := H.base (show 0 < (x :: r).length by simp); cases h
    subst h0
    clear H
    have hq := Lib.hid (fun (w : World) => run_eql_slice_nil (P := Tryd.prog) w 24 48 none 0 cap Tryd.underlying24)
    go_enter Tryd.func58, Tryd.ntmps58
    go_wp2_with (simp only [hq.out])
    go_ret
    exact ⟨_, rfl, Lst.nil _ _, Ext.refl _⟩
  | some ad =>
    have HO := Lib.hid (Lst.new (T := 48) (n := 4) (cell := Version.cell) w w.heap.size (Nat.le_refl _))
    have HR := Lib.hid (RowsAt.ext H ((Ext.refl w).alloc (.cells #[] 48)))
    clear H
    obtain ⟨ab, ao, asp⟩ := ad
    have hq := Lib.hid (fun (w : World) => run_eql_slice_nil (P := Tryd.prog) w 24 48 (some ⟨ab, ao, asp⟩) l.length cap Tryd.underlying24)
    have C1 : Hid (([] : List Version).length + l.length ≤ 9223372036854775807) := by show _ ≤ _; rw [List.length_nil]; omega
    have C2 : Hid ((([] : List Version).length + l.length) * 56 ≤ 140737488355328) := by show _ ≤ _; rw [List.length_nil]; omega
    have hb : Hid (w.heap.size ≤ (w.alloc (.cells #[] 48)).heap.size) := by show _ ≤ _; rw [size_new]; omega
    go_enter Tryd.func58, Tryd.ntmps58
    go_wp2_with (first | (at_builtin; refine wpList_pushL elVersion oneVersion rfl _ _ rfl w.heap.size _ [] rfl HO.out ⟨ab, ao, asp⟩ l.length cap l rfl rfl HR.out C1.out C2.out hb.out ?_; intro v' w1 HL1 hs1 _) | (simp only [hq.out]))
    have HL2 := Lib.hid HL1
    have hs2 := Lib.hid hs1
    clear HL1 hs1
    go_wp2_with fail
    go_ret
    exact ⟨v', rfl, HL2.out, hs2.out.ext ((Ext.refl w).alloc _) (Nat.le_refl _)⟩
set_option maxRecDepth 100000 in
set_option maxHeartbeats 4000000 in
theorem CloneSetting_any (a : Option Addr) (cap : Nat) (l : List Setting) (w : World) (H : SettingAt w a l) (hlen : l.length ≤ 1048576) :
    Calls Tryd.prog 29 #[.slice a l.length cap] w fun e w' => ∃ v, e = .returned v ∧ Lst 57 2 Setting.cell w' w.heap.size v l ∧ Ext w w' := by
  cases a with
  | none =>
    have h0 : l = [] := by
      cases l with
      | nil => rfl
      | cons x r => obtain ⟨b, off, h⟩ := H.base (show 0 < (x :: r).length by simp); cases h
    subst h0
    clear H
    have hq := Lib.hid (fun (w : World) => run_eql_slice_nil (P := Tryd.prog) w 26 57 none 0 cap Tryd.underlying26)
    go_enter Tryd.func29, Tryd.ntmps29
    go_wp2_with (simp only [hq.out])
    go_ret
    exact ⟨_, rfl, Lst.nil _ _, Ext.refl _⟩
  | some ad =>
    have HO := Lib.hid (Lst.new (T := 57) (n := 2) (cell := Setting.cell) w w.heap.size (Nat.le_refl _))
    have HR := Lib.hid (RowsAt.ext H ((Ext.refl w).alloc (.cells #[] 57)))
    clear H
    obtain ⟨ab, ao, asp⟩ := ad
    have hq := Lib.hid (fun (w : World) => run_eql_slice_nil (P := Tryd.prog) w 26 57 (some ⟨ab, ao, asp⟩) l.length cap Tryd.underlying26)
    have C1 : Hid (([] : List Setting).length + l.length ≤ 9223372036854775807) := by show _ ≤ _; rw [List.length_nil]; omega
    have C2 : Hid ((([] : List Setting).length + l.length) * 24 ≤ 140737488355328) := by show _ ≤ _; rw [List.length_nil]; omega
    have hb : Hid (w.heap.size ≤ (w.alloc (.cells #[] 57)).heap.size) := by show _ ≤ _; rw [size_new]; omega
    go_enter Tryd.func29, Tryd.ntmps29
    go_wp2_with (first | (at_builtin; refine wpList_pushL elSetting oneSetting rfl _ _ rfl w.heap.size _ [] rfl HO.out ⟨ab, ao, asp⟩ l.length cap l rfl rfl HR.out C1.out C2.out hb.out ?_; intro v' w1 HL1 hs1 _) | (simp only [hq.out]))
    have HL2 := Lib.hid HL1
    have hs2 := Lib.hid hs1
    clear HL1 hs1
    go_wp2_with fail
    go_ret
    exact ⟨v', rfl, HL2.out, hs2.out.ext ((Ext.refl w).alloc _) (Nat.le_refl _)⟩
/-- v is a list of versions of the call's own. -/
structure VGrow (w : World) (base : Nat) (v : Value) (l : List Version) : Prop where
  lst : Lst 48 4 Version.cell w base v l
  inn : ∀ k, k < l.length → Own w base 57 2 (nth l k).addr (nth l k).state.length
  row : ∀ k, k < l.length → SettingAt w (nth l k).addr (nth l k).state
  cap : ∀ k, k < l.length → (nth l k).state.length ≤ (nth l k).cap
  far : ∀ k, k < l.length → ∀ g o s, ownA (nth l k).state.length (nth l k).addr = some ⟨g, o, s⟩ → v.ownBlock ≠ some g
  apart : ∀ i j, i < l.length → j < l.length → i ≠ j → ∀ g o s g' o' s', ownA (nth l i).state.length (nth l i).addr = some ⟨g, o, s⟩ → ownA (nth l j).state.length (nth l j).addr = some ⟨g', o', s'⟩ → g ≠ g'
theorem Own.grown {w w' : World} {base T m n : Nat} {a : Option Addr} {row : Option Nat} (h : Own w base T m a n) (hg : w.grownBy w' row) (hne : ∀ g o s, ownA n a = some ⟨g, o, s⟩ → row ≠ some g) : Own w' base T m a n := by
  rcases Nat.eq_zero_or_pos n with h0 | h0
  · exact .inl h0
  · rcases h with h | ⟨g, N, e, hb, hB, hn⟩
    · exact .inl h
    · exact .inr ⟨g, N, e, hb, hB.grown hg (hne g 0 none (by rw [ownA_pos h0, e])), hn⟩
theorem RowsAt.grownO {α : Type} [Inhabited α] {m : Nat} {cell : α → Nat → Value} {w w' : World} {a : Option Addr} {l : List α} {row : Option Nat} (h : RowsAt m cell w a l) (hg : w.grownBy w' row) (hne : ∀ g o s, ownA l.length a = some ⟨g, o, s⟩ → row ≠ some g) : RowsAt m cell w' a l := fun k hk => by
  obtain ⟨b, off, e, hb, hc⟩ := h k hk
  exact ⟨b, off, e, Nat.lt_of_lt_of_le hb hg.size, fun j hj => cell_grown (hc j hj) hg (hne b off none (by rw [ownA_pos (by omega), e]))⟩
section
variable {w w' : World} {base : Nat} {v : Value} {l : List Version}
theorem VGrow.none0 {v : Value} (h : Lst 48 4 Version.cell w base v []) : VGrow w base v [] :=
  ⟨h, fun _ h => absurd h (Nat.not_lt_zero _), fun _ h => absurd h (Nat.not_lt_zero _), fun _ h => absurd h (Nat.not_lt_zero _), fun _ h => absurd h (Nat.not_lt_zero _), fun _ _ h => absurd h (Nat.not_lt_zero _)⟩
theorem VGrow.ext (h : VGrow w base v l) (he : Ext w w') : VGrow w' base v l :=
  ⟨h.lst.ext he, fun k hk => (h.inn k hk).ext he, fun k hk => RowsAt.ext (h.row k hk) he, h.cap, h.far, h.apart⟩
/-- A version, its state in a block of its own, has been appended. -/
theorem VGrow.push {W w3 : World} {v3 : Value} {x : Version} (h : VGrow w base v l) (hb : base ≤ w.heap.size) (hE : Ext w W) (hO : Own W w.heap.size 57 2 x.addr x.state.length) (hR : SettingAt W x.addr x.state) (hcp : x.state.length ≤ x.cap)
    (hL : Lst 48 4 Version.cell w3 base v3 (l ++ [x])) (hgr : W.grownBy w3 v.ownBlock) (hat : v3.ownBlock = v.ownBlock ∨ v3.ownBlock = some W.heap.size) : VGrow w3 base v3 (l ++ [x]) := by
  have hsp : ∀ k, k < (l ++ [x]).length → k < l.length ∨ k = l.length := fun k hk => by rw [List.length_append] at hk; simp only [List.length_cons, List.length_nil] at hk; omega
  have hlt : ∀ k, k < l.length → ∀ g o s, ownA (nth l k).state.length (nth l k).addr = some ⟨g, o, s⟩ → g < w.heap.size := fun k hk g o s e => ((h.inn k hk).block e).2
  have hvne : ∀ g o s, ownA x.state.length x.addr = some ⟨g, o, s⟩ → v.ownBlock ≠ some g := fun g o s e e2 => by
    have := h.lst.lt _ e2
    have := (hO.block e).1
    omega
  refine ⟨hL, fun k hk => ?_, fun k hk => ?_, fun k hk => ?_, fun k hk g o s e => ?_, fun i j hi hj hij g o s g' o' s' e e' => ?_⟩
  · rcases hsp k hk with h1 | rfl
    · rw [nth_pre h1]; exact ((h.inn k h1).ext hE).grown hgr (h.far k h1)
    · rw [nth_last]; exact (hO.grown hgr hvne).low hb
  · rcases hsp k hk with h1 | rfl
    · rw [nth_pre h1]; exact RowsAt.grownO (RowsAt.ext (h.row k h1) hE) hgr (h.far k h1)
    · rw [nth_last]; exact RowsAt.grownO hR hgr hvne
  · rcases hsp k hk with h1 | rfl
    · rw [nth_pre h1]; exact h.cap k h1
    · rw [nth_last]; exact hcp
  · rcases hsp k hk with h1 | rfl
    · rw [nth_pre h1] at e
      have := hlt k h1 g o s e
      have := hE.size
      rcases hat with e2 | e2
      · rw [e2]; exact h.far k h1 g o s e
      · rw [e2]; intro e3; simp only [Option.some.injEq] at e3; omega
    · rw [nth_last] at e
      have := (hO.block e).2
      rcases hat with e2 | e2
      · rw [e2]; exact hvne g o s e
      · rw [e2]; intro e3; simp only [Option.some.injEq] at e3; omega
  · rcases hsp i hi with h1 | rfl <;> rcases hsp j hj with h2 | rfl
    · rw [nth_pre h1] at e; rw [nth_pre h2] at e'
      exact h.apart i j h1 h2 hij g o s g' o' s' e e'
    · rw [nth_pre h1] at e; rw [nth_last] at e'
      have := hlt i h1 g o s e
      have := (hO.block e').1
      omega
    · rw [nth_last] at e; rw [nth_pre h2] at e'
      have := hlt j h2 g' o' s' e'
      have := (hO.block e).1
      omega
    · omega
/-- As a result. -/
theorem VGrow.out (h : VGrow w base v l) : ∃ a cap, v = .slice a l.length cap ∧ l.length ≤ cap ∧ VRes w base a l := by
  obtain ⟨a, cap, rfl, hc, hm, hR, hO⟩ := h.lst.shape
  refine ⟨a, cap, rfl, hc, ⟨⟨hR, h.row, h.cap⟩, ⟨hO, fun k hk g e => ?_, h.inn, fun k hk g o s e g' o' s' e' => ?_, h.apart⟩⟩⟩
  · subst e
    have := (RowsAt.at hR k hk).2 3 (by omega)
    rw [Nat.zero_add] at this
    exact this
  · have := h.far k hk g o s e
    subst e'
    simp only [Value.ownBlock] at this
    intro e2; exact this (by rw [e2])
end
/-- A call that hands back a list of versions that can be read, and further values. -/
def OutVR (w : World) (P : List VerP) (rest : List Value) (e : Ending) (w' : World) : Prop :=
  ∃ a cap l, e = .returned (.tuple (.slice a (List.length l) cap :: rest).toArray) ∧ strips l = P ∧ l.length ≤ cap ∧ VersAt w' a l ∧ Ext w w'
/-- A call that hands back a list of versions of its own, and further values. -/
def OutVS (w : World) (P : List VerP) (rest : List Value) (e : Ending) (w' : World) : Prop :=
  ∃ a cap l, e = .returned (.tuple (.slice a (List.length l) cap :: rest).toArray) ∧ strips l = P ∧ l.length ≤ cap ∧ VRes w' w.heap.size a l ∧ Ext w w'
theorem OutVS.read {w w' : World} {P : List VerP} {rest : List Value} {e : Ending} (h : OutVS w P rest e w') : OutVR w P rest e w' := by
  obtain ⟨a, cap, l, h1, h2, h3, h4, h5⟩ := h; exact ⟨a, cap, l, h1, h2, h3, h4.at', h5⟩
theorem VRes.nil (w : World) (base : Nat) (a : Option Addr) : VRes w base a [] :=
  ⟨⟨RowsAt.nil, fun _ h => absurd h (Nat.not_lt_zero _), fun _ h => absurd h (Nat.not_lt_zero _)⟩, ⟨.inl rfl, fun _ h => absurd h (Nat.not_lt_zero _), fun _ h => absurd h (Nat.not_lt_zero _), fun _ h => absurd h (Nat.not_lt_zero _), fun _ _ h => absurd h (Nat.not_lt_zero _)⟩⟩
theorem OutVS.nil {w w' : World} {rest : List Value} {e : Ending} (a : Option Addr) (cap : Nat) (he : e = .returned (.tuple (.slice a 0 cap :: rest).toArray)) (hE : Ext w w') : OutVS w [] rest e w' :=
  ⟨a, cap, [], he, rfl, Nat.zero_le _, VRes.nil _ _ _, hE⟩
end Go.Proofs.YtbcpgdidajapoaaDoor
