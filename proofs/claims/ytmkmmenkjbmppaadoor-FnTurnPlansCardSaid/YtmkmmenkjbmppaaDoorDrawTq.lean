/- The turns that the reference draws: people, turns, a gap, absences, a budget. -/
import Derived.Test.YtmkmmenkjbmppaaDoorII
import Derived.Test.YtmkmmenkjbmppaaDoorSrch
import Derived.Test.YtmkmmenkjbmppaaDoorAmongI
import Derived.Test.YtmkmmenkjbmppaaDoorDr
import Derived.Test.YtmkmmenkjbmppaaDoorAmong
import Derived.Test.YtmkmmenkjbmppaaDoorTurnC
import Derived.Deep.RegionLaw
import Derived.Deep.CutRange
import Derived.Deep.CutBlock
namespace Go.Proofs.YtmkmmenkjbmppaaDoor
open Go.RowKit
theorem elRows : El Tryd.prog 24 27 1 24 := El.mk' Tryd.underlying24 (by kernel_rfl) (by decide)
/-- A row in a block of its own, between base and hi, other than ob. -/
def RowI (w : World) (base hi : Nat) (ob : Option Nat) (ad : Option Addr) (l : List Int) : Prop := l.length = 0 ∨ ∃ g, ad = some ⟨g, 0, none⟩ ∧ IntAt w ad l ∧ base ≤ g ∧ g < hi ∧ ob ≠ some g
section
variable {w w' : World} {base hi : Nat} {ob : Option Nat} {ad : Option Addr} {l : List Int}
theorem RowI.ext (h : RowI w base hi ob ad l) (he : Ext w w') : RowI w' base hi ob ad l := by
  rcases h with h | ⟨g, e, hR, h1, h2, h3⟩
  · exact .inl h
  · exact .inr ⟨g, e, hR.ext he, h1, h2, h3⟩
theorem RowI.moved {sb : Nat} (h : RowI w base hi ob ad l) (hm : Moved sb w w') (hb : sb < base) : RowI w' base hi ob ad l := by
  rcases h with h | ⟨g, e, hR, h1, h2, h3⟩
  · exact .inl h
  · exact .inr ⟨g, e, rows_moved hR hm (fun p hp => by rw [e] at hp; cases hp; show g ≠ sb; omega), h1, h2, h3⟩
theorem RowI.grown {row : Option Nat} (h : RowI w base hi ob ad l) (hg : w.grownBy w' row) (hr : ∀ g, row = some g → hi ≤ g ∨ ob = some g) : RowI w' base hi ob ad l := by
  rcases h with h | ⟨g, e, hR, h1, h2, h3⟩
  · exact .inl h
  · refine .inr ⟨g, e, ?_, h1, h2, h3⟩
    rw [e] at hR ⊢
    refine RowsAt.grown hR hg (fun e2 => ?_)
    rcases hr g e2 with h4 | h4
    · omega
    · exact h3 h4
theorem RowI.more {hi' : Nat} {ob' : Option Nat} (h : RowI w base hi ob ad l) (hh : hi ≤ hi') (ho : ob' = ob ∨ ∃ n, ob' = some n ∧ hi ≤ n) : RowI w base hi' ob' ad l := by
  rcases h with h | ⟨g, e, hR, h1, h2, h3⟩
  · exact .inl h
  · refine .inr ⟨g, e, hR, h1, by omega, ?_⟩
    rcases ho with h4 | ⟨n, h4, h5⟩
    · rw [h4]; exact h3
    · rw [h4]; intro e2; simp only [Option.some.injEq] at e2; omega
theorem RowI.int (h : RowI w base hi ob ad l) : IntAt w ad l := by
  rcases h with h | ⟨g, e, hR, h1, h2, h3⟩
  · exact fun k hk => absurd hk (by omega)
  · exact hR
theorem RowI.of_own {T : Nat} {hi0 : Nat} (hR : IntAt w ad l) (hO : Own w hi0 T 1 ad l.length) (hb : base ≤ hi0) (ho : ∀ g, ob = some g → g < hi0) : RowI w base w.heap.size ob ad l := by
  rcases hO with h | ⟨g, N, e, hg, hB, hn⟩
  · exact .inl h
  · exact .inr ⟨g, e, hR, by omega, hB.lt, fun e2 => by have := ho g e2; omega⟩
theorem RowI.set {g0 : Nat} (h : RowI w base hi ob ad l) (he : ob = some g0) (u : Value) : RowI (w.setCell ⟨g0, 0, none⟩ u) base hi ob ad l := by
  rcases h with h | ⟨g, e, hR, h1, h2, h3⟩
  · exact .inl h
  · refine .inr ⟨g, e, fun k hk => ?_, h1, h2, h3⟩
    obtain ⟨b, off, e2, hb, hc⟩ := hR k hk
    rw [e] at e2
    simp only [Option.some.injEq, Addr.mk.injEq, and_true] at e2
    obtain ⟨rfl, rfl⟩ := e2
    have hne : g ≠ g0 := fun e3 => h3 (by rw [he, e3])
    exact ⟨g, 0, e, by simpa using hb, fun j hj => by rw [cell_other _ (by omega)]; exact hc j hj⟩
end
/-- v is a list of lists of the call's own; its rows lie between base and hi. -/
structure RII (w : World) (base hi : Nat) (v : Value) (L : List (List Int)) (vs : List Sl) : Prop where
  lst : Lst 27 1 cellV w base v vs
  len : vs.length = L.length
  vhi : ∀ g, v.ownBlock = some g → g < hi
  inn : ∀ k, k < L.length → ∃ ad cp, nth vs k = ⟨ad, (nth L k).length, cp⟩ ∧ (nth L k).length ≤ cp ∧ RowI w base hi v.ownBlock ad (nth L k)
section
variable {w w' : World} {base hi : Nat} {v : Value} {L : List (List Int)} {vs : List Sl}
theorem RII.new (w : World) (base : Nat) (hb : base ≤ w.heap.size) : RII (w.alloc (.cells #[] 27)) base (w.alloc (.cells #[] 27)).heap.size (.slice (some ⟨w.heap.size, 0, none⟩) 0 0) [] [] :=
  ⟨Lst.new w base hb, rfl, fun g e => by rw [size_new]; have e2 : w.heap.size = g := by simpa [Value.ownBlock] using e
                                         omega, fun _ h => absurd h (Nat.not_lt_zero _)⟩
theorem RII.ext (h : RII w base hi v L vs) (he : Ext w w') : RII w' base hi v L vs :=
  ⟨h.lst.ext he, h.len, h.vhi, fun k hk => by obtain ⟨ad, cp, e, hc, hR⟩ := h.inn k hk; exact ⟨ad, cp, e, hc, hR.ext he⟩⟩
theorem RII.moved {sb : Nat} (h : RII w base hi v L vs) (hm : Moved sb w w') (hb : sb < base) : RII w' base hi v L vs :=
  ⟨h.lst.moved hm hb, h.len, h.vhi, fun k hk => by obtain ⟨ad, cp, e, hc, hR⟩ := h.inn k hk; exact ⟨ad, cp, e, hc, hR.moved hm hb⟩⟩
theorem RII.more {hi' : Nat} (h : RII w base hi v L vs) (hh : hi ≤ hi') : RII w base hi' v L vs :=
  ⟨h.lst, h.len, fun g e => Nat.lt_of_lt_of_le (h.vhi g e) hh, fun k hk => by obtain ⟨ad, cp, e, hc, hR⟩ := h.inn k hk; exact ⟨ad, cp, e, hc, hR.more hh (.inl rfl)⟩⟩
theorem RII.grown {row : Option Nat} (h : RII w base hi v L vs) (hg : w.grownBy w' row) (hr : ∀ g, row = some g → hi ≤ g) : RII w' base hi v L vs :=
  ⟨by
    refine ⟨h.lst.1, ?_⟩
    have hlt := ownsRow_lt h.lst
    rcases h.lst.2 with h2 | ⟨g, cap, cur, hv, hgb, hh, r⟩
    · exact .inl h2
    · have e : v.ownBlock = some g := by rw [hv]; rfl
      exact .inr ⟨g, cap, cur, hv, hgb, by rw [hg.block g (hlt g e) (fun e2 => by have := hr g e2.symm; have := h.vhi g e; omega)]; exact hh, r⟩, h.len, h.vhi, fun k hk => by obtain ⟨ad, cp, e, hc, hR⟩ := h.inn k hk; exact ⟨ad, cp, e, hc, hR.grown hg (fun g e => .inl (hr g e))⟩⟩
theorem RII.push {W w3 : World} {v3 : Value} {x : List Int} {ad : Option Addr} {cp : Nat} (h : RII W base hi v L vs) (hh : hi ≤ W.heap.size) (hx : RowI W base W.heap.size v.ownBlock ad x) (hcp : x.length ≤ cp)
    (hL : Lst 27 1 cellV w3 base v3 (vs ++ [⟨ad, x.length, cp⟩])) (hgr : W.grownBy w3 v.ownBlock) (hat : v3.ownBlock = v.ownBlock ∨ v3.ownBlock = some W.heap.size) :
    RII w3 base w3.heap.size v3 (L ++ [x]) (vs ++ [⟨ad, x.length, cp⟩]) := by
  have hlt := ownsRow_lt hL
  have hz := hgr.size
  have ho : v3.ownBlock = v.ownBlock ∨ ∃ n, v3.ownBlock = some n ∧ W.heap.size ≤ n := by
    rcases hat with e | e
    · exact .inl e
    · exact .inr ⟨_, e, Nat.le_refl _⟩
  have hup : ∀ (ad : Option Addr) (l : List Int), RowI W base W.heap.size v.ownBlock ad l → RowI w3 base w3.heap.size v3.ownBlock ad l := fun ad l hR => (hR.grown hgr (fun g e => .inr e)).more hz ho
  refine ⟨hL, by rw [List.length_append, List.length_append, h.len]; rfl, hlt, fun k hk => ?_⟩
  rcases (show k < L.length ∨ k = L.length by rw [List.length_append] at hk; simp only [List.length_cons, List.length_nil] at hk; omega) with h1 | h1
  · obtain ⟨ad1, cp1, e, hc, hR⟩ := h.inn k h1
    exact ⟨ad1, cp1, by rw [nth_pre (by rw [h.len]; exact h1), nth_pre h1]; exact e, by rw [nth_pre h1]; exact hc, by rw [nth_pre h1]; exact hup _ _ (hR.more hh (.inl rfl))⟩
  · subst h1
    exact ⟨ad, cp, by rw [nth_last, ← h.len, nth_last], by rw [nth_last]; exact hcp, by rw [nth_last]; exact hup _ _ hx⟩
theorem RII.iis {a : Option Addr} {n c : Nat} (h : RII w base hi (.slice a n c) L vs) : IIs w a L vs ∧ n = L.length ∧ n ≤ c := by
  obtain ⟨a', cap, e, hc, hm, hR, hO⟩ := h.lst.shape
  simp only [Value.slice.injEq] at e
  obtain ⟨rfl, rfl, rfl⟩ := e
  exact ⟨⟨h.len, hR, fun k hk => by obtain ⟨ad, cp, e, hc, hR⟩ := h.inn k hk; exact ⟨ad, cp, e, hc, hR.int⟩⟩, h.len, hc⟩
theorem RII.shape (h : RII w base hi v L vs) : ∃ a c, v = .slice a L.length c ∧ L.length ≤ c ∧ Own w base 27 1 a L.length := by
  obtain ⟨a', cap, e, hc, hm, hR, hO⟩ := h.lst.shape
  rw [h.len] at e hc hO
  exact ⟨_, _, e, hc, hO⟩
theorem RII.own {a : Option Addr} {n c : Nat} (h : RII w base hi (.slice a n c) L vs) : Own w base 27 1 a L.length := by
  obtain ⟨a', c', e, -, hO⟩ := h.shape
  simp only [Value.slice.injEq] at e
  obtain ⟨rfl, -, -⟩ := e
  exact hO
theorem nth_set_at {α : Type} [Inhabited α] (l : List α) (y : α) (k : Nat) (hk : k < l.length) : nth (l.set 0 y) k = if k = 0 then y else nth l k := by
  by_cases h : k = 0
  · subst h; rw [if_pos rfl]; exact nth_set_same l 0 y hk
  · rw [if_neg h]; exact nth_set_other l 0 k y (Ne.symm h)
/-- The first row is replaced by another. -/
theorem RII.set0 {g n c m : Nat} {x : List Int} (h : RII w base hi (.slice (some ⟨g, 0, none⟩) n c) L vs) (hB : Blk w g 27 m) (hm : L.length ≤ m) (h0 : 0 < L.length) {b cp : Nat} (hb : IntAt w (some ⟨b, 0, none⟩) x) (hcp : x.length ≤ cp) (hne : b ≠ g) :
    IIs (w.setCell ⟨g, 0, none⟩ (.slice (some ⟨b, 0, none⟩) x.length cp)) (some ⟨g, 0, none⟩) (L.set 0 x) (vs.set 0 ⟨some ⟨b, 0, none⟩, x.length, cp⟩) := by
  obtain ⟨hI, -, -⟩ := h.iis
  have hs := RowsAt.set (n := 1) (cell := cellV) (k := 0) (y := ⟨some ⟨b, 0, none⟩, x.length, cp⟩) hI.row hB (by rw [hI.len]; omega) (by rw [hI.len]; exact h0) [.slice (some ⟨b, 0, none⟩) x.length cp] rfl (fun j hj => by
    obtain rfl : j = 0 := by omega
    rfl)
  refine ⟨by rw [List.length_set, List.length_set, hI.len], hs, fun k hk => ?_⟩
  rw [List.length_set] at hk
  rw [nth_set_at L x k hk, nth_set_at vs _ k (by rw [hI.len]; exact hk)]
  by_cases e : k = 0
  · subst e
    rw [if_pos rfl, if_pos rfl]
    refine ⟨some ⟨b, 0, none⟩, cp, rfl, hcp, fun i hi => ?_⟩
    obtain ⟨b1, o1, e1, hb1, hc1⟩ := hb i hi
    have e1' := e1
    simp only [Option.some.injEq, Addr.mk.injEq, and_true] at e1'
    obtain ⟨rfl, rfl⟩ := e1'
    exact ⟨_, _, rfl, by simpa using hb1, fun j hj => by rw [cell_other _ (by omega)]; exact hc1 j hj⟩
  · rw [if_neg e, if_neg e]
    obtain ⟨ad, cp, e, hc, hR⟩ := h.inn k hk
    exact ⟨ad, cp, e, hc, (hR.set (g0 := g) rfl _).int⟩
/-- Nothing of the list of lists lies in block sb. -/
def FarI (sb : Nat) (a : Option Addr) (L : List (List Int)) (vs : List Sl) : Prop := (0 < L.length → ∀ p, a = some p → p.block ≠ sb) ∧ ∀ k, k < L.length → 0 < (nth L k).length → ∀ p, (nth vs k).ad = some p → p.block ≠ sb
theorem RII.far {a : Option Addr} {n c sb : Nat} (h : RII w base hi (.slice a n c) L vs) (hb : sb < base) : FarI sb a L vs := by
  refine ⟨fun h0 p e => ?_, fun k hk h0 p e => ?_⟩
  · rcases h.own with h1 | ⟨g, N, e1, hg, -⟩
    · omega
    · rw [e1] at e; cases e; show g ≠ sb; omega
  · obtain ⟨ad, cp, e1, hc, hR⟩ := h.inn k hk
    rw [e1] at e
    rcases hR with h1 | ⟨g, e2, -, hg, -⟩
    · omega
    · have e3 : ad = some p := e
      rw [e2] at e3; cases e3; show g ≠ sb; omega
theorem FarI.set0 {sb : Nat} {a : Option Addr} {x : List Int} {b cp : Nat} (h : FarI sb a L vs) (hl : vs.length = L.length) (hb : sb < b) : FarI sb a (L.set 0 x) (vs.set 0 ⟨some ⟨b, 0, none⟩, x.length, cp⟩) := by
  refine ⟨fun h0 => h.1 (by rw [List.length_set] at h0; exact h0), fun k hk h0 p e => ?_⟩
  rw [List.length_set] at hk
  rw [nth_set_at L x k hk] at h0
  rw [nth_set_at vs _ k (by rw [hl]; exact hk)] at e
  by_cases hk0 : k = 0
  · rw [if_pos hk0] at e
    cases e; show b ≠ sb; omega
  · rw [if_neg hk0] at e h0
    exact h.2 k hk h0 p e
theorem IIs.moved {sb : Nat} {a : Option Addr} (h : IIs w a L vs) (hf : FarI sb a L vs) (hm : Moved sb w w') : IIs w' a L vs := by
  refine ⟨h.len, ?_, fun k hk => ?_⟩
  · rcases Nat.eq_zero_or_pos L.length with h0 | h0
    · exact fun k hk => absurd hk (by rw [h.len]; omega)
    · exact rows_moved h.row hm (hf.1 h0)
  · obtain ⟨ad, cp, e, hc, hi⟩ := h.inn k hk
    refine ⟨ad, cp, e, hc, ?_⟩
    rcases Nat.eq_zero_or_pos (nth L k).length with h0 | h0
    · exact fun i hi => absurd hi (by omega)
    · exact rows_moved hi hm (fun p e1 => hf.2 k hk h0 p (by rw [e]; exact e1))
end
end Go.Proofs.YtmkmmenkjbmppaaDoor
namespace Go.Proofs.YtmkmmenkjbmppaaDoor
open Go.RowKit
def AllR (L : List (List Int)) : Prop := ∀ r, r ∈ L → r.length ≤ 100
theorem AllR.nil : AllR [] := fun _ h => absurd h List.not_mem_nil
theorem AllR.push {L : List (List Int)} (h : AllR L) {r : List Int} (hr : r.length ≤ 100) : AllR (L ++ [r]) := fun y hy => by
  rcases List.mem_append.1 hy with h1 | h1
  · exact h y h1
  · rw [List.mem_singleton.1 h1]; exact hr
theorem AllR.set0 {L : List (List Int)} (h : AllR L) {r : List Int} (hr : r.length ≤ 100) : AllR (L.set 0 r) := fun y hy => by
  rcases List.mem_or_eq_of_mem_set hy with h1 | h1
  · exact h y h1
  · rw [h1]; exact hr
theorem AllR.inn {L : List (List Int)} (h : AllR L) : ∀ k, k < L.length → (nth L k).length ≤ 1048576 := fun k hk => Nat.le_trans (h _ (nth_mem hk)) (by decide)
/-- What the draw gives. -/
def TqOut (sb : Nat) (w' : World) (P T G : Int) (v : Value) (L : List (List Int)) (vs : List Sl) : Prop := 0 ≤ P ∧ P ≤ 9 ∧ -1 ≤ T ∧ T ≤ 13 ∧ 0 ≤ G ∧ G ≤ 13 ∧ L.length ≤ 10 ∧ AllR L ∧ ∃ aa ac, v = .slice aa L.length ac ∧ L.length ≤ ac ∧ FarI sb aa L vs ∧ IIs w' aa L vs
set_option maxRecDepth 100000 in
set_option maxHeartbeats 8000000 in
theorem l26DrawQuery_any (w : World) (sb : Nat) (a : Option Addr) (cap : Nat) (code : List Int) (n : Nat) (H : Src w sb a cap code n) (hn : n ≤ 1000000) :
    Calls Tryd.prog 14 #[.pointer (some ⟨sb, 0, none⟩)] w fun e w' => ∃ (P T G : Int) (v : Value) (L : List (List Int)) (vs : List Sl) (k : Nat), e = .returned (.tuple #[.int .i64 P, .int .i64 T, .int .i64 G, v]) ∧ TqOut sb w' P T G v L vs ∧ k ≤ 500 ∧ Src w' sb a cap code (n + k) ∧ Moved sb w w' := by
  have hsl := H.lt
  have HD := Lib.hid (Dr.start H)
  clear H
  go_enter Tryd.func14, Tryd.ntmps14
  go_wp2_with fail
  refine (pick_any w sb a cap code (n) HD.out.src (by omega) 3 (by omega)).mono ?_
  rintro e W1 ⟨r1, q1, rfl, p0r1, p1r1, hq1, S1, M1⟩
  replace p1r1 := p1r1 (by omega)
  replace HD := Lib.hid (HD.out.step S1 M1)
  clear S1 M1
  go_wp2_with fail
  refine (pick_any W1 sb a cap code (n + q1) HD.out.src (by omega) 7 (by omega)).mono ?_
  rintro e W2 ⟨r2, q2, rfl, p0r2, p1r2, hq2, S1, M1⟩
  replace p1r2 := p1r2 (by omega)
  replace HD := Lib.hid (HD.out.step S1 M1)
  clear S1 M1
  go_wp2_with fail
  refine (pick_any W2 sb a cap code (n + q1 + q2) HD.out.src (by omega) 3 (by omega)).mono ?_
  rintro e W3 ⟨r3, q3, rfl, p0r3, p1r3, hq3, S1, M1⟩
  replace p1r3 := p1r3 (by omega)
  replace HD := Lib.hid (HD.out.step S1 M1)
  clear S1 M1
  go_wp2_with fail
  refine (pick_any W3 sb a cap code (n + q1 + q2 + q3) HD.out.src (by omega) 16 (by omega)).mono ?_
  rintro e W4 ⟨r4, q4, rfl, p0r4, p1r4, hq4, S1, M1⟩
  replace p1r4 := p1r4 (by omega)
  replace HD := Lib.hid (HD.out.step S1 M1)
  clear S1 M1
  rcases (show r4 = 0 ∨ r4 = 1 ∨ r4 = 2 ∨ 3 ≤ r4 by omega) with hr | hr | hr | hr
  · subst hr
    go_wp2_with fail
    have HT := rows_lit (cell := cellJ) (T := 2) W4 #[.int .i64 0, .int .i64 8, .int .i64 9] [0, 8, 9] (fun k hk => by rcases (show k = 0 ∨ k = 1 ∨ k = 2 by simp at hk; omega) with rfl | rfl | rfl <;> rfl) rfl
    have hx := (Ext.refl W4).alloc (.cells #[.int .i64 0, .int .i64 8, .int .i64 9] 2)
    refine (among_any _ sb a cap code (n + q1 + q2 + q3 + q4) (HD.out.src.ext hx) (by omega) (some ⟨(W4).heap.size, 0, none⟩) 3 _ HT (by simp) (by simp) (fun p e => by cases e; have := HD.out.src.lt; show (W4).heap.size ≠ sb; omega)).mono ?_
    rintro e W5 ⟨m, q5, rfl, hs1, hq5, S2, M2⟩
    have hs2 : 0 ≤ m ∧ m ≤ 9 := by simp only [List.mem_cons, List.not_mem_nil, or_false] at hs1; omega
    replace HD := Lib.hid ((HD.out.ext hx).step S2 M2)
    clear S2 M2 HT hx hs1
    have hfacts : (0 ≤ m ∧ m ≤ 9) ∧ (-1 ≤ r2 ∧ r2 ≤ 13) ∧ (0 ≤ 1 + r3 ∧ 1 + r3 ≤ 13) := by omega
    replace HD : Hid (Dr w W5 sb a cap code (n + (q1 + q2 + q3 + q4 + q5))) := by rw [show n + (q1 + q2 + q3 + q4 + q5) = n + q1 + q2 + q3 + q4 + q5 by omega]; exact HD
    obtain ⟨P, hP⟩ : ∃ P, P = m := ⟨_, rfl⟩
    obtain ⟨T, hT⟩ : ∃ T, T = r2 := ⟨_, rfl⟩
    obtain ⟨G, hG⟩ : ∃ G, G = (1 + r3) := ⟨_, rfl⟩
    have hqq : q1 + q2 + q3 + q4 + q5 ≤ 10 := by omega
    obtain ⟨q0, hq0⟩ : ∃ q0, q0 = q1 + q2 + q3 + q4 + q5 := ⟨_, rfl⟩
    rw [← hq0] at HD hqq
    rw [← hP, ← hT, ← hG] at hfacts
    obtain ⟨⟨hP0, hP9⟩, ⟨hT0, hT13⟩, hG0, hG13⟩ := hfacts
    replace hP := Lib.hid hP
    replace hT := Lib.hid hT
    replace hG := Lib.hid hG
    clear hq0
    obtain ⟨wc, hwc⟩ : ∃ wc, wc = W5 := ⟨_, rfl⟩
    rw [← hwc] at HD ⊢
    clear hwc
    have hO := Lib.hid (RII.new wc w.heap.size HD.out.size)
    replace HD := Lib.hid (HD.out.ext ((Ext.refl wc).alloc (.cells #[] 27)))
    go_wp2_with fail
    rw [← hP.out, ← hT.out, ← hG.out]
    go_loopw [9, 10] (fun o i wr => ∃ (p q : Nat) (L : List (List Int)) (vs : List Sl), (p : Int) ≤ P ∧ i = .int .i64 p ∧ q ≤ 10 + 26 * p ∧ L.length ≤ p ∧ Hid (AllR L) ∧ Hid (RII wr w.heap.size wr.heap.size o L vs) ∧ Hid (Dr w wr sb a cap code (n + q))) (fun _ i _ => 9 - (intOf i).toNat)
    case atStart => exact ⟨0, q0, [], [], by omega, rfl, by omega, Nat.le_refl _, AllR.nil, hO.out, HD.out⟩
    case round =>
      clear hO HD
      obtain ⟨p, q, L, vs, hp, rfl, hq, hL, hA, hO, HD⟩ := hrel
      have hzs := HD.out.size
      by_cases hlt : (p : Int) < P
      · have hd : decide ((p : Int) < P) = true := decide_eq_true hlt
        have hR := Lib.hid (Lst.new (T := 2) (n := 1) (cell := cellI) (α := Int) wr wr.heap.size (Nat.le_refl _))
        have hx := (Ext.refl wr).alloc (.cells #[] 2)
        have hhi : wr.heap.size ≤ (wr.alloc (.cells #[] 2)).heap.size := hx.size
        replace hO := Lib.hid (hO.out.ext hx)
        replace HD := Lib.hid (HD.out.ext hx)
        clear hx
        obtain ⟨va, vc, rfl, hvc, -⟩ := hO.out.shape
        go_wp2_with fail
        obtain ⟨hi, hhid⟩ : ∃ hi, hi = wr.heap.size := ⟨_, rfl⟩
        obtain ⟨W0, hW0⟩ : ∃ W0, W0 = wr.alloc (.cells #[] 2) := ⟨_, rfl⟩
        rw [← hW0] at hR hO HD hhi ⊢
        rw [← hhid] at hR hO hhi hzs ⊢
        clear hW0 hhid
        go_loopw [11, 12] (fun o i wq => ∃ (t q2 : Nat) (R : List Int), (t : Int) ≤ 13 ∧ i = .int .i64 t ∧ q2 ≤ 10 + 26 * p + 2 * t ∧ R.length ≤ t ∧ hi ≤ wq.heap.size ∧ Hid (Lst 2 1 cellI wq hi o R) ∧ Hid (RII wq w.heap.size hi (.slice va L.length vc) L vs) ∧ Hid (Dr w wq sb a cap code (n + q2))) (fun _ i _ => (T - intOf i).toNat)
        case atStart => exact ⟨0, q, [], by omega, rfl, by omega, Nat.le_refl _, hhi, hR.out, hO.out, HD.out⟩
        case round =>
          clear hR hO HD hd
          obtain ⟨t, q2, R, ht, rfl, hq2, hRt, hge, hR, hO, HD⟩ := hrel
          by_cases hlt2 : (t : Int) < T
          · have hd : decide ((t : Int) < T) = true := decide_eq_true hlt2
            go_wp2_with fail
            refine (one_any wr sb a cap code (n + q2) HD.out.src (by omega) 6 (by omega)).mono ?_
            rintro e W6 ⟨b, q3, rfl, hq3, S1, M1⟩
            replace hR := Lib.hid (hR.out.moved M1 (by omega))
            replace hO := Lib.hid (hO.out.moved M1 (by omega))
            replace HD := Lib.hid (HD.out.step S1 M1)
            replace hge := Nat.le_trans hge M1.size
            clear S1 M1
            cases b
            · go_wp2_with fail
              go_roundw
              case rel => exact ⟨t + 1, q2 + q3, R, by omega, by go_num, by omega, by omega, hge, hR.out, hO.out, by rw [← Nat.add_assoc]; exact HD.out⟩
              case measure => simp [intOf]; omega
            · have hX := (Ext.refl W6).alloc (.cells #[.int .i64 (t : Int)] 2)
              have HR2 : Hid (IntAt (W6.alloc (.cells #[.int .i64 (t : Int)] 2)) (some ⟨W6.heap.size, 0, none⟩) [(t : Int)]) := rows_new (n := 1) (cell := cellI) (T := 2) W6 #[.int .i64 (t : Int)] (t : Int) (fun i hi => by rw [show i = 0 from Nat.lt_one_iff.1 hi]; rfl)
              replace hR := Lib.hid (hR.out.ext hX)
              replace hO := Lib.hid (hO.out.ext hX)
              replace HD := Lib.hid (HD.out.ext hX)
              replace hge := Lib.hid (Nat.le_trans hge hX.size)
              clear hX
              obtain ⟨ra, rc, rfl, -, -, -, -⟩ := hR.out.shape
              go_wp2_with (at_builtin; refine wpList_pushL elInt oneInt rfl _ _ rfl hi _ R (by rfl) hR.out _ 1 1 [(t : Int)] rfl (by rfl) HR2.out (by omega) (by omega) hge.out ?_; intro v6 w6 L6 _ g6; have L6 := Lib.hid L6; have g7 := Lib.hid g6; clear g6)
              have hbl := hR.out.ge
              replace hO := Lib.hid (hO.out.grown g7.out hbl)
              replace HD := Lib.hid (HD.out.grown g7.out (fun g e => Nat.le_trans hzs (hbl g e)))
              replace hge := Nat.le_trans hge.out g7.out.size
              have hl2 : (R ++ [(t : Int)]).length ≤ t + 1 := by rw [List.length_append]; simp; omega
              clear g7 hbl hR HR2
              go_roundw
              case rel => exact ⟨t + 1, q2 + q3, R ++ [(t : Int)], by omega, by go_num, by omega, hl2, hge, L6.out, hO.out, by rw [← Nat.add_assoc]; exact HD.out⟩
              case measure => simp [intOf]; omega
          · have hd : decide ((t : Int) < T) = false := decide_eq_false hlt2
            obtain ⟨ra, rc, rfl, hrc, -, hRR, hRO⟩ := hR.out.shape
            have hX := (Ext.refl wr).alloc (.cells #[.slice ra R.length rc] 27)
            have hRow := Lib.hid (((RowI.of_own hRR hRO hzs hO.out.vhi).ext hX).more hX.size (.inl rfl))
            have HR2 : Hid (RowsAt 1 cellV (wr.alloc (.cells #[.slice ra R.length rc] 27)) (some ⟨wr.heap.size, 0, none⟩) [⟨ra, R.length, rc⟩]) := rows_new (n := 1) (cell := cellV) (T := 27) wr #[.slice ra R.length rc] ⟨ra, R.length, rc⟩ (fun i hi => by rw [show i = 0 from Nat.lt_one_iff.1 hi]; rfl)
            replace hO := Lib.hid (hO.out.ext hX)
            replace HD := Lib.hid (HD.out.ext hX)
            have hze : hi ≤ (wr.alloc (.cells #[.slice ra R.length rc] 27)).heap.size := Nat.le_trans hge hX.size
            have hze2 := Lib.hid (Nat.le_trans hzs hze)
            have hvl := Lib.hid hO.out.len
            have hLv := Lib.hid (hO.out.lst)
            have hvl2 : vs.length ≤ 9 := by rw [hvl.out]; omega
            clear hX hRR hRO hR
            go_wp2_with (at_builtin; refine wpList_pushAt elRows oneSl rfl _ _ rfl w.heap.size _ vs (by rfl) hLv.out _ 1 1 [⟨ra, R.length, rc⟩] rfl (by rfl) HR2.out (by omega) (by omega) hze2.out ?_; intro v7 w7 L7 g7 hat7; have L7 := Lib.hid L7; have g8 := Lib.hid g7; have hat8 := Lib.hid hat7; clear g7 hat7)
            have hO2 := Lib.hid (hO.out.push hze hRow.out hrc L7.out g8.out hat8.out)
            replace HD := Lib.hid (HD.out.grown g8.out (hLv.out.ge))
            have hA2 := Lib.hid (hA.out.push (r := R) (by omega))
            have hl2 : (L ++ [R]).length ≤ p + 1 := by rw [List.length_append]; simp; omega
            clear hO hRow HR2 hLv L7 g8 hat8 hA
            go_roundw
            case rel => exact ⟨p + 1, q2, L ++ [R], _, by omega, by go_num, by omega, hl2, hA2.out, hO2.out, HD.out⟩
            case measure => simp [intOf]; omega
      · have hd : decide ((p : Int) < P) = false := decide_eq_false hlt
        obtain ⟨va, vc, rfl, hvc, -⟩ := hO.out.shape
        go_wp2_with fail
        refine (pick_any wr sb a cap code (n + q) HD.out.src (by omega) 16 (by omega)).mono ?_
        rintro e W8 ⟨r5, q5, rfl, p0r5, p1r5, hq5, S1, M1⟩
        replace p1r5 := p1r5 (by omega)
        replace HD := Lib.hid (HD.out.step S1 M1)
        replace hO := Lib.hid ((hO.out.moved M1 (by omega)).more M1.size)
        clear S1 M1
        rcases (show r5 = 0 ∨ r5 = 1 ∨ 2 ≤ r5 by omega) with hr | hr | hr
        · subst hr
          have hX1 := (Ext.refl W8).alloc (.cells #[] 2)
          have hX := hX1.alloc (.cells #[.slice (some ⟨W8.heap.size, 0, none⟩) 0 0] 27)
          have HR2 : Hid (RowsAt 1 cellV ((W8.alloc (.cells #[] 2)).alloc (.cells #[.slice (some ⟨W8.heap.size, 0, none⟩) 0 0] 27)) (some ⟨W8.heap.size + 1, 0, none⟩) [⟨some ⟨W8.heap.size, 0, none⟩, ([] : List Int).length, 0⟩]) := by
            have h9 := rows_new (n := 1) (cell := cellV) (T := 27) (W8.alloc (.cells #[] 2)) #[.slice (some ⟨W8.heap.size, 0, none⟩) 0 0] ⟨some ⟨W8.heap.size, 0, none⟩, 0, 0⟩ (fun q hq => by have h8 : q < 1 := hq; obtain rfl : q = 0 := (by omega); rfl)
            rw [size_new] at h9
            exact h9
          replace hO := Lib.hid (hO.out.ext hX)
          replace HD := Lib.hid (HD.out.ext hX)
          have hze : W8.heap.size ≤ ((W8.alloc (.cells #[] 2)).alloc (.cells #[.slice (some ⟨W8.heap.size, 0, none⟩) 0 0] 27)).heap.size := hX.size
          have hz2 := Lib.hid HD.out.size
          have hvl := Lib.hid hO.out.len
          have hLv := Lib.hid (hO.out.lst)
          have hvl2 : vs.length ≤ 9 := by rw [hvl.out]; omega
          clear hX hX1
          go_wp2_with (at_builtin; refine wpList_pushAt elRows oneSl rfl _ _ rfl w.heap.size _ vs (by rfl) hLv.out _ 1 1 [⟨some ⟨W8.heap.size, 0, none⟩, ([] : List Int).length, 0⟩] rfl (by rfl) HR2.out (by omega) (by omega) hz2.out ?_; intro v7 w7 L7 g7 hat7; have L7 := Lib.hid L7; have g8 := Lib.hid g7; have hat8 := Lib.hid hat7; clear g7 hat7)
          have hO2 := Lib.hid (hO.out.push (x := []) hze (.inl rfl) (Nat.le_refl _) L7.out g8.out hat8.out)
          replace HD := Lib.hid (HD.out.grown g8.out (hLv.out.ge))
          have hA2 := Lib.hid (hA.out.push (r := []) (by simp))
          obtain ⟨wa, wc9, rfl, hwc, -⟩ := hO2.out.shape
          have hII := Lib.hid hO2.out.iis.1
          have hFF := Lib.hid (hO2.out.far (sb := sb) (by omega))
          clear hO HR2 hLv L7 g8 hat8 hA hO2 hvl
          refine bodyPost_ret (v := .tuple #[.int .i64 P, .int .i64 T, .int .i64 G, .slice wa (L ++ [[]]).length wc9]) (by simp [results, Tryd.results14, go_sem]) rfl ?_
          refine ⟨P, T, G, _, L ++ [[]], _, q + q5, rfl, ⟨hP0, hP9, hT0, hT13, hG0, hG13, by rw [List.length_append]; simp; omega, hA2.out, _, _, rfl, hwc, hFF.out, hII.out⟩, by omega, ?_, HD.out.mv⟩
          rw [← Nat.add_assoc]; exact HD.out.src
        · subst hr
          by_cases h0 : 0 < L.length
          · have h1 : decide (0 < L.length) = true := decide_eq_true h0
            go_wp2_with fail
            have HT := rows_lit (cell := cellJ) (T := 2) W8 #[.int .i64 (-1), .int .i64 T] [(-1), T] (fun k hk => by rcases (show k = 0 ∨ k = 1 by simp at hk; omega) with rfl | rfl <;> rfl) rfl
            have hx := (Ext.refl W8).alloc (.cells #[.int .i64 (-1), .int .i64 T] 2)
            replace hO := Lib.hid (hO.out.ext hx)
            refine (among_any _ sb a cap code (n + q + q5) (HD.out.src.ext hx) (by omega) (some ⟨W8.heap.size, 0, none⟩) 2 _ HT (by simp) (by simp) (fun p e => by cases e; have := HD.out.src.lt; show W8.heap.size ≠ sb; omega)).mono ?_
            rintro e W9 ⟨m, q6, rfl, hs1, hq6, S2, M2⟩
            replace HD := Lib.hid ((HD.out.ext hx).step S2 M2)
            replace hO := Lib.hid (hO.out.moved M2 (by omega))
            clear S2 M2 HT hx hs1
            have hs9 := HD.out.src.lt
            have hne := Lib.hid (show ∀ g N, Blk W9 g 27 N → W9.heap.size ≠ g from fun g N hB => by have := hB.lt; omega)
            have hX := (Ext.refl W9).alloc (.cells #[.int .i64 m] 2)
            have HR2 : Hid (IntAt (W9.alloc (.cells #[.int .i64 m] 2)) (some ⟨W9.heap.size, 0, none⟩) [m]) := rows_new (n := 1) (cell := cellI) (T := 2) W9 #[.int .i64 m] m (fun i hi => by rw [show i = 0 from Nat.lt_one_iff.1 hi]; rfl)
            obtain ⟨g, N, rfl, hgb, hB9, hN⟩ : ∃ g N, va = some ⟨g, 0, none⟩ ∧ w.heap.size ≤ g ∧ Blk W9 g 27 N ∧ L.length * 1 ≤ N := by
              rcases hO.out.own with h | h
              · omega
              · exact h
            replace hne := Lib.hid (hne.out g N hB9)
            have hB := Lib.hid (hB9.ext hX)
            replace hO := Lib.hid (hO.out.ext hX)
            replace HD := Lib.hid (HD.out.ext hX)
            have gl := hB.out.lt
            obtain ⟨u0, g0⟩ := hB.out.cell (o := 0) (by omega)
            have gk := hB.out.frozen 0
            have hII := Lib.hid (hO.out.set0 (x := [m]) (cp := 1) hB.out (by omega) h0 HR2.out (Nat.le_refl _) hne.out)
            have hFF := Lib.hid ((hO.out.far (sb := sb) (by omega)).set0 (x := [m]) (b := W9.heap.size) (cp := 1) hO.out.len (by omega))
            replace HD := Lib.hid (HD.out.set (o := 0) hgb (.slice (some ⟨W9.heap.size, 0, none⟩) 1 1))
            have hA2 := Lib.hid (hA.out.set0 (r := [m]) (by simp))
            have hln : (L.set 0 [m]).length = L.length := List.length_set
            replace hln := Lib.hid hln
            clear hB hB9 hX HR2 hne hO
            go_wp2_with fail
            refine bodyPost_ret (v := .tuple #[.int .i64 P, .int .i64 T, .int .i64 G, .slice (some ⟨g, 0, none⟩) L.length vc]) (by simp [results, Tryd.results14, go_sem]) rfl ?_
            refine ⟨P, T, G, _, L.set 0 [m], _, q + q5 + q6, rfl, ⟨hP0, hP9, hT0, hT13, hG0, hG13, by rw [hln.out]; omega, hA2.out, _, vc, by rw [hln.out], by rw [hln.out]; exact hvc, hFF.out, hII.out⟩, by omega, ?_, HD.out.mv⟩
            rw [← Nat.add_assoc, ← Nat.add_assoc]; exact HD.out.src
          · have h1 : decide (0 < L.length) = false := decide_eq_false h0
            have hII := Lib.hid hO.out.iis.1
            have hFF := Lib.hid (hO.out.far (sb := sb) (by omega))
            clear hO
            go_wp2_with fail
            refine bodyPost_ret (v := .tuple #[.int .i64 P, .int .i64 T, .int .i64 G, .slice va L.length vc]) (by simp [results, Tryd.results14, go_sem]) rfl ?_
            refine ⟨P, T, G, _, L, _, q + q5, rfl, ⟨hP0, hP9, hT0, hT13, hG0, hG13, by omega, hA.out, _, _, rfl, hvc, hFF.out, hII.out⟩, by omega, ?_, HD.out.mv⟩
            rw [← Nat.add_assoc]; exact HD.out.src
        · have hr0 : (r5 == 0) = false := beq_eq_false_iff_ne.2 (by omega)
          have hr1 : (r5 == 1) = false := beq_eq_false_iff_ne.2 (by omega)
          have hII := Lib.hid hO.out.iis.1
          have hFF := Lib.hid (hO.out.far (sb := sb) (by omega))
          clear hO
          go_wp2_with fail
          refine bodyPost_ret (v := .tuple #[.int .i64 P, .int .i64 T, .int .i64 G, .slice va L.length vc]) (by simp [results, Tryd.results14, go_sem]) rfl ?_
          refine ⟨P, T, G, _, L, _, q + q5, rfl, ⟨hP0, hP9, hT0, hT13, hG0, hG13, by omega, hA.out, _, _, rfl, hvc, hFF.out, hII.out⟩, by omega, ?_, HD.out.mv⟩
          rw [← Nat.add_assoc]; exact HD.out.src
  · subst hr
    go_wp2_with fail
    have HT := rows_lit (cell := cellJ) (T := 2) W4 #[.int .i64 (-1), .int .i64 12, .int .i64 13] [(-1), 12, 13] (fun k hk => by rcases (show k = 0 ∨ k = 1 ∨ k = 2 by simp at hk; omega) with rfl | rfl | rfl <;> rfl) rfl
    have hx := (Ext.refl W4).alloc (.cells #[.int .i64 (-1), .int .i64 12, .int .i64 13] 2)
    refine (among_any _ sb a cap code (n + q1 + q2 + q3 + q4) (HD.out.src.ext hx) (by omega) (some ⟨(W4).heap.size, 0, none⟩) 3 _ HT (by simp) (by simp) (fun p e => by cases e; have := HD.out.src.lt; show (W4).heap.size ≠ sb; omega)).mono ?_
    rintro e W5 ⟨m, q5, rfl, hs1, hq5, S2, M2⟩
    have hs2 : (-1) ≤ m ∧ m ≤ 13 := by simp only [List.mem_cons, List.not_mem_nil, or_false] at hs1; omega
    replace HD := Lib.hid ((HD.out.ext hx).step S2 M2)
    clear S2 M2 HT hx hs1
    have hfacts : (0 ≤ 1 + r1 ∧ 1 + r1 ≤ 9) ∧ (-1 ≤ m ∧ m ≤ 13) ∧ (0 ≤ 1 + r3 ∧ 1 + r3 ≤ 13) := by omega
    replace HD : Hid (Dr w W5 sb a cap code (n + (q1 + q2 + q3 + q4 + q5))) := by rw [show n + (q1 + q2 + q3 + q4 + q5) = n + q1 + q2 + q3 + q4 + q5 by omega]; exact HD
    obtain ⟨P, hP⟩ : ∃ P, P = (1 + r1) := ⟨_, rfl⟩
    obtain ⟨T, hT⟩ : ∃ T, T = m := ⟨_, rfl⟩
    obtain ⟨G, hG⟩ : ∃ G, G = (1 + r3) := ⟨_, rfl⟩
    have hqq : q1 + q2 + q3 + q4 + q5 ≤ 10 := by omega
    obtain ⟨q0, hq0⟩ : ∃ q0, q0 = q1 + q2 + q3 + q4 + q5 := ⟨_, rfl⟩
    rw [← hq0] at HD hqq
    rw [← hP, ← hT, ← hG] at hfacts
    obtain ⟨⟨hP0, hP9⟩, ⟨hT0, hT13⟩, hG0, hG13⟩ := hfacts
    replace hP := Lib.hid hP
    replace hT := Lib.hid hT
    replace hG := Lib.hid hG
    clear hq0
    obtain ⟨wc, hwc⟩ : ∃ wc, wc = W5 := ⟨_, rfl⟩
    rw [← hwc] at HD ⊢
    clear hwc
    have hO := Lib.hid (RII.new wc w.heap.size HD.out.size)
    replace HD := Lib.hid (HD.out.ext ((Ext.refl wc).alloc (.cells #[] 27)))
    go_wp2_with fail
    rw [← hP.out, ← hT.out, ← hG.out]
    go_loopw [9, 10] (fun o i wr => ∃ (p q : Nat) (L : List (List Int)) (vs : List Sl), (p : Int) ≤ P ∧ i = .int .i64 p ∧ q ≤ 10 + 26 * p ∧ L.length ≤ p ∧ Hid (AllR L) ∧ Hid (RII wr w.heap.size wr.heap.size o L vs) ∧ Hid (Dr w wr sb a cap code (n + q))) (fun _ i _ => 9 - (intOf i).toNat)
    case atStart => exact ⟨0, q0, [], [], by omega, rfl, by omega, Nat.le_refl _, AllR.nil, hO.out, HD.out⟩
    case round =>
      clear hO HD
      obtain ⟨p, q, L, vs, hp, rfl, hq, hL, hA, hO, HD⟩ := hrel
      have hzs := HD.out.size
      by_cases hlt : (p : Int) < P
      · have hd : decide ((p : Int) < P) = true := decide_eq_true hlt
        have hR := Lib.hid (Lst.new (T := 2) (n := 1) (cell := cellI) (α := Int) wr wr.heap.size (Nat.le_refl _))
        have hx := (Ext.refl wr).alloc (.cells #[] 2)
        have hhi : wr.heap.size ≤ (wr.alloc (.cells #[] 2)).heap.size := hx.size
        replace hO := Lib.hid (hO.out.ext hx)
        replace HD := Lib.hid (HD.out.ext hx)
        clear hx
        obtain ⟨va, vc, rfl, hvc, -⟩ := hO.out.shape
        go_wp2_with fail
        obtain ⟨hi, hhid⟩ : ∃ hi, hi = wr.heap.size := ⟨_, rfl⟩
        obtain ⟨W0, hW0⟩ : ∃ W0, W0 = wr.alloc (.cells #[] 2) := ⟨_, rfl⟩
        rw [← hW0] at hR hO HD hhi ⊢
        rw [← hhid] at hR hO hhi hzs ⊢
        clear hW0 hhid
        go_loopw [11, 12] (fun o i wq => ∃ (t q2 : Nat) (R : List Int), (t : Int) ≤ 13 ∧ i = .int .i64 t ∧ q2 ≤ 10 + 26 * p + 2 * t ∧ R.length ≤ t ∧ hi ≤ wq.heap.size ∧ Hid (Lst 2 1 cellI wq hi o R) ∧ Hid (RII wq w.heap.size hi (.slice va L.length vc) L vs) ∧ Hid (Dr w wq sb a cap code (n + q2))) (fun _ i _ => (T - intOf i).toNat)
        case atStart => exact ⟨0, q, [], by omega, rfl, by omega, Nat.le_refl _, hhi, hR.out, hO.out, HD.out⟩
        case round =>
          clear hR hO HD hd
          obtain ⟨t, q2, R, ht, rfl, hq2, hRt, hge, hR, hO, HD⟩ := hrel
          by_cases hlt2 : (t : Int) < T
          · have hd : decide ((t : Int) < T) = true := decide_eq_true hlt2
            go_wp2_with fail
            refine (one_any wr sb a cap code (n + q2) HD.out.src (by omega) 6 (by omega)).mono ?_
            rintro e W6 ⟨b, q3, rfl, hq3, S1, M1⟩
            replace hR := Lib.hid (hR.out.moved M1 (by omega))
            replace hO := Lib.hid (hO.out.moved M1 (by omega))
            replace HD := Lib.hid (HD.out.step S1 M1)
            replace hge := Nat.le_trans hge M1.size
            clear S1 M1
            cases b
            · go_wp2_with fail
              go_roundw
              case rel => exact ⟨t + 1, q2 + q3, R, by omega, by go_num, by omega, by omega, hge, hR.out, hO.out, by rw [← Nat.add_assoc]; exact HD.out⟩
              case measure => simp [intOf]; omega
            · have hX := (Ext.refl W6).alloc (.cells #[.int .i64 (t : Int)] 2)
              have HR2 : Hid (IntAt (W6.alloc (.cells #[.int .i64 (t : Int)] 2)) (some ⟨W6.heap.size, 0, none⟩) [(t : Int)]) := rows_new (n := 1) (cell := cellI) (T := 2) W6 #[.int .i64 (t : Int)] (t : Int) (fun i hi => by rw [show i = 0 from Nat.lt_one_iff.1 hi]; rfl)
              replace hR := Lib.hid (hR.out.ext hX)
              replace hO := Lib.hid (hO.out.ext hX)
              replace HD := Lib.hid (HD.out.ext hX)
              replace hge := Lib.hid (Nat.le_trans hge hX.size)
              clear hX
              obtain ⟨ra, rc, rfl, -, -, -, -⟩ := hR.out.shape
              go_wp2_with (at_builtin; refine wpList_pushL elInt oneInt rfl _ _ rfl hi _ R (by rfl) hR.out _ 1 1 [(t : Int)] rfl (by rfl) HR2.out (by omega) (by omega) hge.out ?_; intro v6 w6 L6 _ g6; have L6 := Lib.hid L6; have g7 := Lib.hid g6; clear g6)
              have hbl := hR.out.ge
              replace hO := Lib.hid (hO.out.grown g7.out hbl)
              replace HD := Lib.hid (HD.out.grown g7.out (fun g e => Nat.le_trans hzs (hbl g e)))
              replace hge := Nat.le_trans hge.out g7.out.size
              have hl2 : (R ++ [(t : Int)]).length ≤ t + 1 := by rw [List.length_append]; simp; omega
              clear g7 hbl hR HR2
              go_roundw
              case rel => exact ⟨t + 1, q2 + q3, R ++ [(t : Int)], by omega, by go_num, by omega, hl2, hge, L6.out, hO.out, by rw [← Nat.add_assoc]; exact HD.out⟩
              case measure => simp [intOf]; omega
          · have hd : decide ((t : Int) < T) = false := decide_eq_false hlt2
            obtain ⟨ra, rc, rfl, hrc, -, hRR, hRO⟩ := hR.out.shape
            have hX := (Ext.refl wr).alloc (.cells #[.slice ra R.length rc] 27)
            have hRow := Lib.hid (((RowI.of_own hRR hRO hzs hO.out.vhi).ext hX).more hX.size (.inl rfl))
            have HR2 : Hid (RowsAt 1 cellV (wr.alloc (.cells #[.slice ra R.length rc] 27)) (some ⟨wr.heap.size, 0, none⟩) [⟨ra, R.length, rc⟩]) := rows_new (n := 1) (cell := cellV) (T := 27) wr #[.slice ra R.length rc] ⟨ra, R.length, rc⟩ (fun i hi => by rw [show i = 0 from Nat.lt_one_iff.1 hi]; rfl)
            replace hO := Lib.hid (hO.out.ext hX)
            replace HD := Lib.hid (HD.out.ext hX)
            have hze : hi ≤ (wr.alloc (.cells #[.slice ra R.length rc] 27)).heap.size := Nat.le_trans hge hX.size
            have hze2 := Lib.hid (Nat.le_trans hzs hze)
            have hvl := Lib.hid hO.out.len
            have hLv := Lib.hid (hO.out.lst)
            have hvl2 : vs.length ≤ 9 := by rw [hvl.out]; omega
            clear hX hRR hRO hR
            go_wp2_with (at_builtin; refine wpList_pushAt elRows oneSl rfl _ _ rfl w.heap.size _ vs (by rfl) hLv.out _ 1 1 [⟨ra, R.length, rc⟩] rfl (by rfl) HR2.out (by omega) (by omega) hze2.out ?_; intro v7 w7 L7 g7 hat7; have L7 := Lib.hid L7; have g8 := Lib.hid g7; have hat8 := Lib.hid hat7; clear g7 hat7)
            have hO2 := Lib.hid (hO.out.push hze hRow.out hrc L7.out g8.out hat8.out)
            replace HD := Lib.hid (HD.out.grown g8.out (hLv.out.ge))
            have hA2 := Lib.hid (hA.out.push (r := R) (by omega))
            have hl2 : (L ++ [R]).length ≤ p + 1 := by rw [List.length_append]; simp; omega
            clear hO hRow HR2 hLv L7 g8 hat8 hA
            go_roundw
            case rel => exact ⟨p + 1, q2, L ++ [R], _, by omega, by go_num, by omega, hl2, hA2.out, hO2.out, HD.out⟩
            case measure => simp [intOf]; omega
      · have hd : decide ((p : Int) < P) = false := decide_eq_false hlt
        obtain ⟨va, vc, rfl, hvc, -⟩ := hO.out.shape
        go_wp2_with fail
        refine (pick_any wr sb a cap code (n + q) HD.out.src (by omega) 16 (by omega)).mono ?_
        rintro e W8 ⟨r5, q5, rfl, p0r5, p1r5, hq5, S1, M1⟩
        replace p1r5 := p1r5 (by omega)
        replace HD := Lib.hid (HD.out.step S1 M1)
        replace hO := Lib.hid ((hO.out.moved M1 (by omega)).more M1.size)
        clear S1 M1
        rcases (show r5 = 0 ∨ r5 = 1 ∨ 2 ≤ r5 by omega) with hr | hr | hr
        · subst hr
          have hX1 := (Ext.refl W8).alloc (.cells #[] 2)
          have hX := hX1.alloc (.cells #[.slice (some ⟨W8.heap.size, 0, none⟩) 0 0] 27)
          have HR2 : Hid (RowsAt 1 cellV ((W8.alloc (.cells #[] 2)).alloc (.cells #[.slice (some ⟨W8.heap.size, 0, none⟩) 0 0] 27)) (some ⟨W8.heap.size + 1, 0, none⟩) [⟨some ⟨W8.heap.size, 0, none⟩, ([] : List Int).length, 0⟩]) := by
            have h9 := rows_new (n := 1) (cell := cellV) (T := 27) (W8.alloc (.cells #[] 2)) #[.slice (some ⟨W8.heap.size, 0, none⟩) 0 0] ⟨some ⟨W8.heap.size, 0, none⟩, 0, 0⟩ (fun q hq => by have h8 : q < 1 := hq; obtain rfl : q = 0 := (by omega); rfl)
            rw [size_new] at h9
            exact h9
          replace hO := Lib.hid (hO.out.ext hX)
          replace HD := Lib.hid (HD.out.ext hX)
          have hze : W8.heap.size ≤ ((W8.alloc (.cells #[] 2)).alloc (.cells #[.slice (some ⟨W8.heap.size, 0, none⟩) 0 0] 27)).heap.size := hX.size
          have hz2 := Lib.hid HD.out.size
          have hvl := Lib.hid hO.out.len
          have hLv := Lib.hid (hO.out.lst)
          have hvl2 : vs.length ≤ 9 := by rw [hvl.out]; omega
          clear hX hX1
          go_wp2_with (at_builtin; refine wpList_pushAt elRows oneSl rfl _ _ rfl w.heap.size _ vs (by rfl) hLv.out _ 1 1 [⟨some ⟨W8.heap.size, 0, none⟩, ([] : List Int).length, 0⟩] rfl (by rfl) HR2.out (by omega) (by omega) hz2.out ?_; intro v7 w7 L7 g7 hat7; have L7 := Lib.hid L7; have g8 := Lib.hid g7; have hat8 := Lib.hid hat7; clear g7 hat7)
          have hO2 := Lib.hid (hO.out.push (x := []) hze (.inl rfl) (Nat.le_refl _) L7.out g8.out hat8.out)
          replace HD := Lib.hid (HD.out.grown g8.out (hLv.out.ge))
          have hA2 := Lib.hid (hA.out.push (r := []) (by simp))
          obtain ⟨wa, wc9, rfl, hwc, -⟩ := hO2.out.shape
          have hII := Lib.hid hO2.out.iis.1
          have hFF := Lib.hid (hO2.out.far (sb := sb) (by omega))
          clear hO HR2 hLv L7 g8 hat8 hA hO2 hvl
          refine bodyPost_ret (v := .tuple #[.int .i64 P, .int .i64 T, .int .i64 G, .slice wa (L ++ [[]]).length wc9]) (by simp [results, Tryd.results14, go_sem]) rfl ?_
          refine ⟨P, T, G, _, L ++ [[]], _, q + q5, rfl, ⟨hP0, hP9, hT0, hT13, hG0, hG13, by rw [List.length_append]; simp; omega, hA2.out, _, _, rfl, hwc, hFF.out, hII.out⟩, by omega, ?_, HD.out.mv⟩
          rw [← Nat.add_assoc]; exact HD.out.src
        · subst hr
          by_cases h0 : 0 < L.length
          · have h1 : decide (0 < L.length) = true := decide_eq_true h0
            go_wp2_with fail
            have HT := rows_lit (cell := cellJ) (T := 2) W8 #[.int .i64 (-1), .int .i64 T] [(-1), T] (fun k hk => by rcases (show k = 0 ∨ k = 1 by simp at hk; omega) with rfl | rfl <;> rfl) rfl
            have hx := (Ext.refl W8).alloc (.cells #[.int .i64 (-1), .int .i64 T] 2)
            replace hO := Lib.hid (hO.out.ext hx)
            refine (among_any _ sb a cap code (n + q + q5) (HD.out.src.ext hx) (by omega) (some ⟨W8.heap.size, 0, none⟩) 2 _ HT (by simp) (by simp) (fun p e => by cases e; have := HD.out.src.lt; show W8.heap.size ≠ sb; omega)).mono ?_
            rintro e W9 ⟨m, q6, rfl, hs1, hq6, S2, M2⟩
            replace HD := Lib.hid ((HD.out.ext hx).step S2 M2)
            replace hO := Lib.hid (hO.out.moved M2 (by omega))
            clear S2 M2 HT hx hs1
            have hs9 := HD.out.src.lt
            have hne := Lib.hid (show ∀ g N, Blk W9 g 27 N → W9.heap.size ≠ g from fun g N hB => by have := hB.lt; omega)
            have hX := (Ext.refl W9).alloc (.cells #[.int .i64 m] 2)
            have HR2 : Hid (IntAt (W9.alloc (.cells #[.int .i64 m] 2)) (some ⟨W9.heap.size, 0, none⟩) [m]) := rows_new (n := 1) (cell := cellI) (T := 2) W9 #[.int .i64 m] m (fun i hi => by rw [show i = 0 from Nat.lt_one_iff.1 hi]; rfl)
            obtain ⟨g, N, rfl, hgb, hB9, hN⟩ : ∃ g N, va = some ⟨g, 0, none⟩ ∧ w.heap.size ≤ g ∧ Blk W9 g 27 N ∧ L.length * 1 ≤ N := by
              rcases hO.out.own with h | h
              · omega
              · exact h
            replace hne := Lib.hid (hne.out g N hB9)
            have hB := Lib.hid (hB9.ext hX)
            replace hO := Lib.hid (hO.out.ext hX)
            replace HD := Lib.hid (HD.out.ext hX)
            have gl := hB.out.lt
            obtain ⟨u0, g0⟩ := hB.out.cell (o := 0) (by omega)
            have gk := hB.out.frozen 0
            have hII := Lib.hid (hO.out.set0 (x := [m]) (cp := 1) hB.out (by omega) h0 HR2.out (Nat.le_refl _) hne.out)
            have hFF := Lib.hid ((hO.out.far (sb := sb) (by omega)).set0 (x := [m]) (b := W9.heap.size) (cp := 1) hO.out.len (by omega))
            replace HD := Lib.hid (HD.out.set (o := 0) hgb (.slice (some ⟨W9.heap.size, 0, none⟩) 1 1))
            have hA2 := Lib.hid (hA.out.set0 (r := [m]) (by simp))
            have hln : (L.set 0 [m]).length = L.length := List.length_set
            replace hln := Lib.hid hln
            clear hB hB9 hX HR2 hne hO
            go_wp2_with fail
            refine bodyPost_ret (v := .tuple #[.int .i64 P, .int .i64 T, .int .i64 G, .slice (some ⟨g, 0, none⟩) L.length vc]) (by simp [results, Tryd.results14, go_sem]) rfl ?_
            refine ⟨P, T, G, _, L.set 0 [m], _, q + q5 + q6, rfl, ⟨hP0, hP9, hT0, hT13, hG0, hG13, by rw [hln.out]; omega, hA2.out, _, vc, by rw [hln.out], by rw [hln.out]; exact hvc, hFF.out, hII.out⟩, by omega, ?_, HD.out.mv⟩
            rw [← Nat.add_assoc, ← Nat.add_assoc]; exact HD.out.src
          · have h1 : decide (0 < L.length) = false := decide_eq_false h0
            have hII := Lib.hid hO.out.iis.1
            have hFF := Lib.hid (hO.out.far (sb := sb) (by omega))
            clear hO
            go_wp2_with fail
            refine bodyPost_ret (v := .tuple #[.int .i64 P, .int .i64 T, .int .i64 G, .slice va L.length vc]) (by simp [results, Tryd.results14, go_sem]) rfl ?_
            refine ⟨P, T, G, _, L, _, q + q5, rfl, ⟨hP0, hP9, hT0, hT13, hG0, hG13, by omega, hA.out, _, _, rfl, hvc, hFF.out, hII.out⟩, by omega, ?_, HD.out.mv⟩
            rw [← Nat.add_assoc]; exact HD.out.src
        · have hr0 : (r5 == 0) = false := beq_eq_false_iff_ne.2 (by omega)
          have hr1 : (r5 == 1) = false := beq_eq_false_iff_ne.2 (by omega)
          have hII := Lib.hid hO.out.iis.1
          have hFF := Lib.hid (hO.out.far (sb := sb) (by omega))
          clear hO
          go_wp2_with fail
          refine bodyPost_ret (v := .tuple #[.int .i64 P, .int .i64 T, .int .i64 G, .slice va L.length vc]) (by simp [results, Tryd.results14, go_sem]) rfl ?_
          refine ⟨P, T, G, _, L, _, q + q5, rfl, ⟨hP0, hP9, hT0, hT13, hG0, hG13, by omega, hA.out, _, _, rfl, hvc, hFF.out, hII.out⟩, by omega, ?_, HD.out.mv⟩
          rw [← Nat.add_assoc]; exact HD.out.src
  · subst hr
    go_wp2_with fail
    have HT := rows_lit (cell := cellJ) (T := 2) W4 #[.int .i64 0, .int .i64 12, .int .i64 13] [0, 12, 13] (fun k hk => by rcases (show k = 0 ∨ k = 1 ∨ k = 2 by simp at hk; omega) with rfl | rfl | rfl <;> rfl) rfl
    have hx := (Ext.refl W4).alloc (.cells #[.int .i64 0, .int .i64 12, .int .i64 13] 2)
    refine (among_any _ sb a cap code (n + q1 + q2 + q3 + q4) (HD.out.src.ext hx) (by omega) (some ⟨(W4).heap.size, 0, none⟩) 3 _ HT (by simp) (by simp) (fun p e => by cases e; have := HD.out.src.lt; show (W4).heap.size ≠ sb; omega)).mono ?_
    rintro e W5 ⟨m, q5, rfl, hs1, hq5, S2, M2⟩
    have hs2 : 0 ≤ m ∧ m ≤ 13 := by simp only [List.mem_cons, List.not_mem_nil, or_false] at hs1; omega
    replace HD := Lib.hid ((HD.out.ext hx).step S2 M2)
    clear S2 M2 HT hx hs1
    have hfacts : (0 ≤ 1 + r1 ∧ 1 + r1 ≤ 9) ∧ (-1 ≤ r2 ∧ r2 ≤ 13) ∧ (0 ≤ m ∧ m ≤ 13) := by omega
    replace HD : Hid (Dr w W5 sb a cap code (n + (q1 + q2 + q3 + q4 + q5))) := by rw [show n + (q1 + q2 + q3 + q4 + q5) = n + q1 + q2 + q3 + q4 + q5 by omega]; exact HD
    obtain ⟨P, hP⟩ : ∃ P, P = (1 + r1) := ⟨_, rfl⟩
    obtain ⟨T, hT⟩ : ∃ T, T = r2 := ⟨_, rfl⟩
    obtain ⟨G, hG⟩ : ∃ G, G = m := ⟨_, rfl⟩
    have hqq : q1 + q2 + q3 + q4 + q5 ≤ 10 := by omega
    obtain ⟨q0, hq0⟩ : ∃ q0, q0 = q1 + q2 + q3 + q4 + q5 := ⟨_, rfl⟩
    rw [← hq0] at HD hqq
    rw [← hP, ← hT, ← hG] at hfacts
    obtain ⟨⟨hP0, hP9⟩, ⟨hT0, hT13⟩, hG0, hG13⟩ := hfacts
    replace hP := Lib.hid hP
    replace hT := Lib.hid hT
    replace hG := Lib.hid hG
    clear hq0
    obtain ⟨wc, hwc⟩ : ∃ wc, wc = W5 := ⟨_, rfl⟩
    rw [← hwc] at HD ⊢
    clear hwc
    have hO := Lib.hid (RII.new wc w.heap.size HD.out.size)
    replace HD := Lib.hid (HD.out.ext ((Ext.refl wc).alloc (.cells #[] 27)))
    go_wp2_with fail
    rw [← hP.out, ← hT.out, ← hG.out]
    go_loopw [9, 10] (fun o i wr => ∃ (p q : Nat) (L : List (List Int)) (vs : List Sl), (p : Int) ≤ P ∧ i = .int .i64 p ∧ q ≤ 10 + 26 * p ∧ L.length ≤ p ∧ Hid (AllR L) ∧ Hid (RII wr w.heap.size wr.heap.size o L vs) ∧ Hid (Dr w wr sb a cap code (n + q))) (fun _ i _ => 9 - (intOf i).toNat)
    case atStart => exact ⟨0, q0, [], [], by omega, rfl, by omega, Nat.le_refl _, AllR.nil, hO.out, HD.out⟩
    case round =>
      clear hO HD
      obtain ⟨p, q, L, vs, hp, rfl, hq, hL, hA, hO, HD⟩ := hrel
      have hzs := HD.out.size
      by_cases hlt : (p : Int) < P
      · have hd : decide ((p : Int) < P) = true := decide_eq_true hlt
        have hR := Lib.hid (Lst.new (T := 2) (n := 1) (cell := cellI) (α := Int) wr wr.heap.size (Nat.le_refl _))
        have hx := (Ext.refl wr).alloc (.cells #[] 2)
        have hhi : wr.heap.size ≤ (wr.alloc (.cells #[] 2)).heap.size := hx.size
        replace hO := Lib.hid (hO.out.ext hx)
        replace HD := Lib.hid (HD.out.ext hx)
        clear hx
        obtain ⟨va, vc, rfl, hvc, -⟩ := hO.out.shape
        go_wp2_with fail
        obtain ⟨hi, hhid⟩ : ∃ hi, hi = wr.heap.size := ⟨_, rfl⟩
        obtain ⟨W0, hW0⟩ : ∃ W0, W0 = wr.alloc (.cells #[] 2) := ⟨_, rfl⟩
        rw [← hW0] at hR hO HD hhi ⊢
        rw [← hhid] at hR hO hhi hzs ⊢
        clear hW0 hhid
        go_loopw [11, 12] (fun o i wq => ∃ (t q2 : Nat) (R : List Int), (t : Int) ≤ 13 ∧ i = .int .i64 t ∧ q2 ≤ 10 + 26 * p + 2 * t ∧ R.length ≤ t ∧ hi ≤ wq.heap.size ∧ Hid (Lst 2 1 cellI wq hi o R) ∧ Hid (RII wq w.heap.size hi (.slice va L.length vc) L vs) ∧ Hid (Dr w wq sb a cap code (n + q2))) (fun _ i _ => (T - intOf i).toNat)
        case atStart => exact ⟨0, q, [], by omega, rfl, by omega, Nat.le_refl _, hhi, hR.out, hO.out, HD.out⟩
        case round =>
          clear hR hO HD hd
          obtain ⟨t, q2, R, ht, rfl, hq2, hRt, hge, hR, hO, HD⟩ := hrel
          by_cases hlt2 : (t : Int) < T
          · have hd : decide ((t : Int) < T) = true := decide_eq_true hlt2
            go_wp2_with fail
            refine (one_any wr sb a cap code (n + q2) HD.out.src (by omega) 6 (by omega)).mono ?_
            rintro e W6 ⟨b, q3, rfl, hq3, S1, M1⟩
            replace hR := Lib.hid (hR.out.moved M1 (by omega))
            replace hO := Lib.hid (hO.out.moved M1 (by omega))
            replace HD := Lib.hid (HD.out.step S1 M1)
            replace hge := Nat.le_trans hge M1.size
            clear S1 M1
            cases b
            · go_wp2_with fail
              go_roundw
              case rel => exact ⟨t + 1, q2 + q3, R, by omega, by go_num, by omega, by omega, hge, hR.out, hO.out, by rw [← Nat.add_assoc]; exact HD.out⟩
              case measure => simp [intOf]; omega
            · have hX := (Ext.refl W6).alloc (.cells #[.int .i64 (t : Int)] 2)
              have HR2 : Hid (IntAt (W6.alloc (.cells #[.int .i64 (t : Int)] 2)) (some ⟨W6.heap.size, 0, none⟩) [(t : Int)]) := rows_new (n := 1) (cell := cellI) (T := 2) W6 #[.int .i64 (t : Int)] (t : Int) (fun i hi => by rw [show i = 0 from Nat.lt_one_iff.1 hi]; rfl)
              replace hR := Lib.hid (hR.out.ext hX)
              replace hO := Lib.hid (hO.out.ext hX)
              replace HD := Lib.hid (HD.out.ext hX)
              replace hge := Lib.hid (Nat.le_trans hge hX.size)
              clear hX
              obtain ⟨ra, rc, rfl, -, -, -, -⟩ := hR.out.shape
              go_wp2_with (at_builtin; refine wpList_pushL elInt oneInt rfl _ _ rfl hi _ R (by rfl) hR.out _ 1 1 [(t : Int)] rfl (by rfl) HR2.out (by omega) (by omega) hge.out ?_; intro v6 w6 L6 _ g6; have L6 := Lib.hid L6; have g7 := Lib.hid g6; clear g6)
              have hbl := hR.out.ge
              replace hO := Lib.hid (hO.out.grown g7.out hbl)
              replace HD := Lib.hid (HD.out.grown g7.out (fun g e => Nat.le_trans hzs (hbl g e)))
              replace hge := Nat.le_trans hge.out g7.out.size
              have hl2 : (R ++ [(t : Int)]).length ≤ t + 1 := by rw [List.length_append]; simp; omega
              clear g7 hbl hR HR2
              go_roundw
              case rel => exact ⟨t + 1, q2 + q3, R ++ [(t : Int)], by omega, by go_num, by omega, hl2, hge, L6.out, hO.out, by rw [← Nat.add_assoc]; exact HD.out⟩
              case measure => simp [intOf]; omega
          · have hd : decide ((t : Int) < T) = false := decide_eq_false hlt2
            obtain ⟨ra, rc, rfl, hrc, -, hRR, hRO⟩ := hR.out.shape
            have hX := (Ext.refl wr).alloc (.cells #[.slice ra R.length rc] 27)
            have hRow := Lib.hid (((RowI.of_own hRR hRO hzs hO.out.vhi).ext hX).more hX.size (.inl rfl))
            have HR2 : Hid (RowsAt 1 cellV (wr.alloc (.cells #[.slice ra R.length rc] 27)) (some ⟨wr.heap.size, 0, none⟩) [⟨ra, R.length, rc⟩]) := rows_new (n := 1) (cell := cellV) (T := 27) wr #[.slice ra R.length rc] ⟨ra, R.length, rc⟩ (fun i hi => by rw [show i = 0 from Nat.lt_one_iff.1 hi]; rfl)
            replace hO := Lib.hid (hO.out.ext hX)
            replace HD := Lib.hid (HD.out.ext hX)
            have hze : hi ≤ (wr.alloc (.cells #[.slice ra R.length rc] 27)).heap.size := Nat.le_trans hge hX.size
            have hze2 := Lib.hid (Nat.le_trans hzs hze)
            have hvl := Lib.hid hO.out.len
            have hLv := Lib.hid (hO.out.lst)
            have hvl2 : vs.length ≤ 9 := by rw [hvl.out]; omega
            clear hX hRR hRO hR
            go_wp2_with (at_builtin; refine wpList_pushAt elRows oneSl rfl _ _ rfl w.heap.size _ vs (by rfl) hLv.out _ 1 1 [⟨ra, R.length, rc⟩] rfl (by rfl) HR2.out (by omega) (by omega) hze2.out ?_; intro v7 w7 L7 g7 hat7; have L7 := Lib.hid L7; have g8 := Lib.hid g7; have hat8 := Lib.hid hat7; clear g7 hat7)
            have hO2 := Lib.hid (hO.out.push hze hRow.out hrc L7.out g8.out hat8.out)
            replace HD := Lib.hid (HD.out.grown g8.out (hLv.out.ge))
            have hA2 := Lib.hid (hA.out.push (r := R) (by omega))
            have hl2 : (L ++ [R]).length ≤ p + 1 := by rw [List.length_append]; simp; omega
            clear hO hRow HR2 hLv L7 g8 hat8 hA
            go_roundw
            case rel => exact ⟨p + 1, q2, L ++ [R], _, by omega, by go_num, by omega, hl2, hA2.out, hO2.out, HD.out⟩
            case measure => simp [intOf]; omega
      · have hd : decide ((p : Int) < P) = false := decide_eq_false hlt
        obtain ⟨va, vc, rfl, hvc, -⟩ := hO.out.shape
        go_wp2_with fail
        refine (pick_any wr sb a cap code (n + q) HD.out.src (by omega) 16 (by omega)).mono ?_
        rintro e W8 ⟨r5, q5, rfl, p0r5, p1r5, hq5, S1, M1⟩
        replace p1r5 := p1r5 (by omega)
        replace HD := Lib.hid (HD.out.step S1 M1)
        replace hO := Lib.hid ((hO.out.moved M1 (by omega)).more M1.size)
        clear S1 M1
        rcases (show r5 = 0 ∨ r5 = 1 ∨ 2 ≤ r5 by omega) with hr | hr | hr
        · subst hr
          have hX1 := (Ext.refl W8).alloc (.cells #[] 2)
          have hX := hX1.alloc (.cells #[.slice (some ⟨W8.heap.size, 0, none⟩) 0 0] 27)
          have HR2 : Hid (RowsAt 1 cellV ((W8.alloc (.cells #[] 2)).alloc (.cells #[.slice (some ⟨W8.heap.size, 0, none⟩) 0 0] 27)) (some ⟨W8.heap.size + 1, 0, none⟩) [⟨some ⟨W8.heap.size, 0, none⟩, ([] : List Int).length, 0⟩]) := by
            have h9 := rows_new (n := 1) (cell := cellV) (T := 27) (W8.alloc (.cells #[] 2)) #[.slice (some ⟨W8.heap.size, 0, none⟩) 0 0] ⟨some ⟨W8.heap.size, 0, none⟩, 0, 0⟩ (fun q hq => by have h8 : q < 1 := hq; obtain rfl : q = 0 := (by omega); rfl)
            rw [size_new] at h9
            exact h9
          replace hO := Lib.hid (hO.out.ext hX)
          replace HD := Lib.hid (HD.out.ext hX)
          have hze : W8.heap.size ≤ ((W8.alloc (.cells #[] 2)).alloc (.cells #[.slice (some ⟨W8.heap.size, 0, none⟩) 0 0] 27)).heap.size := hX.size
          have hz2 := Lib.hid HD.out.size
          have hvl := Lib.hid hO.out.len
          have hLv := Lib.hid (hO.out.lst)
          have hvl2 : vs.length ≤ 9 := by rw [hvl.out]; omega
          clear hX hX1
          go_wp2_with (at_builtin; refine wpList_pushAt elRows oneSl rfl _ _ rfl w.heap.size _ vs (by rfl) hLv.out _ 1 1 [⟨some ⟨W8.heap.size, 0, none⟩, ([] : List Int).length, 0⟩] rfl (by rfl) HR2.out (by omega) (by omega) hz2.out ?_; intro v7 w7 L7 g7 hat7; have L7 := Lib.hid L7; have g8 := Lib.hid g7; have hat8 := Lib.hid hat7; clear g7 hat7)
          have hO2 := Lib.hid (hO.out.push (x := []) hze (.inl rfl) (Nat.le_refl _) L7.out g8.out hat8.out)
          replace HD := Lib.hid (HD.out.grown g8.out (hLv.out.ge))
          have hA2 := Lib.hid (hA.out.push (r := []) (by simp))
          obtain ⟨wa, wc9, rfl, hwc, -⟩ := hO2.out.shape
          have hII := Lib.hid hO2.out.iis.1
          have hFF := Lib.hid (hO2.out.far (sb := sb) (by omega))
          clear hO HR2 hLv L7 g8 hat8 hA hO2 hvl
          refine bodyPost_ret (v := .tuple #[.int .i64 P, .int .i64 T, .int .i64 G, .slice wa (L ++ [[]]).length wc9]) (by simp [results, Tryd.results14, go_sem]) rfl ?_
          refine ⟨P, T, G, _, L ++ [[]], _, q + q5, rfl, ⟨hP0, hP9, hT0, hT13, hG0, hG13, by rw [List.length_append]; simp; omega, hA2.out, _, _, rfl, hwc, hFF.out, hII.out⟩, by omega, ?_, HD.out.mv⟩
          rw [← Nat.add_assoc]; exact HD.out.src
        · subst hr
          by_cases h0 : 0 < L.length
          · have h1 : decide (0 < L.length) = true := decide_eq_true h0
            go_wp2_with fail
            have HT := rows_lit (cell := cellJ) (T := 2) W8 #[.int .i64 (-1), .int .i64 T] [(-1), T] (fun k hk => by rcases (show k = 0 ∨ k = 1 by simp at hk; omega) with rfl | rfl <;> rfl) rfl
            have hx := (Ext.refl W8).alloc (.cells #[.int .i64 (-1), .int .i64 T] 2)
            replace hO := Lib.hid (hO.out.ext hx)
            refine (among_any _ sb a cap code (n + q + q5) (HD.out.src.ext hx) (by omega) (some ⟨W8.heap.size, 0, none⟩) 2 _ HT (by simp) (by simp) (fun p e => by cases e; have := HD.out.src.lt; show W8.heap.size ≠ sb; omega)).mono ?_
            rintro e W9 ⟨m, q6, rfl, hs1, hq6, S2, M2⟩
            replace HD := Lib.hid ((HD.out.ext hx).step S2 M2)
            replace hO := Lib.hid (hO.out.moved M2 (by omega))
            clear S2 M2 HT hx hs1
            have hs9 := HD.out.src.lt
            have hne := Lib.hid (show ∀ g N, Blk W9 g 27 N → W9.heap.size ≠ g from fun g N hB => by have := hB.lt; omega)
            have hX := (Ext.refl W9).alloc (.cells #[.int .i64 m] 2)
            have HR2 : Hid (IntAt (W9.alloc (.cells #[.int .i64 m] 2)) (some ⟨W9.heap.size, 0, none⟩) [m]) := rows_new (n := 1) (cell := cellI) (T := 2) W9 #[.int .i64 m] m (fun i hi => by rw [show i = 0 from Nat.lt_one_iff.1 hi]; rfl)
            obtain ⟨g, N, rfl, hgb, hB9, hN⟩ : ∃ g N, va = some ⟨g, 0, none⟩ ∧ w.heap.size ≤ g ∧ Blk W9 g 27 N ∧ L.length * 1 ≤ N := by
              rcases hO.out.own with h | h
              · omega
              · exact h
            replace hne := Lib.hid (hne.out g N hB9)
            have hB := Lib.hid (hB9.ext hX)
            replace hO := Lib.hid (hO.out.ext hX)
            replace HD := Lib.hid (HD.out.ext hX)
            have gl := hB.out.lt
            obtain ⟨u0, g0⟩ := hB.out.cell (o := 0) (by omega)
            have gk := hB.out.frozen 0
            have hII := Lib.hid (hO.out.set0 (x := [m]) (cp := 1) hB.out (by omega) h0 HR2.out (Nat.le_refl _) hne.out)
            have hFF := Lib.hid ((hO.out.far (sb := sb) (by omega)).set0 (x := [m]) (b := W9.heap.size) (cp := 1) hO.out.len (by omega))
            replace HD := Lib.hid (HD.out.set (o := 0) hgb (.slice (some ⟨W9.heap.size, 0, none⟩) 1 1))
            have hA2 := Lib.hid (hA.out.set0 (r := [m]) (by simp))
            have hln : (L.set 0 [m]).length = L.length := List.length_set
            replace hln := Lib.hid hln
            clear hB hB9 hX HR2 hne hO
            go_wp2_with fail
            refine bodyPost_ret (v := .tuple #[.int .i64 P, .int .i64 T, .int .i64 G, .slice (some ⟨g, 0, none⟩) L.length vc]) (by simp [results, Tryd.results14, go_sem]) rfl ?_
            refine ⟨P, T, G, _, L.set 0 [m], _, q + q5 + q6, rfl, ⟨hP0, hP9, hT0, hT13, hG0, hG13, by rw [hln.out]; omega, hA2.out, _, vc, by rw [hln.out], by rw [hln.out]; exact hvc, hFF.out, hII.out⟩, by omega, ?_, HD.out.mv⟩
            rw [← Nat.add_assoc, ← Nat.add_assoc]; exact HD.out.src
          · have h1 : decide (0 < L.length) = false := decide_eq_false h0
            have hII := Lib.hid hO.out.iis.1
            have hFF := Lib.hid (hO.out.far (sb := sb) (by omega))
            clear hO
            go_wp2_with fail
            refine bodyPost_ret (v := .tuple #[.int .i64 P, .int .i64 T, .int .i64 G, .slice va L.length vc]) (by simp [results, Tryd.results14, go_sem]) rfl ?_
            refine ⟨P, T, G, _, L, _, q + q5, rfl, ⟨hP0, hP9, hT0, hT13, hG0, hG13, by omega, hA.out, _, _, rfl, hvc, hFF.out, hII.out⟩, by omega, ?_, HD.out.mv⟩
            rw [← Nat.add_assoc]; exact HD.out.src
        · have hr0 : (r5 == 0) = false := beq_eq_false_iff_ne.2 (by omega)
          have hr1 : (r5 == 1) = false := beq_eq_false_iff_ne.2 (by omega)
          have hII := Lib.hid hO.out.iis.1
          have hFF := Lib.hid (hO.out.far (sb := sb) (by omega))
          clear hO
          go_wp2_with fail
          refine bodyPost_ret (v := .tuple #[.int .i64 P, .int .i64 T, .int .i64 G, .slice va L.length vc]) (by simp [results, Tryd.results14, go_sem]) rfl ?_
          refine ⟨P, T, G, _, L, _, q + q5, rfl, ⟨hP0, hP9, hT0, hT13, hG0, hG13, by omega, hA.out, _, _, rfl, hvc, hFF.out, hII.out⟩, by omega, ?_, HD.out.mv⟩
          rw [← Nat.add_assoc]; exact HD.out.src
  · have hr0 : (r4 == 0) = false := beq_eq_false_iff_ne.2 (by omega)
    have hr1 : (r4 == 1) = false := beq_eq_false_iff_ne.2 (by omega)
    have hr2 : (r4 == 2) = false := beq_eq_false_iff_ne.2 (by omega)
    have hfacts : (0 ≤ 1 + r1 ∧ 1 + r1 ≤ 9) ∧ (-1 ≤ r2 ∧ r2 ≤ 13) ∧ (0 ≤ 1 + r3 ∧ 1 + r3 ≤ 13) := by omega
    replace HD : Hid (Dr w W4 sb a cap code (n + (q1 + q2 + q3 + q4))) := by rw [show n + (q1 + q2 + q3 + q4) = n + q1 + q2 + q3 + q4 by omega]; exact HD
    obtain ⟨P, hP⟩ : ∃ P, P = (1 + r1) := ⟨_, rfl⟩
    obtain ⟨T, hT⟩ : ∃ T, T = r2 := ⟨_, rfl⟩
    obtain ⟨G, hG⟩ : ∃ G, G = (1 + r3) := ⟨_, rfl⟩
    have hqq : q1 + q2 + q3 + q4 ≤ 10 := by omega
    obtain ⟨q0, hq0⟩ : ∃ q0, q0 = q1 + q2 + q3 + q4 := ⟨_, rfl⟩
    rw [← hq0] at HD hqq
    rw [← hP, ← hT, ← hG] at hfacts
    obtain ⟨⟨hP0, hP9⟩, ⟨hT0, hT13⟩, hG0, hG13⟩ := hfacts
    replace hP := Lib.hid hP
    replace hT := Lib.hid hT
    replace hG := Lib.hid hG
    clear hq0
    obtain ⟨wc, hwc⟩ : ∃ wc, wc = W4 := ⟨_, rfl⟩
    rw [← hwc] at HD ⊢
    clear hwc
    have hO := Lib.hid (RII.new wc w.heap.size HD.out.size)
    replace HD := Lib.hid (HD.out.ext ((Ext.refl wc).alloc (.cells #[] 27)))
    go_wp2_with fail
    rw [← hP.out, ← hT.out, ← hG.out]
    go_loopw [9, 10] (fun o i wr => ∃ (p q : Nat) (L : List (List Int)) (vs : List Sl), (p : Int) ≤ P ∧ i = .int .i64 p ∧ q ≤ 10 + 26 * p ∧ L.length ≤ p ∧ Hid (AllR L) ∧ Hid (RII wr w.heap.size wr.heap.size o L vs) ∧ Hid (Dr w wr sb a cap code (n + q))) (fun _ i _ => 9 - (intOf i).toNat)
    case atStart => exact ⟨0, q0, [], [], by omega, rfl, by omega, Nat.le_refl _, AllR.nil, hO.out, HD.out⟩
    case round =>
      clear hO HD
      obtain ⟨p, q, L, vs, hp, rfl, hq, hL, hA, hO, HD⟩ := hrel
      have hzs := HD.out.size
      by_cases hlt : (p : Int) < P
      · have hd : decide ((p : Int) < P) = true := decide_eq_true hlt
        have hR := Lib.hid (Lst.new (T := 2) (n := 1) (cell := cellI) (α := Int) wr wr.heap.size (Nat.le_refl _))
        have hx := (Ext.refl wr).alloc (.cells #[] 2)
        have hhi : wr.heap.size ≤ (wr.alloc (.cells #[] 2)).heap.size := hx.size
        replace hO := Lib.hid (hO.out.ext hx)
        replace HD := Lib.hid (HD.out.ext hx)
        clear hx
        obtain ⟨va, vc, rfl, hvc, -⟩ := hO.out.shape
        go_wp2_with fail
        obtain ⟨hi, hhid⟩ : ∃ hi, hi = wr.heap.size := ⟨_, rfl⟩
        obtain ⟨W0, hW0⟩ : ∃ W0, W0 = wr.alloc (.cells #[] 2) := ⟨_, rfl⟩
        rw [← hW0] at hR hO HD hhi ⊢
        rw [← hhid] at hR hO hhi hzs ⊢
        clear hW0 hhid
        go_loopw [11, 12] (fun o i wq => ∃ (t q2 : Nat) (R : List Int), (t : Int) ≤ 13 ∧ i = .int .i64 t ∧ q2 ≤ 10 + 26 * p + 2 * t ∧ R.length ≤ t ∧ hi ≤ wq.heap.size ∧ Hid (Lst 2 1 cellI wq hi o R) ∧ Hid (RII wq w.heap.size hi (.slice va L.length vc) L vs) ∧ Hid (Dr w wq sb a cap code (n + q2))) (fun _ i _ => (T - intOf i).toNat)
        case atStart => exact ⟨0, q, [], by omega, rfl, by omega, Nat.le_refl _, hhi, hR.out, hO.out, HD.out⟩
        case round =>
          clear hR hO HD hd
          obtain ⟨t, q2, R, ht, rfl, hq2, hRt, hge, hR, hO, HD⟩ := hrel
          by_cases hlt2 : (t : Int) < T
          · have hd : decide ((t : Int) < T) = true := decide_eq_true hlt2
            go_wp2_with fail
            refine (one_any wr sb a cap code (n + q2) HD.out.src (by omega) 6 (by omega)).mono ?_
            rintro e W6 ⟨b, q3, rfl, hq3, S1, M1⟩
            replace hR := Lib.hid (hR.out.moved M1 (by omega))
            replace hO := Lib.hid (hO.out.moved M1 (by omega))
            replace HD := Lib.hid (HD.out.step S1 M1)
            replace hge := Nat.le_trans hge M1.size
            clear S1 M1
            cases b
            · go_wp2_with fail
              go_roundw
              case rel => exact ⟨t + 1, q2 + q3, R, by omega, by go_num, by omega, by omega, hge, hR.out, hO.out, by rw [← Nat.add_assoc]; exact HD.out⟩
              case measure => simp [intOf]; omega
            · have hX := (Ext.refl W6).alloc (.cells #[.int .i64 (t : Int)] 2)
              have HR2 : Hid (IntAt (W6.alloc (.cells #[.int .i64 (t : Int)] 2)) (some ⟨W6.heap.size, 0, none⟩) [(t : Int)]) := rows_new (n := 1) (cell := cellI) (T := 2) W6 #[.int .i64 (t : Int)] (t : Int) (fun i hi => by rw [show i = 0 from Nat.lt_one_iff.1 hi]; rfl)
              replace hR := Lib.hid (hR.out.ext hX)
              replace hO := Lib.hid (hO.out.ext hX)
              replace HD := Lib.hid (HD.out.ext hX)
              replace hge := Lib.hid (Nat.le_trans hge hX.size)
              clear hX
              obtain ⟨ra, rc, rfl, -, -, -, -⟩ := hR.out.shape
              go_wp2_with (at_builtin; refine wpList_pushL elInt oneInt rfl _ _ rfl hi _ R (by rfl) hR.out _ 1 1 [(t : Int)] rfl (by rfl) HR2.out (by omega) (by omega) hge.out ?_; intro v6 w6 L6 _ g6; have L6 := Lib.hid L6; have g7 := Lib.hid g6; clear g6)
              have hbl := hR.out.ge
              replace hO := Lib.hid (hO.out.grown g7.out hbl)
              replace HD := Lib.hid (HD.out.grown g7.out (fun g e => Nat.le_trans hzs (hbl g e)))
              replace hge := Nat.le_trans hge.out g7.out.size
              have hl2 : (R ++ [(t : Int)]).length ≤ t + 1 := by rw [List.length_append]; simp; omega
              clear g7 hbl hR HR2
              go_roundw
              case rel => exact ⟨t + 1, q2 + q3, R ++ [(t : Int)], by omega, by go_num, by omega, hl2, hge, L6.out, hO.out, by rw [← Nat.add_assoc]; exact HD.out⟩
              case measure => simp [intOf]; omega
          · have hd : decide ((t : Int) < T) = false := decide_eq_false hlt2
            obtain ⟨ra, rc, rfl, hrc, -, hRR, hRO⟩ := hR.out.shape
            have hX := (Ext.refl wr).alloc (.cells #[.slice ra R.length rc] 27)
            have hRow := Lib.hid (((RowI.of_own hRR hRO hzs hO.out.vhi).ext hX).more hX.size (.inl rfl))
            have HR2 : Hid (RowsAt 1 cellV (wr.alloc (.cells #[.slice ra R.length rc] 27)) (some ⟨wr.heap.size, 0, none⟩) [⟨ra, R.length, rc⟩]) := rows_new (n := 1) (cell := cellV) (T := 27) wr #[.slice ra R.length rc] ⟨ra, R.length, rc⟩ (fun i hi => by rw [show i = 0 from Nat.lt_one_iff.1 hi]; rfl)
            replace hO := Lib.hid (hO.out.ext hX)
            replace HD := Lib.hid (HD.out.ext hX)
            have hze : hi ≤ (wr.alloc (.cells #[.slice ra R.length rc] 27)).heap.size := Nat.le_trans hge hX.size
            have hze2 := Lib.hid (Nat.le_trans hzs hze)
            have hvl := Lib.hid hO.out.len
            have hLv := Lib.hid (hO.out.lst)
            have hvl2 : vs.length ≤ 9 := by rw [hvl.out]; omega
            clear hX hRR hRO hR
            go_wp2_with (at_builtin; refine wpList_pushAt elRows oneSl rfl _ _ rfl w.heap.size _ vs (by rfl) hLv.out _ 1 1 [⟨ra, R.length, rc⟩] rfl (by rfl) HR2.out (by omega) (by omega) hze2.out ?_; intro v7 w7 L7 g7 hat7; have L7 := Lib.hid L7; have g8 := Lib.hid g7; have hat8 := Lib.hid hat7; clear g7 hat7)
            have hO2 := Lib.hid (hO.out.push hze hRow.out hrc L7.out g8.out hat8.out)
            replace HD := Lib.hid (HD.out.grown g8.out (hLv.out.ge))
            have hA2 := Lib.hid (hA.out.push (r := R) (by omega))
            have hl2 : (L ++ [R]).length ≤ p + 1 := by rw [List.length_append]; simp; omega
            clear hO hRow HR2 hLv L7 g8 hat8 hA
            go_roundw
            case rel => exact ⟨p + 1, q2, L ++ [R], _, by omega, by go_num, by omega, hl2, hA2.out, hO2.out, HD.out⟩
            case measure => simp [intOf]; omega
      · have hd : decide ((p : Int) < P) = false := decide_eq_false hlt
        obtain ⟨va, vc, rfl, hvc, -⟩ := hO.out.shape
        go_wp2_with fail
        refine (pick_any wr sb a cap code (n + q) HD.out.src (by omega) 16 (by omega)).mono ?_
        rintro e W8 ⟨r5, q5, rfl, p0r5, p1r5, hq5, S1, M1⟩
        replace p1r5 := p1r5 (by omega)
        replace HD := Lib.hid (HD.out.step S1 M1)
        replace hO := Lib.hid ((hO.out.moved M1 (by omega)).more M1.size)
        clear S1 M1
        rcases (show r5 = 0 ∨ r5 = 1 ∨ 2 ≤ r5 by omega) with hr | hr | hr
        · subst hr
          have hX1 := (Ext.refl W8).alloc (.cells #[] 2)
          have hX := hX1.alloc (.cells #[.slice (some ⟨W8.heap.size, 0, none⟩) 0 0] 27)
          have HR2 : Hid (RowsAt 1 cellV ((W8.alloc (.cells #[] 2)).alloc (.cells #[.slice (some ⟨W8.heap.size, 0, none⟩) 0 0] 27)) (some ⟨W8.heap.size + 1, 0, none⟩) [⟨some ⟨W8.heap.size, 0, none⟩, ([] : List Int).length, 0⟩]) := by
            have h9 := rows_new (n := 1) (cell := cellV) (T := 27) (W8.alloc (.cells #[] 2)) #[.slice (some ⟨W8.heap.size, 0, none⟩) 0 0] ⟨some ⟨W8.heap.size, 0, none⟩, 0, 0⟩ (fun q hq => by have h8 : q < 1 := hq; obtain rfl : q = 0 := (by omega); rfl)
            rw [size_new] at h9
            exact h9
          replace hO := Lib.hid (hO.out.ext hX)
          replace HD := Lib.hid (HD.out.ext hX)
          have hze : W8.heap.size ≤ ((W8.alloc (.cells #[] 2)).alloc (.cells #[.slice (some ⟨W8.heap.size, 0, none⟩) 0 0] 27)).heap.size := hX.size
          have hz2 := Lib.hid HD.out.size
          have hvl := Lib.hid hO.out.len
          have hLv := Lib.hid (hO.out.lst)
          have hvl2 : vs.length ≤ 9 := by rw [hvl.out]; omega
          clear hX hX1
          go_wp2_with (at_builtin; refine wpList_pushAt elRows oneSl rfl _ _ rfl w.heap.size _ vs (by rfl) hLv.out _ 1 1 [⟨some ⟨W8.heap.size, 0, none⟩, ([] : List Int).length, 0⟩] rfl (by rfl) HR2.out (by omega) (by omega) hz2.out ?_; intro v7 w7 L7 g7 hat7; have L7 := Lib.hid L7; have g8 := Lib.hid g7; have hat8 := Lib.hid hat7; clear g7 hat7)
          have hO2 := Lib.hid (hO.out.push (x := []) hze (.inl rfl) (Nat.le_refl _) L7.out g8.out hat8.out)
          replace HD := Lib.hid (HD.out.grown g8.out (hLv.out.ge))
          have hA2 := Lib.hid (hA.out.push (r := []) (by simp))
          obtain ⟨wa, wc9, rfl, hwc, -⟩ := hO2.out.shape
          have hII := Lib.hid hO2.out.iis.1
          have hFF := Lib.hid (hO2.out.far (sb := sb) (by omega))
          clear hO HR2 hLv L7 g8 hat8 hA hO2 hvl
          refine bodyPost_ret (v := .tuple #[.int .i64 P, .int .i64 T, .int .i64 G, .slice wa (L ++ [[]]).length wc9]) (by simp [results, Tryd.results14, go_sem]) rfl ?_
          refine ⟨P, T, G, _, L ++ [[]], _, q + q5, rfl, ⟨hP0, hP9, hT0, hT13, hG0, hG13, by rw [List.length_append]; simp; omega, hA2.out, _, _, rfl, hwc, hFF.out, hII.out⟩, by omega, ?_, HD.out.mv⟩
          rw [← Nat.add_assoc]; exact HD.out.src
        · subst hr
          by_cases h0 : 0 < L.length
          · have h1 : decide (0 < L.length) = true := decide_eq_true h0
            go_wp2_with fail
            have HT := rows_lit (cell := cellJ) (T := 2) W8 #[.int .i64 (-1), .int .i64 T] [(-1), T] (fun k hk => by rcases (show k = 0 ∨ k = 1 by simp at hk; omega) with rfl | rfl <;> rfl) rfl
            have hx := (Ext.refl W8).alloc (.cells #[.int .i64 (-1), .int .i64 T] 2)
            replace hO := Lib.hid (hO.out.ext hx)
            refine (among_any _ sb a cap code (n + q + q5) (HD.out.src.ext hx) (by omega) (some ⟨W8.heap.size, 0, none⟩) 2 _ HT (by simp) (by simp) (fun p e => by cases e; have := HD.out.src.lt; show W8.heap.size ≠ sb; omega)).mono ?_
            rintro e W9 ⟨m, q6, rfl, hs1, hq6, S2, M2⟩
            replace HD := Lib.hid ((HD.out.ext hx).step S2 M2)
            replace hO := Lib.hid (hO.out.moved M2 (by omega))
            clear S2 M2 HT hx hs1
            have hs9 := HD.out.src.lt
            have hne := Lib.hid (show ∀ g N, Blk W9 g 27 N → W9.heap.size ≠ g from fun g N hB => by have := hB.lt; omega)
            have hX := (Ext.refl W9).alloc (.cells #[.int .i64 m] 2)
            have HR2 : Hid (IntAt (W9.alloc (.cells #[.int .i64 m] 2)) (some ⟨W9.heap.size, 0, none⟩) [m]) := rows_new (n := 1) (cell := cellI) (T := 2) W9 #[.int .i64 m] m (fun i hi => by rw [show i = 0 from Nat.lt_one_iff.1 hi]; rfl)
            obtain ⟨g, N, rfl, hgb, hB9, hN⟩ : ∃ g N, va = some ⟨g, 0, none⟩ ∧ w.heap.size ≤ g ∧ Blk W9 g 27 N ∧ L.length * 1 ≤ N := by
              rcases hO.out.own with h | h
              · omega
              · exact h
            replace hne := Lib.hid (hne.out g N hB9)
            have hB := Lib.hid (hB9.ext hX)
            replace hO := Lib.hid (hO.out.ext hX)
            replace HD := Lib.hid (HD.out.ext hX)
            have gl := hB.out.lt
            obtain ⟨u0, g0⟩ := hB.out.cell (o := 0) (by omega)
            have gk := hB.out.frozen 0
            have hII := Lib.hid (hO.out.set0 (x := [m]) (cp := 1) hB.out (by omega) h0 HR2.out (Nat.le_refl _) hne.out)
            have hFF := Lib.hid ((hO.out.far (sb := sb) (by omega)).set0 (x := [m]) (b := W9.heap.size) (cp := 1) hO.out.len (by omega))
            replace HD := Lib.hid (HD.out.set (o := 0) hgb (.slice (some ⟨W9.heap.size, 0, none⟩) 1 1))
            have hA2 := Lib.hid (hA.out.set0 (r := [m]) (by simp))
            have hln : (L.set 0 [m]).length = L.length := List.length_set
            replace hln := Lib.hid hln
            clear hB hB9 hX HR2 hne hO
            go_wp2_with fail
            refine bodyPost_ret (v := .tuple #[.int .i64 P, .int .i64 T, .int .i64 G, .slice (some ⟨g, 0, none⟩) L.length vc]) (by simp [results, Tryd.results14, go_sem]) rfl ?_
            refine ⟨P, T, G, _, L.set 0 [m], _, q + q5 + q6, rfl, ⟨hP0, hP9, hT0, hT13, hG0, hG13, by rw [hln.out]; omega, hA2.out, _, vc, by rw [hln.out], by rw [hln.out]; exact hvc, hFF.out, hII.out⟩, by omega, ?_, HD.out.mv⟩
            rw [← Nat.add_assoc, ← Nat.add_assoc]; exact HD.out.src
          · have h1 : decide (0 < L.length) = false := decide_eq_false h0
            have hII := Lib.hid hO.out.iis.1
            have hFF := Lib.hid (hO.out.far (sb := sb) (by omega))
            clear hO
            go_wp2_with fail
            refine bodyPost_ret (v := .tuple #[.int .i64 P, .int .i64 T, .int .i64 G, .slice va L.length vc]) (by simp [results, Tryd.results14, go_sem]) rfl ?_
            refine ⟨P, T, G, _, L, _, q + q5, rfl, ⟨hP0, hP9, hT0, hT13, hG0, hG13, by omega, hA.out, _, _, rfl, hvc, hFF.out, hII.out⟩, by omega, ?_, HD.out.mv⟩
            rw [← Nat.add_assoc]; exact HD.out.src
        · have hr0 : (r5 == 0) = false := beq_eq_false_iff_ne.2 (by omega)
          have hr1 : (r5 == 1) = false := beq_eq_false_iff_ne.2 (by omega)
          have hII := Lib.hid hO.out.iis.1
          have hFF := Lib.hid (hO.out.far (sb := sb) (by omega))
          clear hO
          go_wp2_with fail
          refine bodyPost_ret (v := .tuple #[.int .i64 P, .int .i64 T, .int .i64 G, .slice va L.length vc]) (by simp [results, Tryd.results14, go_sem]) rfl ?_
          refine ⟨P, T, G, _, L, _, q + q5, rfl, ⟨hP0, hP9, hT0, hT13, hG0, hG13, by omega, hA.out, _, _, rfl, hvc, hFF.out, hII.out⟩, by omega, ?_, HD.out.mv⟩
          rw [← Nat.add_assoc]; exact HD.out.src
set_option maxRecDepth 100000 in
set_option maxHeartbeats 4000000 in
theorem DrawFairTurns_any (w : World) (a : Option Addr) (cap : Nat) (code : List Int) (H : ByteAt w a code) (hr : ∀ k, k < code.length → 0 ≤ nth code k ∧ nth code k ≤ 255) (hf : code.length ≤ 1048576) :
    Calls Tryd.prog 5 #[.slice a code.length cap] w fun e w' => ∃ (P T G : Int) (aa : Option Addr) (ac : Nat) (L : List (List Int)) (vs : List Sl) (bu : Int), e = .returned (.tuple #[.int .i64 P, .int .i64 T, .int .i64 G, .slice aa L.length ac, .int .i64 bu]) ∧ (0 ≤ P ∧ P ≤ 9) ∧ (-1 ≤ T ∧ T ≤ 13) ∧ (0 ≤ G ∧ G ≤ 13) ∧ L.length ≤ 10 ∧ AllR L ∧ L.length ≤ ac ∧ IIs w' aa L vs ∧ (0 ≤ bu ∧ bu ≤ 20001) ∧ Ext w w' := by
  have HF := Lib.hid (l00From_any w a cap code H hr hf)
  clear H hr
  go_enter Tryd.func5, Tryd.ntmps5
  go_wp2_with fail
  refine HF.out.mono ?_
  rintro e W0 ⟨sb, rfl, hsb, S0, E0⟩
  have HD := Lib.hid (Dr.start S0)
  have hsl := S0.lt
  have E0 := Lib.hid E0
  clear HF S0
  go_wp2_with fail
  refine (l26DrawQuery_any W0 sb a cap code 0 HD.out.src (by omega)).mono ?_
  rintro e W1 ⟨P, T, G, v, L, vs, q1, rfl, ⟨hP0, hP9, hT0, hT13, hG0, hG13, hL, hA, aa, ac, rfl, hac, hFar, hII⟩, hq1, S1, M1⟩
  replace hA := Lib.hid hA
  replace hFar := Lib.hid hFar
  replace HD := Lib.hid (HD.out.step S1 M1)
  replace hII := Lib.hid hII
  clear S1 M1
  go_wp2_with fail
  have HT := rows_lit (cell := cellJ) (T := 2) W1 #[.int .i64 1, .int .i64 20, .int .i64 200, .int .i64 2000, .int .i64 20000, .int .i64 0, .int .i64 20001, .int .i64 1000] [1, 20, 200, 2000, 20000, 0, 20001, 1000] (fun k hk => by rcases (show k = 0 ∨ k = 1 ∨ k = 2 ∨ k = 3 ∨ k = 4 ∨ k = 5 ∨ k = 6 ∨ k = 7 by simp at hk; omega) with rfl | rfl | rfl | rfl | rfl | rfl | rfl | rfl <;> rfl) rfl
  have hx := (Ext.refl W1).alloc (.cells #[.int .i64 1, .int .i64 20, .int .i64 200, .int .i64 2000, .int .i64 20000, .int .i64 0, .int .i64 20001, .int .i64 1000] 2)
  refine (among_any _ sb a cap code (0 + q1) (HD.out.src.ext hx) (by omega) (some ⟨W1.heap.size, 0, none⟩) 8 _ HT (by simp) (by simp) (fun p e => by cases e; have := HD.out.src.lt; show W1.heap.size ≠ sb; omega)).mono ?_
  rintro e W2 ⟨m, q2, rfl, hs1, hq2, S2, M2⟩
  have hs2 : 0 ≤ m ∧ m ≤ 20001 := by simp only [List.mem_cons, List.not_mem_nil, or_false] at hs1; omega
  replace HD := Lib.hid ((HD.out.ext hx).step S2 M2)
  replace hII := Lib.hid ((hII.out.ext hx).moved hFar.out M2)
  clear S2 M2 HT hx hs1
  go_wp2_with fail
  refine bodyPost_ret (v := .tuple #[.int .i64 P, .int .i64 T, .int .i64 G, .slice aa L.length ac, .int .i64 m]) (by simp [results, Tryd.results5, go_sem]) rfl ?_
  exact ⟨P, T, G, aa, ac, L, vs, m, rfl, by omega, by omega, by omega, hL, hA.out, hac, hII.out, hs2, HD.out.mv.ext w hsb E0.out⟩
end Go.Proofs.YtmkmmenkjbmppaaDoor
