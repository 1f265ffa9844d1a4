/- Turns given to people: the fairest turns. -/
import Derived.Test.YtmkmmenkjbmppaaDoorTurnP
import Derived.Test.YtmkmmenkjbmppaaDoorTurnC
import Derived.Test.YtmkmmenkjbmppaaDoorTurnG
namespace Go.Proofs.YtmkmmenkjbmppaaDoor
open Go.RowKit
/-- How often someone has a turn, at most, among the first n people. -/
def maxC (g : List Int) : Nat → Nat
  | 0 => 0
  | n + 1 => max (maxC g n) (g.count (n : Int))
theorem maxC_le (g : List Int) : ∀ {n p : Nat}, p < n → g.count (p : Int) ≤ maxC g n
  | 0, _, h => absurd h (Nat.not_lt_zero _)
  | n + 1, p, h => by
    unfold maxC
    rcases (show p < n ∨ p = n by omega) with h1 | rfl
    · have := maxC_le g (n := n) h1; omega
    · omega
/-- The search's state. -/
structure FS where
  best : List Int
  least : Int
  left : Int
def leafF (g : List Int) (s : FS) : FS := if s.least < 0 ∨ (maxC g 8 : Int) < s.least then { s with best := g, least := maxC g 8 } else s
def stepF (A : List (List Int)) (G : Nat) (rec : List Int → FS → FS) (g : List Int) (s : FS) (p : Nat) : FS :=
  if s.left < 0 then s
  else if mayT A G g (p : Int) = true then (if s.left = 0 then { s with left := -1 } else rec (g ++ [(p : Int)]) { s with left := s.left - 1 })
  else s
def loopF (A : List (List Int)) (G : Nat) (rec : List Int → FS → FS) (g : List Int) (s : FS) : Nat → FS
  | 0 => s
  | k + 1 => stepF A G rec g (loopF A G rec g s k) k
def fairV (A : List (List Int)) (P G : Nat) : Nat → List Int → FS → FS
  | 0, g, s => leafF g s
  | d + 1, g, s => loopF A G (fairV A P G d) g s P
/-- Nothing yet, or a full way with its number. -/
def FairQ (A : List (List Int)) (P G N : Nat) (s : FS) : Prop := s.least < 0 ∨ (wayT A P G s.best ∧ s.best.length = N ∧ s.least = (maxC s.best 8 : Nat))
theorem fairV_keeps {A : List (List Int)} {P G N : Nat} : ∀ (d : Nat) (g : List Int) (s : FS), wayT A P G g → g.length + d = N → FairQ A P G N s → FairQ A P G N (fairV A P G d g s)
  | 0, g, s, hw, hl, hq => by
    unfold fairV leafF
    split
    · exact .inr ⟨hw, by omega, rfl⟩
    · exact hq
  | d + 1, g, s, hw, hl, hq => by
    have key : ∀ k, k ≤ P → FairQ A P G N (loopF A G (fairV A P G d) g s k) := fun k => by
      induction k with
      | zero => intro _; exact hq
      | succ k ih =>
        intro hk
        have h1 := ih (by omega)
        show FairQ A P G N (stepF A G (fairV A P G d) g (loopF A G (fairV A P G d) g s k) k)
        unfold stepF
        split
        · exact h1
        · split
          · rename_i hm
            split
            · exact h1
            · exact fairV_keeps d _ _ (hw.push (by omega) (by omega) hm) (by rw [List.length_append]; simp only [List.length_cons, List.length_nil]; omega) h1
          · exact h1
    exact key P (Nat.le_refl _)
/-- What the law asks of the fairest turns. -/
theorem fair_law {A : List (List Int)} {P G N : Nat} (hP : P ≤ 8) {b : Int} {s : FS} (hs : fairV A P G N [] ⟨[], -1, b⟩ = s) (h : ¬ s.least < 0) : wayT A P G s.best ∧ s.best.length = N ∧ ∀ p : Nat, p < P → (s.best.count (p : Int) : Int) ≤ s.least := by
  have hk := fairV_keeps (A := A) (P := P) (G := G) (N := N) N [] ⟨[], -1, b⟩ (wayT.nil A P G) (by simp) (.inl (by show (-1 : Int) < 0; decide))
  rw [hs] at hk
  rcases hk with h1 | ⟨h1, h2, h3⟩
  · exact absurd h1 h
  · exact ⟨h1, h2, fun p hp => by rw [h3]; have := maxC_le s.best (n := 8) (p := p) (by omega); omega⟩
/-- A search that finds a full way shows that there is one: the number of ways is positive. -/
theorem cntT_way {A : List (List Int)} {P G : Nat} : ∀ (d : Nat) (g e : List Int), wayT A P G (g ++ e) → e.length = d → 0 < cntT A P G d g
  | 0, _, _, _, _ => Nat.one_pos
  | d + 1, g, [], _, h => by simp at h
  | d + 1, g, x :: e, hw, h => by
    have h1 := hw g.length (by rw [List.length_append]; simp only [List.length_cons]; omega)
    have e1 : nth (g ++ x :: e) g.length = x := by simp [nth]
    rw [e1, List.take_append_of_le_length (Nat.le_refl _), List.take_length] at h1
    obtain ⟨⟨x0, x1⟩, hm⟩ := h1
    obtain ⟨p, rfl⟩ := Int.eq_ofNat_of_zero_le x0
    have h2 := cntT_way d (g ++ [(p : Int)]) e (by rw [List.append_assoc]; exact hw) (by simpa using h)
    have key : ∀ n, p < n → 0 < sumT (fun q => if mayT A G g (q : Int) = true then cntT A P G d (g ++ [(q : Int)]) else 0) n := fun n => by
      induction n with
      | zero => intro h3; omega
      | succ n ih =>
        intro h3
        unfold sumT
        rcases (show p < n ∨ p = n by omega) with h4 | rfl
        · have := ih h4; omega
        · rw [if_pos hm]; omega
    exact key P (by omega)
end Go.Proofs.YtmkmmenkjbmppaaDoor
namespace Go.Proofs.YtmkmmenkjbmppaaDoor
open Go.RowKit
/-- The greatest of the first k + 1. -/
def maxTo (l : List Int) : Nat → Int
  | 0 => nth l 0
  | k + 1 => max (maxTo l k) (nth l (k + 1))
set_option maxHeartbeats 1000000 in
theorem Max_any (a : Option Addr) (cap : Nat) (l : List Int) (w : World) (H : IntAt w a l) (h0 : 0 < l.length) (hlen : l.length ≤ 1000000000000) :
    Calls Tryd.prog 41 #[.slice a l.length cap] w fun e w' => e = .returned (.int .i64 (maxTo l (l.length - 1))) ∧ w' = w := by
  obtain ⟨b, off, rfl⟩ := RowsAt.base H h0
  obtain ⟨hb, c0⟩ := IntAt.at H 0 h0
  rw [Nat.add_zero] at c0
  go_enter Tryd.func41, Tryd.ntmps41
  go_wp2
  go_loop [3, 4] (fun m i => ∃ k : Nat, k + 1 ≤ l.length ∧ i = .int .i64 ((k : Int) + 1) ∧ m = .int .i64 (maxTo l k)) (fun _ i => l.length - (intOf i).toNat)
  case atStart => exact ⟨0, h0, rfl, rfl⟩
  case round =>
    obtain ⟨k, hk, rfl, rfl⟩ := hrel
    by_cases hlt : k + 1 < l.length
    · obtain ⟨-, d0⟩ := IntAt.at H (k + 1) hlt
      clear H c0
      rcases Int.lt_or_le (maxTo l k) (nth l (k + 1)) with hc | hc
      · have hn : Hid (maxTo l (k + 1) = nth l (k + 1)) := by show _ = _; simp only [maxTo]; omega
        go_wp2
        go_round
        case rel => exact ⟨k + 1, by omega, by go_num, by first | rfl | (rw [hn.out]; congr 1; omega)⟩
        case measure => simp [intOf]; omega
      · have hn : Hid (maxTo l (k + 1) = maxTo l k) := by show _ = _; simp only [maxTo]; omega
        go_wp2
        go_round
        case rel => exact ⟨k + 1, by omega, by go_num, by first | rfl | (rw [hn.out]; congr 1; omega)⟩
        case measure => simp [intOf]; omega
    · have hn : Hid (maxTo l (l.length - 1) = maxTo l k) := by show _ = _; rw [show l.length - 1 = k by omega]
      clear H c0
      go_wp2
      go_ret
      exact ⟨by rw [hn.out]; rfl, rfl⟩
/-- How often a number is in a list. -/
def cntI (F : List Int) (j : Nat) : Int := (F.count (j : Int) : Nat)
theorem cntI_bd (F : List Int) (j : Nat) : 0 ≤ cntI F j ∧ cntI F j ≤ F.length := by
  unfold cntI
  have := List.count_le_length (l := F) (a := (j : Int))
  omega
theorem cntI_push (F : List Int) (x : Nat) (j : Nat) : cntI (F ++ [(x : Int)]) j = if j = x then cntI F j + 1 else cntI F j := by
  unfold cntI
  rw [List.count_append, List.count_singleton]
  by_cases h : j = x
  · subst h; simp
  · rw [if_neg h]
    have : ((x : Int) == (j : Int)) = false := beq_eq_false_iff_ne.2 (by omega)
    simp [this]
/-- Counts of numbers, in a block of their own. -/
structure CntAt (w : World) (b : Nat) (U : TypeId) (n : Nat) (F : List Int) : Prop where
  blk : Blk w b U n
  cell : ∀ j, j < n → w.cell? ⟨b, j, none⟩ = some (.int .i64 (cntI F j))
theorem CntAt.ext {w w' : World} {b n : Nat} {U : TypeId} {F : List Int} (h : CntAt w b U n F) (he : Ext w w') : CntAt w' b U n F := ⟨h.blk.ext he, fun j hj => he.cell (h.cell j hj)⟩
theorem CntAt.new8 (w : World) (U : TypeId) : CntAt (w.alloc (.cells #[.int .i64 0, .int .i64 0, .int .i64 0, .int .i64 0, .int .i64 0, .int .i64 0, .int .i64 0, .int .i64 0] U)) w.heap.size U 8 [] :=
  ⟨Blk.new w _ U, fun j hj => by
    rw [cell_new]
    rcases (show j = 0 ∨ j = 1 ∨ j = 2 ∨ j = 3 ∨ j = 4 ∨ j = 5 ∨ j = 6 ∨ j = 7 by omega) with rfl | rfl | rfl | rfl | rfl | rfl | rfl | rfl <;> rfl⟩
theorem CntAt.put {w : World} {b n : Nat} {U : TypeId} {F : List Int} (h : CntAt w b U n F) {x : Nat} (hx : x < n) : CntAt (w.setCell ⟨b, x, none⟩ (.int .i64 (cntI F x + 1))) b U n (F ++ [(x : Int)]) :=
  ⟨h.blk.set _ _ _, fun j hj => by
    rw [cntI_push]
    by_cases h1 : j = x
    · subst h1; rw [h.blk.same hj, if_pos rfl]
    · rw [cell_other _ (by omega), if_neg h1]; exact h.cell j hj⟩
/-- The counts as a list. -/
def cntL (F : List Int) : List Int := (List.range 8).map (cntI F)
theorem cntL_len (F : List Int) : (cntL F).length = 8 := by simp [cntL]
theorem cntL_nth (F : List Int) {j : Nat} (h : j < 8) : nth (cntL F) j = cntI F j := by
  rw [nth_eq _ _ (by rw [cntL_len]; exact h)]
  simp [cntL]
theorem CntAt.rows {w : World} {b : Nat} {U : TypeId} {F : List Int} (h : CntAt w b U 8 F) : IntAt w (some ⟨b, 0, none⟩) (cntL F) := IntAt.of h.blk.lt fun k hk => by
  rw [cntL_len] at hk
  rw [Nat.zero_add, cntL_nth F hk]; exact h.cell k hk
theorem maxTo_cnt (F : List Int) : ∀ {k : Nat}, k < 8 → maxTo (cntL F) k = (maxC F (k + 1) : Nat)
  | 0, _ => by
    show nth (cntL F) 0 = _
    rw [cntL_nth F (by decide)]
    show cntI F 0 = ((max (maxC F 0) (F.count ((0 : Nat) : Int)) : Nat) : Int)
    unfold cntI maxC; simp
  | k + 1, hk => by
    show max (maxTo (cntL F) k) (nth (cntL F) (k + 1)) = ((max (maxC F (k + 1)) (F.count ((k + 1 : Nat) : Int)) : Nat) : Int)
    rw [maxTo_cnt F (by omega), cntL_nth F hk]
    unfold cntI
    omega
theorem maxC_len (F : List Int) : ∀ n, maxC F n ≤ F.length
  | 0 => Nat.zero_le _
  | n + 1 => by
    have := maxC_len F n
    have := List.count_le_length (l := F) (a := (n : Int))
    unfold maxC
    omega
end Go.Proofs.YtmkmmenkjbmppaaDoor
namespace Go.Proofs.YtmkmmenkjbmppaaDoor
open Go.RowKit Go.Maps
theorem loopF_stop {A : List (List Int)} {N : Nat} {rec : List Int → FS → FS} {ord : List Int} {s : FS} {k : Nat} (h : (loopF A N rec ord s k).left < 0) : ∀ m, k ≤ m → loopF A N rec ord s m = loopF A N rec ord s k
  | 0, hm => by obtain rfl : k = 0 := by omega
                rfl
  | m + 1, hm => by
    rcases Nat.lt_or_ge k (m + 1) with h1 | h1
    · have e := loopF_stop h m (by omega)
      show stepF A N rec ord (loopF A N rec ord s m) m = _
      rw [e]; unfold stepF; rw [if_pos h]
    · obtain rfl : k = m + 1 := by omega
      rfl
theorem stepF_no {A : List (List Int)} {N : Nat} {rec : List Int → FS → FS} {ord : List Int} {s : FS} {k : Nat} (h : mayT A N ord (k : Int) = false) : stepF A N rec ord s k = s := by
  unfold stepF; rw [h]; split <;> rfl
theorem stepF_full {A : List (List Int)} {N : Nat} {rec : List Int → FS → FS} {ord : List Int} {s : FS} {k : Nat} (h : mayT A N ord (k : Int) = true) (h0 : s.left = 0) : stepF A N rec ord s k = { s with left := -1 } := by
  unfold stepF; rw [if_neg (by omega), if_pos h, if_pos h0]
theorem stepF_go {A : List (List Int)} {N : Nat} {rec : List Int → FS → FS} {ord : List Int} {s : FS} {k : Nat} (h : mayT A N ord (k : Int) = true) (h0 : 0 < s.left) : stepF A N rec ord s k = rec (ord ++ [(k : Int)]) { s with left := s.left - 1 } := by
  unfold stepF; rw [if_neg (by omega), if_pos h, if_neg (by omega)]
set_option maxRecDepth 100000 in
set_option maxHeartbeats 1000000 in
theorem CloneInt_any (a : Option Addr) (cap : Nat) (l : List Int) (w : World) (H : IntAt w a l) (hlen : l.length ≤ 1048576) :
    Calls Tryd.prog 21 #[.slice a l.length cap] w (OutL 2 1 (fun (x : Int) (_ : Nat) => Value.int .i64 x) w l) := by
  cases a with
  | none =>
    have h0 : l.length = 0 := by
      rcases Nat.eq_zero_or_pos l.length with h | h
      · exact h
      · obtain ⟨b, off, h, _⟩ := H 0 h; cases h
    obtain rfl : l = [] := List.length_eq_zero_iff.1 h0
    have q0 : ∀ W, (binOp .eql 27 (.slice none 0 cap) (.slice none 0 0)).run Tryd.prog W = .ok (.bool true) W := fun W => Lib.run_eql_slice_nil W _ _ none 0 cap 0 0 Tryd.underlying27
    go_enter Tryd.func21, Tryd.ntmps21
    go_wp2_with fail
    go_ret
    exact ⟨none, 0, rfl, Nat.le_refl _, .inl rfl, RowsAt.nil, Ext.refl _⟩
  | some ad =>
    have HL : Hid (Lst 2 1 (fun (x : Int) (_ : Nat) => Value.int .i64 x) (w.alloc (.cells #[] 2)) w.heap.size (.slice (some ⟨w.heap.size, 0, none⟩) 0 0) ([] : List Int)) := Lst.new w _ (Nat.le_refl _)
    have hE := Lib.hid ((Ext.refl w).alloc (.cells #[] 2))
    have HR := Lib.hid (H.ext hE.out)
    have hb : Hid (w.heap.size ≤ (w.alloc (.cells #[] 2)).heap.size) := by show _ ≤ _; rw [size_new]; omega
    have C1 : Hid (([] : List Int).length + l.length ≤ 9223372036854775807) := by show _ ≤ _; simp; omega
    have C2 : Hid ((([] : List Int).length + l.length) * 8 ≤ 140737488355328) := by show _ ≤ _; simp; omega
    clear H
    have q0 : ∀ W, (binOp .eql 27 (.slice (some ad) l.length cap) (.slice none 0 0)).run Tryd.prog W = .ok (.bool false) W := fun W => Lib.run_eql_slice_nil W _ _ (some ad) l.length cap 0 0 Tryd.underlying27
    go_enter Tryd.func21, Tryd.ntmps21
    go_wp2_with (at_builtin; refine wpList_pushL elInt oneInt rfl _ _ rfl w.heap.size _ [] rfl HL.out ad l.length cap l rfl rfl HR.out C1.out C2.out hb.out ?_; intro v' w1 HL1 hs1 _)
    rw [List.nil_append] at HL1
    obtain ⟨a', cap', rfl, hc', hm', R1, O1⟩ := HL1.shape
    have hX : Hid (Ext w w1) := hs1.ext hE.out (Nat.le_refl _)
    have R2 := Lib.hid R1
    have O2 := Lib.hid O1
    clear HL1 hs1 R1 O1
    go_wp2_with fail
    go_ret
    exact ⟨a', cap', rfl, hc', O2.out, R2.out, hX.out⟩
def objF (aa : Option Addr) (An ac P T N mb : Nat) (v vb : Value) (left least : Int) : Nat → Value
  | 0 => .int .i64 (P : Int)
  | 1 => .int .i64 (T : Int)
  | 2 => .int .i64 (N : Int)
  | 3 => .slice aa An ac
  | 4 => .map (some mb)
  | 5 => .int .i64 left
  | 6 => v
  | 7 => vb
  | _ => .int .i64 least
structure VF (w0 w : World) (aa : Option Addr) (An ac P T N mb g : Nat) (s : FS) (ord : List Int) (av : Option Addr) (cv : Nat) (ab : Option Addr) (cb : Nat) : Prop where
  srch : Srch 58 2 9 w0 w g (objF aa An ac P T N mb (.slice av ord.length cv) (.slice ab s.best.length cb) s.left s.least) (.slice av ord.length cv) ord ab s.best
  capv : ord.length ≤ cv
  capb : s.best.length ≤ cb
  lo : -1 ≤ s.left
  hi : s.left ≤ 20000
  le0 : -1 ≤ s.least
  le1 : s.least ≤ 12
theorem VF.cells {w0 w : World} {aa : Option Addr} {An ac P T N mb g : Nat} {s : FS} {ord : List Int} {av : Option Addr} {cv : Nat} {ab : Option Addr} {cb : Nat} (h : VF w0 w aa An ac P T N mb g s ord av cv ab cb) :
    g < w.heap.size ∧ w.cell? ⟨g, 0, none⟩ = some (.int .i64 (P : Int)) ∧ w.cell? ⟨g, 1, none⟩ = some (.int .i64 (T : Int)) ∧ w.cell? ⟨g, 2, none⟩ = some (.int .i64 (N : Int)) ∧ w.cell? ⟨g, 3, none⟩ = some (.slice aa An ac) ∧ w.cell? ⟨g, 4, none⟩ = some (.map (some mb)) ∧ w.cell? ⟨g, 5, none⟩ = some (.int .i64 s.left) ∧ w.cell? ⟨g, 6, none⟩ = some (.slice av ord.length cv) ∧ w.cell? ⟨g, 7, none⟩ = some (.slice ab s.best.length cb) ∧ w.cell? ⟨g, 8, none⟩ = some (.int .i64 s.least) :=
  have o := h.srch.obj
  ⟨o.blk.lt, o.cell 0 (by decide), o.cell 1 (by decide), o.cell 2 (by decide), o.cell 3 (by decide), o.cell 4 (by decide), o.cell 5 (by decide), o.cell 6 (by decide), o.cell 7 (by decide), o.cell 8 (by decide)⟩
theorem VF.frozen {w0 w : World} {aa : Option Addr} {An ac P T N mb g : Nat} {s : FS} {ord : List Int} {av : Option Addr} {cv : Nat} {ab : Option Addr} {cb : Nat} (h : VF w0 w aa An ac P T N mb g s ord av cv ab cb) (o : Nat) : w.frozen? ⟨g, o, none⟩ = false := h.srch.obj.blk.frozen o
theorem VF.grow {w' : World} {w0 w : World} {aa : Option Addr} {An ac P T N mb g : Nat} {s : FS} {ord : List Int} {av : Option Addr} {cv : Nat} {ab : Option Addr} {cb : Nat} (h : VF w0 w aa An ac P T N mb g s ord av cv ab cb) (he : Ext w w') : VF w0 w' aa An ac P T N mb g s ord av cv ab cb :=
  ⟨h.srch.grow he, h.capv, h.capb, h.lo, h.hi, h.le0, h.le1⟩
theorem VF.row {w0 w : World} {aa : Option Addr} {An ac P T N mb g : Nat} {s : FS} {ord : List Int} {av : Option Addr} {cv : Nat} {ab : Option Addr} {cb : Nat} (h : VF w0 w aa An ac P T N mb g s ord av cv ab cb) : IntAt w av ord := by
  obtain ⟨a', c', e, -, -, h, -⟩ := h.srch.lst.shape
  simp only [Value.slice.injEq, true_and] at e
  rw [e.1]; exact h
theorem VF.better {w' : World} {w0 w : World} {aa : Option Addr} {An ac P T N mb g : Nat} {s : FS} {ord : List Int} {av : Option Addr} {cv : Nat} {ab : Option Addr} {cb : Nat} (h : VF w0 w aa An ac P T N mb g s ord av cv ab cb) (he : Ext w w') {ab' : Option Addr} {cb' : Nat} (ho : Own w' w.heap.size 2 1 ab' ord.length) (hr : IntAt w' ab' ord) (hc : ord.length ≤ cb') {m : Int} (m0 : -1 ≤ m) (m1 : m ≤ 12) :
    VF w0 ((w'.setCell ⟨g, 7, none⟩ (.slice ab' ord.length cb')).setCell ⟨g, 8, none⟩ (.int .i64 m)) aa An ac P T N mb g ⟨ord, m, s.left⟩ ord av cv ab' cb' :=
  ⟨((h.srch.newBest he ho hr).set (f' := objF aa An ac P T N mb (.slice av ord.length cv) (.slice ab' ord.length cb') s.left s.least) 7 _ (by decide) rfl (fun j hj hne => by rcases (show j = 0 ∨ j = 1 ∨ j = 2 ∨ j = 3 ∨ j = 4 ∨ j = 5 ∨ j = 6 ∨ j = 7 ∨ j = 8 by omega) with rfl | rfl | rfl | rfl | rfl | rfl | rfl | rfl | rfl <;> first | rfl | exact absurd rfl hne)).set 8 _ (by decide) rfl (fun j hj hne => by rcases (show j = 0 ∨ j = 1 ∨ j = 2 ∨ j = 3 ∨ j = 4 ∨ j = 5 ∨ j = 6 ∨ j = 7 ∨ j = 8 by omega) with rfl | rfl | rfl | rfl | rfl | rfl | rfl | rfl | rfl <;> first | rfl | exact absurd rfl hne), h.capv, hc, h.lo, h.hi, m0, m1⟩
theorem VF.pushed {w' : World} {w0 w : World} {aa : Option Addr} {An ac P T N mb g : Nat} {s : FS} {ord : List Int} {av : Option Addr} {cv : Nat} {ab : Option Addr} {cb : Nat} (h : VF w0 w aa An ac P T N mb g s ord av cv ab cb) {O : List Int} {av' : Option Addr} {cv' : Nat} (hL : Lst 2 1 cellI w' (g + 1) (.slice av' O.length cv') O) (hg : w.grownBy w' (Value.slice av ord.length cv).ownBlock) (hat : (Value.slice av' O.length cv').ownBlock = (Value.slice av ord.length cv).ownBlock ∨ (Value.slice av' O.length cv').ownBlock = some w.heap.size) (hc : O.length ≤ cv') :
    VF w0 (w'.setCell ⟨g, 6, none⟩ (.slice av' O.length cv')) aa An ac P T N mb g s O av' cv' ab cb :=
  ⟨(h.srch.newOrd hL hg hat).set 6 _ (by decide) rfl (fun j hj hne => by rcases (show j = 0 ∨ j = 1 ∨ j = 2 ∨ j = 3 ∨ j = 4 ∨ j = 5 ∨ j = 6 ∨ j = 7 ∨ j = 8 by omega) with rfl | rfl | rfl | rfl | rfl | rfl | rfl | rfl | rfl <;> first | rfl | exact absurd rfl hne), hc, h.capb, h.lo, h.hi, h.le0, h.le1⟩
theorem VF.mid {w' : World} {w0 w : World} {aa : Option Addr} {An ac P T N mb g : Nat} {s : FS} {ord : List Int} {av : Option Addr} {cv : Nat} {ab : Option Addr} {cb : Nat} (h : VF w0 w aa An ac P T N mb g s ord av cv ab cb) (hg : w.grownBy w' (Value.slice av ord.length cv).ownBlock) : g < w'.heap.size ∧ w'.cell? ⟨g, 6, none⟩ = some (.slice av ord.length cv) ∧ w'.frozen? ⟨g, 6, none⟩ = false :=
  have o := h.srch.obj.grown hg (h.srch.lst.row_ne (Nat.lt_succ_self g))
  ⟨o.blk.lt, o.cell 6 (by decide), o.blk.frozen 6⟩
theorem VF.cut {w0 w : World} {aa : Option Addr} {An ac P T N mb g : Nat} {s : FS} {ord : List Int} {av : Option Addr} {cv : Nat} {ab : Option Addr} {cb : Nat} {x : Int} {O : List Int} (h : VF w0 w aa An ac P T N mb g s O av cv ab cb) (hO : O = ord ++ [x]) :
    VF w0 (w.setCell ⟨g, 6, none⟩ (.slice av ord.length cv)) aa An ac P T N mb g s ord av cv ab cb := by
  subst hO
  have e : (ord ++ [x]).length = ord.length + 1 := by simp
  have h1 := h.srch
  have h2 := h.capv
  rw [e] at h1 h2
  exact ⟨(h1.pop rfl).set 6 _ (by decide) rfl (fun j hj hne => by rcases (show j = 0 ∨ j = 1 ∨ j = 2 ∨ j = 3 ∨ j = 4 ∨ j = 5 ∨ j = 6 ∨ j = 7 ∨ j = 8 by omega) with rfl | rfl | rfl | rfl | rfl | rfl | rfl | rfl | rfl <;> first | rfl | exact absurd rfl hne), by omega, h.capb, h.lo, h.hi, h.le0, h.le1⟩
theorem VF.spend {w0 w : World} {aa : Option Addr} {An ac P T N mb g : Nat} {s : FS} {ord : List Int} {av : Option Addr} {cv : Nat} {ab : Option Addr} {cb : Nat} (h : VF w0 w aa An ac P T N mb g s ord av cv ab cb) {x : Int} (h1 : -1 ≤ x) (h2 : x ≤ 20000) :
    VF w0 (w.setCell ⟨g, 5, none⟩ (.int .i64 x)) aa An ac P T N mb g { s with left := x } ord av cv ab cb :=
  ⟨h.srch.set 5 _ (by decide) rfl (fun j hj hne => by rcases (show j = 0 ∨ j = 1 ∨ j = 2 ∨ j = 3 ∨ j = 4 ∨ j = 5 ∨ j = 6 ∨ j = 7 ∨ j = 8 by omega) with rfl | rfl | rfl | rfl | rfl | rfl | rfl | rfl | rfl <;> first | rfl | exact absurd rfl hne), h.capv, h.capb, h1, h2, h.le0, h.le1⟩
theorem wrap_lenT {n : Nat} (h : n ≤ 12) : IntKind.i64.wrap (n : Int) = n := by rw [IntKind.wrap_i64]; omega
set_option maxRecDepth 100000 in
set_option maxHeartbeats 16000000 in
theorem fair_leaf {w0 : World} {aa : Option Addr} {A : List (List Int)} {vs : List Sl} {ac P T N mb : Nat} (X : TurnX w0 aa A vs P T N mb) (g : Nat) (ord : List Int) (hO : OneP P ord) (hlen : ord.length = T)
    (s : FS) (W : World) (av : Option Addr) (cv : Nat) (ab : Option Addr) (cb : Nat) (hV : VF w0 W aa A.length ac P T N mb g s ord av cv ab cb) :
    Calls Tryd.prog 23 #[.pointer (some ⟨g, 0, none⟩)] W fun e w' => e = .returned (.tuple #[]) ∧ ∃ av' cv' ab' cb', VF w0 w' aa A.length ac P T N mb g (leafF ord s) ord av' cv' ab' cb' := by
  have hT := X.t12
  have hP8 := X.p8
  have heq : ((ord.length : Int) == (T : Int)) = true := beq_iff_eq.2 (by omega)
  have hl12 : ord.length ≤ 12 := by omega
  have V0 := Lib.hid hV
  have hO1 := Lib.hid hO
  clear hV hO hlen
  obtain ⟨hgl, c0, c1, c2, c3, c4, c5, c6, c7, c8⟩ := V0.out.cells
  go_enter Tryd.func23, Tryd.ntmps23
  go_wp2_with fail
  refine region_quiet (by kernel_rfl) (by kernel_rfl) ?_
  repeat (any_goals (first | go_big_quiet_step (fail) | quiet_step (fail)))
  refine wpQuiet_nil ?_
  intro _ hw'
  obtain ⟨y, hw''⟩ := hw'
  subst hw''
  have V1 := Lib.hid (V0.out.grow ((Ext.refl _).lift y))
  clear V0 hgl c0 c1 c2 c3 c4 c5 c6 c7 c8
  generalize lift W y = W1 at *
  obtain ⟨hgl, c0, c1, c2, c3, c4, c5, c6, c7, c8⟩ := V1.out.cells
  have hK0 := Lib.hid (CntAt.new8 W1 77)
  have hx := (Ext.refl W1).alloc (.cells #[.int .i64 0, .int .i64 0, .int .i64 0, .int .i64 0, .int .i64 0, .int .i64 0, .int .i64 0, .int .i64 0] 77)
  have d6 := hx.cell c6
  have dgl := Nat.lt_of_lt_of_le hgl hx.size
  obtain ⟨W2, hW2⟩ : ∃ W2, W2 = W1.alloc (.cells #[.int .i64 0, .int .i64 0, .int .i64 0, .int .i64 0, .int .i64 0, .int .i64 0, .int .i64 0, .int .i64 0] 77) := ⟨_, rfl⟩
  obtain ⟨kb, hkb⟩ : ∃ kb, kb = W1.heap.size := ⟨_, rfl⟩
  rw [← hW2, ← hkb] at hK0
  rw [← hW2] at hx
  have hkw : W1.heap.size ≤ kb := by omega
  have hx := Lib.hid hx
  replace hW2 := Lib.hid hW2
  replace hkb := Lib.hid hkb
  go_wp2_with fail
  rw [← hW2.out, ← hkb.out]
  clear hW2 hkb hgl c0 c1 c2 c3 c4 c5 c6 c7 c8 d6 dgl
  go_loopw [23] (fun i wt => ∃ k : Nat, k ≤ ord.length ∧ i = .int .i64 (k : Int) ∧ Hid (CntAt wt kb 77 8 (ord.take k)) ∧ Hid (Ext W1 wt)) (fun i _ => ord.length - (intOf i).toNat)
  case atStart => exact ⟨0, Nat.zero_le _, rfl, hK0.out, hx.out⟩
  case round =>
    clear hK0 hx
    obtain ⟨k, hk, rfl, hC, hE⟩ := hrel
    have V := Lib.hid (V1.out.grow hE.out)
    obtain ⟨hgl, c0, c1, c2, c3, c4, c5, c6, c7, c8⟩ := V.out.cells
    have hkl := hC.out.blk.lt
    by_cases hlt : k < ord.length
    · have hd : decide (k < ord.length) = true := decide_eq_true hlt
      have hR := V.out.row
      obtain ⟨ob, oo, rfl⟩ := RowsAt.base hR hlt
      obtain ⟨hob, r0⟩ := IntAt.at hR k hlt
      obtain ⟨x0, x1⟩ := hO1.out _ (nth_mem hlt)
      obtain ⟨x, hx⟩ := Int.eq_ofNat_of_zero_le x0
      rw [hx] at r0 x1
      have hx8 : x < 8 := by omega
      have hcf := hC.out.blk.frozen x
      have hcx := hC.out.cell x hx8
      obtain ⟨b0, b1⟩ := cntI_bd (ord.take k) x
      rw [List.length_take] at b1
      have hput := Lib.hid (hC.out.put hx8)
      have hE9 := Lib.hid (hE.out.setCell (p := ⟨kb, x, none⟩) hkw (.int .i64 (cntI (ord.take k) x + 1)))
      have hto : Hid (ord.take (k + 1) = ord.take k ++ [(x : Int)]) := by show _ = _; rw [List.take_succ_eq_append_getElem hlt, ← nth_eq ord k hlt, hx]
      generalize cntI (ord.take k) x = cx at *
      clear hR hx x0 V hC
      go_wp2_with fail
      go_roundw
      case rel => exact ⟨k + 1, by omega, by go_num, by rw [hto.out]; exact hput.out, hE9.out⟩
      case measure => simp [intOf]; omega
    · have hd : decide (k < ord.length) = false := decide_eq_false hlt
      have hCo : Hid (CntAt wr kb 77 8 ord) := by
        have := hC.out
        rw [show k = ord.length by omega, List.take_length] at this
        exact this
      have hMx := Lib.hid (Max_any (some ⟨kb, 0, none⟩) 8 (cntL ord) wr hCo.out.rows (by rw [cntL_len]; decide) (by rw [cntL_len]; decide))
      rw [cntL_len, show (8 : Nat) - 1 = 7 from rfl, maxTo_cnt ord (by decide)] at hMx
      have hmc := maxC_len ord 8
      obtain ⟨m, hm⟩ : ∃ m, m = maxC ord 8 := ⟨_, rfl⟩
      rw [show maxC ord (7 + 1) = m from hm.symm] at hMx
      rw [← hm] at hmc
      have hle0 := V.out.le0
      clear hC hCo
      go_wp2_with fail
      refine hMx.out.mono ?_
      rintro e w5 ⟨rfl, hw5⟩
      rw [hw5]
      clear hMx hw5
      by_cases hbet : s.least < 0 ∨ (m : Int) < s.least
      · have hlf : Hid (leafF ord s = ⟨ord, (m : Int), s.left⟩) := by show _ = _; unfold leafF; rw [if_pos (by rw [← hm]; exact hbet), ← hm]
        have HC : Hid (Calls Tryd.prog 21 #[.slice av ord.length cv] wr (OutL 2 1 cellI wr ord)) := CloneInt_any av cv ord wr V.out.row (by omega)
        replace hm := Lib.hid hm
        rcases (show s.least < 0 ∨ (0 ≤ s.least ∧ (m : Int) < s.least) by omega) with hb1 | ⟨hb1, hb2⟩
        all_goals
          clear hbet
          go_wp2_with fail
          refine HC.out.mono ?_
          rintro e w2 ⟨ab2, cb2, rfl, hcb2, HO2, HR2, E2⟩
          have V3 := Lib.hid (V.out.better E2 HO2 HR2 hcb2 (m := (m : Int)) (by omega) (by omega))
          have fz7 := (V.out.grow E2).frozen 7
          have fz8 := (V.out.grow E2).frozen 8
          obtain ⟨hgl2, e0, e1, e2, e3, e4, e5, e6, e7, e8⟩ := (V.out.grow E2).cells
          clear V HC HO2 HR2 hgl c0 c1 c2 c3 c4 c5 c6 c7 c8
          go_wp2_with fail
          (try simp only [Exit.inBlock, Exit.then])
          first | refine bodyPost_ret (results_none rfl _ _ _) rfl ?_ | refine bodyPost_end (results_none rfl _ _ _) rfl ?_
          refine ⟨rfl, av, cv, ab2, cb2, ?_⟩
          rw [hlf.out]
          exact V3.out
      · have hlf : Hid (leafF ord s = s) := by show _ = _; unfold leafF; rw [if_neg (by rw [← hm]; exact hbet)]
        have hb1 : 0 ≤ s.least := by omega
        have hb2 : s.least ≤ (m : Int) := by omega
        clear hbet hm
        go_wp2_with fail
        (try simp only [Exit.inBlock, Exit.then])
        first | refine bodyPost_ret (results_none rfl _ _ _) rfl ?_ | refine bodyPost_end (results_none rfl _ _ _) rfl ?_
        refine ⟨rfl, av, cv, ab, cb, ?_⟩
        rw [hlf.out]
        exact V.out
set_option maxRecDepth 100000 in
set_option maxHeartbeats 16000000 in
theorem fair_step {w0 : World} {aa : Option Addr} {A : List (List Int)} {vs : List Sl} {ac P T N mb : Nat} (X : TurnX w0 aa A vs P T N mb) (g : Nat) (ord : List Int) (_ : OneP P ord) (hlt' : ord.length < T) (rec : List Int → FS → FS)
    (hrec : ∀ (k : Nat) (s : FS) (W : World) (av : Option Addr) (cv : Nat) (ab : Option Addr) (cb : Nat), k < P → VF w0 W aa A.length ac P T N mb g s (ord ++ [(k : Int)]) av cv ab cb → 0 ≤ s.left →
      Calls Tryd.prog 23 #[.pointer (some ⟨g, 0, none⟩)] W fun e w' => e = .returned (.tuple #[]) ∧ ∃ av' cv' ab' cb', VF w0 w' aa A.length ac P T N mb g (rec (ord ++ [(k : Int)]) s) (ord ++ [(k : Int)]) av' cv' ab' cb')
    (s : FS) (W : World) (av : Option Addr) (cv : Nat) (ab : Option Addr) (cb : Nat) (hV : VF w0 W aa A.length ac P T N mb g s ord av cv ab cb) (hl : 0 ≤ s.left) :
    Calls Tryd.prog 23 #[.pointer (some ⟨g, 0, none⟩)] W fun e w' => e = .returned (.tuple #[]) ∧ ∃ av' cv' ab' cb', VF w0 w' aa A.length ac P T N mb g (loopF A N rec ord s P) ord av' cv' ab' cb' := by
  have hT := X.t12
  have hP8 := X.p8
  have heq : ((ord.length : Int) == (T : Int)) = false := beq_eq_false_iff_ne.2 (by omega)
  have hl12 : ord.length ≤ 12 := by omega
  have hlen : ord.length ≤ 12 := hl12
  have V0 := Lib.hid hV
  have hR := Lib.hid hrec
  clear hV hrec
  obtain ⟨hgl, c0, c1, c2, c3, c4, c5, c6, c7, c8⟩ := V0.out.cells
  go_enter Tryd.func23, Tryd.ntmps23
  go_wp2_with fail
  refine region_quiet (by kernel_rfl) (by kernel_rfl) ?_
  repeat (any_goals (first | go_big_quiet_step (fail) | quiet_step (fail)))
  refine wpQuiet_nil ?_
  intro _ hw'
  obtain ⟨y, hw''⟩ := hw'
  subst hw''
  have V1 := Lib.hid (V0.out.grow ((Ext.refl _).lift y))
  clear V0 hgl c0 c1 c2 c3 c4 c5 c6 c7 c8
  generalize lift W y = W1 at *
  obtain ⟨hgl, c0, c1, c2, c3, c4, c5, c6, c7, c8⟩ := V1.out.cells
  go_wp2_with fail
  go_loopw [65] (fun i wr => ∃ (k : Nat) (s' : FS) (av : Option Addr) (cv : Nat) (ab : Option Addr) (cb : Nat), k ≤ P ∧ i = .int .i64 (k : Int) ∧ Hid (loopF A N rec ord s k = s') ∧ Hid (VF w0 wr aa A.length ac P T N mb g s' ord av cv ab cb) ∧ 0 ≤ s'.left) (fun i _ => P - (intOf i).toNat)
  case atStart => exact ⟨0, s, av, cv, ab, cb, Nat.zero_le _, rfl, rfl, V1.out, hl⟩
  case round =>
    clear V1 hgl c0 c1 c2 c3 c4 c5 c6 c7 c8
    obtain ⟨k, s', av', cv', ab', cb', hk, rfl, hs', V, hl'⟩ := hrel
    obtain ⟨hgl, c0, c1, c2, c3, c4, c5, c6, c7, c8⟩ := V.out.cells
    by_cases hlt : k < P
    · have hd : decide (k < P) = true := decide_eq_true hlt
      have HM := Lib.hid fun x => may_any (lift wr x) P T N aa A vs ac (some mb) av' cv' ord N rfl (RowsAt.ext V.out.row ((Ext.refl _).lift x)) (X.abs.ext (V.out.srch.ext.lift x)) X.inn V.out.capv hl12 X.n0 X.n12 k (by rw [X.alen]; exact hlt)
      cases hmay : mayT A N ord (k : Int)
      · rw [hmay] at HM
        have hnx : Hid (loopF A N rec ord s (k + 1) = s') := by
          show stepF A N rec ord (loopF A N rec ord s k) k = _; rw [hs'.out]; exact stepF_no hmay
        clear hmay
        go_wp2_with fail
        refine region_quiet (by kernel_rfl) (by kernel_rfl) ?_
        repeat (any_goals (first | go_big_quiet_step ((exact Gives.quiet (HM.out _))) | quiet_step ((exact Gives.quiet (HM.out _)))))
        refine wpQuiet_nil ?_
        intro _ hw'
        obtain ⟨y, hw''⟩ := hw'
        subst hw''
        have V9 := Lib.hid (V.out.grow ((Ext.refl _).lift y))
        go_wp2_with fail
        go_roundw
        case rel => exact ⟨k + 1, s', av', cv', ab', cb', by omega, by go_num, hnx.out, V9.out, hl'⟩
        case measure => simp [intOf]; omega
      · rw [hmay] at HM
        have hmh := Lib.hid hmay
        obtain ⟨O, hO⟩ : ∃ O : List Int, O = ord ++ [(k : Int)] := ⟨_, rfl⟩
        have hOl : Hid (O.length = ord.length + 1) := by show _ = _; rw [hO]; simp
        have HO := Lib.hid hO
        clear hmay hO
        go_wp2_with fail
        refine region_quiet (by kernel_rfl) (by kernel_rfl) ?_
        repeat (any_goals (first | go_big_quiet_step ((exact Gives.quiet (HM.out _))) | quiet_step ((exact Gives.quiet (HM.out _)))))
        refine wpQuiet_nil ?_
        intro _ hw'
        obtain ⟨y, hw''⟩ := hw'
        subst hw''
        have V5 := Lib.hid (V.out.grow ((Ext.refl _).lift y))
        clear V HM hgl c0 c1 c2 c3 c4 c5 c6 c7 c8
        generalize lift wr y = W5 at *
        obtain ⟨hgl, c0, c1, c2, c3, c4, c5, c6, c7, c8⟩ := V5.out.cells
        have fz5 := V5.out.frozen 5
        have hlo := V5.out.lo
        have hhi := V5.out.hi
        have V6 := Lib.hid (V5.out.spend (x := s'.left - 1) (by omega) (by omega))
        rcases Int.lt_or_le 0 s'.left with hl0 | hl0
        · have hnx : Hid (loopF A N rec ord s (k + 1) = rec (ord ++ [(k : Int)]) { s' with left := s'.left - 1 }) := by
            show stepF A N rec ord (loopF A N rec ord s k) k = _; rw [hs'.out]; exact stepF_go hmh.out hl0
          have hz6 : Hid ((W5.setCell ⟨g, 5, none⟩ (.int .i64 (s'.left - 1))).heap.size = W5.heap.size) := by show _ = _; simp
          have hx6 := (Ext.refl (W5.setCell ⟨g, 5, none⟩ (.int .i64 (s'.left - 1)))).alloc (.cells #[.int .i64 (k : Int)] 2)
          have V7 := Lib.hid (V6.out.grow hx6)
          have HR1 : Hid (IntAt ((W5.setCell ⟨g, 5, none⟩ (.int .i64 (s'.left - 1))).alloc (.cells #[.int .i64 (k : Int)] 2)) (some ⟨W5.heap.size, 0, none⟩) [(k : Int)]) := rows_new (n := 1) (cell := cellI) (T := 2) _ #[.int .i64 (k : Int)] (k : Int) (fun i hi => by rw [show i = 0 from Nat.lt_one_iff.1 hi]; rfl) |> fun h => by rw [hz6.out] at h; exact h
          have hbs : Hid (g + 1 ≤ ((W5.setCell ⟨g, 5, none⟩ (.int .i64 (s'.left - 1))).alloc (.cells #[.int .i64 (k : Int)] 2)).heap.size) := by show _ ≤ _; rw [size_new, hz6.out]; omega
          clear hx6 V6
          go_wp2_with (first
            | (at_builtin; refine wpList_pushAt elInt oneInt rfl _ _ rfl (g + 1) _ ord (by rfl) V7.out.srch.lst _ 1 1 [(k : Int)] rfl (by rfl) HR1.out (by omega) (by omega) hbs.out ?_; intro v' w3 HL hg3 hat3; rw [← HO.out] at HL; obtain ⟨av2, cv2, rfl, hcv2, -, -, -⟩ := HL.shape; have V8 := Lib.hid (V7.out.pushed HL hg3 hat3 hcv2); obtain ⟨e0, e1, e2⟩ := V7.out.mid hg3; clear V7 HR1 HL hg3 hat3 hgl c0 c1 c2 c3 c4 c5 c6 c7 c8 fz5 hbs V5))
          have HR6 := hR.out k { s' with left := s'.left - 1 } _ av2 cv2 ab' cb' hlt (by rw [← HO.out]; exact V8.out) (by show 0 ≤ s'.left - 1; omega)
          clear e0 e1 e2 V8
          refine HR6.mono ?_
          rintro e w13 ⟨rfl, av7, cv7, ab7, cb7, hV7⟩
          rw [← HO.out] at hV7 hnx
          obtain ⟨s7, hs7⟩ : ∃ s7, s7 = rec O { s' with left := s'.left - 1 } := ⟨_, rfl⟩
          rw [← hs7] at hV7 hnx
          have V7 := Lib.hid hV7
          clear hV7 hs7 HR6
          go_wp2_with fail
          have hlo7 := V7.out.lo
          rcases Int.lt_or_le s7.left 0 with hl7 | hl7
          · try clear hgl c0 c1 c2 c3 c4 c5 c6 c7 c8
            obtain ⟨hgl, c0, c1, c2, c3, c4, c5, c6, c7, c8⟩ := V7.out.cells
            rw [hOl.out] at c6
            refine Grow.region_tail 14 [0, 1, 2, 3, 4, 5, 6, 7, 8, 9, 10, 11, 12, 13] [] (by kernel_rfl) (by kernel_rfl) ?_
            simp only [Grow.pick, Grow.pickB, List.getElem?_cons_succ, List.getElem?_cons_zero, List.drop_succ_cons, List.drop_zero]
            repeat
              refine Grow.heads_step (fun K' hK => ⟨rfl, ?_⟩)
              apply Exists.intro
              apply And.intro
              · intro w' hw'
                obtain ⟨x', rfl⟩ := hw'
                go_simp
                first | done | rfl | (rw [if_neg (by omega)]; done) | (rw [if_neg (by omega)]; rfl) | (rw [if_pos (by omega)]; done) | (rw [if_pos (by omega)]; rfl)
              go_simp
              refine hK _ ?_
              clear hK K'
            refine Grow.heads_step (fun K' hK => ⟨rfl, .slice av7 ord.length cv7, ?_, ?_⟩)
            · intro w' hw'
              obtain ⟨x', rfl⟩ := hw'
              go_simp
              rw [wrap_lenT hlen, if_pos ⟨by omega, by have := V7.out.capv; rw [hOl.out] at this; omega⟩, Int.toNat_natCast]
            refine hK _ ?_
            clear hK K'
            repeat
              refine Grow.heads_step (fun K' hK => ⟨rfl, ?_⟩)
              apply Exists.intro
              apply And.intro
              · intro w' hw'
                obtain ⟨x', rfl⟩ := hw'
                go_simp
                first | done | rfl | (rw [if_neg (by omega)]; done) | (rw [if_neg (by omega)]; rfl) | (rw [if_pos (by omega)]; done) | (rw [if_pos (by omega)]; rfl)
              go_simp
              refine hK _ ?_
              clear hK K'
            refine Grow.heads_nil ?_
            intro w20 e20
            refine Grow.seq_nil ?_
            have V9 := Lib.hid ((V7.out.grow e20).cut HO.out)
            have fz6 := (V7.out.grow e20).frozen 6
            clear hgl c0 c1 c2 c3 c4 c5 c6 c7 c8
            obtain ⟨hgl, c0, c1, c2, c3, c4, c5, c6, c7, c8⟩ := (V7.out.grow e20).cells
            clear e20
            go_wp2_with fail
            (try simp only [Exit.inBlock, Exit.then])
            first | refine bodyPost_ret (results_none rfl _ _ _) rfl ?_ | refine bodyPost_end (results_none rfl _ _ _) rfl ?_
            refine ⟨rfl, av7, cv7, ab7, cb7, ?_⟩
            rw [loopF_stop (k := k + 1) (by rw [hnx.out]; exact hl7) P (by omega), hnx.out]
            exact V9.out
          · try clear hgl c0 c1 c2 c3 c4 c5 c6 c7 c8
            obtain ⟨hgl, c0, c1, c2, c3, c4, c5, c6, c7, c8⟩ := V7.out.cells
            rw [hOl.out] at c6
            refine Grow.region_tail 14 [0, 1, 2, 3, 4, 5, 6, 7, 8, 9, 10, 11, 12, 13] [] (by kernel_rfl) (by kernel_rfl) ?_
            simp only [Grow.pick, Grow.pickB, List.getElem?_cons_succ, List.getElem?_cons_zero, List.drop_succ_cons, List.drop_zero]
            repeat
              refine Grow.heads_step (fun K' hK => ⟨rfl, ?_⟩)
              apply Exists.intro
              apply And.intro
              · intro w' hw'
                obtain ⟨x', rfl⟩ := hw'
                go_simp
                first | done | rfl | (rw [if_neg (by omega)]; done) | (rw [if_neg (by omega)]; rfl) | (rw [if_pos (by omega)]; done) | (rw [if_pos (by omega)]; rfl)
              go_simp
              refine hK _ ?_
              clear hK K'
            refine Grow.heads_step (fun K' hK => ⟨rfl, .slice av7 ord.length cv7, ?_, ?_⟩)
            · intro w' hw'
              obtain ⟨x', rfl⟩ := hw'
              go_simp
              rw [wrap_lenT hlen, if_pos ⟨by omega, by have := V7.out.capv; rw [hOl.out] at this; omega⟩, Int.toNat_natCast]
            refine hK _ ?_
            clear hK K'
            repeat
              refine Grow.heads_step (fun K' hK => ⟨rfl, ?_⟩)
              apply Exists.intro
              apply And.intro
              · intro w' hw'
                obtain ⟨x', rfl⟩ := hw'
                go_simp
                first | done | rfl | (rw [if_neg (by omega)]; done) | (rw [if_neg (by omega)]; rfl) | (rw [if_pos (by omega)]; done) | (rw [if_pos (by omega)]; rfl)
              go_simp
              refine hK _ ?_
              clear hK K'
            refine Grow.heads_nil ?_
            intro w20 e20
            refine Grow.seq_nil ?_
            have V9 := Lib.hid ((V7.out.grow e20).cut HO.out)
            have fz6 := (V7.out.grow e20).frozen 6
            clear hgl c0 c1 c2 c3 c4 c5 c6 c7 c8
            obtain ⟨hgl, c0, c1, c2, c3, c4, c5, c6, c7, c8⟩ := (V7.out.grow e20).cells
            clear e20
            go_wp2_with fail
            go_roundw
            case rel => exact ⟨k + 1, s7, av7, cv7, ab7, cb7, by omega, by go_num, hnx.out, V9.out, hl7⟩
            case measure => simp [intOf]; omega
        · have hnx : Hid (loopF A N rec ord s (k + 1) = { s' with left := s'.left - 1 }) := by
            show stepF A N rec ord (loopF A N rec ord s k) k = _; rw [hs'.out, stepF_full hmh.out (by omega), show s'.left - 1 = -1 by omega]
          go_wp2_with fail
          (try simp only [Exit.inBlock, Exit.then])
          first | refine bodyPost_ret (results_none rfl _ _ _) rfl ?_ | refine bodyPost_end (results_none rfl _ _ _) rfl ?_
          refine ⟨rfl, av', cv', ab', cb', ?_⟩
          rw [loopF_stop (k := k + 1) (by rw [hnx.out]; show s'.left - 1 < 0; omega) P (by omega), hnx.out]
          exact V6.out
    · have hd : decide (k < P) = false := decide_eq_false hlt
      have hkP : k = P := by omega
      have hsP : Hid (loopF A N rec ord s P = s') := by show _ = _; rw [← hkP]; exact hs'.out
      clear hkP
      go_wp2_with fail
      (try simp only [Exit.inBlock, Exit.then])
      first | refine bodyPost_ret (results_none rfl _ _ _) rfl ?_ | refine bodyPost_end (results_none rfl _ _ _) rfl ?_
      refine ⟨rfl, av', cv', ab', cb', ?_⟩
      rw [hsP.out]
      exact V.out
theorem fairVisit_any {w0 : World} {aa : Option Addr} {A : List (List Int)} {vs : List Sl} {ac P T N mb : Nat} (X : TurnX w0 aa A vs P T N mb) (g : Nat) : ∀ (d : Nat) (ord : List Int), OneP P ord → ord.length + d = T → ∀ (s : FS) (W : World) (av : Option Addr) (cv : Nat) (ab : Option Addr) (cb : Nat), VF w0 W aa A.length ac P T N mb g s ord av cv ab cb → 0 ≤ s.left →
    Calls Tryd.prog 23 #[.pointer (some ⟨g, 0, none⟩)] W fun e w' => e = .returned (.tuple #[]) ∧ ∃ av' cv' ab' cb', VF w0 w' aa A.length ac P T N mb g (fairV A P N d ord s) ord av' cv' ab' cb'
  | 0, ord, hO, hd, s, W, av, cv, ab, cb, hV, _ => fair_leaf X g ord hO (by omega) s W av cv ab cb hV
  | d + 1, ord, hO, hd, s, W, av, cv, ab, cb, hV, hl =>
    fair_step X g ord hO (by omega) (fairV A P N d) (fun k s W av cv ab cb hk hV hl =>
      fairVisit_any X g d (ord ++ [(k : Int)]) (hO.push hk) (by rw [List.length_append]; simp only [List.length_cons, List.length_nil]; omega) s W av cv ab cb hV hl) s W av cv ab cb hV hl
end Go.Proofs.YtmkmmenkjbmppaaDoor
namespace Go.Proofs.YtmkmmenkjbmppaaDoor
open Go.RowKit Go.Maps
theorem budgetValid_any (n : Int) (w : World) : Calls Tryd.prog 22 #[.int .i64 n] w fun e w' => e = .returned (.bool (inB n 1 20000)) ∧ w' = w := by
  go_enter Tryd.func22, Tryd.ntmps22
  go_wp2_with (go_at_call 34; refine (within_any _ _ _ _).mono ?_; rintro e w' ⟨rfl, rfl⟩)
  go_ret
  exact ⟨rfl, rfl⟩
/-- What the law asks of the fairest turns. -/
def FairOk (P T G : Int) (A : List (List Int)) (V : List Int) (M : Int) : Prop := codeT P T G A = 0 ∧ wayT A P.toNat G.toNat V ∧ V.length = T.toNat ∧ ∀ p : Nat, p < P.toNat → (V.count (p : Int) : Int) ≤ M
def FairOut (w : World) (P T G : Int) (A : List (List Int)) (e : Ending) (w' : World) : Prop := ∃ (va : Option Addr) (vc : Nat) (V : List Int) (M C : Int), e = .returned (.tuple #[.slice va V.length vc, .int .i64 M, .int .i64 C]) ∧ IntAt w' va V ∧ Ext w w' ∧ (C = 0 → FairOk P T G A V M)
theorem FairOut.no {w w' : World} {P T G : Int} {A : List (List Int)} {e : Ending} {C : Int} (h : e = .returned (.tuple #[.slice none 0 0, .int .i64 0, .int .i64 C])) (hC : C ≠ 0) (hE : Ext w w') : FairOut w P T G A e w' := ⟨none, 0, [], 0, C, h, RowsAt.nil, hE, fun h => absurd h hC⟩
set_option maxRecDepth 100000 in
set_option maxHeartbeats 16000000 in
theorem FairTurns_any (w : World) (P T G : Int) (aa : Option Addr) (A : List (List Int)) (vs : List Sl) (ac : Nat) (HA : IIs w aa A vs) (hAin : ∀ k, k < A.length → (nth A k).length ≤ 1048576) (hAl : A.length ≤ 100) (ht : Tab w) (bu : Int) :
    Calls Tryd.prog 8 #[.int .i64 P, .int .i64 T, .int .i64 G, .slice aa A.length ac, .int .i64 bu] w (FairOut w P T G A) := by
  have HT := Lib.hid (newTurns_any w P T G aa A vs ac HA hAin hAl)
  have HBv := Lib.hid fun W => budgetValid_any bu W
  by_cases h0 : codeT P T G A = 0
  · obtain ⟨⟨p0, p8⟩, ⟨t0, t12⟩, ⟨g0, g12⟩, hAP⟩ := codeT_ok h0
    obtain ⟨p, rfl⟩ := Int.eq_ofNat_of_zero_le (show 0 ≤ P by omega)
    obtain ⟨t, rfl⟩ := Int.eq_ofNat_of_zero_le t0
    obtain ⟨n, rfl⟩ := Int.eq_ofNat_of_zero_le (show 0 ≤ G by omega)
    have hX := Lib.hid fun (mb : Nat) (hmb : w.heap.size ≤ mb) => (show TurnX w aa A vs p t n mb from ⟨HA, hAin, by omega, by omega, by omega, by omega, by omega, by omega, ht, hmb⟩)
    have h0h := Lib.hid h0
    rw [h0] at HT
    clear HA hAin ht h0 hAP
    cases hbv : inB bu 1 20000
    · rw [hbv] at HBv
      clear hbv
      go_enter Tryd.func8, Tryd.ntmps8
      go_wp2_with fail
      refine HT.out.mono ?_
      rintro e w1 ⟨E1, v0, v1, v2, v3, v4, rfl, hm, -⟩
      obtain ⟨mb, hmw, rfl, rfl, rfl, rfl, rfl, hown⟩ := hm (by first | rfl | trivial)
      have hE2 := Lib.hid (E1.trans ((Ext.refl w1).alloc (.cells #[.int .i64 (p : Int), .int .i64 (t : Int), .int .i64 (n : Int), .slice aa A.length ac, .map (some mb)] 50)))
      clear HT E1 hown
      go_wp2_with fail
      refine (HBv.out _).mono ?_
      rintro e w2 ⟨rfl, hw2⟩
      rw [hw2]
      clear hw2
      go_wp2_with fail
      go_ret3
      exact FairOut.no rfl (by decide) hE2.out
    · obtain ⟨b0, b1⟩ := inB_iff.1 hbv
      rw [hbv] at HBv
      clear hbv
      go_enter Tryd.func8, Tryd.ntmps8
      go_wp2_with fail
      refine HT.out.mono ?_
      rintro e w1 ⟨E1, v0, v1, v2, v3, v4, rfl, hm, -⟩
      obtain ⟨mb, hmw, rfl, rfl, rfl, rfl, rfl, hown⟩ := hm (by first | rfl | trivial)
      have hx2 := (Ext.refl w1).alloc (.cells #[.int .i64 (p : Int), .int .i64 (t : Int), .int .i64 (n : Int), .slice aa A.length ac, .map (some mb)] 50)
      have hTB := TBox.new w1 p t n aa A.length ac mb rfl 50
      obtain ⟨W2, hW2⟩ : ∃ W2, W2 = w1.alloc (.cells #[.int .i64 (p : Int), .int .i64 (t : Int), .int .i64 (n : Int), .slice aa A.length ac, .map (some mb)] 50) := ⟨_, rfl⟩
      obtain ⟨tb, htb⟩ : ∃ tb, tb = w1.heap.size := ⟨_, rfl⟩
      rw [← hW2] at hx2 hTB
      rw [← htb] at hTB
      have hE2 := Lib.hid (E1.trans hx2)
      obtain ⟨y0, y1, y2, y3, y4⟩ := hTB
      have hyl := block_lt y0
      replace hW2 := Lib.hid hW2
      replace htb := Lib.hid htb
      clear HT E1 hx2
      go_wp2_with fail
      rw [← hW2.out]
      try rw [← htb.out]
      clear hW2
      refine (HBv.out _).mono ?_
      rintro e w2 ⟨rfl, hw2⟩
      rw [hw2]
      clear hw2
      obtain ⟨g, hg⟩ : ∃ g, g = W2.heap.size := ⟨_, rfl⟩
      obtain ⟨cs, hcs⟩ : ∃ cs : Array Value, cs = #[.int .i64 (p : Int), .int .i64 (t : Int), .int .i64 (n : Int), .slice aa A.length ac, .map (some mb), .int .i64 bu, .slice none 0 0, .slice none 0 0, .int .i64 (-1)] := ⟨_, rfl⟩
      have hx3 := (Ext.refl W2).alloc (.cells cs 58)
      have hObj : Objt (W2.alloc (.cells cs 58)) W2.heap.size 58 9 (objF aa A.length ac p t n mb (.slice none 0 0) (.slice none 0 0) bu (-1)) := by
        subst hcs
        exact Objt.new W2 _ _ (fun j hj => by
          have hj : j < 9 := hj
          rcases (show j = 0 ∨ j = 1 ∨ j = 2 ∨ j = 3 ∨ j = 4 ∨ j = 5 ∨ j = 6 ∨ j = 7 ∨ j = 8 by omega) with rfl | rfl | rfl | rfl | rfl | rfl | rfl | rfl | rfl <;> rfl)
      have hV : VF w (W2.alloc (.cells cs 58)) aa A.length ac p t n mb W2.heap.size ⟨[], -1, bu⟩ [] none 0 none 0 :=
        ⟨⟨hE2.out.trans hx3, hE2.out.size, hObj, Lst.nil _ _, .inl rfl, RowsAt.nil, fun _ _ _ e => by cases e⟩, Nat.le_refl _, Nat.le_refl _, by show -1 ≤ bu; omega, b1, Int.le_refl _, by show (-1 : Int) ≤ 12; decide⟩
      have HS := Lib.hid (fairVisit_any (ac := ac) (hX.out mb hmw) W2.heap.size t [] (OneP.nil p) (by simp) ⟨[], -1, bu⟩ _ none 0 none 0 hV (by show 0 ≤ bu; omega))
      obtain ⟨s, hs⟩ : ∃ s, s = fairV A p n t [] ⟨[], -1, bu⟩ := ⟨_, rfl⟩
      rw [← hs] at HS
      rw [hcs] at HS
      have hlaw := Lib.hid (fair_law (A := A) (P := p) (G := n) (N := t) (by omega) (b := bu) hs.symm)
      clear hV hObj hx3 hcs hs hg
      go_wp2_with fail
      refine HS.out.mono ?_
      rintro e w5 ⟨rfl, av, cv, ab, cb, hV5⟩
      have V5 := Lib.hid hV5
      clear HS hV5 y0 y1 y2 y3 y4 hyl
      obtain ⟨hgl, c0, c1, c2, c3, c4, c5, c6, c7, c8⟩ := V5.out.cells
      have hE5 := Lib.hid V5.out.srch.ext
      rcases Int.lt_or_le s.left 0 with hl | hl
      · go_wp2_with fail
        go_ret3
        exact FairOut.no rfl (by decide) hE5.out
      · rcases Int.lt_or_le s.least 0 with hm1 | hm1
        · go_wp2_with fail
          go_ret3
          exact FairOut.no rfl (by decide) hE5.out
        · obtain ⟨k1, k2, k3⟩ := hlaw.out (by omega)
          replace k1 := Lib.hid k1
          replace k2 := Lib.hid k2
          replace k3 := Lib.hid k3
          go_wp2_with fail
          refine region_quiet (by kernel_rfl) (by kernel_rfl) ?_
          repeat (any_goals (first | go_big_quiet_step (fail) | quiet_step (fail)))
          refine wpQuiet_nil ?_
          intro _ hw'
          obtain ⟨y, hw''⟩ := hw'
          subst hw''
          go_wp2_with fail
          go_ret3
          exact ⟨ab, cb, s.best, s.least, 0, rfl, RowsAt.ext V5.out.srch.row ((Ext.refl _).lift y), hE5.out.lift y, fun _ => ⟨h0h.out, k1.out, k2.out, k3.out⟩⟩
  · obtain ⟨C, hC⟩ : ∃ C, C = codeT P T G A := ⟨_, rfl⟩
    have hne : Hid (C ≠ 0) := by show C ≠ 0; rw [hC]; exact h0
    have hb : (C != 0) = true := bne_iff_ne.2 hne.out
    rw [← hC] at HT
    clear hC h0 HA hAin ht
    cases h2 : (C == 2)
    · cases hbv : inB bu 1 20000
      all_goals
        rw [hbv] at HBv
        clear hbv
        go_enter Tryd.func8, Tryd.ntmps8
        go_wp2_with fail
        refine HT.out.mono ?_
        rintro e w1 ⟨E1, v0, v1, v2, v3, v4, rfl, -, hm⟩
        obtain ⟨rfl, rfl, rfl, rfl, rfl⟩ := hm hne.out
        have E1 := Lib.hid E1
        clear HT
        go_wp2_with fail
        refine (HBv.out _).mono ?_
        rintro e w2 ⟨rfl, hw2⟩
        rw [hw2]
        clear hw2
        go_wp2_with fail
        go_ret3
        first
          | exact FairOut.no rfl (by decide) (E1.out.alloc _)
          | exact FairOut.no rfl hne.out (E1.out.alloc _)
    · go_enter Tryd.func8, Tryd.ntmps8
      go_wp2_with fail
      refine HT.out.mono ?_
      rintro e w1 ⟨E1, v0, v1, v2, v3, v4, rfl, -, hm⟩
      obtain ⟨rfl, rfl, rfl, rfl, rfl⟩ := hm hne.out
      have E1 := Lib.hid E1
      clear HT
      go_wp2_with fail
      go_ret3
      exact FairOut.no rfl (by decide) (E1.out.alloc _)
end Go.Proofs.YtmkmmenkjbmppaaDoor
