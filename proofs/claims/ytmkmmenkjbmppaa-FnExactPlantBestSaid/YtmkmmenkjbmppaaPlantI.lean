/- Chapter 10: the program's search for the best stands to be planted. -/
import Derived.Test.YtmkmmenkjbmppaaPlantP
import Derived.Test.YtmkmmenkjbmppaaAdd
import Derived.Test.YtmkmmenkjbmppaaMark
namespace Go.Proofs.Ytmkmmenkjbmppaa
open Go.RowKit
theorem elInt : El Try.prog 23 2 1 8 := El.mk' Try.underlying23 (by kernel_rfl) (by decide)
theorem oneInt : ∀ (x : Int) (j : Nat), j < 1 → (cellI x j).oneCell' = true := fun _ _ _ => rfl
set_option maxRecDepth 100000 in
set_option maxHeartbeats 1000000 in
theorem CloneInt_any (a : Option Addr) (cap : Nat) (l : List Int) (w : World) (H : IntAt w a l) (hlen : l.length ≤ 1048576) :
    Calls Try.prog 38 #[.slice a l.length cap] w (OutL 2 1 (fun (x : Int) (_ : Nat) => Value.int .i64 x) w l) := by
  cases a with
  | none =>
    have h0 : l.length = 0 := by
      rcases Nat.eq_zero_or_pos l.length with h | h
      · exact h
      · obtain ⟨b, off, h, _⟩ := H 0 h; cases h
    obtain rfl : l = [] := List.length_eq_zero_iff.1 h0
    have q0 : ∀ W, (binOp .eql 23 (.slice none 0 cap) (.slice none 0 0)).run Try.prog W = .ok (.bool true) W := fun W => Lib.run_eql_slice_nil W _ _ none 0 cap 0 0 Try.underlying23
    go_enter Try.func38, Try.ntmps38
    go_wp2_with fail
    go_ret
    exact ⟨none, 0, rfl, Nat.le_refl _, .inl rfl, RowsAt.nil, Ext.refl _⟩
  | some ad =>
    have HL : Hid (Lst 2 1 (fun (x : Int) (_ : Nat) => Value.int .i64 x) (w.alloc (.cells #[] 2)) w.heap.size (.slice (some ⟨w.heap.size, 0, none⟩) 0 0) ([] : List Int)) := Lst.new w _ (Nat.le_refl _)
    have hE := Lib.hid ((Ext.refl w).alloc (.cells #[] 2))
    have HR := Lib.hid (H.ext hE.out)
    have hb : Hid (w.heap.size ≤ (w.alloc (.cells #[] 2)).heap.size) := by show _ ≤ _; rw [size_new]; omega
    have C1 : Hid (([] : List Int).length + l.length ≤ 9223372036854775807) := by show _ ≤ _; simp; omega
    have C2 : Hid ((([] : List Int).length + l.length) * 8 ≤ 140737488355328) := by show _ ≤ _; simp; omega
    clear H
    have q0 : ∀ W, (binOp .eql 23 (.slice (some ad) l.length cap) (.slice none 0 0)).run Try.prog W = .ok (.bool false) W := fun W => Lib.run_eql_slice_nil W _ _ (some ad) l.length cap 0 0 Try.underlying23
    go_enter Try.func38, Try.ntmps38
    go_wp2_with (at_builtin; refine wpList_pushL elInt oneInt rfl _ _ rfl w.heap.size _ [] rfl HL.out ad l.length cap l rfl rfl HR.out C1.out C2.out hb.out ?_; intro v' w1 HL1 hs1 _)
    rw [List.nil_append] at HL1
    obtain ⟨a', cap', rfl, hc', hm', R1, O1⟩ := HL1.shape
    have hX : Hid (Ext w w1) := hs1.ext hE.out (Nat.le_refl _)
    have R2 := Lib.hid R1
    have O2 := Lib.hid O1
    clear HL1 hs1 R1 O1
    go_wp2_with fail
    go_ret
    exact ⟨a', cap', rfl, hc', O2.out, R2.out, hX.out⟩
def cmpL : List Int → List Int → Int
  | [], [] => 0
  | [], _ :: _ => -1
  | _ :: _, [] => 1
  | a :: x, b :: y => if a = b then cmpL x y else cmpI a b
theorem cmpL_lex : ∀ a b : List Int, decide (cmpL a b < 0) = lexB a b
  | [], [] => rfl
  | [], _ :: _ => rfl
  | _ :: _, [] => rfl
  | a :: x, b :: y => by
    show decide ((if a = b then cmpL x y else cmpI a b) < 0) = (if a = b then lexB x y else decide (a < b))
    split
    · exact cmpL_lex x y
    · rw [decide_eq_decide]; exact cmpI_lt
theorem cmpL_drop : ∀ (i : Nat) {a b : List Int}, i ≤ a.length → i ≤ b.length → (∀ j, j < i → nth a j = nth b j) → cmpL a b = cmpL (a.drop i) (b.drop i)
  | 0, _, _, _, _, _ => rfl
  | i + 1, [], _, h, _, _ => absurd h (by simp)
  | i + 1, _ :: _, [], _, h, _ => absurd h (by simp)
  | i + 1, a :: x, b :: y, h1, h2, h => by
    have e : a = b := h 0 (Nat.succ_pos _)
    show (if a = b then cmpL x y else cmpI a b) = cmpL (x.drop i) (y.drop i)
    rw [if_pos e]
    exact cmpL_drop i (by simpa using h1) (by simpa using h2) (fun j hj => h (j + 1) (by omega))
theorem drop_nth {l : List Int} {i : Nat} (h : i < l.length) : l.drop i = nth l i :: l.drop (i + 1) := by
  rw [List.drop_eq_getElem_cons h, nth_eq l i h]
theorem cmpL_ne {i : Nat} {a b : List Int} (h1 : i < a.length) (h2 : i < b.length) (h : ∀ j, j < i → nth a j = nth b j) (hn : nth a i ≠ nth b i) : cmpL a b = cmpI (nth a i) (nth b i) := by
  rw [cmpL_drop i (by omega) (by omega) h, drop_nth h1, drop_nth h2]
  show (if nth a i = nth b i then _ else cmpI (nth a i) (nth b i)) = _
  rw [if_neg hn]
theorem cmpL_more {a b : List Int} (h1 : b.length < a.length) (h : ∀ j, j < b.length → nth a j = nth b j) : cmpL a b = 1 := by
  rw [cmpL_drop b.length (by omega) (Nat.le_refl _) h, drop_nth h1, List.drop_length]; rfl
theorem cmpL_end {a b : List Int} (h1 : a.length ≤ b.length) (h : ∀ j, j < a.length → nth a j = nth b j) : cmpL a b = if a.length < b.length then -1 else 0 := by
  rw [cmpL_drop a.length (Nat.le_refl _) h1 h, List.drop_length]
  split
  · rename_i h2
    rw [drop_nth h2]; rfl
  · rw [List.drop_of_length_le (by omega)]; rfl
set_option maxRecDepth 100000 in
set_option maxHeartbeats 1000000 in
theorem CompareS_any (a a2 : Option Addr) (cap cap2 : Nat) (l l2 : List Int) (w : World) (H : IntAt w a l) (H2 : IntAt w a2 l2) (hl : l.length ≤ 1048576) (_ : l2.length ≤ 1048576) :
    Calls Try.prog 37 #[.slice a l.length cap, .slice a2 l2.length cap2] w fun e w' => e = .returned (.int .i64 (cmpL l l2)) ∧ w' = w := by
  have HA := Lib.hid H
  have HB := Lib.hid H2
  clear H H2
  go_enter Try.func37, Try.ntmps37
  go_wp2_with fail
  go_loop [11] (fun i => ∃ k : Nat, k ≤ l.length ∧ k ≤ l2.length ∧ i = .int .i64 k ∧ Hid (∀ j, j < k → nth l j = nth l2 j)) (fun i => l.length - (intOf i).toNat)
  case atStart => exact ⟨0, Nat.zero_le _, Nat.zero_le _, rfl, upto_zero⟩
  case round =>
    obtain ⟨k, hk, hk2, rfl, hall⟩ := hrel
    by_cases hlt : k < l.length
    · obtain ⟨b, off, rfl⟩ := HA.out.base hlt
      obtain ⟨hb, c0⟩ := IntAt.at HA.out k hlt
      by_cases hlt2 : k < l2.length
      · obtain ⟨b2, off2, rfl⟩ := HB.out.base hlt2
        obtain ⟨hb2, d0⟩ := IntAt.at HB.out k hlt2
        have HC := Lib.hid (Compare_any (nth l k) (nth l2 k) w)
        by_cases he : nth l k = nth l2 k
        · have hnx : Hid (∀ j, j < k + 1 → nth l j = nth l2 j) := upto_succ hall.out he
          have hz : cmpI (nth l k) (nth l2 k) = 0 := by have := cmpI_eq (x := nth l k) (y := nth l2 k); rw [decide_eq_true he] at this; exact beq_iff_eq.1 this
          rw [hz] at HC
          clear he hz
          go_wp2_with (go_at_call 46; refine HC.out.mono ?_; rintro e w' ⟨rfl, rfl⟩)
          go_round
          case rel => exact ⟨k + 1, by omega, by omega, by go_num, hnx.out⟩
          case measure => simp [intOf]; omega
        · have hv : Hid (cmpL l l2 = cmpI (nth l k) (nth l2 k)) := cmpL_ne hlt hlt2 hall.out he
          have hz : (cmpI (nth l k) (nth l2 k) != 0) = true := by have := cmpI_eq (x := nth l k) (y := nth l2 k); rw [decide_eq_false he] at this; simp [bne, this]
          generalize cmpI (nth l k) (nth l2 k) = C at *
          clear he
          go_wp2_with (go_at_call 46; refine HC.out.mono ?_; rintro e w' ⟨rfl, rfl⟩)
          go_ret
          exact ⟨ret_int hv.out.symm, rfl⟩
      · obtain rfl : k = l2.length := by omega
        have hv : Hid (cmpL l l2 = 1) := cmpL_more hlt hall.out
        go_wp2_with fail
        go_ret
        exact ⟨ret_int hv.out.symm, rfl⟩
    · obtain rfl : k = l.length := by omega
      have hv : Hid (cmpL l l2 = if l.length < l2.length then -1 else 0) := cmpL_end hk2 hall.out
      by_cases hq : l.length < l2.length
      · go_wp2_with fail
        go_ret
        exact ⟨ret_int (by rw [hv.out, if_pos hq]), rfl⟩
      · go_wp2_with fail
        go_ret
        exact ⟨ret_int (by rw [hv.out, if_neg hq]), rfl⟩
set_option maxRecDepth 100000 in
set_option maxHeartbeats 1000000 in
theorem Stand_planted (x : Stand) (w : World) :
    Gives Try.prog 40 #[.agg #[.string x.id, .int .i64 x.trees, .int .i64 x.height, .int .i64 x.cover, .int .i64 x.gap]] w (.agg #[.string (plantedS x).id, .int .i64 (plantedS x).trees, .int .i64 (plantedS x).height, .int .i64 (plantedS x).cover, .int .i64 (plantedS x).gap]) := by
  unfold Gives
  go_enter Try.func40, Try.ntmps40
  go_wp2_with fail
  refine bodyPost_ret (v := .agg #[.string (plantedS x).id, .int .i64 (plantedS x).trees, .int .i64 (plantedS x).height, .int .i64 (plantedS x).cover, .int .i64 (plantedS x).gap]) (by simp [results, Try.results40, go_sem, plantedS]) rfl ?_
  exact ⟨rfl, (by repeat (first | with_reducible exact Ext.refl _ | with_reducible refine Ext.lift ?_ _ | with_reducible refine Ext.alloc ?_ _ | with_reducible refine Ext.setCell ?_ (by first | (simp; done) | (simp; omega) | omega) _ | with_reducible refine ext_setCells (by first | (simp; done) | (simp; omega) | omega) _ _ _ ?_))⟩
/-- Of the memory only the search's own has turned. -/
structure Kept (g : Nat) (v v' : Value) (w w' : World) : Prop where
  size : w.heap.size ≤ w'.heap.size
  obj : ∀ k, k < w.heap.size → k ≠ g → v.ownBlock ≠ some k → w'.heap[k]? = w.heap[k]?
  own : v'.ownBlock = v.ownBlock ∨ ∃ k, v'.ownBlock = some k ∧ w.heap.size ≤ k
section
variable {g : Nat} {v v' v'' : Value} {w w' w'' : World}
theorem Kept.trans (h : Kept g v v' w w') (k : Kept g v' v'' w' w'') : Kept g v v'' w w'' := by
  refine ⟨Nat.le_trans h.size k.size, fun i hi hg hv => ?_, ?_⟩
  · rw [k.obj i (Nat.lt_of_lt_of_le hi h.size) hg (fun e => by
      rcases h.own with e2 | ⟨j, e2, hj⟩
      · exact hv (e2 ▸ e)
      · rw [e2] at e; simp only [Option.some.injEq] at e; omega)]
    exact h.obj i hi hg hv
  · rcases k.own with e | ⟨j, e, hj⟩
    · rw [e]; exact h.own
    · exact .inr ⟨j, e, Nat.le_trans h.size hj⟩
theorem Kept.of_ext (g : Nat) (v : Value) (h : Ext w w') : Kept g v v w w' := ⟨h.size, fun k hk _ _ => h.below.block k hk, .inl rfl⟩
theorem Kept.set (g : Nat) (v : Value) (w : World) (o : Nat) (u : Value) : Kept g v v w (w.setCell ⟨g, o, none⟩ u) :=
  ⟨by simp, fun k _ hg _ => by rw [heap_setCell_other w ⟨g, o, none⟩ k u hg], .inl rfl⟩
theorem Kept.grown (g : Nat) (hg : w.grownBy w' v.ownBlock) (hat : v'.ownBlock = v.ownBlock ∨ v'.ownBlock = some w.heap.size) : Kept g v v' w w' :=
  ⟨hg.size, fun k hk _ hv => hg.block k hk (fun e => hv e.symm), hat.imp id fun e => ⟨_, e, Nat.le_refl _⟩⟩
theorem Kept.refl (g : Nat) (v : Value) (w : World) : Kept g v v w w := .of_ext g v (Ext.refl w)
theorem Kept.cell (h : Kept g v v' w w') {b o : Nat} {u : Value} (hg : b ≠ g) (hv : v.ownBlock ≠ some b) (hc : w.cell? ⟨b, o, none⟩ = some u) : w'.cell? ⟨b, o, none⟩ = some u := by
  rw [← hc]; exact World.cell?_of_block (w := w) (h.obj b (block_lt hc) hg hv)
end
/-- The cells of the program's search. -/
def objP (a : Option Addr) (n cap : Nat) (ca : Option Addr) (cc : Nat) (snow least b : Int) (v vb : Value) (most : Int) : Nat → Value
  | 0 => .slice a n cap
  | 1 => .slice ca n cc
  | 2 => .int .i64 snow
  | 3 => .int .i64 least
  | 4 => .int .i64 b
  | 5 => v
  | 6 => vb
  | _ => .int .i64 most
/-- b is what is left, and if nothing is left, less. -/
def LeftOk (b : Int) (s : Ps) : Prop := (0 ≤ b ∧ b = s.left) ∨ (b < 0 ∧ s.left = -1)
structure VP (w0 w : World) (a : Option Addr) (n cap : Nat) (ca : Option Addr) (cc : Nat) (snow least : Int) (g : Nat) (b : Int) (s : Ps) (ord : List Int) (av : Option Addr) (cv : Nat) (ab : Option Addr) (cb : Nat) : Prop where
  srch : Srch 50 2 8 w0 w g (objP a n cap ca cc snow least b (.slice av ord.length cv) (.slice ab s.best.length cb) s.most) (.slice av ord.length cv) ord ab s.best
  capv : ord.length ≤ cv
  capb : s.best.length ≤ cb
  ok : PsOk n s
  left : LeftOk b s
section
variable {w0 w w' : World} {a : Option Addr} {n cap : Nat} {ca : Option Addr} {cc : Nat} {snow least : Int} {g : Nat} {b : Int} {s : Ps} {ord : List Int} {av : Option Addr} {cv : Nat} {ab : Option Addr} {cb : Nat}
theorem VP.cells (h : VP w0 w a n cap ca cc snow least g b s ord av cv ab cb) :
    g < w.heap.size ∧ w.cell? ⟨g, 0, none⟩ = some (.slice a n cap) ∧ w.cell? ⟨g, 1, none⟩ = some (.slice ca n cc) ∧ w.cell? ⟨g, 2, none⟩ = some (.int .i64 snow) ∧ w.cell? ⟨g, 3, none⟩ = some (.int .i64 least) ∧ w.cell? ⟨g, 4, none⟩ = some (.int .i64 b) ∧ w.cell? ⟨g, 5, none⟩ = some (.slice av ord.length cv) ∧ w.cell? ⟨g, 6, none⟩ = some (.slice ab s.best.length cb) ∧ w.cell? ⟨g, 7, none⟩ = some (.int .i64 s.most) :=
  have o := h.srch.obj
  ⟨o.blk.lt, o.cell 0 (by decide), o.cell 1 (by decide), o.cell 2 (by decide), o.cell 3 (by decide), o.cell 4 (by decide), o.cell 5 (by decide), o.cell 6 (by decide), o.cell 7 (by decide)⟩
theorem VP.frozen (h : VP w0 w a n cap ca cc snow least g b s ord av cv ab cb) (o : Nat) : w.frozen? ⟨g, o, none⟩ = false := h.srch.obj.blk.frozen o
theorem VP.grow (h : VP w0 w a n cap ca cc snow least g b s ord av cv ab cb) (he : Ext w w') : VP w0 w' a n cap ca cc snow least g b s ord av cv ab cb :=
  ⟨h.srch.grow he, h.capv, h.capb, h.ok, h.left⟩
theorem VP.row (h : VP w0 w a n cap ca cc snow least g b s ord av cv ab cb) : IntAt w av ord := by
  obtain ⟨a', c', e, -, -, h, -⟩ := h.srch.lst.shape
  simp only [Value.slice.injEq, true_and] at e
  rw [e.1]; exact h
theorem VP.better (h : VP w0 w a n cap ca cc snow least g b s ord av cv ab cb) (he : Ext w w') {ab' : Option Addr} {cb' : Nat} (ho : Own w' w.heap.size 2 1 ab' ord.length) (hr : IntAt w' ab' ord) (hc : ord.length ≤ cb') {m : Int} (hok : PsOk n ⟨ord, m, s.left⟩) :
    VP w0 ((w'.setCell ⟨g, 6, none⟩ (.slice ab' ord.length cb')).setCell ⟨g, 7, none⟩ (.int .i64 m)) a n cap ca cc snow least g b ⟨ord, m, s.left⟩ ord av cv ab' cb' :=
  ⟨((h.srch.newBest he ho hr).set (f' := objP a n cap ca cc snow least b (.slice av ord.length cv) (.slice ab' ord.length cb') s.most) 6 _ (by decide) rfl (fun j hj hne => by rcases (show j = 0 ∨ j = 1 ∨ j = 2 ∨ j = 3 ∨ j = 4 ∨ j = 5 ∨ j = 6 ∨ j = 7 by omega) with rfl | rfl | rfl | rfl | rfl | rfl | rfl | rfl <;> first | rfl | exact absurd rfl hne)).set 7 _ (by decide) rfl (fun j hj hne => by rcases (show j = 0 ∨ j = 1 ∨ j = 2 ∨ j = 3 ∨ j = 4 ∨ j = 5 ∨ j = 6 ∨ j = 7 by omega) with rfl | rfl | rfl | rfl | rfl | rfl | rfl | rfl <;> first | rfl | exact absurd rfl hne), h.capv, hc, hok, h.left⟩
theorem VP.pushed (h : VP w0 w a n cap ca cc snow least g b s ord av cv ab cb) {O : List Int} {av' : Option Addr} {cv' : Nat} (hL : Lst 2 1 cellI w' (g + 1) (.slice av' O.length cv') O) (hg : w.grownBy w' (Value.slice av ord.length cv).ownBlock) (hat : (Value.slice av' O.length cv').ownBlock = (Value.slice av ord.length cv).ownBlock ∨ (Value.slice av' O.length cv').ownBlock = some w.heap.size) (hc : O.length ≤ cv') :
    VP w0 (w'.setCell ⟨g, 5, none⟩ (.slice av' O.length cv')) a n cap ca cc snow least g b s O av' cv' ab cb :=
  ⟨(h.srch.newOrd hL hg hat).set 5 _ (by decide) rfl (fun j hj hne => by rcases (show j = 0 ∨ j = 1 ∨ j = 2 ∨ j = 3 ∨ j = 4 ∨ j = 5 ∨ j = 6 ∨ j = 7 by omega) with rfl | rfl | rfl | rfl | rfl | rfl | rfl | rfl <;> first | rfl | exact absurd rfl hne), hc, h.capb, h.ok, h.left⟩
theorem VP.mid (h : VP w0 w a n cap ca cc snow least g b s ord av cv ab cb) (hg : w.grownBy w' (Value.slice av ord.length cv).ownBlock) : g < w'.heap.size ∧ w'.cell? ⟨g, 5, none⟩ = some (.slice av ord.length cv) ∧ w'.frozen? ⟨g, 5, none⟩ = false :=
  have o := h.srch.obj.grown hg (h.srch.lst.row_ne (Nat.lt_succ_self g))
  ⟨o.blk.lt, o.cell 5 (by decide), o.blk.frozen 5⟩
theorem VP.cut {x : Int} {O : List Int} (h : VP w0 w a n cap ca cc snow least g b s O av cv ab cb) (hO : O = ord ++ [x]) :
    VP w0 (w.setCell ⟨g, 5, none⟩ (.slice av ord.length cv)) a n cap ca cc snow least g b s ord av cv ab cb := by
  subst hO
  have e : (ord ++ [x]).length = ord.length + 1 := by simp
  have h1 := h.srch
  have h2 := h.capv
  rw [e] at h1 h2
  exact ⟨(h1.pop rfl).set 5 _ (by decide) rfl (fun j hj hne => by rcases (show j = 0 ∨ j = 1 ∨ j = 2 ∨ j = 3 ∨ j = 4 ∨ j = 5 ∨ j = 6 ∨ j = 7 by omega) with rfl | rfl | rfl | rfl | rfl | rfl | rfl | rfl <;> first | rfl | exact absurd rfl hne), by omega, h.capb, h.ok, h.left⟩
theorem VP.spend (h : VP w0 w a n cap ca cc snow least g b s ord av cv ab cb) {b' x : Int} (h1 : LeftOk b' { s with left := x }) (h2 : -1 ≤ x) (h3 : x ≤ 20000) :
    VP w0 (w.setCell ⟨g, 4, none⟩ (.int .i64 b')) a n cap ca cc snow least g b' { s with left := x } ord av cv ab cb :=
  ⟨h.srch.set 4 _ (by decide) rfl (fun j hj hne => by rcases (show j = 0 ∨ j = 1 ∨ j = 2 ∨ j = 3 ∨ j = 4 ∨ j = 5 ∨ j = 6 ∨ j = 7 by omega) with rfl | rfl | rfl | rfl | rfl | rfl | rfl | rfl <;> first | rfl | exact absurd rfl hne), h.capv, h.capb, ⟨h.ok.lo, h.ok.hi, h.ok.len, h2, h3⟩, h1⟩
end
theorem wrap_16 {n : Nat} (h : n ≤ 20) : IntKind.i64.wrap (n : Int) = n := by rw [IntKind.wrap_i64]; omega
/-- What a visit of the program's search leaves. -/
def VisI (w0 : World) (a : Option Addr) (n cap : Nat) (ca : Option Addr) (cc : Nat) (snow least : Int) (g : Nat) (s : Ps) (ord : List Int) (W : World) (v : Value) (lo : Int) (e : Ending) (w' : World) : Prop :=
  e = .returned (.tuple #[]) ∧ ∃ b' av' cv' ab' cb', VP w0 w' a n cap ca cc snow least g b' s ord av' cv' ab' cb' ∧ lo ≤ b' ∧ Kept g v (.slice av' ord.length cv') W w'
set_option maxRecDepth 100000 in
set_option maxHeartbeats 4000000 in
theorem nodeI_any (a : Option Addr) (n cap : Nat) (ca : Option Addr) (cc : Nat) (snow least : Int) (w0 : World) (hs0 : 0 ≤ snow) (hs1 : snow ≤ 2000) (g i : Nat) (hi : i < 16) (lo money many : Int) (hm0 : 0 ≤ many) (hm1 : many ≤ 16) (x : Stand) (hx : fewS x) (ord : List Int) (f : Ps → Ps)
    (hvis : ∀ (s : Ps) (W : World) (b : Int) (av : Option Addr) (cv : Nat) (ab : Option Addr) (cb : Nat), VP w0 W a n cap ca cc snow least g b s ord av cv ab cb → 0 ≤ b →
      Calls Try.prog 26 #[.pointer (some ⟨g, 0, none⟩), .int .i64 ((i : Int) + 1), .int .i64 money, .int .i64 (if least ≤ protS x snow then many + 1 else many)] W (VisI w0 a n cap ca cc snow least g (f s) ord W (.slice av ord.length cv) lo))
    (s : Ps) (W : World) (b : Int) (hb : -1000 ≤ b) (av : Option Addr) (cv : Nat) (ab : Option Addr) (cb : Nat) (hV : VP w0 W a n cap ca cc snow least g b s ord av cv ab cb) :
    Calls Try.prog 39 #[.pointer (some ⟨g, 0, none⟩), .int .i64 (i : Int), .int .i64 money, .int .i64 many, .agg #[.string x.id, .int .i64 x.trees, .int .i64 x.height, .int .i64 x.cover, .int .i64 x.gap]] W (VisI w0 a n cap ca cc snow least g (nodeP f s) ord W (.slice av ord.length cv) (min (b - 1) lo)) := by
  have V0 := Lib.hid hV
  have HR := Lib.hid hvis
  have HX := Lib.hid hx
  have hl0 := hV.ok.left0
  have hl1 := hV.ok.left1
  have hb1 : b ≤ 20000 := by rcases hV.left with h | h <;> omega
  clear hV hvis hx
  obtain ⟨hgl, c0, c1, c2, c3, c4, c5, c6, c7⟩ := V0.out.cells
  have fz4 := V0.out.frozen 4
  rcases Int.lt_or_le 0 b with hb0 | hb0
  · have hle : Hid (b = s.left) := by rcases V0.out.left with h | h <;> (show b = s.left; omega)
    have hn : Hid (nodeP f s = f { s with left := s.left - 1 }) := nodeP_go (by have := hle.out; omega)
    have V2 := Lib.hid ((V0.out.spend (b' := b - 1) (x := s.left - 1) (.inl ⟨by omega, by have := hle.out; show b - 1 = s.left - 1; omega⟩) (by have := hle.out; omega) (by have := hle.out; omega)).grow ((Ext.refl _).alloc (.cells #[.string x.id, .int .i64 x.trees, .int .i64 x.height, .int .i64 x.cover, .int .i64 x.gap] 45)))
    have K2 := Lib.hid ((Kept.set g (.slice av ord.length cv) W 4 (.int .i64 (b - 1))).trans (Kept.of_ext g _ ((Ext.refl _).alloc (.cells #[.string x.id, .int .i64 x.trees, .int .i64 x.height, .int .i64 x.cover, .int .i64 x.gap] 45))))
    have hd0 : decide (b - 1 < 0) = false := decide_eq_false (by omega)
    have hxg : W.heap.size ≠ g := by omega
    go_enter Try.func39, Try.ntmps39
    go_wp2_with fail
    obtain ⟨W2, hW2⟩ : ∃ W2, W2 = (W.setCell ⟨g, 4, none⟩ (.int .i64 (b - 1))).alloc (.cells #[.string x.id, .int .i64 x.trees, .int .i64 x.height, .int .i64 x.cover, .int .i64 x.gap] 45) := ⟨_, rfl⟩
    have hsz : (W.setCell ⟨g, 4, none⟩ (.int .i64 (b - 1))).heap.size = W.heap.size := by simp
    obtain ⟨xb, hxb⟩ : ∃ xb, xb = W.heap.size := ⟨_, rfl⟩
    have x0 : W2.cell? ⟨xb, 0, none⟩ = some (.string x.id) := by rw [hW2, hxb, ← hsz, cell_new]; rfl
    have x1 : W2.cell? ⟨xb, 1, none⟩ = some (.int .i64 x.trees) := by rw [hW2, hxb, ← hsz, cell_new]; rfl
    have x2 : W2.cell? ⟨xb, 2, none⟩ = some (.int .i64 x.height) := by rw [hW2, hxb, ← hsz, cell_new]; rfl
    have x3 : W2.cell? ⟨xb, 3, none⟩ = some (.int .i64 x.cover) := by rw [hW2, hxb, ← hsz, cell_new]; rfl
    have x4 : W2.cell? ⟨xb, 4, none⟩ = some (.int .i64 x.gap) := by rw [hW2, hxb, ← hsz, cell_new]; rfl
    have xl := block_lt x0
    rw [← hW2] at V2 K2 ⊢
    rw [← hxb]
    clear hW2 hxb hsz V0 c0 c1 c2 c3 c4 c5 c6 c7 hgl fz4 hxg
    obtain ⟨hgl, c0, c1, c2, c3, c4, c5, c6, c7⟩ := V2.out.cells
    have HP := Lib.hid fun (q : Growth) => Stand_protection x snow (lift W2 q) HX.out hs0 hs1
    by_cases hp : least ≤ protS x snow
    · have HR2 := Lib.hid fun (W' : World) (he : Ext W2 W') => HR.out { s with left := s.left - 1 } W' (b - 1) av cv ab cb (V2.out.grow he) (by omega)
      rw [if_pos hp] at HR2
      clear HR
      refine region_quiet (by kernel_rfl) (by kernel_rfl) ?_
      repeat (any_goals (first | go_big_quiet_step ((exact Gives.quiet (HP.out _))) | quiet_step ((exact Gives.quiet (HP.out _)))))
      refine wpQuiet_nil ?_
      intro _ hw'
      obtain ⟨y, hw''⟩ := hw'
      subst hw''
      go_wp2_with fail
      refine (HR2.out _ (by repeat (first | exact Ext.refl _ | refine Ext.lift ?_ _ | refine Ext.alloc ?_ _))).mono ?_
      rintro e w' ⟨rfl, b', av', cv', ab', cb', hV', hlo, hK⟩
      have hV' := Lib.hid hV'
      have hK := Lib.hid (K2.out.trans ((Kept.of_ext g _ (show Ext W2 (lift W2 y) from (by repeat (first | exact Ext.refl _ | refine Ext.lift ?_ _ | refine Ext.alloc ?_ _)))).trans hK))
      clear V2 K2 HP HR2 x0 x1 x2 x3 x4 xl c0 c1 c2 c3 c4 c5 c6 c7 hgl
      go_wp2_with fail
      (try simp only [Exit.inBlock, Exit.then])
      first | refine bodyPost_ret (results_none rfl _ _ _) rfl ?_ | refine bodyPost_end (results_none rfl _ _ _) rfl ?_
      exact ⟨rfl, b', av', cv', ab', cb', by rw [hn.out]; exact hV'.out, by omega, hK.out⟩
    · have hp' : decide (least ≤ protS x snow) = false := decide_eq_false hp
      have HR2 := Lib.hid fun (W' : World) (he : Ext W2 W') => HR.out { s with left := s.left - 1 } W' (b - 1) av cv ab cb (V2.out.grow he) (by omega)
      rw [if_neg hp] at HR2
      clear HR
      refine region_quiet (by kernel_rfl) (by kernel_rfl) ?_
      repeat (any_goals (first | go_big_quiet_step ((exact Gives.quiet (HP.out _))) | quiet_step ((exact Gives.quiet (HP.out _)))))
      refine wpQuiet_nil ?_
      intro _ hw'
      obtain ⟨y, hw''⟩ := hw'
      subst hw''
      go_wp2_with fail
      refine (HR2.out _ (by repeat (first | exact Ext.refl _ | refine Ext.lift ?_ _ | refine Ext.alloc ?_ _))).mono ?_
      rintro e w' ⟨rfl, b', av', cv', ab', cb', hV', hlo, hK⟩
      have hV' := Lib.hid hV'
      have hK := Lib.hid (K2.out.trans ((Kept.of_ext g _ (show Ext W2 (lift W2 y) from (by repeat (first | exact Ext.refl _ | refine Ext.lift ?_ _ | refine Ext.alloc ?_ _)))).trans hK))
      clear V2 K2 HP HR2 x0 x1 x2 x3 x4 xl c0 c1 c2 c3 c4 c5 c6 c7 hgl
      go_wp2_with fail
      (try simp only [Exit.inBlock, Exit.then])
      first | refine bodyPost_ret (results_none rfl _ _ _) rfl ?_ | refine bodyPost_end (results_none rfl _ _ _) rfl ?_
      exact ⟨rfl, b', av', cv', ab', cb', by rw [hn.out]; exact hV'.out, by omega, hK.out⟩
  · have hn : Hid (nodeP f s = { s with left := -1 }) := nodeP_out (by rcases V0.out.left with h | h <;> omega)
    have V2 := Lib.hid ((V0.out.spend (b' := b - 1) (x := -1) (.inr ⟨by omega, rfl⟩) (by omega) (by omega)).grow ((Ext.refl _).alloc (.cells #[.string x.id, .int .i64 x.trees, .int .i64 x.height, .int .i64 x.cover, .int .i64 x.gap] 45)))
    have K2 := Lib.hid ((Kept.set g (.slice av ord.length cv) W 4 (.int .i64 (b - 1))).trans (Kept.of_ext g _ ((Ext.refl _).alloc (.cells #[.string x.id, .int .i64 x.trees, .int .i64 x.height, .int .i64 x.cover, .int .i64 x.gap] 45))))
    have hd0 : decide (b - 1 < 0) = true := decide_eq_true (by omega)
    have hmin : min (b - 1) lo ≤ b - 1 := by omega
    go_enter Try.func39, Try.ntmps39
    go_wp2_with fail
    (try simp only [Exit.inBlock, Exit.then])
    first | refine bodyPost_ret (results_none rfl _ _ _) rfl ?_ | refine bodyPost_end (results_none rfl _ _ _) rfl ?_
    exact ⟨rfl, b - 1, av, cv, ab, cb, by rw [hn.out]; exact V2.out, hmin, K2.out⟩
end Go.Proofs.Ytmkmmenkjbmppaa
