/- Chapter 22: the reference's search through plans of shots. -/
import Derived.Test.YtkfdkihfdjgbbaaGain
import Derived.Laws.AppendOwnNone
namespace Go.Proofs.Ytkfdkihfdjgbbaa
open Go.RowKit
theorem Lst.nilcap {α : Type} {n T : Nat} {cell : α → Nat → Value} {w : World} {base : Nat} {m cap : Nat} {l : List α} (h : Lst T n cell w base (.slice none m cap) l) : m = 0 ∧ cap = 0 := by
  rcases h.2 with ⟨h1, -⟩ | ⟨g, c, cur, h1, -⟩
  · simp only [Value.slice.injEq, true_and] at h1; exact h1
  · simp at h1
set_option maxRecDepth 100000 in
set_option maxHeartbeats 1000000 in
theorem l00Own_any (a : Option Addr) (cap : Nat) (l : List Int) (w : World) (H : IntAt w a l) (hnil : a = none → cap = 0) (hlen : l.length ≤ 1048576) :
    Calls Try.prog 70 #[.slice a l.length cap] w (OutL 2 1 cellI w l) := by
  have HL : Hid (Lst 2 1 cellI (w.alloc (.cells #[] 2)) w.heap.size (.slice (some ⟨w.heap.size, 0, none⟩) 0 0) ([] : List Int)) := Lst.new w _ (Nat.le_refl _)
  have hE := Lib.hid ((Ext.refl w).alloc (.cells #[] 2))
  have hb : Hid (w.heap.size ≤ (w.alloc (.cells #[] 2)).heap.size) := by show _ ≤ _; rw [size_new]; omega
  cases a with
  | none =>
    have h0 : l.length = 0 := by
      rcases Nat.eq_zero_or_pos l.length with h | h
      · exact h
      · obtain ⟨b, off, h, _⟩ := H 0 h; cases h
    obtain rfl : l = [] := List.length_eq_zero_iff.1 h0
    obtain rfl : cap = 0 := hnil rfl
    have hO : Hid ((w.alloc (.cells #[] 2)).ownsRow w.heap.size 2 1 (.slice (some ⟨w.heap.size, 0, none⟩) 0 0) 0 []) := HL.out
    obtain ⟨i, z, h2, -⟩ := elInt.inf
    have hI := Lib.hid h2
    clear h2 HL H hnil
    go_enter Try.func70, Try.ntmps70
    go_wp2_with (at_builtin; refine wpList_append_own_none rfl _ _ _ rfl w.heap.size _ _ 1 elInt.und hI.out _ 0 [] rfl hO.out rfl ?_)
    go_ret
    exact ⟨some ⟨w.heap.size, 0, none⟩, 0, rfl, Nat.le_refl _, .inl rfl, RowsAt.nil, hE.out⟩
  | some ad =>
    have HR := Lib.hid (H.ext hE.out)
    have C1 : Hid (([] : List Int).length + l.length ≤ 9223372036854775807) := by show _ ≤ _; simp; omega
    have C2 : Hid ((([] : List Int).length + l.length) * 8 ≤ 140737488355328) := by show _ ≤ _; simp; omega
    clear H
    go_enter Try.func70, Try.ntmps70
    go_wp2_with (at_builtin; refine wpList_pushL elInt oneInt rfl _ _ rfl w.heap.size _ [] rfl HL.out ad l.length cap l rfl rfl HR.out C1.out C2.out hb.out ?_; intro v' w1 HL1 hs1 _)
    rw [List.nil_append] at HL1
    obtain ⟨a', cap', rfl, hc', hm', R1, O1⟩ := HL1.shape
    have hX : Hid (Ext w w1) := hs1.ext hE.out (Nat.le_refl _)
    have R2 := Lib.hid R1
    have O2 := Lib.hid O1
    clear HL1 hs1 R1 O1
    go_wp2_with fail
    go_ret
    exact ⟨a', cap', rfl, hc', O2.out, R2.out, hX.out⟩
def updS (l : List Shot) (all : Bool) (ord : List Int) (s : St) : St :=
  if (!all && decide (s.most < gainS l ord) || all && ord.length == l.length) = true then ⟨ord, gainS l ord, s.left, all⟩ else s
theorem updS_t {l : List Shot} {all : Bool} {ord : List Int} {s : St} (h : (!all && decide (s.most < gainS l ord) || all && ord.length == l.length) = true) : updS l all ord s = ⟨ord, gainS l ord, s.left, all⟩ := if_pos h
theorem updS_f {l : List Shot} {all : Bool} {ord : List Int} {s : St} (h : (!all && decide (s.most < gainS l ord) || all && ord.length == l.length) = false) : updS l all ord s = s := if_neg (by rw [h]; decide)
def nodesOf (bud left : Int) : Int := bud - max left 0
theorem nodesOf_pos {bud left : Int} (h : 0 ≤ left) : nodesOf bud left = bud - left := by unfold nodesOf; omega
/-- The cells of the reference's search. -/
def objS (a : Option Addr) (n cap crews : Nat) (all : Bool) (bud : Int) (v vb : Value) (most nodes : Int) (full found : Bool) : Nat → Value
  | 0 => .slice a n cap
  | 1 => .int .i64 (crews : Int)
  | 2 => .bool all
  | 3 => v
  | 4 => vb
  | 5 => .int .i64 most
  | 6 => .int .i64 nodes
  | 7 => .int .i64 bud
  | 8 => .bool full
  | _ => .bool found
structure VS (w0 w : World) (a : Option Addr) (n cap crews : Nat) (all : Bool) (bud : Int) (g : Nat) (s : St) (ord : List Int) (av : Option Addr) (cv : Nat) (ab : Option Addr) (cb : Nat) : Prop where
  srch : Srch 73 2 10 w0 w g (objS a n cap crews all bud (.slice av ord.length cv) (.slice ab s.best.length cb) s.most (nodesOf bud s.left) (decide (s.left < 0)) s.found) (.slice av ord.length cv) ord ab s.best
  capv : ord.length ≤ cv
  capb : s.best.length ≤ cb
  lo : -1 ≤ s.left
  hi : s.left ≤ bud
theorem VS.cells {w0 w : World} {a : Option Addr} {n cap crews : Nat} {all : Bool} {bud : Int} {g : Nat} {s : St} {ord : List Int} {av : Option Addr} {cv : Nat} {ab : Option Addr} {cb : Nat} (h : VS w0 w a n cap crews all bud g s ord av cv ab cb) :
    g < w.heap.size ∧ w.cell? ⟨g, 0, none⟩ = some (.slice a n cap) ∧ w.cell? ⟨g, 1, none⟩ = some (.int .i64 (crews : Int)) ∧ w.cell? ⟨g, 2, none⟩ = some (.bool all) ∧ w.cell? ⟨g, 3, none⟩ = some (.slice av ord.length cv) ∧ w.cell? ⟨g, 4, none⟩ = some (.slice ab s.best.length cb) ∧ w.cell? ⟨g, 5, none⟩ = some (.int .i64 s.most) ∧ w.cell? ⟨g, 6, none⟩ = some (.int .i64 (nodesOf bud s.left)) ∧ w.cell? ⟨g, 7, none⟩ = some (.int .i64 bud) ∧ w.cell? ⟨g, 8, none⟩ = some (.bool (decide (s.left < 0))) ∧ w.cell? ⟨g, 9, none⟩ = some (.bool s.found) :=
  have o := h.srch.obj
  ⟨o.blk.lt, o.cell 0 (by decide), o.cell 1 (by decide), o.cell 2 (by decide), o.cell 3 (by decide), o.cell 4 (by decide), o.cell 5 (by decide), o.cell 6 (by decide), o.cell 7 (by decide), o.cell 8 (by decide), o.cell 9 (by decide)⟩
theorem VS.frozen {w0 w : World} {a : Option Addr} {n cap crews : Nat} {all : Bool} {bud : Int} {g : Nat} {s : St} {ord : List Int} {av : Option Addr} {cv : Nat} {ab : Option Addr} {cb : Nat} (h : VS w0 w a n cap crews all bud g s ord av cv ab cb) (o : Nat) : w.frozen? ⟨g, o, none⟩ = false := h.srch.obj.blk.frozen o
theorem VS.grow {w0 w w' : World} {a : Option Addr} {n cap crews : Nat} {all : Bool} {bud : Int} {g : Nat} {s : St} {ord : List Int} {av : Option Addr} {cv : Nat} {ab : Option Addr} {cb : Nat} (h : VS w0 w a n cap crews all bud g s ord av cv ab cb) (he : Ext w w') : VS w0 w' a n cap crews all bud g s ord av cv ab cb :=
  ⟨h.srch.grow he, h.capv, h.capb, h.lo, h.hi⟩
theorem VS.row {w0 w : World} {a : Option Addr} {n cap crews : Nat} {all : Bool} {bud : Int} {g : Nat} {s : St} {ord : List Int} {av : Option Addr} {cv : Nat} {ab : Option Addr} {cb : Nat} (h : VS w0 w a n cap crews all bud g s ord av cv ab cb) : IntAt w av ord := by
  obtain ⟨a', c', e, -, -, h, -⟩ := h.srch.lst.shape
  simp only [Value.slice.injEq, true_and] at e
  rw [e.1]; exact h
theorem VS.nilcap {w0 w : World} {a : Option Addr} {n cap crews : Nat} {all : Bool} {bud : Int} {g : Nat} {s : St} {ord : List Int} {av : Option Addr} {cv : Nat} {ab : Option Addr} {cb : Nat} (h : VS w0 w a n cap crews all bud g s ord av cv ab cb) (e : av = none) : cv = 0 := by
  subst e; exact h.srch.lst.nilcap.2
theorem VS.most1 {w0 w : World} {a : Option Addr} {n cap crews : Nat} {all : Bool} {bud : Int} {g : Nat} {s : St} {ord : List Int} {av : Option Addr} {cv : Nat} {ab : Option Addr} {cb : Nat} (h : VS w0 w a n cap crews all bud g s ord av cv ab cb) (m : Int) : VS w0 (w.setCell ⟨g, 5, none⟩ (.int .i64 m)) a n cap crews all bud g { s with most := m } ord av cv ab cb :=
  ⟨h.srch.set 5 _ (by decide) rfl (fun j hj hne => by rcases (show j = 0 ∨ j = 1 ∨ j = 2 ∨ j = 3 ∨ j = 4 ∨ j = 5 ∨ j = 6 ∨ j = 7 ∨ j = 8 ∨ j = 9 by omega) with rfl | rfl | rfl | rfl | rfl | rfl | rfl | rfl | rfl | rfl <;> first | rfl | exact absurd rfl hne), h.capv, h.capb, h.lo, h.hi⟩
theorem VS.best1 {w0 w w' : World} {a : Option Addr} {n cap crews : Nat} {all : Bool} {bud : Int} {g : Nat} {s : St} {ord : List Int} {av : Option Addr} {cv : Nat} {ab : Option Addr} {cb : Nat} (h : VS w0 w a n cap crews all bud g s ord av cv ab cb) (he : Ext w w') {ab' : Option Addr} {cb' : Nat} (ho : Own w' w.heap.size 2 1 ab' ord.length) (hr : IntAt w' ab' ord) (hc : ord.length ≤ cb') :
    VS w0 (w'.setCell ⟨g, 4, none⟩ (.slice ab' ord.length cb')) a n cap crews all bud g { s with best := ord } ord av cv ab' cb' :=
  ⟨(h.srch.newBest he ho hr).set 4 _ (by decide) rfl (fun j hj hne => by rcases (show j = 0 ∨ j = 1 ∨ j = 2 ∨ j = 3 ∨ j = 4 ∨ j = 5 ∨ j = 6 ∨ j = 7 ∨ j = 8 ∨ j = 9 by omega) with rfl | rfl | rfl | rfl | rfl | rfl | rfl | rfl | rfl | rfl <;> first | rfl | exact absurd rfl hne), h.capv, hc, h.lo, h.hi⟩
theorem VS.found1 {w0 w : World} {a : Option Addr} {n cap crews : Nat} {all : Bool} {bud : Int} {g : Nat} {s : St} {ord : List Int} {av : Option Addr} {cv : Nat} {ab : Option Addr} {cb : Nat} (h : VS w0 w a n cap crews all bud g s ord av cv ab cb) (x : Bool) : VS w0 (w.setCell ⟨g, 9, none⟩ (.bool x)) a n cap crews all bud g { s with found := x } ord av cv ab cb :=
  ⟨h.srch.set 9 _ (by decide) rfl (fun j hj hne => by rcases (show j = 0 ∨ j = 1 ∨ j = 2 ∨ j = 3 ∨ j = 4 ∨ j = 5 ∨ j = 6 ∨ j = 7 ∨ j = 8 ∨ j = 9 by omega) with rfl | rfl | rfl | rfl | rfl | rfl | rfl | rfl | rfl | rfl <;> first | rfl | exact absurd rfl hne), h.capv, h.capb, h.lo, h.hi⟩
theorem VS.pushed {w0 w w' : World} {a : Option Addr} {n cap crews : Nat} {all : Bool} {bud : Int} {g : Nat} {s : St} {ord : List Int} {av : Option Addr} {cv : Nat} {ab : Option Addr} {cb : Nat} (h : VS w0 w a n cap crews all bud g s ord av cv ab cb) {O : List Int} {av' : Option Addr} {cv' : Nat} (hL : Lst 2 1 cellI w' (g + 1) (.slice av' O.length cv') O) (hg : w.grownBy w' (Value.slice av ord.length cv).ownBlock) (hat : (Value.slice av' O.length cv').ownBlock = (Value.slice av ord.length cv).ownBlock ∨ (Value.slice av' O.length cv').ownBlock = some w.heap.size) (hc : O.length ≤ cv') :
    VS w0 (w'.setCell ⟨g, 3, none⟩ (.slice av' O.length cv')) a n cap crews all bud g s O av' cv' ab cb :=
  ⟨(h.srch.newOrd hL hg hat).set 3 _ (by decide) rfl (fun j hj hne => by rcases (show j = 0 ∨ j = 1 ∨ j = 2 ∨ j = 3 ∨ j = 4 ∨ j = 5 ∨ j = 6 ∨ j = 7 ∨ j = 8 ∨ j = 9 by omega) with rfl | rfl | rfl | rfl | rfl | rfl | rfl | rfl | rfl | rfl <;> first | rfl | exact absurd rfl hne), hc, h.capb, h.lo, h.hi⟩
theorem VS.mid {w0 w w' : World} {a : Option Addr} {n cap crews : Nat} {all : Bool} {bud : Int} {g : Nat} {s : St} {ord : List Int} {av : Option Addr} {cv : Nat} {ab : Option Addr} {cb : Nat} (h : VS w0 w a n cap crews all bud g s ord av cv ab cb) (hg : w.grownBy w' (Value.slice av ord.length cv).ownBlock) : g < w'.heap.size ∧ w'.cell? ⟨g, 3, none⟩ = some (.slice av ord.length cv) ∧ w'.frozen? ⟨g, 3, none⟩ = false :=
  have o := h.srch.obj.grown hg (h.srch.lst.row_ne (Nat.lt_succ_self g))
  ⟨o.blk.lt, o.cell 3 (by decide), o.blk.frozen 3⟩
theorem VS.cut {w0 w : World} {a : Option Addr} {n cap crews : Nat} {all : Bool} {bud : Int} {g : Nat} {s : St} {ord : List Int} {av : Option Addr} {cv : Nat} {ab : Option Addr} {cb : Nat} {x : Int} {O : List Int} (h : VS w0 w a n cap crews all bud g s O av cv ab cb) (hO : O = ord ++ [x]) :
    VS w0 (w.setCell ⟨g, 3, none⟩ (.slice av ord.length cv)) a n cap crews all bud g s ord av cv ab cb := by
  subst hO
  have e : (ord ++ [x]).length = ord.length + 1 := by simp
  have h1 := h.srch
  have h2 := h.capv
  rw [e] at h1 h2
  exact ⟨(h1.pop rfl).set 3 _ (by decide) rfl (fun j hj hne => by rcases (show j = 0 ∨ j = 1 ∨ j = 2 ∨ j = 3 ∨ j = 4 ∨ j = 5 ∨ j = 6 ∨ j = 7 ∨ j = 8 ∨ j = 9 by omega) with rfl | rfl | rfl | rfl | rfl | rfl | rfl | rfl | rfl | rfl <;> first | rfl | exact absurd rfl hne), by omega, h.capb, h.lo, h.hi⟩
theorem VS.spend {w0 w : World} {a : Option Addr} {n cap crews : Nat} {all : Bool} {bud : Int} {g : Nat} {s : St} {ord : List Int} {av : Option Addr} {cv : Nat} {ab : Option Addr} {cb : Nat} (h : VS w0 w a n cap crews all bud g s ord av cv ab cb) (h0 : 0 < s.left) : VS w0 (w.setCell ⟨g, 6, none⟩ (.int .i64 (nodesOf bud s.left + 1))) a n cap crews all bud g { s with left := s.left - 1 } ord av cv ab cb := by
  have h1 := h.srch
  have h2 := h.hi
  have e1 : decide (s.left < 0) = decide (s.left - 1 < 0) := decide_eq_decide.2 (by omega)
  have e2 : nodesOf bud s.left + 1 = nodesOf bud (s.left - 1) := by unfold nodesOf; omega
  rw [e1] at h1
  exact ⟨h1.set 6 _ (by decide) (by show Value.int .i64 (nodesOf bud (s.left - 1)) = _; rw [e2]) (fun j hj hne => by rcases (show j = 0 ∨ j = 1 ∨ j = 2 ∨ j = 3 ∨ j = 4 ∨ j = 5 ∨ j = 6 ∨ j = 7 ∨ j = 8 ∨ j = 9 by omega) with rfl | rfl | rfl | rfl | rfl | rfl | rfl | rfl | rfl | rfl <;> first | rfl | exact absurd rfl hne), h.capv, h.capb, by show -1 ≤ s.left - 1; omega, by show s.left - 1 ≤ bud; omega⟩
theorem VS.stop {w0 w : World} {a : Option Addr} {n cap crews : Nat} {all : Bool} {bud : Int} {g : Nat} {s : St} {ord : List Int} {av : Option Addr} {cv : Nat} {ab : Option Addr} {cb : Nat} (h : VS w0 w a n cap crews all bud g s ord av cv ab cb) (h0 : s.left = 0) : VS w0 (w.setCell ⟨g, 8, none⟩ (.bool true)) a n cap crews all bud g { s with left := -1 } ord av cv ab cb := by
  have h1 := h.srch
  have h2 := h.hi
  have e2 : nodesOf bud s.left = nodesOf bud (-1) := by unfold nodesOf; omega
  rw [e2] at h1
  exact ⟨h1.set 8 _ (by decide) rfl (fun j hj hne => by rcases (show j = 0 ∨ j = 1 ∨ j = 2 ∨ j = 3 ∨ j = 4 ∨ j = 5 ∨ j = 6 ∨ j = 7 ∨ j = 8 ∨ j = 9 by omega) with rfl | rfl | rfl | rfl | rfl | rfl | rfl | rfl | rfl | rfl <;> first | rfl | exact absurd rfl hne), h.capv, h.capb, by show (-1 : Int) ≤ -1; omega, by show -1 ≤ bud; omega⟩
theorem wrap_len8 {n : Nat} (h : n ≤ 8) : IntKind.i64.wrap (n : Int) = n := by rw [IntKind.wrap_i64]; omega
set_option maxRecDepth 100000 in
set_option maxHeartbeats 8000000 in
theorem run_step (l : List Shot) (a : Option Addr) (cap crews : Nat) (all : Bool) (bud : Int) (hbud : bud ≤ 20000) (w0 : World) (H : ShotAt w0 a l) (hn : l.length ≤ 8) (_ : l.length ≤ cap) (hc0 : 0 < crews) (hc1 : crews ≤ 3) (g : Nat) (ord : List Int) (hO : ShotsOk l ord) (hlen : ord.length ≤ 8) (rec : List Int → St → St)
    (hrec : ∀ (k : Nat) (s : St) (W : World) (av : Option Addr) (cv : Nat) (ab : Option Addr) (cb : Nat), k < l.length → hasB ord k = false → VS w0 W a l.length cap crews all bud g s (ord ++ [(k : Int)]) av cv ab cb → s.found = false → 0 ≤ s.left →
      Calls Try.prog 48 #[.pointer (some ⟨g, 0, none⟩), .int .i64 (gainS l (ord ++ [(k : Int)]))] W fun e w' => e = .returned (.tuple #[]) ∧ ∃ av' cv' ab' cb', VS w0 w' a l.length cap crews all bud g (rec (ord ++ [(k : Int)]) s) (ord ++ [(k : Int)]) av' cv' ab' cb')
    (s : St) (W : World) (av : Option Addr) (cv : Nat) (ab : Option Addr) (cb : Nat) (hV : VS w0 W a l.length cap crews all bud g s ord av cv ab cb) (_ : 0 ≤ s.left) :
    Calls Try.prog 48 #[.pointer (some ⟨g, 0, none⟩), .int .i64 (gainS l ord)] W fun e w' => e = .returned (.tuple #[]) ∧ ∃ av' cv' ab' cb', VS w0 w' a l.length cap crews all bud g (loopV (okS l crews) rec ord (updS l all ord s) l.length) ord av' cv' ab' cb' := by
  have V0 := Lib.hid hV
  have HA := Lib.hid H
  have HK := Lib.hid hO
  have HR := Lib.hid hrec
  have hgs := gainTo_bd hO (k := ord.length) (Nat.le_refl _)
  have hgs0 : 0 ≤ gainS l ord := hgs.1
  have hgs1 : gainS l ord ≤ 8000 := by have := hgs.2; unfold gainS; omega
  clear hV H hO hrec hgs
  obtain ⟨hgl, c0, c1, c2, c3, c4, c5, c6, c7, c8, c9⟩ := V0.out.cells
  cases all
  · by_cases hgt : s.most < gainS l ord
    · have hu : Hid (updS l false ord s = ⟨ord, gainS l ord, s.left, false⟩) := updS_t (by rw [decide_eq_true hgt]; rfl)
      go_enter Try.func48, Try.ntmps48
      go_wp2_with fail
      refine region_quiet (by kernel_rfl) (by kernel_rfl) ?_
      repeat (any_goals (first | go_big_quiet_step (fail) | quiet_step (fail)))
      refine wpQuiet_nil ?_
      intro _ hw'
      obtain ⟨y, hw''⟩ := hw'
      subst hw''
      clear hgt
      have V1 := Lib.hid (V0.out.grow ((Ext.refl _).lift y))
      have V2 := Lib.hid (V1.out.most1 (gainS l ord))
      have HC : Hid (Calls Try.prog 70 #[.slice av ord.length cv] ((lift W y).setCell ⟨g, 5, none⟩ (.int .i64 (gainS l ord))) (OutL 2 1 cellI ((lift W y).setCell ⟨g, 5, none⟩ (.int .i64 (gainS l ord))) ord)) := l00Own_any av cv ord _ V2.out.row (fun e => V2.out.nilcap e) (by omega)
      have fz5 := V0.out.frozen 5
      go_wp2_with fail
      refine HC.out.mono ?_
      rintro e w2 ⟨ab2, cb2, rfl, hcb2, HO2, HR2, E2⟩
      have V3 : Hid (VS w0 ((w2.setCell ⟨g, 4, none⟩ (.slice ab2 ord.length cb2)).setCell ⟨g, 9, none⟩ (.bool false)) a l.length cap crews false bud g ⟨ord, gainS l ord, s.left, false⟩ ord av cv ab2 cb2) := (V2.out.best1 E2 HO2 HR2 hcb2).found1 false
      clear hgl c0 c1 c2 c3 c4 c5 c6 c7 c8 c9 fz5
      have fz4 := (V2.out.grow E2).frozen 4
      have fz9 := (V2.out.grow E2).frozen 9
      obtain ⟨hgl, c0, c1, c2, c3, c4, c5, c6, c7, c8, c9⟩ := (V2.out.grow E2).cells
      clear HC HO2 HR2 E2 V2 V1 V0
      go_wp2_with fail
      generalize (w2.setCell ⟨g, 4, none⟩ (.slice ab2 ord.length cb2)).setCell ⟨g, 9, none⟩ (.bool false) = W3 at *
      clear hgl c0 c1 c2 c3 c4 c5 c6 c7 c8 c9 fz4 fz9
      obtain ⟨s1, hs1⟩ : ∃ s1 : St, s1 = ⟨ord, gainS l ord, s.left, false⟩ := ⟨_, rfl⟩
      rw [← hs1] at V3 hu
      have hu1 := hu
      clear hs1 hu
      obtain ⟨hgl, c0, c1, c2, c3, c4, c5, c6, c7, c8, c9⟩ := V3.out.cells
      go_wp2_with fail
      go_loopw [4] (fun i wr => ∃ (k : Nat) (s' : St) (av : Option Addr) (cv : Nat) (ab : Option Addr) (cb : Nat), k ≤ l.length ∧ i = .int .i64 k ∧ Hid (loopV (okS l crews) rec ord s1 k = s') ∧ Hid (VS w0 wr a l.length cap crews false bud g s' ord av cv ab cb)) (fun i _ => l.length - (intOf i).toNat)
      case atStart => exact ⟨0, s1, av, cv, ab2, cb2, Nat.zero_le _, rfl, rfl, V3.out⟩
      case round =>
        clear V3 hgl c0 c1 c2 c3 c4 c5 c6 c7 c8 c9
        obtain ⟨k, s', av', cv', ab', cb', hk, rfl, hs', V⟩ := hrel
        obtain ⟨hgl, c0, c1, c2, c3, c4, c5, c6, c7, c8, c9⟩ := V.out.cells
        by_cases hlt : k < l.length
        · rcases Int.lt_or_le s'.left 0 with hlf | hlf
          · have hfin : Hid (loopV (okS l crews) rec ord s1 l.length = s') := by show _ = _; rw [loopV_stop (j := 0) (k := k) (by rw [hs'.out]; exact .inl hlf) l.length (by omega), hs'.out]
            rw [decide_eq_true hlf] at c8
            go_wp2_with fail
            (try simp only [Exit.inBlock, Exit.then])
            first | refine bodyPost_ret (results_none rfl _ _ _) rfl ?_ | refine bodyPost_end (results_none rfl _ _ _) rfl ?_
            refine ⟨rfl, av', cv', ab', cb', ?_⟩
            rw [hu1.out, hfin.out]
            exact V.out
          · rw [decide_eq_false (by omega)] at c8
            cases hfd : s'.found
            · rw [hfd] at c9
              have hf' := Lib.hid hfd
              clear hfd
              have HC : Hid (Calls Try.prog 71 #[.slice av' ord.length cv', .int .i64 k] wr fun e w' => e = .returned (.bool (hasB ord k)) ∧ w' = wr) := l00Has_any av' cv' ord k wr V.out.row (by omega)
              cases hh : hasB ord (k : Int)
              · rw [hh] at HC
                obtain ⟨O, hO⟩ : ∃ O : List Int, O = ord ++ [(k : Int)] := ⟨_, rfl⟩
                have hOl : Hid (O.length = ord.length + 1) := by show _ = _; rw [hO]; simp
                have hO9 : O.length ≤ 9 := by rw [hOl.out]; omega
                have HO := Lib.hid hO
                have HKO : Hid (ShotsOk l O) := by show ShotsOk _ _; rw [hO]; exact HK.out.push hlt
                have HH := Lib.hid hh
                have fz3 := V.out.frozen 3
                clear hO hh
                go_wp2_with (first
                  | (go_at_call 71; refine HC.out.mono ?_; rintro e w' ⟨rfl, hw⟩; subst hw; have V1 := Lib.hid (V.out.grow ((Ext.refl _).alloc (.cells #[.int .i64 k] 2))); have HR1 : Hid (IntAt (w'.alloc (.cells #[.int .i64 k] 2)) (some ⟨w'.heap.size, 0, none⟩) [(k : Int)]) := rows_int _ _ rfl; clear HC)
                  | (at_builtin; refine wpList_pushAt elInt oneInt rfl _ _ rfl (g + 1) _ ord (by rfl) V1.out.srch.lst _ 1 1 [(k : Int)] rfl (by rfl) HR1.out (by have := hOl.out; omega) (by omega) (by rw [size_new]; omega) ?_; intro v' w3 HL hg3 hat3; rw [← HO.out] at HL; obtain ⟨av2, cv2, rfl, hcv2, -, -, -⟩ := HL.shape; have V4 := Lib.hid (V1.out.pushed HL hg3 hat3 hcv2); obtain ⟨e0, e1, e2⟩ := V1.out.mid hg3; clear V1 HR1 HL hg3 hat3 hgl c0 c1 c2 c3 c4 c5 c6 c7 c8 c9 fz3))
                generalize w3.setCell ⟨g, 3, none⟩ (.slice av2 O.length cv2) = W4 at *
                clear e0 e1 e2
                obtain ⟨hgl, c0, c1, c2, c3, c4, c5, c6, c7, c8, c9⟩ := V4.out.cells
                have HW : Hid (∀ w', Ext W4 w' → Calls Try.prog 65 #[.slice a l.length cap, .slice av2 O.length cv2, .int .i64 (crews : Int)] w' (OutS 2 1 (fun (x : Int) (_ : Nat) => Value.int .i64 x) w' (finsV l O crews) [.bool (worksB l O crews)])) := fun w' e =>
                  l22Ends_any a cap l av2 cv2 O crews w' (HA.out.ext (V4.out.srch.ext.trans e)) (V4.out.row.ext e) HKO.out hc0 hc1 (by omega)
                refine Grow.region [0, 1, 2, 3, 4, 5, 6, 7, 8, 9, 10, 11] [(false, 12), (false, 13), (true, 14), (true, 15), (true, 16), (true, 17)] (by kernel_rfl) (by kernel_rfl) ?_
                simp only [Grow.pick, Grow.pickB, List.getElem?_cons_succ, List.getElem?_cons_zero]
                repeat
                  refine Grow.heads_step (fun K' hK => ⟨rfl, ?_⟩)
                  apply Exists.intro
                  apply And.intro
                  · intro w' hw'
                    obtain ⟨x', rfl⟩ := hw'
                    go_simp
                    first | done | rfl | (rw [if_neg (by omega)]; done) | (rw [if_neg (by omega)]; rfl)
                  go_simp
                  refine hK _ ?_
                  clear hK K'
                refine Grow.heads_nil ?_
                intro w5 e5
                refine Grow.seq_step (fun K' hK => ⟨rfl, ?_⟩)
                go_simp
                simp only [Grow.upon]
                refine (HW.out w5 e5).mono ?_
                rintro e w6 ⟨a6, cap6, rfl, -, -, -, E6⟩
                refine ⟨_, rfl, E6, fun w7 e7 => hK _ _ ?_⟩
                clear hK K'
                refine Grow.seq_step (fun K' hK => ⟨rfl, ?_⟩)
                go_simp
                try rw [if_neg (by omega)]
                simp only [Grow.upon]
                refine ⟨Ext.refl _, fun w8 e8 => hK _ _ ?_⟩
                clear hK K'
                refine Grow.seq_pure (fun K' hK => ⟨rfl, ?_⟩)
                apply Exists.intro
                apply And.intro
                · intro w' hw'
                  obtain ⟨x', rfl⟩ := hw'
                  go_simp
                  first | done | rfl | (rw [if_neg (by omega)]; done) | (rw [if_neg (by omega)]; rfl)
                intro w9 e9
                go_simp
                refine hK _ _ ?_
                clear hK K'
                refine Grow.seq_pure (fun K' hK => ⟨rfl, ?_⟩)
                apply Exists.intro
                apply And.intro
                · intro w' hw'
                  obtain ⟨x', rfl⟩ := hw'
                  go_simp
                  first | done | rfl | (rw [if_neg (by omega)]; done) | (rw [if_neg (by omega)]; rfl)
                intro w10 e10
                go_simp
                refine hK _ _ ?_
                clear hK K'
                refine Grow.seq_pure (fun K' hK => ⟨rfl, ?_⟩)
                apply Exists.intro
                apply And.intro
                · intro w' hw'
                  obtain ⟨x', rfl⟩ := hw'
                  go_simp
                  first | done | rfl | (rw [if_neg (by omega)]; done) | (rw [if_neg (by omega)]; rfl)
                intro w11 e11
                go_simp
                refine hK _ _ ?_
                clear hK K'
                refine Grow.seq_pure (fun K' hK => ⟨rfl, ?_⟩)
                apply Exists.intro
                apply And.intro
                · intro w' hw'
                  obtain ⟨x', rfl⟩ := hw'
                  go_simp
                  first | done | rfl | (rw [if_neg (by omega)]; done) | (rw [if_neg (by omega)]; rfl)
                intro w12 e12
                go_simp
                refine hK _ _ ?_
                clear hK K'
                refine Grow.seq_nil ?_
                have V5 := Lib.hid (V4.out.grow (e5.trans (E6.trans (e7.trans (e8.trans (e9.trans (e10.trans (e11.trans e12))))))))
                clear V4 HW e5 E6 e7 e8 e9 e10 e11 e12 hgl c0 c1 c2 c3 c4 c5 c6 c7 c8 c9
                obtain ⟨hgl, c0, c1, c2, c3, c4, c5, c6, c7, c8, c9⟩ := V5.out.cells
                have hhi := V5.out.hi
                cases hw : worksB l O crews
                · have hnx : Hid (loopV (okS l crews) rec ord s1 (k + 1) = s') := by
                    show stepV _ _ _ (loopV (okS l crews) rec ord s1 k) k = _; rw [hs'.out]; exact stepV_no (by show worksB l (ord ++ [(k : Int)]) crews = false; rw [← HO.out]; exact hw)
                  go_wp2_with fail
                  clear hw
                  try clear hgl c0 c1 c2 c3 c4 c5 c6 c7 c8 c9
                  obtain ⟨hgl, c0, c1, c2, c3, c4, c5, c6, c7, c8, c9⟩ := V5.out.cells
                  rw [hOl.out] at c3
                  refine Grow.region_tail 14 [0, 1, 2, 3, 4, 5, 6, 7, 8, 9, 10, 11, 12, 13] [] (by kernel_rfl) (by kernel_rfl) ?_
                  simp only [Grow.pick, Grow.pickB, List.getElem?_cons_succ, List.getElem?_cons_zero, List.drop_succ_cons, List.drop_zero]
                  repeat
                    refine Grow.heads_step (fun K' hK => ⟨rfl, ?_⟩)
                    apply Exists.intro
                    apply And.intro
                    · intro w' hw'
                      obtain ⟨x', rfl⟩ := hw'
                      go_simp
                      first | done | rfl | (rw [if_neg (by omega)]; done) | (rw [if_neg (by omega)]; rfl)
                    go_simp
                    refine hK _ ?_
                    clear hK K'
                  refine Grow.heads_step (fun K' hK => ⟨rfl, .slice av2 ord.length cv2, ?_, ?_⟩)
                  · intro w' hw'
                    obtain ⟨x', rfl⟩ := hw'
                    go_simp
                    rw [wrap_len8 hlen, if_pos ⟨by omega, by have := V5.out.capv; rw [hOl.out] at this; omega⟩, Int.toNat_natCast]
                  refine hK _ ?_
                  clear hK K'
                  repeat
                    refine Grow.heads_step (fun K' hK => ⟨rfl, ?_⟩)
                    apply Exists.intro
                    apply And.intro
                    · intro w' hw'
                      obtain ⟨x', rfl⟩ := hw'
                      go_simp
                      first | done | rfl | (rw [if_neg (by omega)]; done) | (rw [if_neg (by omega)]; rfl)
                    go_simp
                    refine hK _ ?_
                    clear hK K'
                  refine Grow.heads_nil ?_
                  intro w20 e20
                  refine Grow.seq_nil ?_
                  have V9 := Lib.hid ((V5.out.grow e20).cut HO.out)
                  have fz3 := (V5.out.grow e20).frozen 3
                  clear hgl c0 c1 c2 c3 c4 c5 c6 c7 c8 c9
                  obtain ⟨hgl, c0, c1, c2, c3, c4, c5, c6, c7, c8, c9⟩ := (V5.out.grow e20).cells
                  clear e20
                  go_wp2_with fail
                  go_roundw
                  case rel => exact ⟨k + 1, s', av2, cv2, ab', cb', by omega, by go_num, hnx.out, V9.out⟩
                  case measure => simp [intOf]; omega
                · have hok : Hid (okS l crews (ord ++ [(k : Int)]) = true) := by show worksB l (ord ++ [(k : Int)]) crews = true; rw [← HO.out]; exact hw
                  rcases Int.lt_or_le 0 s'.left with hl0 | hl0
                  · have hnx : Hid (loopV (okS l crews) rec ord s1 (k + 1) = rec (ord ++ [(k : Int)]) { s' with left := s'.left - 1 }) := by
                      show stepV _ _ _ (loopV (okS l crews) rec ord s1 k) k = _; rw [hs'.out]; exact stepV_go hf'.out HH.out hok.out hl0
                    have hn0 : 0 ≤ nodesOf bud s'.left ∧ nodesOf bud s'.left ≤ 20000 := by rw [nodesOf_pos (by omega)]; omega
                    obtain ⟨hn0, hn1⟩ := hn0
                    have hnq : (nodesOf bud s'.left == bud) = false := by rw [nodesOf_pos (by omega), beq_eq_false_iff_ne]; omega
                    go_wp2_with fail
                    refine region_quiet (by kernel_rfl) (by kernel_rfl) ?_
                    repeat (any_goals (first | go_big_quiet_step (fail) | quiet_step (fail)))
                    refine wpQuiet_nil ?_
                    intro _ hw'
                    obtain ⟨y, hw''⟩ := hw'
                    subst hw''
                    have V6 := Lib.hid ((V5.out.grow ((Ext.refl _).lift y)).spend hl0)
                    have fz6 := V5.out.frozen 6
                    have hlow := V5.out.srch.low
                    obtain ⟨b, off, hab⟩ := HA.out.base hlt
                    have HAb := HA.out
                    rw [hab] at HAb
                    have hb0 := (Shot.at HAb k hlt).1
                    have q4 := (Shot.at (HAb.ext V6.out.srch.ext) k hlt).2.2.2.2.2
                    have q5 := (Shot.at (HAb.ext V5.out.srch.ext) k hlt).2.2.2.2.2
                    have hgb := (shotB_bd (HK.out.shot k hlt)).2.2.2.2.2
                    obtain ⟨gb0, gb1⟩ := hgb
                    subst hab
                    clear HAb hok V5
                    go_wp2_with fail
                    have HR6 : Hid (Calls Try.prog 48 #[.pointer (some ⟨g, 0, none⟩), .int .i64 (gainS l ord + (nth l k).gain)] ((lift w12 y).setCell ⟨g, 6, none⟩ (.int .i64 (nodesOf bud s'.left + 1))) fun e w' => e = .returned (.tuple #[]) ∧ ∃ av' cv' ab' cb', VS w0 w' (some ⟨b, off, none⟩) l.length cap crews false bud g (rec (ord ++ [(k : Int)]) { s' with left := s'.left - 1 }) (ord ++ [(k : Int)]) av' cv' ab' cb') := by
                      have := HR.out k { s' with left := s'.left - 1 } _ av2 cv2 ab' cb' hlt HH.out (by rw [← HO.out]; exact V6.out) hf'.out (by show 0 ≤ s'.left - 1; omega)
                      rw [gainS_push] at this; exact this
                    refine HR6.out.mono ?_
                    rintro e w13 ⟨rfl, av7, cv7, ab7, cb7, hV7⟩
                    rw [← HO.out] at hV7 hnx
                    obtain ⟨s7, hs7⟩ : ∃ s7, s7 = rec O { s' with left := s'.left - 1 } := ⟨_, rfl⟩
                    rw [← hs7] at hV7 hnx
                    have V7 := Lib.hid hV7
                    clear hV7 hs7 V6 HR6 hgl c0 c1 c2 c3 c4 c5 c6 c7 c8 c9 hw fz6 q4 q5 hnq hn0 hn1
                    go_wp2_with fail
                    try clear hgl c0 c1 c2 c3 c4 c5 c6 c7 c8 c9
                    obtain ⟨hgl, c0, c1, c2, c3, c4, c5, c6, c7, c8, c9⟩ := V7.out.cells
                    rw [hOl.out] at c3
                    refine Grow.region_tail 14 [0, 1, 2, 3, 4, 5, 6, 7, 8, 9, 10, 11, 12, 13] [] (by kernel_rfl) (by kernel_rfl) ?_
                    simp only [Grow.pick, Grow.pickB, List.getElem?_cons_succ, List.getElem?_cons_zero, List.drop_succ_cons, List.drop_zero]
                    repeat
                      refine Grow.heads_step (fun K' hK => ⟨rfl, ?_⟩)
                      apply Exists.intro
                      apply And.intro
                      · intro w' hw'
                        obtain ⟨x', rfl⟩ := hw'
                        go_simp
                        first | done | rfl | (rw [if_neg (by omega)]; done) | (rw [if_neg (by omega)]; rfl)
                      go_simp
                      refine hK _ ?_
                      clear hK K'
                    refine Grow.heads_step (fun K' hK => ⟨rfl, .slice av7 ord.length cv7, ?_, ?_⟩)
                    · intro w' hw'
                      obtain ⟨x', rfl⟩ := hw'
                      go_simp
                      rw [wrap_len8 hlen, if_pos ⟨by omega, by have := V7.out.capv; rw [hOl.out] at this; omega⟩, Int.toNat_natCast]
                    refine hK _ ?_
                    clear hK K'
                    repeat
                      refine Grow.heads_step (fun K' hK => ⟨rfl, ?_⟩)
                      apply Exists.intro
                      apply And.intro
                      · intro w' hw'
                        obtain ⟨x', rfl⟩ := hw'
                        go_simp
                        first | done | rfl | (rw [if_neg (by omega)]; done) | (rw [if_neg (by omega)]; rfl)
                      go_simp
                      refine hK _ ?_
                      clear hK K'
                    refine Grow.heads_nil ?_
                    intro w20 e20
                    refine Grow.seq_nil ?_
                    have V9 := Lib.hid ((V7.out.grow e20).cut HO.out)
                    have fz3 := (V7.out.grow e20).frozen 3
                    clear hgl c0 c1 c2 c3 c4 c5 c6 c7 c8 c9
                    obtain ⟨hgl, c0, c1, c2, c3, c4, c5, c6, c7, c8, c9⟩ := (V7.out.grow e20).cells
                    clear e20
                    go_wp2_with fail
                    go_roundw
                    case rel => exact ⟨k + 1, s7, av7, cv7, ab7, cb7, by omega, by go_num, hnx.out, V9.out⟩
                    case measure => simp [intOf]; omega
                  · have hnx : Hid (loopV (okS l crews) rec ord s1 (k + 1) = { s' with left := -1 }) := by
                      show stepV _ _ _ (loopV (okS l crews) rec ord s1 k) k = _; rw [hs'.out]; exact stepV_full hf'.out HH.out hok.out (by omega)
                    have hnq : (nodesOf bud s'.left == bud) = true := by rw [nodesOf_pos (by omega), beq_iff_eq]; omega
                    go_wp2_with fail
                    refine region_quiet (by kernel_rfl) (by kernel_rfl) ?_
                    repeat (any_goals (first | go_big_quiet_step (fail) | quiet_step (fail)))
                    refine wpQuiet_nil ?_
                    intro _ hw'
                    obtain ⟨y, hw''⟩ := hw'
                    subst hw''
                    have V6 := Lib.hid ((V5.out.grow ((Ext.refl _).lift y)).stop (by omega))
                    have fz8 := V5.out.frozen 8
                    clear V5 hok
                    go_wp2_with fail
                    generalize (lift w12 y).setCell ⟨g, 8, none⟩ (.bool true) = W6 at *
                    clear hw hgl c0 c1 c2 c3 c4 c5 c6 c7 c8 c9 fz8
                    try clear hgl c0 c1 c2 c3 c4 c5 c6 c7 c8 c9
                    obtain ⟨hgl, c0, c1, c2, c3, c4, c5, c6, c7, c8, c9⟩ := V6.out.cells
                    rw [hOl.out] at c3
                    refine Grow.region_tail 14 [0, 1, 2, 3, 4, 5, 6, 7, 8, 9, 10, 11, 12, 13] [] (by kernel_rfl) (by kernel_rfl) ?_
                    simp only [Grow.pick, Grow.pickB, List.getElem?_cons_succ, List.getElem?_cons_zero, List.drop_succ_cons, List.drop_zero]
                    repeat
                      refine Grow.heads_step (fun K' hK => ⟨rfl, ?_⟩)
                      apply Exists.intro
                      apply And.intro
                      · intro w' hw'
                        obtain ⟨x', rfl⟩ := hw'
                        go_simp
                        first | done | rfl | (rw [if_neg (by omega)]; done) | (rw [if_neg (by omega)]; rfl)
                      go_simp
                      refine hK _ ?_
                      clear hK K'
                    refine Grow.heads_step (fun K' hK => ⟨rfl, .slice av2 ord.length cv2, ?_, ?_⟩)
                    · intro w' hw'
                      obtain ⟨x', rfl⟩ := hw'
                      go_simp
                      rw [wrap_len8 hlen, if_pos ⟨by omega, by have := V6.out.capv; rw [hOl.out] at this; omega⟩, Int.toNat_natCast]
                    refine hK _ ?_
                    clear hK K'
                    repeat
                      refine Grow.heads_step (fun K' hK => ⟨rfl, ?_⟩)
                      apply Exists.intro
                      apply And.intro
                      · intro w' hw'
                        obtain ⟨x', rfl⟩ := hw'
                        go_simp
                        first | done | rfl | (rw [if_neg (by omega)]; done) | (rw [if_neg (by omega)]; rfl)
                      go_simp
                      refine hK _ ?_
                      clear hK K'
                    refine Grow.heads_nil ?_
                    intro w20 e20
                    refine Grow.seq_nil ?_
                    have V9 := Lib.hid ((V6.out.grow e20).cut HO.out)
                    have fz3 := (V6.out.grow e20).frozen 3
                    clear hgl c0 c1 c2 c3 c4 c5 c6 c7 c8 c9
                    obtain ⟨hgl, c0, c1, c2, c3, c4, c5, c6, c7, c8, c9⟩ := (V6.out.grow e20).cells
                    clear e20
                    go_wp2_with fail
                    go_roundw
                    case rel => exact ⟨k + 1, _, av2, cv2, ab', cb', by omega, by go_num, hnx.out, V9.out⟩
                    case measure => simp [intOf]; omega
              · rw [hh] at HC
                have hnx : Hid (loopV (okS l crews) rec ord s1 (k + 1) = s') := by show stepV _ _ _ (loopV (okS l crews) rec ord s1 k) k = _; rw [hs'.out]; exact stepV_has hh
                clear hh
                go_wp2_with (go_at_call 71; refine HC.out.mono ?_; rintro e w' ⟨rfl, hw⟩; subst hw)
                go_roundw
                case rel => exact ⟨k + 1, s', av', cv', ab', cb', by omega, by go_num, hnx.out, V.out⟩
                case measure => simp [intOf]; omega
            · have hfin : Hid (loopV (okS l crews) rec ord s1 l.length = s') := by show _ = _; rw [loopV_stop (j := 0) (k := k) (by rw [hs'.out]; exact .inr hfd) l.length (by omega), hs'.out]
              rw [hfd] at c9
              clear hfd
              go_wp2_with fail
              (try simp only [Exit.inBlock, Exit.then])
              first | refine bodyPost_ret (results_none rfl _ _ _) rfl ?_ | refine bodyPost_end (results_none rfl _ _ _) rfl ?_
              refine ⟨rfl, av', cv', ab', cb', ?_⟩
              rw [hu1.out, hfin.out]
              exact V.out
        · obtain rfl : k = l.length := by omega
          have hfin := hs'
          go_wp2_with fail
          (try simp only [Exit.inBlock, Exit.then])
          first | refine bodyPost_ret (results_none rfl _ _ _) rfl ?_ | refine bodyPost_end (results_none rfl _ _ _) rfl ?_
          refine ⟨rfl, av', cv', ab', cb', ?_⟩
          rw [hu1.out, hfin.out]
          exact V.out
    · have hu : Hid (updS l false ord s = s) := updS_f (by rw [decide_eq_false hgt]; rfl)
      go_enter Try.func48, Try.ntmps48
      go_wp2_with fail
      refine region_quiet (by kernel_rfl) (by kernel_rfl) ?_
      repeat (any_goals (first | go_big_quiet_step (fail) | quiet_step (fail)))
      refine wpQuiet_nil ?_
      intro _ hw'
      obtain ⟨y, hw''⟩ := hw'
      subst hw''
      have V3 := Lib.hid (V0.out.grow ((Ext.refl _).lift y))
      clear V0 hgl c0 c1 c2 c3 c4 c5 c6 c7 c8 c9
      go_wp2_with fail
      try clear hgt
      obtain ⟨s1, hs1⟩ : ∃ s1 : St, s1 = s := ⟨_, rfl⟩
      have hu1 : Hid (updS l false ord s = s1) := by rw [hs1]; exact hu.out
      rw [← hs1] at V3
      clear hs1 hu
      obtain ⟨hgl, c0, c1, c2, c3, c4, c5, c6, c7, c8, c9⟩ := V3.out.cells
      go_wp2_with fail
      go_loopw [4] (fun i wr => ∃ (k : Nat) (s' : St) (av : Option Addr) (cv : Nat) (ab : Option Addr) (cb : Nat), k ≤ l.length ∧ i = .int .i64 k ∧ Hid (loopV (okS l crews) rec ord s1 k = s') ∧ Hid (VS w0 wr a l.length cap crews false bud g s' ord av cv ab cb)) (fun i _ => l.length - (intOf i).toNat)
      case atStart => exact ⟨0, s1, av, cv, ab, cb, Nat.zero_le _, rfl, rfl, V3.out⟩
      case round =>
        clear V3 hgl c0 c1 c2 c3 c4 c5 c6 c7 c8 c9
        obtain ⟨k, s', av', cv', ab', cb', hk, rfl, hs', V⟩ := hrel
        obtain ⟨hgl, c0, c1, c2, c3, c4, c5, c6, c7, c8, c9⟩ := V.out.cells
        by_cases hlt : k < l.length
        · rcases Int.lt_or_le s'.left 0 with hlf | hlf
          · have hfin : Hid (loopV (okS l crews) rec ord s1 l.length = s') := by show _ = _; rw [loopV_stop (j := 0) (k := k) (by rw [hs'.out]; exact .inl hlf) l.length (by omega), hs'.out]
            rw [decide_eq_true hlf] at c8
            go_wp2_with fail
            (try simp only [Exit.inBlock, Exit.then])
            first | refine bodyPost_ret (results_none rfl _ _ _) rfl ?_ | refine bodyPost_end (results_none rfl _ _ _) rfl ?_
            refine ⟨rfl, av', cv', ab', cb', ?_⟩
            rw [hu1.out, hfin.out]
            exact V.out
          · rw [decide_eq_false (by omega)] at c8
            cases hfd : s'.found
            · rw [hfd] at c9
              have hf' := Lib.hid hfd
              clear hfd
              have HC : Hid (Calls Try.prog 71 #[.slice av' ord.length cv', .int .i64 k] wr fun e w' => e = .returned (.bool (hasB ord k)) ∧ w' = wr) := l00Has_any av' cv' ord k wr V.out.row (by omega)
              cases hh : hasB ord (k : Int)
              · rw [hh] at HC
                obtain ⟨O, hO⟩ : ∃ O : List Int, O = ord ++ [(k : Int)] := ⟨_, rfl⟩
                have hOl : Hid (O.length = ord.length + 1) := by show _ = _; rw [hO]; simp
                have hO9 : O.length ≤ 9 := by rw [hOl.out]; omega
                have HO := Lib.hid hO
                have HKO : Hid (ShotsOk l O) := by show ShotsOk _ _; rw [hO]; exact HK.out.push hlt
                have HH := Lib.hid hh
                have fz3 := V.out.frozen 3
                clear hO hh
                go_wp2_with (first
                  | (go_at_call 71; refine HC.out.mono ?_; rintro e w' ⟨rfl, hw⟩; subst hw; have V1 := Lib.hid (V.out.grow ((Ext.refl _).alloc (.cells #[.int .i64 k] 2))); have HR1 : Hid (IntAt (w'.alloc (.cells #[.int .i64 k] 2)) (some ⟨w'.heap.size, 0, none⟩) [(k : Int)]) := rows_int _ _ rfl; clear HC)
                  | (at_builtin; refine wpList_pushAt elInt oneInt rfl _ _ rfl (g + 1) _ ord (by rfl) V1.out.srch.lst _ 1 1 [(k : Int)] rfl (by rfl) HR1.out (by have := hOl.out; omega) (by omega) (by rw [size_new]; omega) ?_; intro v' w3 HL hg3 hat3; rw [← HO.out] at HL; obtain ⟨av2, cv2, rfl, hcv2, -, -, -⟩ := HL.shape; have V4 := Lib.hid (V1.out.pushed HL hg3 hat3 hcv2); obtain ⟨e0, e1, e2⟩ := V1.out.mid hg3; clear V1 HR1 HL hg3 hat3 hgl c0 c1 c2 c3 c4 c5 c6 c7 c8 c9 fz3))
                generalize w3.setCell ⟨g, 3, none⟩ (.slice av2 O.length cv2) = W4 at *
                clear e0 e1 e2
                obtain ⟨hgl, c0, c1, c2, c3, c4, c5, c6, c7, c8, c9⟩ := V4.out.cells
                have HW : Hid (∀ w', Ext W4 w' → Calls Try.prog 65 #[.slice a l.length cap, .slice av2 O.length cv2, .int .i64 (crews : Int)] w' (OutS 2 1 (fun (x : Int) (_ : Nat) => Value.int .i64 x) w' (finsV l O crews) [.bool (worksB l O crews)])) := fun w' e =>
                  l22Ends_any a cap l av2 cv2 O crews w' (HA.out.ext (V4.out.srch.ext.trans e)) (V4.out.row.ext e) HKO.out hc0 hc1 (by omega)
                refine Grow.region [0, 1, 2, 3, 4, 5, 6, 7, 8, 9, 10, 11] [(false, 12), (false, 13), (true, 14), (true, 15), (true, 16), (true, 17)] (by kernel_rfl) (by kernel_rfl) ?_
                simp only [Grow.pick, Grow.pickB, List.getElem?_cons_succ, List.getElem?_cons_zero]
                repeat
                  refine Grow.heads_step (fun K' hK => ⟨rfl, ?_⟩)
                  apply Exists.intro
                  apply And.intro
                  · intro w' hw'
                    obtain ⟨x', rfl⟩ := hw'
                    go_simp
                    first | done | rfl | (rw [if_neg (by omega)]; done) | (rw [if_neg (by omega)]; rfl)
                  go_simp
                  refine hK _ ?_
                  clear hK K'
                refine Grow.heads_nil ?_
                intro w5 e5
                refine Grow.seq_step (fun K' hK => ⟨rfl, ?_⟩)
                go_simp
                simp only [Grow.upon]
                refine (HW.out w5 e5).mono ?_
                rintro e w6 ⟨a6, cap6, rfl, -, -, -, E6⟩
                refine ⟨_, rfl, E6, fun w7 e7 => hK _ _ ?_⟩
                clear hK K'
                refine Grow.seq_step (fun K' hK => ⟨rfl, ?_⟩)
                go_simp
                try rw [if_neg (by omega)]
                simp only [Grow.upon]
                refine ⟨Ext.refl _, fun w8 e8 => hK _ _ ?_⟩
                clear hK K'
                refine Grow.seq_pure (fun K' hK => ⟨rfl, ?_⟩)
                apply Exists.intro
                apply And.intro
                · intro w' hw'
                  obtain ⟨x', rfl⟩ := hw'
                  go_simp
                  first | done | rfl | (rw [if_neg (by omega)]; done) | (rw [if_neg (by omega)]; rfl)
                intro w9 e9
                go_simp
                refine hK _ _ ?_
                clear hK K'
                refine Grow.seq_pure (fun K' hK => ⟨rfl, ?_⟩)
                apply Exists.intro
                apply And.intro
                · intro w' hw'
                  obtain ⟨x', rfl⟩ := hw'
                  go_simp
                  first | done | rfl | (rw [if_neg (by omega)]; done) | (rw [if_neg (by omega)]; rfl)
                intro w10 e10
                go_simp
                refine hK _ _ ?_
                clear hK K'
                refine Grow.seq_pure (fun K' hK => ⟨rfl, ?_⟩)
                apply Exists.intro
                apply And.intro
                · intro w' hw'
                  obtain ⟨x', rfl⟩ := hw'
                  go_simp
                  first | done | rfl | (rw [if_neg (by omega)]; done) | (rw [if_neg (by omega)]; rfl)
                intro w11 e11
                go_simp
                refine hK _ _ ?_
                clear hK K'
                refine Grow.seq_pure (fun K' hK => ⟨rfl, ?_⟩)
                apply Exists.intro
                apply And.intro
                · intro w' hw'
                  obtain ⟨x', rfl⟩ := hw'
                  go_simp
                  first | done | rfl | (rw [if_neg (by omega)]; done) | (rw [if_neg (by omega)]; rfl)
                intro w12 e12
                go_simp
                refine hK _ _ ?_
                clear hK K'
                refine Grow.seq_nil ?_
                have V5 := Lib.hid (V4.out.grow (e5.trans (E6.trans (e7.trans (e8.trans (e9.trans (e10.trans (e11.trans e12))))))))
                clear V4 HW e5 E6 e7 e8 e9 e10 e11 e12 hgl c0 c1 c2 c3 c4 c5 c6 c7 c8 c9
                obtain ⟨hgl, c0, c1, c2, c3, c4, c5, c6, c7, c8, c9⟩ := V5.out.cells
                have hhi := V5.out.hi
                cases hw : worksB l O crews
                · have hnx : Hid (loopV (okS l crews) rec ord s1 (k + 1) = s') := by
                    show stepV _ _ _ (loopV (okS l crews) rec ord s1 k) k = _; rw [hs'.out]; exact stepV_no (by show worksB l (ord ++ [(k : Int)]) crews = false; rw [← HO.out]; exact hw)
                  go_wp2_with fail
                  clear hw
                  try clear hgl c0 c1 c2 c3 c4 c5 c6 c7 c8 c9
                  obtain ⟨hgl, c0, c1, c2, c3, c4, c5, c6, c7, c8, c9⟩ := V5.out.cells
                  rw [hOl.out] at c3
                  refine Grow.region_tail 14 [0, 1, 2, 3, 4, 5, 6, 7, 8, 9, 10, 11, 12, 13] [] (by kernel_rfl) (by kernel_rfl) ?_
                  simp only [Grow.pick, Grow.pickB, List.getElem?_cons_succ, List.getElem?_cons_zero, List.drop_succ_cons, List.drop_zero]
                  repeat
                    refine Grow.heads_step (fun K' hK => ⟨rfl, ?_⟩)
                    apply Exists.intro
                    apply And.intro
                    · intro w' hw'
                      obtain ⟨x', rfl⟩ := hw'
                      go_simp
                      first | done | rfl | (rw [if_neg (by omega)]; done) | (rw [if_neg (by omega)]; rfl)
                    go_simp
                    refine hK _ ?_
                    clear hK K'
                  refine Grow.heads_step (fun K' hK => ⟨rfl, .slice av2 ord.length cv2, ?_, ?_⟩)
                  · intro w' hw'
                    obtain ⟨x', rfl⟩ := hw'
                    go_simp
                    rw [wrap_len8 hlen, if_pos ⟨by omega, by have := V5.out.capv; rw [hOl.out] at this; omega⟩, Int.toNat_natCast]
                  refine hK _ ?_
                  clear hK K'
                  repeat
                    refine Grow.heads_step (fun K' hK => ⟨rfl, ?_⟩)
                    apply Exists.intro
                    apply And.intro
                    · intro w' hw'
                      obtain ⟨x', rfl⟩ := hw'
                      go_simp
                      first | done | rfl | (rw [if_neg (by omega)]; done) | (rw [if_neg (by omega)]; rfl)
                    go_simp
                    refine hK _ ?_
                    clear hK K'
                  refine Grow.heads_nil ?_
                  intro w20 e20
                  refine Grow.seq_nil ?_
                  have V9 := Lib.hid ((V5.out.grow e20).cut HO.out)
                  have fz3 := (V5.out.grow e20).frozen 3
                  clear hgl c0 c1 c2 c3 c4 c5 c6 c7 c8 c9
                  obtain ⟨hgl, c0, c1, c2, c3, c4, c5, c6, c7, c8, c9⟩ := (V5.out.grow e20).cells
                  clear e20
                  go_wp2_with fail
                  go_roundw
                  case rel => exact ⟨k + 1, s', av2, cv2, ab', cb', by omega, by go_num, hnx.out, V9.out⟩
                  case measure => simp [intOf]; omega
                · have hok : Hid (okS l crews (ord ++ [(k : Int)]) = true) := by show worksB l (ord ++ [(k : Int)]) crews = true; rw [← HO.out]; exact hw
                  rcases Int.lt_or_le 0 s'.left with hl0 | hl0
                  · have hnx : Hid (loopV (okS l crews) rec ord s1 (k + 1) = rec (ord ++ [(k : Int)]) { s' with left := s'.left - 1 }) := by
                      show stepV _ _ _ (loopV (okS l crews) rec ord s1 k) k = _; rw [hs'.out]; exact stepV_go hf'.out HH.out hok.out hl0
                    have hn0 : 0 ≤ nodesOf bud s'.left ∧ nodesOf bud s'.left ≤ 20000 := by rw [nodesOf_pos (by omega)]; omega
                    obtain ⟨hn0, hn1⟩ := hn0
                    have hnq : (nodesOf bud s'.left == bud) = false := by rw [nodesOf_pos (by omega), beq_eq_false_iff_ne]; omega
                    go_wp2_with fail
                    refine region_quiet (by kernel_rfl) (by kernel_rfl) ?_
                    repeat (any_goals (first | go_big_quiet_step (fail) | quiet_step (fail)))
                    refine wpQuiet_nil ?_
                    intro _ hw'
                    obtain ⟨y, hw''⟩ := hw'
                    subst hw''
                    have V6 := Lib.hid ((V5.out.grow ((Ext.refl _).lift y)).spend hl0)
                    have fz6 := V5.out.frozen 6
                    have hlow := V5.out.srch.low
                    obtain ⟨b, off, hab⟩ := HA.out.base hlt
                    have HAb := HA.out
                    rw [hab] at HAb
                    have hb0 := (Shot.at HAb k hlt).1
                    have q4 := (Shot.at (HAb.ext V6.out.srch.ext) k hlt).2.2.2.2.2
                    have q5 := (Shot.at (HAb.ext V5.out.srch.ext) k hlt).2.2.2.2.2
                    have hgb := (shotB_bd (HK.out.shot k hlt)).2.2.2.2.2
                    obtain ⟨gb0, gb1⟩ := hgb
                    subst hab
                    clear HAb hok V5
                    go_wp2_with fail
                    have HR6 : Hid (Calls Try.prog 48 #[.pointer (some ⟨g, 0, none⟩), .int .i64 (gainS l ord + (nth l k).gain)] ((lift w12 y).setCell ⟨g, 6, none⟩ (.int .i64 (nodesOf bud s'.left + 1))) fun e w' => e = .returned (.tuple #[]) ∧ ∃ av' cv' ab' cb', VS w0 w' (some ⟨b, off, none⟩) l.length cap crews false bud g (rec (ord ++ [(k : Int)]) { s' with left := s'.left - 1 }) (ord ++ [(k : Int)]) av' cv' ab' cb') := by
                      have := HR.out k { s' with left := s'.left - 1 } _ av2 cv2 ab' cb' hlt HH.out (by rw [← HO.out]; exact V6.out) hf'.out (by show 0 ≤ s'.left - 1; omega)
                      rw [gainS_push] at this; exact this
                    refine HR6.out.mono ?_
                    rintro e w13 ⟨rfl, av7, cv7, ab7, cb7, hV7⟩
                    rw [← HO.out] at hV7 hnx
                    obtain ⟨s7, hs7⟩ : ∃ s7, s7 = rec O { s' with left := s'.left - 1 } := ⟨_, rfl⟩
                    rw [← hs7] at hV7 hnx
                    have V7 := Lib.hid hV7
                    clear hV7 hs7 V6 HR6 hgl c0 c1 c2 c3 c4 c5 c6 c7 c8 c9 hw fz6 q4 q5 hnq hn0 hn1
                    go_wp2_with fail
                    try clear hgl c0 c1 c2 c3 c4 c5 c6 c7 c8 c9
                    obtain ⟨hgl, c0, c1, c2, c3, c4, c5, c6, c7, c8, c9⟩ := V7.out.cells
                    rw [hOl.out] at c3
                    refine Grow.region_tail 14 [0, 1, 2, 3, 4, 5, 6, 7, 8, 9, 10, 11, 12, 13] [] (by kernel_rfl) (by kernel_rfl) ?_
                    simp only [Grow.pick, Grow.pickB, List.getElem?_cons_succ, List.getElem?_cons_zero, List.drop_succ_cons, List.drop_zero]
                    repeat
                      refine Grow.heads_step (fun K' hK => ⟨rfl, ?_⟩)
                      apply Exists.intro
                      apply And.intro
                      · intro w' hw'
                        obtain ⟨x', rfl⟩ := hw'
                        go_simp
                        first | done | rfl | (rw [if_neg (by omega)]; done) | (rw [if_neg (by omega)]; rfl)
                      go_simp
                      refine hK _ ?_
                      clear hK K'
                    refine Grow.heads_step (fun K' hK => ⟨rfl, .slice av7 ord.length cv7, ?_, ?_⟩)
                    · intro w' hw'
                      obtain ⟨x', rfl⟩ := hw'
                      go_simp
                      rw [wrap_len8 hlen, if_pos ⟨by omega, by have := V7.out.capv; rw [hOl.out] at this; omega⟩, Int.toNat_natCast]
                    refine hK _ ?_
                    clear hK K'
                    repeat
                      refine Grow.heads_step (fun K' hK => ⟨rfl, ?_⟩)
                      apply Exists.intro
                      apply And.intro
                      · intro w' hw'
                        obtain ⟨x', rfl⟩ := hw'
                        go_simp
                        first | done | rfl | (rw [if_neg (by omega)]; done) | (rw [if_neg (by omega)]; rfl)
                      go_simp
                      refine hK _ ?_
                      clear hK K'
                    refine Grow.heads_nil ?_
                    intro w20 e20
                    refine Grow.seq_nil ?_
                    have V9 := Lib.hid ((V7.out.grow e20).cut HO.out)
                    have fz3 := (V7.out.grow e20).frozen 3
                    clear hgl c0 c1 c2 c3 c4 c5 c6 c7 c8 c9
                    obtain ⟨hgl, c0, c1, c2, c3, c4, c5, c6, c7, c8, c9⟩ := (V7.out.grow e20).cells
                    clear e20
                    go_wp2_with fail
                    go_roundw
                    case rel => exact ⟨k + 1, s7, av7, cv7, ab7, cb7, by omega, by go_num, hnx.out, V9.out⟩
                    case measure => simp [intOf]; omega
                  · have hnx : Hid (loopV (okS l crews) rec ord s1 (k + 1) = { s' with left := -1 }) := by
                      show stepV _ _ _ (loopV (okS l crews) rec ord s1 k) k = _; rw [hs'.out]; exact stepV_full hf'.out HH.out hok.out (by omega)
                    have hnq : (nodesOf bud s'.left == bud) = true := by rw [nodesOf_pos (by omega), beq_iff_eq]; omega
                    go_wp2_with fail
                    refine region_quiet (by kernel_rfl) (by kernel_rfl) ?_
                    repeat (any_goals (first | go_big_quiet_step (fail) | quiet_step (fail)))
                    refine wpQuiet_nil ?_
                    intro _ hw'
                    obtain ⟨y, hw''⟩ := hw'
                    subst hw''
                    have V6 := Lib.hid ((V5.out.grow ((Ext.refl _).lift y)).stop (by omega))
                    have fz8 := V5.out.frozen 8
                    clear V5 hok
                    go_wp2_with fail
                    generalize (lift w12 y).setCell ⟨g, 8, none⟩ (.bool true) = W6 at *
                    clear hw hgl c0 c1 c2 c3 c4 c5 c6 c7 c8 c9 fz8
                    try clear hgl c0 c1 c2 c3 c4 c5 c6 c7 c8 c9
                    obtain ⟨hgl, c0, c1, c2, c3, c4, c5, c6, c7, c8, c9⟩ := V6.out.cells
                    rw [hOl.out] at c3
                    refine Grow.region_tail 14 [0, 1, 2, 3, 4, 5, 6, 7, 8, 9, 10, 11, 12, 13] [] (by kernel_rfl) (by kernel_rfl) ?_
                    simp only [Grow.pick, Grow.pickB, List.getElem?_cons_succ, List.getElem?_cons_zero, List.drop_succ_cons, List.drop_zero]
                    repeat
                      refine Grow.heads_step (fun K' hK => ⟨rfl, ?_⟩)
                      apply Exists.intro
                      apply And.intro
                      · intro w' hw'
                        obtain ⟨x', rfl⟩ := hw'
                        go_simp
                        first | done | rfl | (rw [if_neg (by omega)]; done) | (rw [if_neg (by omega)]; rfl)
                      go_simp
                      refine hK _ ?_
                      clear hK K'
                    refine Grow.heads_step (fun K' hK => ⟨rfl, .slice av2 ord.length cv2, ?_, ?_⟩)
                    · intro w' hw'
                      obtain ⟨x', rfl⟩ := hw'
                      go_simp
                      rw [wrap_len8 hlen, if_pos ⟨by omega, by have := V6.out.capv; rw [hOl.out] at this; omega⟩, Int.toNat_natCast]
                    refine hK _ ?_
                    clear hK K'
                    repeat
                      refine Grow.heads_step (fun K' hK => ⟨rfl, ?_⟩)
                      apply Exists.intro
                      apply And.intro
                      · intro w' hw'
                        obtain ⟨x', rfl⟩ := hw'
                        go_simp
                        first | done | rfl | (rw [if_neg (by omega)]; done) | (rw [if_neg (by omega)]; rfl)
                      go_simp
                      refine hK _ ?_
                      clear hK K'
                    refine Grow.heads_nil ?_
                    intro w20 e20
                    refine Grow.seq_nil ?_
                    have V9 := Lib.hid ((V6.out.grow e20).cut HO.out)
                    have fz3 := (V6.out.grow e20).frozen 3
                    clear hgl c0 c1 c2 c3 c4 c5 c6 c7 c8 c9
                    obtain ⟨hgl, c0, c1, c2, c3, c4, c5, c6, c7, c8, c9⟩ := (V6.out.grow e20).cells
                    clear e20
                    go_wp2_with fail
                    go_roundw
                    case rel => exact ⟨k + 1, _, av2, cv2, ab', cb', by omega, by go_num, hnx.out, V9.out⟩
                    case measure => simp [intOf]; omega
              · rw [hh] at HC
                have hnx : Hid (loopV (okS l crews) rec ord s1 (k + 1) = s') := by show stepV _ _ _ (loopV (okS l crews) rec ord s1 k) k = _; rw [hs'.out]; exact stepV_has hh
                clear hh
                go_wp2_with (go_at_call 71; refine HC.out.mono ?_; rintro e w' ⟨rfl, hw⟩; subst hw)
                go_roundw
                case rel => exact ⟨k + 1, s', av', cv', ab', cb', by omega, by go_num, hnx.out, V.out⟩
                case measure => simp [intOf]; omega
            · have hfin : Hid (loopV (okS l crews) rec ord s1 l.length = s') := by show _ = _; rw [loopV_stop (j := 0) (k := k) (by rw [hs'.out]; exact .inr hfd) l.length (by omega), hs'.out]
              rw [hfd] at c9
              clear hfd
              go_wp2_with fail
              (try simp only [Exit.inBlock, Exit.then])
              first | refine bodyPost_ret (results_none rfl _ _ _) rfl ?_ | refine bodyPost_end (results_none rfl _ _ _) rfl ?_
              refine ⟨rfl, av', cv', ab', cb', ?_⟩
              rw [hu1.out, hfin.out]
              exact V.out
        · obtain rfl : k = l.length := by omega
          have hfin := hs'
          go_wp2_with fail
          (try simp only [Exit.inBlock, Exit.then])
          first | refine bodyPost_ret (results_none rfl _ _ _) rfl ?_ | refine bodyPost_end (results_none rfl _ _ _) rfl ?_
          refine ⟨rfl, av', cv', ab', cb', ?_⟩
          rw [hu1.out, hfin.out]
          exact V.out
  · by_cases hle : ord.length = l.length
    · have hu : Hid (updS l true ord s = ⟨ord, gainS l ord, s.left, true⟩) := updS_t (by rw [hle]; simp)
      have hq : ((ord.length : Int) == (l.length : Int)) = true := by rw [hle]; simp
      clear hle
      go_enter Try.func48, Try.ntmps48
      go_wp2_with fail
      refine region_quiet (by kernel_rfl) (by kernel_rfl) ?_
      repeat (any_goals (first | go_big_quiet_step (fail) | quiet_step (fail)))
      refine wpQuiet_nil ?_
      intro _ hw'
      obtain ⟨y, hw''⟩ := hw'
      subst hw''
      clear hq
      have V1 := Lib.hid (V0.out.grow ((Ext.refl _).lift y))
      have V2 := Lib.hid (V1.out.most1 (gainS l ord))
      have HC : Hid (Calls Try.prog 70 #[.slice av ord.length cv] ((lift W y).setCell ⟨g, 5, none⟩ (.int .i64 (gainS l ord))) (OutL 2 1 cellI ((lift W y).setCell ⟨g, 5, none⟩ (.int .i64 (gainS l ord))) ord)) := l00Own_any av cv ord _ V2.out.row (fun e => V2.out.nilcap e) (by omega)
      have fz5 := V0.out.frozen 5
      go_wp2_with fail
      refine HC.out.mono ?_
      rintro e w2 ⟨ab2, cb2, rfl, hcb2, HO2, HR2, E2⟩
      have V3 : Hid (VS w0 ((w2.setCell ⟨g, 4, none⟩ (.slice ab2 ord.length cb2)).setCell ⟨g, 9, none⟩ (.bool true)) a l.length cap crews true bud g ⟨ord, gainS l ord, s.left, true⟩ ord av cv ab2 cb2) := (V2.out.best1 E2 HO2 HR2 hcb2).found1 true
      clear hgl c0 c1 c2 c3 c4 c5 c6 c7 c8 c9 fz5
      have fz4 := (V2.out.grow E2).frozen 4
      have fz9 := (V2.out.grow E2).frozen 9
      obtain ⟨hgl, c0, c1, c2, c3, c4, c5, c6, c7, c8, c9⟩ := (V2.out.grow E2).cells
      clear HC HO2 HR2 E2 V2 V1 V0
      go_wp2_with fail
      generalize (w2.setCell ⟨g, 4, none⟩ (.slice ab2 ord.length cb2)).setCell ⟨g, 9, none⟩ (.bool true) = W3 at *
      clear hgl c0 c1 c2 c3 c4 c5 c6 c7 c8 c9 fz4 fz9
      obtain ⟨s1, hs1⟩ : ∃ s1 : St, s1 = ⟨ord, gainS l ord, s.left, true⟩ := ⟨_, rfl⟩
      rw [← hs1] at V3 hu
      have hu1 := hu
      clear hs1 hu
      obtain ⟨hgl, c0, c1, c2, c3, c4, c5, c6, c7, c8, c9⟩ := V3.out.cells
      go_wp2_with fail
      go_loopw [4] (fun i wr => ∃ (k : Nat) (s' : St) (av : Option Addr) (cv : Nat) (ab : Option Addr) (cb : Nat), k ≤ l.length ∧ i = .int .i64 k ∧ Hid (loopV (okS l crews) rec ord s1 k = s') ∧ Hid (VS w0 wr a l.length cap crews true bud g s' ord av cv ab cb)) (fun i _ => l.length - (intOf i).toNat)
      case atStart => exact ⟨0, s1, av, cv, ab2, cb2, Nat.zero_le _, rfl, rfl, V3.out⟩
      case round =>
        clear V3 hgl c0 c1 c2 c3 c4 c5 c6 c7 c8 c9
        obtain ⟨k, s', av', cv', ab', cb', hk, rfl, hs', V⟩ := hrel
        obtain ⟨hgl, c0, c1, c2, c3, c4, c5, c6, c7, c8, c9⟩ := V.out.cells
        by_cases hlt : k < l.length
        · rcases Int.lt_or_le s'.left 0 with hlf | hlf
          · have hfin : Hid (loopV (okS l crews) rec ord s1 l.length = s') := by show _ = _; rw [loopV_stop (j := 0) (k := k) (by rw [hs'.out]; exact .inl hlf) l.length (by omega), hs'.out]
            rw [decide_eq_true hlf] at c8
            go_wp2_with fail
            (try simp only [Exit.inBlock, Exit.then])
            first | refine bodyPost_ret (results_none rfl _ _ _) rfl ?_ | refine bodyPost_end (results_none rfl _ _ _) rfl ?_
            refine ⟨rfl, av', cv', ab', cb', ?_⟩
            rw [hu1.out, hfin.out]
            exact V.out
          · rw [decide_eq_false (by omega)] at c8
            cases hfd : s'.found
            · rw [hfd] at c9
              have hf' := Lib.hid hfd
              clear hfd
              have HC : Hid (Calls Try.prog 71 #[.slice av' ord.length cv', .int .i64 k] wr fun e w' => e = .returned (.bool (hasB ord k)) ∧ w' = wr) := l00Has_any av' cv' ord k wr V.out.row (by omega)
              cases hh : hasB ord (k : Int)
              · rw [hh] at HC
                obtain ⟨O, hO⟩ : ∃ O : List Int, O = ord ++ [(k : Int)] := ⟨_, rfl⟩
                have hOl : Hid (O.length = ord.length + 1) := by show _ = _; rw [hO]; simp
                have hO9 : O.length ≤ 9 := by rw [hOl.out]; omega
                have HO := Lib.hid hO
                have HKO : Hid (ShotsOk l O) := by show ShotsOk _ _; rw [hO]; exact HK.out.push hlt
                have HH := Lib.hid hh
                have fz3 := V.out.frozen 3
                clear hO hh
                go_wp2_with (first
                  | (go_at_call 71; refine HC.out.mono ?_; rintro e w' ⟨rfl, hw⟩; subst hw; have V1 := Lib.hid (V.out.grow ((Ext.refl _).alloc (.cells #[.int .i64 k] 2))); have HR1 : Hid (IntAt (w'.alloc (.cells #[.int .i64 k] 2)) (some ⟨w'.heap.size, 0, none⟩) [(k : Int)]) := rows_int _ _ rfl; clear HC)
                  | (at_builtin; refine wpList_pushAt elInt oneInt rfl _ _ rfl (g + 1) _ ord (by rfl) V1.out.srch.lst _ 1 1 [(k : Int)] rfl (by rfl) HR1.out (by have := hOl.out; omega) (by omega) (by rw [size_new]; omega) ?_; intro v' w3 HL hg3 hat3; rw [← HO.out] at HL; obtain ⟨av2, cv2, rfl, hcv2, -, -, -⟩ := HL.shape; have V4 := Lib.hid (V1.out.pushed HL hg3 hat3 hcv2); obtain ⟨e0, e1, e2⟩ := V1.out.mid hg3; clear V1 HR1 HL hg3 hat3 hgl c0 c1 c2 c3 c4 c5 c6 c7 c8 c9 fz3))
                generalize w3.setCell ⟨g, 3, none⟩ (.slice av2 O.length cv2) = W4 at *
                clear e0 e1 e2
                obtain ⟨hgl, c0, c1, c2, c3, c4, c5, c6, c7, c8, c9⟩ := V4.out.cells
                have HW : Hid (∀ w', Ext W4 w' → Calls Try.prog 65 #[.slice a l.length cap, .slice av2 O.length cv2, .int .i64 (crews : Int)] w' (OutS 2 1 (fun (x : Int) (_ : Nat) => Value.int .i64 x) w' (finsV l O crews) [.bool (worksB l O crews)])) := fun w' e =>
                  l22Ends_any a cap l av2 cv2 O crews w' (HA.out.ext (V4.out.srch.ext.trans e)) (V4.out.row.ext e) HKO.out hc0 hc1 (by omega)
                refine Grow.region [0, 1, 2, 3, 4, 5, 6, 7, 8, 9, 10, 11] [(false, 12), (false, 13), (true, 14), (true, 15), (true, 16), (true, 17)] (by kernel_rfl) (by kernel_rfl) ?_
                simp only [Grow.pick, Grow.pickB, List.getElem?_cons_succ, List.getElem?_cons_zero]
                repeat
                  refine Grow.heads_step (fun K' hK => ⟨rfl, ?_⟩)
                  apply Exists.intro
                  apply And.intro
                  · intro w' hw'
                    obtain ⟨x', rfl⟩ := hw'
                    go_simp
                    first | done | rfl | (rw [if_neg (by omega)]; done) | (rw [if_neg (by omega)]; rfl)
                  go_simp
                  refine hK _ ?_
                  clear hK K'
                refine Grow.heads_nil ?_
                intro w5 e5
                refine Grow.seq_step (fun K' hK => ⟨rfl, ?_⟩)
                go_simp
                simp only [Grow.upon]
                refine (HW.out w5 e5).mono ?_
                rintro e w6 ⟨a6, cap6, rfl, -, -, -, E6⟩
                refine ⟨_, rfl, E6, fun w7 e7 => hK _ _ ?_⟩
                clear hK K'
                refine Grow.seq_step (fun K' hK => ⟨rfl, ?_⟩)
                go_simp
                try rw [if_neg (by omega)]
                simp only [Grow.upon]
                refine ⟨Ext.refl _, fun w8 e8 => hK _ _ ?_⟩
                clear hK K'
                refine Grow.seq_pure (fun K' hK => ⟨rfl, ?_⟩)
                apply Exists.intro
                apply And.intro
                · intro w' hw'
                  obtain ⟨x', rfl⟩ := hw'
                  go_simp
                  first | done | rfl | (rw [if_neg (by omega)]; done) | (rw [if_neg (by omega)]; rfl)
                intro w9 e9
                go_simp
                refine hK _ _ ?_
                clear hK K'
                refine Grow.seq_pure (fun K' hK => ⟨rfl, ?_⟩)
                apply Exists.intro
                apply And.intro
                · intro w' hw'
                  obtain ⟨x', rfl⟩ := hw'
                  go_simp
                  first | done | rfl | (rw [if_neg (by omega)]; done) | (rw [if_neg (by omega)]; rfl)
                intro w10 e10
                go_simp
                refine hK _ _ ?_
                clear hK K'
                refine Grow.seq_pure (fun K' hK => ⟨rfl, ?_⟩)
                apply Exists.intro
                apply And.intro
                · intro w' hw'
                  obtain ⟨x', rfl⟩ := hw'
                  go_simp
                  first | done | rfl | (rw [if_neg (by omega)]; done) | (rw [if_neg (by omega)]; rfl)
                intro w11 e11
                go_simp
                refine hK _ _ ?_
                clear hK K'
                refine Grow.seq_pure (fun K' hK => ⟨rfl, ?_⟩)
                apply Exists.intro
                apply And.intro
                · intro w' hw'
                  obtain ⟨x', rfl⟩ := hw'
                  go_simp
                  first | done | rfl | (rw [if_neg (by omega)]; done) | (rw [if_neg (by omega)]; rfl)
                intro w12 e12
                go_simp
                refine hK _ _ ?_
                clear hK K'
                refine Grow.seq_nil ?_
                have V5 := Lib.hid (V4.out.grow (e5.trans (E6.trans (e7.trans (e8.trans (e9.trans (e10.trans (e11.trans e12))))))))
                clear V4 HW e5 E6 e7 e8 e9 e10 e11 e12 hgl c0 c1 c2 c3 c4 c5 c6 c7 c8 c9
                obtain ⟨hgl, c0, c1, c2, c3, c4, c5, c6, c7, c8, c9⟩ := V5.out.cells
                have hhi := V5.out.hi
                cases hw : worksB l O crews
                · have hnx : Hid (loopV (okS l crews) rec ord s1 (k + 1) = s') := by
                    show stepV _ _ _ (loopV (okS l crews) rec ord s1 k) k = _; rw [hs'.out]; exact stepV_no (by show worksB l (ord ++ [(k : Int)]) crews = false; rw [← HO.out]; exact hw)
                  go_wp2_with fail
                  clear hw
                  try clear hgl c0 c1 c2 c3 c4 c5 c6 c7 c8 c9
                  obtain ⟨hgl, c0, c1, c2, c3, c4, c5, c6, c7, c8, c9⟩ := V5.out.cells
                  rw [hOl.out] at c3
                  refine Grow.region_tail 14 [0, 1, 2, 3, 4, 5, 6, 7, 8, 9, 10, 11, 12, 13] [] (by kernel_rfl) (by kernel_rfl) ?_
                  simp only [Grow.pick, Grow.pickB, List.getElem?_cons_succ, List.getElem?_cons_zero, List.drop_succ_cons, List.drop_zero]
                  repeat
                    refine Grow.heads_step (fun K' hK => ⟨rfl, ?_⟩)
                    apply Exists.intro
                    apply And.intro
                    · intro w' hw'
                      obtain ⟨x', rfl⟩ := hw'
                      go_simp
                      first | done | rfl | (rw [if_neg (by omega)]; done) | (rw [if_neg (by omega)]; rfl)
                    go_simp
                    refine hK _ ?_
                    clear hK K'
                  refine Grow.heads_step (fun K' hK => ⟨rfl, .slice av2 ord.length cv2, ?_, ?_⟩)
                  · intro w' hw'
                    obtain ⟨x', rfl⟩ := hw'
                    go_simp
                    rw [wrap_len8 hlen, if_pos ⟨by omega, by have := V5.out.capv; rw [hOl.out] at this; omega⟩, Int.toNat_natCast]
                  refine hK _ ?_
                  clear hK K'
                  repeat
                    refine Grow.heads_step (fun K' hK => ⟨rfl, ?_⟩)
                    apply Exists.intro
                    apply And.intro
                    · intro w' hw'
                      obtain ⟨x', rfl⟩ := hw'
                      go_simp
                      first | done | rfl | (rw [if_neg (by omega)]; done) | (rw [if_neg (by omega)]; rfl)
                    go_simp
                    refine hK _ ?_
                    clear hK K'
                  refine Grow.heads_nil ?_
                  intro w20 e20
                  refine Grow.seq_nil ?_
                  have V9 := Lib.hid ((V5.out.grow e20).cut HO.out)
                  have fz3 := (V5.out.grow e20).frozen 3
                  clear hgl c0 c1 c2 c3 c4 c5 c6 c7 c8 c9
                  obtain ⟨hgl, c0, c1, c2, c3, c4, c5, c6, c7, c8, c9⟩ := (V5.out.grow e20).cells
                  clear e20
                  go_wp2_with fail
                  go_roundw
                  case rel => exact ⟨k + 1, s', av2, cv2, ab', cb', by omega, by go_num, hnx.out, V9.out⟩
                  case measure => simp [intOf]; omega
                · have hok : Hid (okS l crews (ord ++ [(k : Int)]) = true) := by show worksB l (ord ++ [(k : Int)]) crews = true; rw [← HO.out]; exact hw
                  rcases Int.lt_or_le 0 s'.left with hl0 | hl0
                  · have hnx : Hid (loopV (okS l crews) rec ord s1 (k + 1) = rec (ord ++ [(k : Int)]) { s' with left := s'.left - 1 }) := by
                      show stepV _ _ _ (loopV (okS l crews) rec ord s1 k) k = _; rw [hs'.out]; exact stepV_go hf'.out HH.out hok.out hl0
                    have hn0 : 0 ≤ nodesOf bud s'.left ∧ nodesOf bud s'.left ≤ 20000 := by rw [nodesOf_pos (by omega)]; omega
                    obtain ⟨hn0, hn1⟩ := hn0
                    have hnq : (nodesOf bud s'.left == bud) = false := by rw [nodesOf_pos (by omega), beq_eq_false_iff_ne]; omega
                    go_wp2_with fail
                    refine region_quiet (by kernel_rfl) (by kernel_rfl) ?_
                    repeat (any_goals (first | go_big_quiet_step (fail) | quiet_step (fail)))
                    refine wpQuiet_nil ?_
                    intro _ hw'
                    obtain ⟨y, hw''⟩ := hw'
                    subst hw''
                    have V6 := Lib.hid ((V5.out.grow ((Ext.refl _).lift y)).spend hl0)
                    have fz6 := V5.out.frozen 6
                    have hlow := V5.out.srch.low
                    obtain ⟨b, off, hab⟩ := HA.out.base hlt
                    have HAb := HA.out
                    rw [hab] at HAb
                    have hb0 := (Shot.at HAb k hlt).1
                    have q4 := (Shot.at (HAb.ext V6.out.srch.ext) k hlt).2.2.2.2.2
                    have q5 := (Shot.at (HAb.ext V5.out.srch.ext) k hlt).2.2.2.2.2
                    have hgb := (shotB_bd (HK.out.shot k hlt)).2.2.2.2.2
                    obtain ⟨gb0, gb1⟩ := hgb
                    subst hab
                    clear HAb hok V5
                    go_wp2_with fail
                    have HR6 : Hid (Calls Try.prog 48 #[.pointer (some ⟨g, 0, none⟩), .int .i64 (gainS l ord + (nth l k).gain)] ((lift w12 y).setCell ⟨g, 6, none⟩ (.int .i64 (nodesOf bud s'.left + 1))) fun e w' => e = .returned (.tuple #[]) ∧ ∃ av' cv' ab' cb', VS w0 w' (some ⟨b, off, none⟩) l.length cap crews true bud g (rec (ord ++ [(k : Int)]) { s' with left := s'.left - 1 }) (ord ++ [(k : Int)]) av' cv' ab' cb') := by
                      have := HR.out k { s' with left := s'.left - 1 } _ av2 cv2 ab' cb' hlt HH.out (by rw [← HO.out]; exact V6.out) hf'.out (by show 0 ≤ s'.left - 1; omega)
                      rw [gainS_push] at this; exact this
                    refine HR6.out.mono ?_
                    rintro e w13 ⟨rfl, av7, cv7, ab7, cb7, hV7⟩
                    rw [← HO.out] at hV7 hnx
                    obtain ⟨s7, hs7⟩ : ∃ s7, s7 = rec O { s' with left := s'.left - 1 } := ⟨_, rfl⟩
                    rw [← hs7] at hV7 hnx
                    have V7 := Lib.hid hV7
                    clear hV7 hs7 V6 HR6 hgl c0 c1 c2 c3 c4 c5 c6 c7 c8 c9 hw fz6 q4 q5 hnq hn0 hn1
                    go_wp2_with fail
                    try clear hgl c0 c1 c2 c3 c4 c5 c6 c7 c8 c9
                    obtain ⟨hgl, c0, c1, c2, c3, c4, c5, c6, c7, c8, c9⟩ := V7.out.cells
                    rw [hOl.out] at c3
                    refine Grow.region_tail 14 [0, 1, 2, 3, 4, 5, 6, 7, 8, 9, 10, 11, 12, 13] [] (by kernel_rfl) (by kernel_rfl) ?_
                    simp only [Grow.pick, Grow.pickB, List.getElem?_cons_succ, List.getElem?_cons_zero, List.drop_succ_cons, List.drop_zero]
                    repeat
                      refine Grow.heads_step (fun K' hK => ⟨rfl, ?_⟩)
                      apply Exists.intro
                      apply And.intro
                      · intro w' hw'
                        obtain ⟨x', rfl⟩ := hw'
                        go_simp
                        first | done | rfl | (rw [if_neg (by omega)]; done) | (rw [if_neg (by omega)]; rfl)
                      go_simp
                      refine hK _ ?_
                      clear hK K'
                    refine Grow.heads_step (fun K' hK => ⟨rfl, .slice av7 ord.length cv7, ?_, ?_⟩)
                    · intro w' hw'
                      obtain ⟨x', rfl⟩ := hw'
                      go_simp
                      rw [wrap_len8 hlen, if_pos ⟨by omega, by have := V7.out.capv; rw [hOl.out] at this; omega⟩, Int.toNat_natCast]
                    refine hK _ ?_
                    clear hK K'
                    repeat
                      refine Grow.heads_step (fun K' hK => ⟨rfl, ?_⟩)
                      apply Exists.intro
                      apply And.intro
                      · intro w' hw'
                        obtain ⟨x', rfl⟩ := hw'
                        go_simp
                        first | done | rfl | (rw [if_neg (by omega)]; done) | (rw [if_neg (by omega)]; rfl)
                      go_simp
                      refine hK _ ?_
                      clear hK K'
                    refine Grow.heads_nil ?_
                    intro w20 e20
                    refine Grow.seq_nil ?_
                    have V9 := Lib.hid ((V7.out.grow e20).cut HO.out)
                    have fz3 := (V7.out.grow e20).frozen 3
                    clear hgl c0 c1 c2 c3 c4 c5 c6 c7 c8 c9
                    obtain ⟨hgl, c0, c1, c2, c3, c4, c5, c6, c7, c8, c9⟩ := (V7.out.grow e20).cells
                    clear e20
                    go_wp2_with fail
                    go_roundw
                    case rel => exact ⟨k + 1, s7, av7, cv7, ab7, cb7, by omega, by go_num, hnx.out, V9.out⟩
                    case measure => simp [intOf]; omega
                  · have hnx : Hid (loopV (okS l crews) rec ord s1 (k + 1) = { s' with left := -1 }) := by
                      show stepV _ _ _ (loopV (okS l crews) rec ord s1 k) k = _; rw [hs'.out]; exact stepV_full hf'.out HH.out hok.out (by omega)
                    have hnq : (nodesOf bud s'.left == bud) = true := by rw [nodesOf_pos (by omega), beq_iff_eq]; omega
                    go_wp2_with fail
                    refine region_quiet (by kernel_rfl) (by kernel_rfl) ?_
                    repeat (any_goals (first | go_big_quiet_step (fail) | quiet_step (fail)))
                    refine wpQuiet_nil ?_
                    intro _ hw'
                    obtain ⟨y, hw''⟩ := hw'
                    subst hw''
                    have V6 := Lib.hid ((V5.out.grow ((Ext.refl _).lift y)).stop (by omega))
                    have fz8 := V5.out.frozen 8
                    clear V5 hok
                    go_wp2_with fail
                    generalize (lift w12 y).setCell ⟨g, 8, none⟩ (.bool true) = W6 at *
                    clear hw hgl c0 c1 c2 c3 c4 c5 c6 c7 c8 c9 fz8
                    try clear hgl c0 c1 c2 c3 c4 c5 c6 c7 c8 c9
                    obtain ⟨hgl, c0, c1, c2, c3, c4, c5, c6, c7, c8, c9⟩ := V6.out.cells
                    rw [hOl.out] at c3
                    refine Grow.region_tail 14 [0, 1, 2, 3, 4, 5, 6, 7, 8, 9, 10, 11, 12, 13] [] (by kernel_rfl) (by kernel_rfl) ?_
                    simp only [Grow.pick, Grow.pickB, List.getElem?_cons_succ, List.getElem?_cons_zero, List.drop_succ_cons, List.drop_zero]
                    repeat
                      refine Grow.heads_step (fun K' hK => ⟨rfl, ?_⟩)
                      apply Exists.intro
                      apply And.intro
                      · intro w' hw'
                        obtain ⟨x', rfl⟩ := hw'
                        go_simp
                        first | done | rfl | (rw [if_neg (by omega)]; done) | (rw [if_neg (by omega)]; rfl)
                      go_simp
                      refine hK _ ?_
                      clear hK K'
                    refine Grow.heads_step (fun K' hK => ⟨rfl, .slice av2 ord.length cv2, ?_, ?_⟩)
                    · intro w' hw'
                      obtain ⟨x', rfl⟩ := hw'
                      go_simp
                      rw [wrap_len8 hlen, if_pos ⟨by omega, by have := V6.out.capv; rw [hOl.out] at this; omega⟩, Int.toNat_natCast]
                    refine hK _ ?_
                    clear hK K'
                    repeat
                      refine Grow.heads_step (fun K' hK => ⟨rfl, ?_⟩)
                      apply Exists.intro
                      apply And.intro
                      · intro w' hw'
                        obtain ⟨x', rfl⟩ := hw'
                        go_simp
                        first | done | rfl | (rw [if_neg (by omega)]; done) | (rw [if_neg (by omega)]; rfl)
                      go_simp
                      refine hK _ ?_
                      clear hK K'
                    refine Grow.heads_nil ?_
                    intro w20 e20
                    refine Grow.seq_nil ?_
                    have V9 := Lib.hid ((V6.out.grow e20).cut HO.out)
                    have fz3 := (V6.out.grow e20).frozen 3
                    clear hgl c0 c1 c2 c3 c4 c5 c6 c7 c8 c9
                    obtain ⟨hgl, c0, c1, c2, c3, c4, c5, c6, c7, c8, c9⟩ := (V6.out.grow e20).cells
                    clear e20
                    go_wp2_with fail
                    go_roundw
                    case rel => exact ⟨k + 1, _, av2, cv2, ab', cb', by omega, by go_num, hnx.out, V9.out⟩
                    case measure => simp [intOf]; omega
              · rw [hh] at HC
                have hnx : Hid (loopV (okS l crews) rec ord s1 (k + 1) = s') := by show stepV _ _ _ (loopV (okS l crews) rec ord s1 k) k = _; rw [hs'.out]; exact stepV_has hh
                clear hh
                go_wp2_with (go_at_call 71; refine HC.out.mono ?_; rintro e w' ⟨rfl, hw⟩; subst hw)
                go_roundw
                case rel => exact ⟨k + 1, s', av', cv', ab', cb', by omega, by go_num, hnx.out, V.out⟩
                case measure => simp [intOf]; omega
            · have hfin : Hid (loopV (okS l crews) rec ord s1 l.length = s') := by show _ = _; rw [loopV_stop (j := 0) (k := k) (by rw [hs'.out]; exact .inr hfd) l.length (by omega), hs'.out]
              rw [hfd] at c9
              clear hfd
              go_wp2_with fail
              (try simp only [Exit.inBlock, Exit.then])
              first | refine bodyPost_ret (results_none rfl _ _ _) rfl ?_ | refine bodyPost_end (results_none rfl _ _ _) rfl ?_
              refine ⟨rfl, av', cv', ab', cb', ?_⟩
              rw [hu1.out, hfin.out]
              exact V.out
        · obtain rfl : k = l.length := by omega
          have hfin := hs'
          go_wp2_with fail
          (try simp only [Exit.inBlock, Exit.then])
          first | refine bodyPost_ret (results_none rfl _ _ _) rfl ?_ | refine bodyPost_end (results_none rfl _ _ _) rfl ?_
          refine ⟨rfl, av', cv', ab', cb', ?_⟩
          rw [hu1.out, hfin.out]
          exact V.out
    · have hu : Hid (updS l true ord s = s) := updS_f (by have h9 : (ord.length == l.length) = false := beq_eq_false_iff_ne.2 hle; rw [h9]; rfl)
      have hq : ((ord.length : Int) == (l.length : Int)) = false := by rw [beq_eq_false_iff_ne]; omega
      clear hle
      go_enter Try.func48, Try.ntmps48
      go_wp2_with fail
      refine region_quiet (by kernel_rfl) (by kernel_rfl) ?_
      repeat (any_goals (first | go_big_quiet_step (fail) | quiet_step (fail)))
      refine wpQuiet_nil ?_
      intro _ hw'
      obtain ⟨y, hw''⟩ := hw'
      subst hw''
      clear hq
      have V3 := Lib.hid (V0.out.grow ((Ext.refl _).lift y))
      clear V0 hgl c0 c1 c2 c3 c4 c5 c6 c7 c8 c9
      go_wp2_with fail
      try clear hgt
      obtain ⟨s1, hs1⟩ : ∃ s1 : St, s1 = s := ⟨_, rfl⟩
      have hu1 : Hid (updS l true ord s = s1) := by rw [hs1]; exact hu.out
      rw [← hs1] at V3
      clear hs1 hu
      obtain ⟨hgl, c0, c1, c2, c3, c4, c5, c6, c7, c8, c9⟩ := V3.out.cells
      go_wp2_with fail
      go_loopw [4] (fun i wr => ∃ (k : Nat) (s' : St) (av : Option Addr) (cv : Nat) (ab : Option Addr) (cb : Nat), k ≤ l.length ∧ i = .int .i64 k ∧ Hid (loopV (okS l crews) rec ord s1 k = s') ∧ Hid (VS w0 wr a l.length cap crews true bud g s' ord av cv ab cb)) (fun i _ => l.length - (intOf i).toNat)
      case atStart => exact ⟨0, s1, av, cv, ab, cb, Nat.zero_le _, rfl, rfl, V3.out⟩
      case round =>
        clear V3 hgl c0 c1 c2 c3 c4 c5 c6 c7 c8 c9
        obtain ⟨k, s', av', cv', ab', cb', hk, rfl, hs', V⟩ := hrel
        obtain ⟨hgl, c0, c1, c2, c3, c4, c5, c6, c7, c8, c9⟩ := V.out.cells
        by_cases hlt : k < l.length
        · rcases Int.lt_or_le s'.left 0 with hlf | hlf
          · have hfin : Hid (loopV (okS l crews) rec ord s1 l.length = s') := by show _ = _; rw [loopV_stop (j := 0) (k := k) (by rw [hs'.out]; exact .inl hlf) l.length (by omega), hs'.out]
            rw [decide_eq_true hlf] at c8
            go_wp2_with fail
            (try simp only [Exit.inBlock, Exit.then])
            first | refine bodyPost_ret (results_none rfl _ _ _) rfl ?_ | refine bodyPost_end (results_none rfl _ _ _) rfl ?_
            refine ⟨rfl, av', cv', ab', cb', ?_⟩
            rw [hu1.out, hfin.out]
            exact V.out
          · rw [decide_eq_false (by omega)] at c8
            cases hfd : s'.found
            · rw [hfd] at c9
              have hf' := Lib.hid hfd
              clear hfd
              have HC : Hid (Calls Try.prog 71 #[.slice av' ord.length cv', .int .i64 k] wr fun e w' => e = .returned (.bool (hasB ord k)) ∧ w' = wr) := l00Has_any av' cv' ord k wr V.out.row (by omega)
              cases hh : hasB ord (k : Int)
              · rw [hh] at HC
                obtain ⟨O, hO⟩ : ∃ O : List Int, O = ord ++ [(k : Int)] := ⟨_, rfl⟩
                have hOl : Hid (O.length = ord.length + 1) := by show _ = _; rw [hO]; simp
                have hO9 : O.length ≤ 9 := by rw [hOl.out]; omega
                have HO := Lib.hid hO
                have HKO : Hid (ShotsOk l O) := by show ShotsOk _ _; rw [hO]; exact HK.out.push hlt
                have HH := Lib.hid hh
                have fz3 := V.out.frozen 3
                clear hO hh
                go_wp2_with (first
                  | (go_at_call 71; refine HC.out.mono ?_; rintro e w' ⟨rfl, hw⟩; subst hw; have V1 := Lib.hid (V.out.grow ((Ext.refl _).alloc (.cells #[.int .i64 k] 2))); have HR1 : Hid (IntAt (w'.alloc (.cells #[.int .i64 k] 2)) (some ⟨w'.heap.size, 0, none⟩) [(k : Int)]) := rows_int _ _ rfl; clear HC)
                  | (at_builtin; refine wpList_pushAt elInt oneInt rfl _ _ rfl (g + 1) _ ord (by rfl) V1.out.srch.lst _ 1 1 [(k : Int)] rfl (by rfl) HR1.out (by have := hOl.out; omega) (by omega) (by rw [size_new]; omega) ?_; intro v' w3 HL hg3 hat3; rw [← HO.out] at HL; obtain ⟨av2, cv2, rfl, hcv2, -, -, -⟩ := HL.shape; have V4 := Lib.hid (V1.out.pushed HL hg3 hat3 hcv2); obtain ⟨e0, e1, e2⟩ := V1.out.mid hg3; clear V1 HR1 HL hg3 hat3 hgl c0 c1 c2 c3 c4 c5 c6 c7 c8 c9 fz3))
                generalize w3.setCell ⟨g, 3, none⟩ (.slice av2 O.length cv2) = W4 at *
                clear e0 e1 e2
                obtain ⟨hgl, c0, c1, c2, c3, c4, c5, c6, c7, c8, c9⟩ := V4.out.cells
                have HW : Hid (∀ w', Ext W4 w' → Calls Try.prog 65 #[.slice a l.length cap, .slice av2 O.length cv2, .int .i64 (crews : Int)] w' (OutS 2 1 (fun (x : Int) (_ : Nat) => Value.int .i64 x) w' (finsV l O crews) [.bool (worksB l O crews)])) := fun w' e =>
                  l22Ends_any a cap l av2 cv2 O crews w' (HA.out.ext (V4.out.srch.ext.trans e)) (V4.out.row.ext e) HKO.out hc0 hc1 (by omega)
                refine Grow.region [0, 1, 2, 3, 4, 5, 6, 7, 8, 9, 10, 11] [(false, 12), (false, 13), (true, 14), (true, 15), (true, 16), (true, 17)] (by kernel_rfl) (by kernel_rfl) ?_
                simp only [Grow.pick, Grow.pickB, List.getElem?_cons_succ, List.getElem?_cons_zero]
                repeat
                  refine Grow.heads_step (fun K' hK => ⟨rfl, ?_⟩)
                  apply Exists.intro
                  apply And.intro
                  · intro w' hw'
                    obtain ⟨x', rfl⟩ := hw'
                    go_simp
                    first | done | rfl | (rw [if_neg (by omega)]; done) | (rw [if_neg (by omega)]; rfl)
                  go_simp
                  refine hK _ ?_
                  clear hK K'
                refine Grow.heads_nil ?_
                intro w5 e5
                refine Grow.seq_step (fun K' hK => ⟨rfl, ?_⟩)
                go_simp
                simp only [Grow.upon]
                refine (HW.out w5 e5).mono ?_
                rintro e w6 ⟨a6, cap6, rfl, -, -, -, E6⟩
                refine ⟨_, rfl, E6, fun w7 e7 => hK _ _ ?_⟩
                clear hK K'
                refine Grow.seq_step (fun K' hK => ⟨rfl, ?_⟩)
                go_simp
                try rw [if_neg (by omega)]
                simp only [Grow.upon]
                refine ⟨Ext.refl _, fun w8 e8 => hK _ _ ?_⟩
                clear hK K'
                refine Grow.seq_pure (fun K' hK => ⟨rfl, ?_⟩)
                apply Exists.intro
                apply And.intro
                · intro w' hw'
                  obtain ⟨x', rfl⟩ := hw'
                  go_simp
                  first | done | rfl | (rw [if_neg (by omega)]; done) | (rw [if_neg (by omega)]; rfl)
                intro w9 e9
                go_simp
                refine hK _ _ ?_
                clear hK K'
                refine Grow.seq_pure (fun K' hK => ⟨rfl, ?_⟩)
                apply Exists.intro
                apply And.intro
                · intro w' hw'
                  obtain ⟨x', rfl⟩ := hw'
                  go_simp
                  first | done | rfl | (rw [if_neg (by omega)]; done) | (rw [if_neg (by omega)]; rfl)
                intro w10 e10
                go_simp
                refine hK _ _ ?_
                clear hK K'
                refine Grow.seq_pure (fun K' hK => ⟨rfl, ?_⟩)
                apply Exists.intro
                apply And.intro
                · intro w' hw'
                  obtain ⟨x', rfl⟩ := hw'
                  go_simp
                  first | done | rfl | (rw [if_neg (by omega)]; done) | (rw [if_neg (by omega)]; rfl)
                intro w11 e11
                go_simp
                refine hK _ _ ?_
                clear hK K'
                refine Grow.seq_pure (fun K' hK => ⟨rfl, ?_⟩)
                apply Exists.intro
                apply And.intro
                · intro w' hw'
                  obtain ⟨x', rfl⟩ := hw'
                  go_simp
                  first | done | rfl | (rw [if_neg (by omega)]; done) | (rw [if_neg (by omega)]; rfl)
                intro w12 e12
                go_simp
                refine hK _ _ ?_
                clear hK K'
                refine Grow.seq_nil ?_
                have V5 := Lib.hid (V4.out.grow (e5.trans (E6.trans (e7.trans (e8.trans (e9.trans (e10.trans (e11.trans e12))))))))
                clear V4 HW e5 E6 e7 e8 e9 e10 e11 e12 hgl c0 c1 c2 c3 c4 c5 c6 c7 c8 c9
                obtain ⟨hgl, c0, c1, c2, c3, c4, c5, c6, c7, c8, c9⟩ := V5.out.cells
                have hhi := V5.out.hi
                cases hw : worksB l O crews
                · have hnx : Hid (loopV (okS l crews) rec ord s1 (k + 1) = s') := by
                    show stepV _ _ _ (loopV (okS l crews) rec ord s1 k) k = _; rw [hs'.out]; exact stepV_no (by show worksB l (ord ++ [(k : Int)]) crews = false; rw [← HO.out]; exact hw)
                  go_wp2_with fail
                  clear hw
                  try clear hgl c0 c1 c2 c3 c4 c5 c6 c7 c8 c9
                  obtain ⟨hgl, c0, c1, c2, c3, c4, c5, c6, c7, c8, c9⟩ := V5.out.cells
                  rw [hOl.out] at c3
                  refine Grow.region_tail 14 [0, 1, 2, 3, 4, 5, 6, 7, 8, 9, 10, 11, 12, 13] [] (by kernel_rfl) (by kernel_rfl) ?_
                  simp only [Grow.pick, Grow.pickB, List.getElem?_cons_succ, List.getElem?_cons_zero, List.drop_succ_cons, List.drop_zero]
                  repeat
                    refine Grow.heads_step (fun K' hK => ⟨rfl, ?_⟩)
                    apply Exists.intro
                    apply And.intro
                    · intro w' hw'
                      obtain ⟨x', rfl⟩ := hw'
                      go_simp
                      first | done | rfl | (rw [if_neg (by omega)]; done) | (rw [if_neg (by omega)]; rfl)
                    go_simp
                    refine hK _ ?_
                    clear hK K'
                  refine Grow.heads_step (fun K' hK => ⟨rfl, .slice av2 ord.length cv2, ?_, ?_⟩)
                  · intro w' hw'
                    obtain ⟨x', rfl⟩ := hw'
                    go_simp
                    rw [wrap_len8 hlen, if_pos ⟨by omega, by have := V5.out.capv; rw [hOl.out] at this; omega⟩, Int.toNat_natCast]
                  refine hK _ ?_
                  clear hK K'
                  repeat
                    refine Grow.heads_step (fun K' hK => ⟨rfl, ?_⟩)
                    apply Exists.intro
                    apply And.intro
                    · intro w' hw'
                      obtain ⟨x', rfl⟩ := hw'
                      go_simp
                      first | done | rfl | (rw [if_neg (by omega)]; done) | (rw [if_neg (by omega)]; rfl)
                    go_simp
                    refine hK _ ?_
                    clear hK K'
                  refine Grow.heads_nil ?_
                  intro w20 e20
                  refine Grow.seq_nil ?_
                  have V9 := Lib.hid ((V5.out.grow e20).cut HO.out)
                  have fz3 := (V5.out.grow e20).frozen 3
                  clear hgl c0 c1 c2 c3 c4 c5 c6 c7 c8 c9
                  obtain ⟨hgl, c0, c1, c2, c3, c4, c5, c6, c7, c8, c9⟩ := (V5.out.grow e20).cells
                  clear e20
                  go_wp2_with fail
                  go_roundw
                  case rel => exact ⟨k + 1, s', av2, cv2, ab', cb', by omega, by go_num, hnx.out, V9.out⟩
                  case measure => simp [intOf]; omega
                · have hok : Hid (okS l crews (ord ++ [(k : Int)]) = true) := by show worksB l (ord ++ [(k : Int)]) crews = true; rw [← HO.out]; exact hw
                  rcases Int.lt_or_le 0 s'.left with hl0 | hl0
                  · have hnx : Hid (loopV (okS l crews) rec ord s1 (k + 1) = rec (ord ++ [(k : Int)]) { s' with left := s'.left - 1 }) := by
                      show stepV _ _ _ (loopV (okS l crews) rec ord s1 k) k = _; rw [hs'.out]; exact stepV_go hf'.out HH.out hok.out hl0
                    have hn0 : 0 ≤ nodesOf bud s'.left ∧ nodesOf bud s'.left ≤ 20000 := by rw [nodesOf_pos (by omega)]; omega
                    obtain ⟨hn0, hn1⟩ := hn0
                    have hnq : (nodesOf bud s'.left == bud) = false := by rw [nodesOf_pos (by omega), beq_eq_false_iff_ne]; omega
                    go_wp2_with fail
                    refine region_quiet (by kernel_rfl) (by kernel_rfl) ?_
                    repeat (any_goals (first | go_big_quiet_step (fail) | quiet_step (fail)))
                    refine wpQuiet_nil ?_
                    intro _ hw'
                    obtain ⟨y, hw''⟩ := hw'
                    subst hw''
                    have V6 := Lib.hid ((V5.out.grow ((Ext.refl _).lift y)).spend hl0)
                    have fz6 := V5.out.frozen 6
                    have hlow := V5.out.srch.low
                    obtain ⟨b, off, hab⟩ := HA.out.base hlt
                    have HAb := HA.out
                    rw [hab] at HAb
                    have hb0 := (Shot.at HAb k hlt).1
                    have q4 := (Shot.at (HAb.ext V6.out.srch.ext) k hlt).2.2.2.2.2
                    have q5 := (Shot.at (HAb.ext V5.out.srch.ext) k hlt).2.2.2.2.2
                    have hgb := (shotB_bd (HK.out.shot k hlt)).2.2.2.2.2
                    obtain ⟨gb0, gb1⟩ := hgb
                    subst hab
                    clear HAb hok V5
                    go_wp2_with fail
                    have HR6 : Hid (Calls Try.prog 48 #[.pointer (some ⟨g, 0, none⟩), .int .i64 (gainS l ord + (nth l k).gain)] ((lift w12 y).setCell ⟨g, 6, none⟩ (.int .i64 (nodesOf bud s'.left + 1))) fun e w' => e = .returned (.tuple #[]) ∧ ∃ av' cv' ab' cb', VS w0 w' (some ⟨b, off, none⟩) l.length cap crews true bud g (rec (ord ++ [(k : Int)]) { s' with left := s'.left - 1 }) (ord ++ [(k : Int)]) av' cv' ab' cb') := by
                      have := HR.out k { s' with left := s'.left - 1 } _ av2 cv2 ab' cb' hlt HH.out (by rw [← HO.out]; exact V6.out) hf'.out (by show 0 ≤ s'.left - 1; omega)
                      rw [gainS_push] at this; exact this
                    refine HR6.out.mono ?_
                    rintro e w13 ⟨rfl, av7, cv7, ab7, cb7, hV7⟩
                    rw [← HO.out] at hV7 hnx
                    obtain ⟨s7, hs7⟩ : ∃ s7, s7 = rec O { s' with left := s'.left - 1 } := ⟨_, rfl⟩
                    rw [← hs7] at hV7 hnx
                    have V7 := Lib.hid hV7
                    clear hV7 hs7 V6 HR6 hgl c0 c1 c2 c3 c4 c5 c6 c7 c8 c9 hw fz6 q4 q5 hnq hn0 hn1
                    go_wp2_with fail
                    try clear hgl c0 c1 c2 c3 c4 c5 c6 c7 c8 c9
                    obtain ⟨hgl, c0, c1, c2, c3, c4, c5, c6, c7, c8, c9⟩ := V7.out.cells
                    rw [hOl.out] at c3
                    refine Grow.region_tail 14 [0, 1, 2, 3, 4, 5, 6, 7, 8, 9, 10, 11, 12, 13] [] (by kernel_rfl) (by kernel_rfl) ?_
                    simp only [Grow.pick, Grow.pickB, List.getElem?_cons_succ, List.getElem?_cons_zero, List.drop_succ_cons, List.drop_zero]
                    repeat
                      refine Grow.heads_step (fun K' hK => ⟨rfl, ?_⟩)
                      apply Exists.intro
                      apply And.intro
                      · intro w' hw'
                        obtain ⟨x', rfl⟩ := hw'
                        go_simp
                        first | done | rfl | (rw [if_neg (by omega)]; done) | (rw [if_neg (by omega)]; rfl)
                      go_simp
                      refine hK _ ?_
                      clear hK K'
                    refine Grow.heads_step (fun K' hK => ⟨rfl, .slice av7 ord.length cv7, ?_, ?_⟩)
                    · intro w' hw'
                      obtain ⟨x', rfl⟩ := hw'
                      go_simp
                      rw [wrap_len8 hlen, if_pos ⟨by omega, by have := V7.out.capv; rw [hOl.out] at this; omega⟩, Int.toNat_natCast]
                    refine hK _ ?_
                    clear hK K'
                    repeat
                      refine Grow.heads_step (fun K' hK => ⟨rfl, ?_⟩)
                      apply Exists.intro
                      apply And.intro
                      · intro w' hw'
                        obtain ⟨x', rfl⟩ := hw'
                        go_simp
                        first | done | rfl | (rw [if_neg (by omega)]; done) | (rw [if_neg (by omega)]; rfl)
                      go_simp
                      refine hK _ ?_
                      clear hK K'
                    refine Grow.heads_nil ?_
                    intro w20 e20
                    refine Grow.seq_nil ?_
                    have V9 := Lib.hid ((V7.out.grow e20).cut HO.out)
                    have fz3 := (V7.out.grow e20).frozen 3
                    clear hgl c0 c1 c2 c3 c4 c5 c6 c7 c8 c9
                    obtain ⟨hgl, c0, c1, c2, c3, c4, c5, c6, c7, c8, c9⟩ := (V7.out.grow e20).cells
                    clear e20
                    go_wp2_with fail
                    go_roundw
                    case rel => exact ⟨k + 1, s7, av7, cv7, ab7, cb7, by omega, by go_num, hnx.out, V9.out⟩
                    case measure => simp [intOf]; omega
                  · have hnx : Hid (loopV (okS l crews) rec ord s1 (k + 1) = { s' with left := -1 }) := by
                      show stepV _ _ _ (loopV (okS l crews) rec ord s1 k) k = _; rw [hs'.out]; exact stepV_full hf'.out HH.out hok.out (by omega)
                    have hnq : (nodesOf bud s'.left == bud) = true := by rw [nodesOf_pos (by omega), beq_iff_eq]; omega
                    go_wp2_with fail
                    refine region_quiet (by kernel_rfl) (by kernel_rfl) ?_
                    repeat (any_goals (first | go_big_quiet_step (fail) | quiet_step (fail)))
                    refine wpQuiet_nil ?_
                    intro _ hw'
                    obtain ⟨y, hw''⟩ := hw'
                    subst hw''
                    have V6 := Lib.hid ((V5.out.grow ((Ext.refl _).lift y)).stop (by omega))
                    have fz8 := V5.out.frozen 8
                    clear V5 hok
                    go_wp2_with fail
                    generalize (lift w12 y).setCell ⟨g, 8, none⟩ (.bool true) = W6 at *
                    clear hw hgl c0 c1 c2 c3 c4 c5 c6 c7 c8 c9 fz8
                    try clear hgl c0 c1 c2 c3 c4 c5 c6 c7 c8 c9
                    obtain ⟨hgl, c0, c1, c2, c3, c4, c5, c6, c7, c8, c9⟩ := V6.out.cells
                    rw [hOl.out] at c3
                    refine Grow.region_tail 14 [0, 1, 2, 3, 4, 5, 6, 7, 8, 9, 10, 11, 12, 13] [] (by kernel_rfl) (by kernel_rfl) ?_
                    simp only [Grow.pick, Grow.pickB, List.getElem?_cons_succ, List.getElem?_cons_zero, List.drop_succ_cons, List.drop_zero]
                    repeat
                      refine Grow.heads_step (fun K' hK => ⟨rfl, ?_⟩)
                      apply Exists.intro
                      apply And.intro
                      · intro w' hw'
                        obtain ⟨x', rfl⟩ := hw'
                        go_simp
                        first | done | rfl | (rw [if_neg (by omega)]; done) | (rw [if_neg (by omega)]; rfl)
                      go_simp
                      refine hK _ ?_
                      clear hK K'
                    refine Grow.heads_step (fun K' hK => ⟨rfl, .slice av2 ord.length cv2, ?_, ?_⟩)
                    · intro w' hw'
                      obtain ⟨x', rfl⟩ := hw'
                      go_simp
                      rw [wrap_len8 hlen, if_pos ⟨by omega, by have := V6.out.capv; rw [hOl.out] at this; omega⟩, Int.toNat_natCast]
                    refine hK _ ?_
                    clear hK K'
                    repeat
                      refine Grow.heads_step (fun K' hK => ⟨rfl, ?_⟩)
                      apply Exists.intro
                      apply And.intro
                      · intro w' hw'
                        obtain ⟨x', rfl⟩ := hw'
                        go_simp
                        first | done | rfl | (rw [if_neg (by omega)]; done) | (rw [if_neg (by omega)]; rfl)
                      go_simp
                      refine hK _ ?_
                      clear hK K'
                    refine Grow.heads_nil ?_
                    intro w20 e20
                    refine Grow.seq_nil ?_
                    have V9 := Lib.hid ((V6.out.grow e20).cut HO.out)
                    have fz3 := (V6.out.grow e20).frozen 3
                    clear hgl c0 c1 c2 c3 c4 c5 c6 c7 c8 c9
                    obtain ⟨hgl, c0, c1, c2, c3, c4, c5, c6, c7, c8, c9⟩ := (V6.out.grow e20).cells
                    clear e20
                    go_wp2_with fail
                    go_roundw
                    case rel => exact ⟨k + 1, _, av2, cv2, ab', cb', by omega, by go_num, hnx.out, V9.out⟩
                    case measure => simp [intOf]; omega
              · rw [hh] at HC
                have hnx : Hid (loopV (okS l crews) rec ord s1 (k + 1) = s') := by show stepV _ _ _ (loopV (okS l crews) rec ord s1 k) k = _; rw [hs'.out]; exact stepV_has hh
                clear hh
                go_wp2_with (go_at_call 71; refine HC.out.mono ?_; rintro e w' ⟨rfl, hw⟩; subst hw)
                go_roundw
                case rel => exact ⟨k + 1, s', av', cv', ab', cb', by omega, by go_num, hnx.out, V.out⟩
                case measure => simp [intOf]; omega
            · have hfin : Hid (loopV (okS l crews) rec ord s1 l.length = s') := by show _ = _; rw [loopV_stop (j := 0) (k := k) (by rw [hs'.out]; exact .inr hfd) l.length (by omega), hs'.out]
              rw [hfd] at c9
              clear hfd
              go_wp2_with fail
              (try simp only [Exit.inBlock, Exit.then])
              first | refine bodyPost_ret (results_none rfl _ _ _) rfl ?_ | refine bodyPost_end (results_none rfl _ _ _) rfl ?_
              refine ⟨rfl, av', cv', ab', cb', ?_⟩
              rw [hu1.out, hfin.out]
              exact V.out
        · obtain rfl : k = l.length := by omega
          have hfin := hs'
          go_wp2_with fail
          (try simp only [Exit.inBlock, Exit.then])
          first | refine bodyPost_ret (results_none rfl _ _ _) rfl ?_ | refine bodyPost_end (results_none rfl _ _ _) rfl ?_
          refine ⟨rfl, av', cv', ab', cb', ?_⟩
          rw [hu1.out, hfin.out]
          exact V.out
theorem run_any (l : List Shot) (a : Option Addr) (cap crews : Nat) (all : Bool) (bud : Int) (hbud : bud ≤ 20000) (w0 : World) (H : ShotAt w0 a l) (hn : l.length ≤ 8) (hcap : l.length ≤ cap) (hc0 : 0 < crews) (hc1 : crews ≤ 3) (g : Nat) :
    ∀ (d : Nat) (ord : List Int), ShotsOk l ord → ord.length + d ≤ l.length → lacks l.length ord ≤ d → ∀ (s : St) (W : World) (av : Option Addr) (cv : Nat) (ab : Option Addr) (cb : Nat), VS w0 W a l.length cap crews all bud g s ord av cv ab cb → 0 ≤ s.left →
      Calls Try.prog 48 #[.pointer (some ⟨g, 0, none⟩), .int .i64 (gainS l ord)] W fun e w' => e = .returned (.tuple #[]) ∧ ∃ av' cv' ab' cb', VS w0 w' a l.length cap crews all bud g (visitV l.length (okS l crews) (updS l all) d ord s) ord av' cv' ab' cb'
  | 0, ord, hO, hd1, hd2, s, W, av, cv, ab, cb, hV, hl =>
    run_step l a cap crews all bud hbud w0 H hn hcap hc0 hc1 g ord hO (by omega) (fun _ s => s) (fun k _ _ _ _ _ _ hk hh => absurd (lacks_zero hd2 hk) (by rw [hh]; decide)) s W av cv ab cb hV hl
  | d + 1, ord, hO, hd1, hd2, s, W, av, cv, ab, cb, hV, hl =>
    run_step l a cap crews all bud hbud w0 H hn hcap hc0 hc1 g ord hO (by omega) (visitV l.length (okS l crews) (updS l all) d) (fun k s W av cv ab cb hk hh hV _ hl =>
      run_any l a cap crews all bud hbud w0 H hn hcap hc0 hc1 g d (ord ++ [(k : Int)]) (hO.push hk) (by rw [List.length_append]; simp only [List.length_cons, List.length_nil]; omega) (by have := lacks_push hk hh; omega) s W av cv ab cb hV hl) s W av cv ab cb hV hl
end Go.Proofs.Ytkfdkihfdjgbbaa
