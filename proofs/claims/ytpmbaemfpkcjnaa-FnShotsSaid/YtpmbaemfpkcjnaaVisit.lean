/- Chapter 22: the program's search through plans of shots. -/
import Derived.Test.YtpmbaemfpkcjnaaGain
namespace Go.Proofs.Ytpmbaemfpkcjnaa
open Go.RowKit
/-- The cells of the program's search. -/
def objI (a : Option Addr) (n cap crews : Nat) (all : Bool) (v vb : Value) (left most : Int) (found : Bool) : Nat → Value
  | 0 => .slice a n cap
  | 1 => .int .i64 (crews : Int)
  | 2 => .int .i64 left
  | 3 => .bool all
  | 4 => v
  | 5 => vb
  | 6 => .int .i64 most
  | _ => .bool found
structure VI (w0 w : World) (a : Option Addr) (n cap crews : Nat) (all : Bool) (g : Nat) (s : St) (ord : List Int) (av : Option Addr) (cv : Nat) (ab : Option Addr) (cb : Nat) : Prop where
  srch : Srch 62 2 8 w0 w g (objI a n cap crews all (.slice av ord.length cv) (.slice ab s.best.length cb) s.left s.most s.found) (.slice av ord.length cv) ord ab s.best
  capv : ord.length ≤ cv
  capb : s.best.length ≤ cb
  lo : -1 ≤ s.left
  hi : s.left ≤ 20000
theorem VI.cells {w0 w : World} {a : Option Addr} {n cap crews : Nat} {all : Bool} {g : Nat} {s : St} {ord : List Int} {av : Option Addr} {cv : Nat} {ab : Option Addr} {cb : Nat} (h : VI w0 w a n cap crews all g s ord av cv ab cb) :
    g < w.heap.size ∧ w.cell? ⟨g, 0, none⟩ = some (.slice a n cap) ∧ w.cell? ⟨g, 1, none⟩ = some (.int .i64 (crews : Int)) ∧ w.cell? ⟨g, 2, none⟩ = some (.int .i64 s.left) ∧ w.cell? ⟨g, 3, none⟩ = some (.bool all) ∧ w.cell? ⟨g, 4, none⟩ = some (.slice av ord.length cv) ∧ w.cell? ⟨g, 5, none⟩ = some (.slice ab s.best.length cb) ∧ w.cell? ⟨g, 6, none⟩ = some (.int .i64 s.most) ∧ w.cell? ⟨g, 7, none⟩ = some (.bool s.found) :=
  have o := h.srch.obj
  ⟨o.blk.lt, o.cell 0 (by decide), o.cell 1 (by decide), o.cell 2 (by decide), o.cell 3 (by decide), o.cell 4 (by decide), o.cell 5 (by decide), o.cell 6 (by decide), o.cell 7 (by decide)⟩
theorem VI.frozen {w0 w : World} {a : Option Addr} {n cap crews : Nat} {all : Bool} {g : Nat} {s : St} {ord : List Int} {av : Option Addr} {cv : Nat} {ab : Option Addr} {cb : Nat} (h : VI w0 w a n cap crews all g s ord av cv ab cb) (o : Nat) : w.frozen? ⟨g, o, none⟩ = false := h.srch.obj.blk.frozen o
theorem VI.grow {w0 w w' : World} {a : Option Addr} {n cap crews : Nat} {all : Bool} {g : Nat} {s : St} {ord : List Int} {av : Option Addr} {cv : Nat} {ab : Option Addr} {cb : Nat} (h : VI w0 w a n cap crews all g s ord av cv ab cb) (he : Ext w w') : VI w0 w' a n cap crews all g s ord av cv ab cb :=
  ⟨h.srch.grow he, h.capv, h.capb, h.lo, h.hi⟩
theorem VI.row {w0 w : World} {a : Option Addr} {n cap crews : Nat} {all : Bool} {g : Nat} {s : St} {ord : List Int} {av : Option Addr} {cv : Nat} {ab : Option Addr} {cb : Nat} (h : VI w0 w a n cap crews all g s ord av cv ab cb) : IntAt w av ord := by
  obtain ⟨a', c', e, -, -, h, -⟩ := h.srch.lst.shape
  simp only [Value.slice.injEq, true_and] at e
  rw [e.1]; exact h
theorem VI.better {w0 w w' : World} {a : Option Addr} {n cap crews : Nat} {all : Bool} {g : Nat} {s : St} {ord : List Int} {av : Option Addr} {cv : Nat} {ab : Option Addr} {cb : Nat} (h : VI w0 w a n cap crews all g s ord av cv ab cb) (he : Ext w w') {ab' : Option Addr} {cb' : Nat} (ho : Own w' w.heap.size 2 1 ab' ord.length) (hr : IntAt w' ab' ord) (hc : ord.length ≤ cb') (m : Int) :
    VI w0 ((w'.setCell ⟨g, 5, none⟩ (.slice ab' ord.length cb')).setCell ⟨g, 6, none⟩ (.int .i64 m)) a n cap crews all g ⟨ord, m, s.left, s.found⟩ ord av cv ab' cb' :=
  ⟨((h.srch.newBest he ho hr).set (f' := objI a n cap crews all (.slice av ord.length cv) (.slice ab' ord.length cb') s.left s.most s.found) 5 _ (by decide) rfl (fun j hj hne => by rcases (show j = 0 ∨ j = 1 ∨ j = 2 ∨ j = 3 ∨ j = 4 ∨ j = 5 ∨ j = 6 ∨ j = 7 by omega) with rfl | rfl | rfl | rfl | rfl | rfl | rfl | rfl <;> first | rfl | exact absurd rfl hne)).set 6 _ (by decide) rfl (fun j hj hne => by rcases (show j = 0 ∨ j = 1 ∨ j = 2 ∨ j = 3 ∨ j = 4 ∨ j = 5 ∨ j = 6 ∨ j = 7 by omega) with rfl | rfl | rfl | rfl | rfl | rfl | rfl | rfl <;> first | rfl | exact absurd rfl hne), h.capv, hc, h.lo, h.hi⟩
theorem VI.done {w0 w w' : World} {a : Option Addr} {n cap crews : Nat} {all : Bool} {g : Nat} {s : St} {ord : List Int} {av : Option Addr} {cv : Nat} {ab : Option Addr} {cb : Nat} (h : VI w0 w a n cap crews all g s ord av cv ab cb) (he : Ext w w') {ab' : Option Addr} {cb' : Nat} (ho : Own w' w.heap.size 2 1 ab' ord.length) (hr : IntAt w' ab' ord) (hc : ord.length ≤ cb') :
    VI w0 ((w'.setCell ⟨g, 5, none⟩ (.slice ab' ord.length cb')).setCell ⟨g, 7, none⟩ (.bool true)) a n cap crews all g ⟨ord, s.most, s.left, true⟩ ord av cv ab' cb' :=
  ⟨((h.srch.newBest he ho hr).set (f' := objI a n cap crews all (.slice av ord.length cv) (.slice ab' ord.length cb') s.left s.most s.found) 5 _ (by decide) rfl (fun j hj hne => by rcases (show j = 0 ∨ j = 1 ∨ j = 2 ∨ j = 3 ∨ j = 4 ∨ j = 5 ∨ j = 6 ∨ j = 7 by omega) with rfl | rfl | rfl | rfl | rfl | rfl | rfl | rfl <;> first | rfl | exact absurd rfl hne)).set 7 _ (by decide) rfl (fun j hj hne => by rcases (show j = 0 ∨ j = 1 ∨ j = 2 ∨ j = 3 ∨ j = 4 ∨ j = 5 ∨ j = 6 ∨ j = 7 by omega) with rfl | rfl | rfl | rfl | rfl | rfl | rfl | rfl <;> first | rfl | exact absurd rfl hne), h.capv, hc, h.lo, h.hi⟩
theorem VI.pushed {w0 w w' : World} {a : Option Addr} {n cap crews : Nat} {all : Bool} {g : Nat} {s : St} {ord : List Int} {av : Option Addr} {cv : Nat} {ab : Option Addr} {cb : Nat} (h : VI w0 w a n cap crews all g s ord av cv ab cb) {O : List Int} {av' : Option Addr} {cv' : Nat} (hL : Lst 2 1 cellI w' (g + 1) (.slice av' O.length cv') O) (hg : w.grownBy w' (Value.slice av ord.length cv).ownBlock) (hat : (Value.slice av' O.length cv').ownBlock = (Value.slice av ord.length cv).ownBlock ∨ (Value.slice av' O.length cv').ownBlock = some w.heap.size) (hc : O.length ≤ cv') :
    VI w0 (w'.setCell ⟨g, 4, none⟩ (.slice av' O.length cv')) a n cap crews all g s O av' cv' ab cb :=
  ⟨(h.srch.newOrd hL hg hat).set 4 _ (by decide) rfl (fun j hj hne => by rcases (show j = 0 ∨ j = 1 ∨ j = 2 ∨ j = 3 ∨ j = 4 ∨ j = 5 ∨ j = 6 ∨ j = 7 by omega) with rfl | rfl | rfl | rfl | rfl | rfl | rfl | rfl <;> first | rfl | exact absurd rfl hne), hc, h.capb, h.lo, h.hi⟩
theorem VI.mid {w0 w w' : World} {a : Option Addr} {n cap crews : Nat} {all : Bool} {g : Nat} {s : St} {ord : List Int} {av : Option Addr} {cv : Nat} {ab : Option Addr} {cb : Nat} (h : VI w0 w a n cap crews all g s ord av cv ab cb) (hg : w.grownBy w' (Value.slice av ord.length cv).ownBlock) : g < w'.heap.size ∧ w'.cell? ⟨g, 4, none⟩ = some (.slice av ord.length cv) ∧ w'.frozen? ⟨g, 4, none⟩ = false :=
  have o := h.srch.obj.grown hg (h.srch.lst.row_ne (Nat.lt_succ_self g))
  ⟨o.blk.lt, o.cell 4 (by decide), o.blk.frozen 4⟩
theorem VI.cut {w0 w : World} {a : Option Addr} {n cap crews : Nat} {all : Bool} {g : Nat} {s : St} {ord : List Int} {av : Option Addr} {cv : Nat} {ab : Option Addr} {cb : Nat} {x : Int} {O : List Int} (h : VI w0 w a n cap crews all g s O av cv ab cb) (hO : O = ord ++ [x]) :
    VI w0 (w.setCell ⟨g, 4, none⟩ (.slice av ord.length cv)) a n cap crews all g s ord av cv ab cb := by
  subst hO
  have e : (ord ++ [x]).length = ord.length + 1 := by simp
  have h1 := h.srch
  have h2 := h.capv
  rw [e] at h1 h2
  exact ⟨(h1.pop rfl).set 4 _ (by decide) rfl (fun j hj hne => by rcases (show j = 0 ∨ j = 1 ∨ j = 2 ∨ j = 3 ∨ j = 4 ∨ j = 5 ∨ j = 6 ∨ j = 7 by omega) with rfl | rfl | rfl | rfl | rfl | rfl | rfl | rfl <;> first | rfl | exact absurd rfl hne), by omega, h.capb, h.lo, h.hi⟩
theorem VI.spend {w0 w : World} {a : Option Addr} {n cap crews : Nat} {all : Bool} {g : Nat} {s : St} {ord : List Int} {av : Option Addr} {cv : Nat} {ab : Option Addr} {cb : Nat} (h : VI w0 w a n cap crews all g s ord av cv ab cb) {x : Int} (h1 : -1 ≤ x) (h2 : x ≤ 20000) :
    VI w0 (w.setCell ⟨g, 2, none⟩ (.int .i64 x)) a n cap crews all g { s with left := x } ord av cv ab cb :=
  ⟨h.srch.set 2 _ (by decide) rfl (fun j hj hne => by rcases (show j = 0 ∨ j = 1 ∨ j = 2 ∨ j = 3 ∨ j = 4 ∨ j = 5 ∨ j = 6 ∨ j = 7 by omega) with rfl | rfl | rfl | rfl | rfl | rfl | rfl | rfl <;> first | rfl | exact absurd rfl hne), h.capv, h.capb, h1, h2⟩
theorem wrap_len {n : Nat} (h : n ≤ 8) : IntKind.i64.wrap (n : Int) = n := by rw [IntKind.wrap_i64]; omega
set_option maxRecDepth 100000 in
set_option maxHeartbeats 8000000 in
theorem visit_step (l : List Shot) (a : Option Addr) (cap crews : Nat) (all : Bool) (w0 : World) (H : ShotAt w0 a l) (hn : l.length ≤ 8) (_ : l.length ≤ cap) (hc0 : 0 < crews) (hc1 : crews ≤ 3) (g : Nat) (ord : List Int) (hO : ShotsOk l ord) (hlen : ord.length ≤ 8) (rec : List Int → St → St)
    (hrec : ∀ (k : Nat) (s : St) (W : World) (av : Option Addr) (cv : Nat) (ab : Option Addr) (cb : Nat), k < l.length → hasB ord k = false → VI w0 W a l.length cap crews all g s (ord ++ [(k : Int)]) av cv ab cb → s.found = false → 0 ≤ s.left →
      Calls Try.prog 28 #[.pointer (some ⟨g, 0, none⟩)] W fun e w' => e = .returned (.tuple #[]) ∧ ∃ av' cv' ab' cb', VI w0 w' a l.length cap crews all g (rec (ord ++ [(k : Int)]) s) (ord ++ [(k : Int)]) av' cv' ab' cb')
    (s : St) (W : World) (av : Option Addr) (cv : Nat) (ab : Option Addr) (cb : Nat) (hV : VI w0 W a l.length cap crews all g s ord av cv ab cb) (hf : s.found = false) (hl : 0 ≤ s.left) :
    Calls Try.prog 28 #[.pointer (some ⟨g, 0, none⟩)] W fun e w' => e = .returned (.tuple #[]) ∧ ∃ av' cv' ab' cb', VI w0 w' a l.length cap crews all g (loopV (okS l crews) rec ord (updI l all ord s) l.length) ord av' cv' ab' cb' := by
  have V0 := Lib.hid hV
  have HA := Lib.hid H
  have HK := Lib.hid hO
  have HR := Lib.hid hrec
  have hfn := Lib.hid hf
  clear hV H hO hrec hf
  have HG : Hid (∀ x, Gives Try.prog 22 #[.slice a l.length cap, .slice av ord.length cv] (lift W x) (.int .i64 (gainS l ord))) := fun x =>
    Gives.same (gainOf_any a cap l av cv ord (lift W x) (HA.out.ext (V0.out.srch.ext.lift x)) (by
      obtain ⟨a', c', e, -, -, h, -⟩ := V0.out.srch.lst.shape
      simp only [Value.slice.injEq, true_and] at e
      rw [e.1]; exact h.ext ((Ext.refl _).lift x)) HK.out (by omega))
  obtain ⟨hgl, c0, c1, c2, c3, c4, c5, c6, c7⟩ := V0.out.cells
  go_enter Try.func28, Try.ntmps28
  go_wp2_with fail
  refine region_quiet (by kernel_rfl) (by kernel_rfl) ?_
  repeat (any_goals (first | go_big_quiet_step ((exact Gives.quiet (HG.out _))) | quiet_step ((exact Gives.quiet (HG.out _)))))
  refine wpQuiet_nil ?_
  intro _ hw'
  obtain ⟨y, hw''⟩ := hw'
  subst hw''
  have V1 := Lib.hid (V0.out.grow ((Ext.refl _).lift y))
  clear V0 HG hgl c0 c1 c2 c3 c4 c5 c6 c7
  generalize lift W y = W1 at *
  obtain ⟨hgl, c0, c1, c2, c3, c4, c5, c6, c7⟩ := V1.out.cells
  by_cases hgt : s.most < gainS l ord
  · have HC : Hid (Calls Try.prog 43 #[.slice av ord.length cv] W1 (OutL 2 1 cellI W1 ord)) := CloneInt_any av cv ord W1 V1.out.row (by omega)
    go_wp2_with fail
    refine HC.out.mono ?_
    rintro e w2 ⟨ab2, cb2, rfl, hcb2, HO2, HR2, E2⟩
    have V3 := Lib.hid (V1.out.better E2 HO2 HR2 hcb2 (gainS l ord))
    have fz5 := (V1.out.grow E2).frozen 5
    have fz6 := (V1.out.grow E2).frozen 6
    obtain ⟨hgl2, d0, d1, d2, d3, d4, d5, d6, d7⟩ := (V1.out.grow E2).cells
    clear V1 HC HO2 HR2 hgl c0 c1 c2 c3 c4 c5 c6 c7
    go_wp2_with fail
    generalize (w2.setCell ⟨g, 5, none⟩ (.slice ab2 ord.length cb2)).setCell ⟨g, 6, none⟩ (.int .i64 (gainS l ord)) = W3 at *
    clear hgl2 d0 d1 d2 d3 d4 d5 d6 d7 fz5 fz6 E2
    obtain ⟨s1, hs1⟩ : ∃ s1 : St, s1 = ⟨ord, gainS l ord, s.left, s.found⟩ := ⟨_, rfl⟩
    have hl1 : 0 ≤ s1.left := by rw [hs1]; exact hl
    have hf1 : Hid (s1.found = false) := by rw [hs1]; exact hfn.out
    have hu : Hid ((all && ord.length == l.length) = false → updI l all ord s = s1) := fun h => by rw [hs1]; exact updI_ft h hgt
    have ht : Hid ((all && ord.length == l.length) = true → updI l all ord s = ⟨ord, s1.most, s1.left, true⟩) := fun h => by rw [hs1]; exact updI_tt h hgt
    rw [← hs1] at V3
    clear hs1 hgt
    obtain ⟨hgl, c0, c1, c2, c3, c4, c5, c6, c7⟩ := V3.out.cells
    cases all
    · have hu1 : Hid (updI l false ord s = s1) := hu.out rfl
      clear hu ht
      refine region_quiet (by kernel_rfl) (by kernel_rfl) ?_
      repeat (any_goals (first | go_big_quiet_step (fail) | quiet_step (fail)))
      refine wpQuiet_nil ?_
      intro _ hw'
      obtain ⟨y, hw''⟩ := hw'
      subst hw''
      replace V3 := Lib.hid (V3.out.grow ((Ext.refl _).lift y))
      clear hgl c0 c1 c2 c3 c4 c5 c6 c7
      obtain ⟨hgl, c0, c1, c2, c3, c4, c5, c6, c7⟩ := V3.out.cells
      go_wp2_with fail
      go_loopw [66] (fun i wr => ∃ (k : Nat) (s' : St) (av : Option Addr) (cv : Nat) (ab : Option Addr) (cb : Nat), k ≤ l.length ∧ i = .int .i64 k ∧ Hid (loopV (okS l crews) rec ord s1 k = s') ∧ Hid (VI w0 wr a l.length cap crews false g s' ord av cv ab cb) ∧ Hid (s'.found = false) ∧ 0 ≤ s'.left) (fun i _ => l.length - (intOf i).toNat)
      case atStart => exact ⟨0, s1, av, cv, ab2, cb2, Nat.zero_le _, rfl, rfl, V3.out, hf1.out, hl1⟩
      case round =>
        clear V3 hgl c0 c1 c2 c3 c4 c5 c6 c7
        obtain ⟨k, s', av', cv', ab', cb', hk, rfl, hs', V, hf', hl'⟩ := hrel
        obtain ⟨hgl, c0, c1, c2, c3, c4, c5, c6, c7⟩ := V.out.cells
        by_cases hlt : k < l.length
        · have HC : Hid (Calls Try.prog 38 #[.slice av' ord.length cv', .int .i64 k] wr fun e w' => e = .returned (.bool (hasB ord k)) ∧ w' = wr) := Contains_any av' cv' ord k wr V.out.row (by omega)
          cases hh : hasB ord (k : Int)
          · rw [hh] at HC
            obtain ⟨O, hO⟩ : ∃ O : List Int, O = ord ++ [(k : Int)] := ⟨_, rfl⟩
            have hOl : Hid (O.length = ord.length + 1) := by show _ = _; rw [hO]; simp
            have hO9 : O.length ≤ 9 := by rw [hOl.out]; omega
            have HO := Lib.hid hO
            have HKO : Hid (ShotsOk l O) := by show ShotsOk _ _; rw [hO]; exact HK.out.push hlt
            have HH := Lib.hid hh
            have fz4 := V.out.frozen 4
            clear hO hh
            go_wp2_with (first
              | (go_at_call 38; refine HC.out.mono ?_; rintro e w' ⟨rfl, hw⟩; subst hw; have V1 := Lib.hid (V.out.grow ((Ext.refl _).alloc (.cells #[.int .i64 k] 2))); have HR1 : Hid (IntAt (w'.alloc (.cells #[.int .i64 k] 2)) (some ⟨w'.heap.size, 0, none⟩) [(k : Int)]) := rows_int _ _ rfl; clear HC)
              | (at_builtin; refine wpList_pushAt elInt oneInt rfl _ _ rfl (g + 1) _ ord (by rfl) V1.out.srch.lst _ 1 1 [(k : Int)] rfl (by rfl) HR1.out (by have := hOl.out; omega) (by omega) (by rw [size_new]; omega) ?_; intro v' w3 HL hg3 hat3; rw [← HO.out] at HL; obtain ⟨av2, cv2, rfl, hcv2, -, -, -⟩ := HL.shape; have V4 := Lib.hid (V1.out.pushed HL hg3 hat3 hcv2); obtain ⟨e0, e1, e2⟩ := V1.out.mid hg3; clear V1 HR1 HL hg3 hat3 hgl c0 c1 c2 c3 c4 c5 c6 c7 fz4))
            generalize w3.setCell ⟨g, 4, none⟩ (.slice av2 O.length cv2) = W4 at *
            clear e0 e1 e2
            obtain ⟨hgl, c0, c1, c2, c3, c4, c5, c6, c7⟩ := V4.out.cells
            have HW : Hid (∀ w', Ext W4 w' → Calls Try.prog 35 #[.slice a l.length cap, .slice av2 O.length cv2, .int .i64 (crews : Int)] w' (OutS 53 2 Work.cell w' (worksV l O crews) [.bool (worksB l O crews)])) := fun w' e =>
              worksOf_any a cap l av2 cv2 O crews w' (HA.out.ext (V4.out.srch.ext.trans e)) (V4.out.row.ext e) HKO.out hc0 hc1 (by omega)
            refine Grow.region [0, 1, 2, 3, 4, 5, 6, 7, 8, 9, 10, 11] [(false, 12), (false, 13), (true, 14), (true, 15), (true, 16), (true, 17)] (by kernel_rfl) (by kernel_rfl) ?_
            simp only [Grow.pick, Grow.pickB, List.getElem?_cons_succ, List.getElem?_cons_zero]
            repeat
              refine Grow.heads_step (fun K' hK => ⟨rfl, ?_⟩)
              apply Exists.intro
              apply And.intro
              · intro w' hw'
                obtain ⟨x', rfl⟩ := hw'
                go_simp
                first | done | rfl | (rw [if_neg (by omega)]; done) | (rw [if_neg (by omega)]; rfl) | (rw [if_pos (by omega)]; done) | (rw [if_pos (by omega)]; rfl)
              go_simp
              refine hK _ ?_
              clear hK K'
            refine Grow.heads_nil ?_
            intro w5 e5
            refine Grow.seq_step (fun K' hK => ⟨rfl, ?_⟩)
            go_simp
            simp only [Grow.upon]
            refine (HW.out w5 e5).mono ?_
            rintro e w6 ⟨a6, cap6, rfl, -, -, -, E6⟩
            refine ⟨_, rfl, E6, fun w7 e7 => hK _ _ ?_⟩
            clear hK K'
            refine Grow.seq_step (fun K' hK => ⟨rfl, ?_⟩)
            go_simp
            try rw [if_neg (by omega)]
            simp only [Grow.upon]
            refine ⟨Ext.refl _, fun w8 e8 => hK _ _ ?_⟩
            clear hK K'
            refine Grow.seq_pure (fun K' hK => ⟨rfl, ?_⟩)
            apply Exists.intro
            apply And.intro
            · intro w' hw'
              obtain ⟨x', rfl⟩ := hw'
              go_simp
              first | done | rfl | (rw [if_neg (by omega)]; done) | (rw [if_neg (by omega)]; rfl)
            intro w9 e9
            go_simp
            refine hK _ _ ?_
            clear hK K'
            refine Grow.seq_pure (fun K' hK => ⟨rfl, ?_⟩)
            apply Exists.intro
            apply And.intro
            · intro w' hw'
              obtain ⟨x', rfl⟩ := hw'
              go_simp
              first | done | rfl | (rw [if_neg (by omega)]; done) | (rw [if_neg (by omega)]; rfl)
            intro w10 e10
            go_simp
            refine hK _ _ ?_
            clear hK K'
            refine Grow.seq_pure (fun K' hK => ⟨rfl, ?_⟩)
            apply Exists.intro
            apply And.intro
            · intro w' hw'
              obtain ⟨x', rfl⟩ := hw'
              go_simp
              first | done | rfl | (rw [if_neg (by omega)]; done) | (rw [if_neg (by omega)]; rfl)
            intro w11 e11
            go_simp
            refine hK _ _ ?_
            clear hK K'
            refine Grow.seq_pure (fun K' hK => ⟨rfl, ?_⟩)
            apply Exists.intro
            apply And.intro
            · intro w' hw'
              obtain ⟨x', rfl⟩ := hw'
              go_simp
              first | done | rfl | (rw [if_neg (by omega)]; done) | (rw [if_neg (by omega)]; rfl)
            intro w12 e12
            go_simp
            refine hK _ _ ?_
            clear hK K'
            refine Grow.seq_nil ?_
            have V5 := Lib.hid (V4.out.grow (e5.trans (E6.trans (e7.trans (e8.trans (e9.trans (e10.trans (e11.trans e12))))))))
            clear V4 HW e5 E6 e7 e8 e9 e10 e11 e12 hgl c0 c1 c2 c3 c4 c5 c6 c7
            obtain ⟨hgl, c0, c1, c2, c3, c4, c5, c6, c7⟩ := V5.out.cells
            have hlo := V5.out.lo
            have hhi := V5.out.hi
            cases hw : worksB l O crews
            · have hnx : Hid (loopV (okS l crews) rec ord s1 (k + 1) = s') := by
                show stepV _ _ _ (loopV (okS l crews) rec ord s1 k) k = _; rw [hs'.out]; exact stepV_no (by show worksB l (ord ++ [(k : Int)]) crews = false; rw [← HO.out]; exact hw)
              go_wp2_with fail
              clear hw
              try clear hgl c0 c1 c2 c3 c4 c5 c6 c7
              obtain ⟨hgl, c0, c1, c2, c3, c4, c5, c6, c7⟩ := V5.out.cells
              rw [hOl.out] at c4
              refine Grow.region_tail 14 [0, 1, 2, 3, 4, 5, 6, 7, 8, 9, 10, 11, 12, 13] [] (by kernel_rfl) (by kernel_rfl) ?_
              simp only [Grow.pick, Grow.pickB, List.getElem?_cons_succ, List.getElem?_cons_zero, List.drop_succ_cons, List.drop_zero]
              repeat
                refine Grow.heads_step (fun K' hK => ⟨rfl, ?_⟩)
                apply Exists.intro
                apply And.intro
                · intro w' hw'
                  obtain ⟨x', rfl⟩ := hw'
                  go_simp
                  first | done | rfl | (rw [if_neg (by omega)]; done) | (rw [if_neg (by omega)]; rfl) | (rw [if_pos (by omega)]; done) | (rw [if_pos (by omega)]; rfl)
                go_simp
                refine hK _ ?_
                clear hK K'
              refine Grow.heads_step (fun K' hK => ⟨rfl, .slice av2 ord.length cv2, ?_, ?_⟩)
              · intro w' hw'
                obtain ⟨x', rfl⟩ := hw'
                go_simp
                rw [wrap_len hlen, if_pos ⟨by omega, by have := V5.out.capv; rw [hOl.out] at this; omega⟩, Int.toNat_natCast]
              refine hK _ ?_
              clear hK K'
              repeat
                refine Grow.heads_step (fun K' hK => ⟨rfl, ?_⟩)
                apply Exists.intro
                apply And.intro
                · intro w' hw'
                  obtain ⟨x', rfl⟩ := hw'
                  go_simp
                  first | done | rfl | (rw [if_neg (by omega)]; done) | (rw [if_neg (by omega)]; rfl) | (rw [if_pos (by omega)]; done) | (rw [if_pos (by omega)]; rfl)
                go_simp
                refine hK _ ?_
                clear hK K'
              refine Grow.heads_nil ?_
              intro w20 e20
              refine Grow.seq_nil ?_
              have V9 := Lib.hid ((V5.out.grow e20).cut HO.out)
              have fz4 := (V5.out.grow e20).frozen 4
              clear hgl c0 c1 c2 c3 c4 c5 c6 c7
              obtain ⟨hgl, c0, c1, c2, c3, c4, c5, c6, c7⟩ := (V5.out.grow e20).cells
              clear e20
              rw [hf'.out] at c7
              go_wp2_with fail
              go_roundw
              case rel => exact ⟨k + 1, s', av2, cv2, ab', cb', by omega, by go_num, hnx.out, V9.out, hf'.out, hl'⟩
              case measure => simp [intOf]; omega
            · have hok : Hid (okS l crews (ord ++ [(k : Int)]) = true) := by show worksB l (ord ++ [(k : Int)]) crews = true; rw [← HO.out]; exact hw
              have V6 := Lib.hid (V5.out.spend (x := s'.left - 1) (by omega) (by omega))
              have fz2 := V5.out.frozen 2
              rcases Int.lt_or_le 0 s'.left with hl0 | hl0
              · have hnx : Hid (loopV (okS l crews) rec ord s1 (k + 1) = rec (ord ++ [(k : Int)]) { s' with left := s'.left - 1 }) := by
                  show stepV _ _ _ (loopV (okS l crews) rec ord s1 k) k = _; rw [hs'.out]; exact stepV_go hf'.out HH.out hok.out hl0
                clear hok V5
                go_wp2_with fail
                have HR6 : Hid (Calls Try.prog 28 #[.pointer (some ⟨g, 0, none⟩)] (w12.setCell ⟨g, 2, none⟩ (.int .i64 (s'.left - 1))) fun e w' => e = .returned (.tuple #[]) ∧ ∃ av' cv' ab' cb', VI w0 w' a l.length cap crews false g (rec (ord ++ [(k : Int)]) { s' with left := s'.left - 1 }) (ord ++ [(k : Int)]) av' cv' ab' cb') :=
                  HR.out k { s' with left := s'.left - 1 } _ av2 cv2 ab' cb' hlt HH.out (by rw [← HO.out]; exact V6.out) hf'.out (by show 0 ≤ s'.left - 1; omega)
                refine HR6.out.mono ?_
                rintro e w13 ⟨rfl, av7, cv7, ab7, cb7, hV7⟩
                rw [← HO.out] at hV7 hnx
                obtain ⟨s7, hs7⟩ : ∃ s7, s7 = rec O { s' with left := s'.left - 1 } := ⟨_, rfl⟩
                rw [← hs7] at hV7 hnx
                have V7 := Lib.hid hV7
                clear hV7 hs7 V6 HR6 hgl c0 c1 c2 c3 c4 c5 c6 c7 hw fz2
                go_wp2_with fail
                have hlo7 := V7.out.lo
                rcases Int.lt_or_le s7.left 0 with hl7 | hl7
                · try clear hgl c0 c1 c2 c3 c4 c5 c6 c7
                  obtain ⟨hgl, c0, c1, c2, c3, c4, c5, c6, c7⟩ := V7.out.cells
                  rw [hOl.out] at c4
                  refine Grow.region_tail 14 [0, 1, 2, 3, 4, 5, 6, 7, 8, 9, 10, 11, 12, 13] [] (by kernel_rfl) (by kernel_rfl) ?_
                  simp only [Grow.pick, Grow.pickB, List.getElem?_cons_succ, List.getElem?_cons_zero, List.drop_succ_cons, List.drop_zero]
                  repeat
                    refine Grow.heads_step (fun K' hK => ⟨rfl, ?_⟩)
                    apply Exists.intro
                    apply And.intro
                    · intro w' hw'
                      obtain ⟨x', rfl⟩ := hw'
                      go_simp
                      first | done | rfl | (rw [if_neg (by omega)]; done) | (rw [if_neg (by omega)]; rfl) | (rw [if_pos (by omega)]; done) | (rw [if_pos (by omega)]; rfl)
                    go_simp
                    refine hK _ ?_
                    clear hK K'
                  refine Grow.heads_step (fun K' hK => ⟨rfl, .slice av7 ord.length cv7, ?_, ?_⟩)
                  · intro w' hw'
                    obtain ⟨x', rfl⟩ := hw'
                    go_simp
                    rw [wrap_len hlen, if_pos ⟨by omega, by have := V7.out.capv; rw [hOl.out] at this; omega⟩, Int.toNat_natCast]
                  refine hK _ ?_
                  clear hK K'
                  repeat
                    refine Grow.heads_step (fun K' hK => ⟨rfl, ?_⟩)
                    apply Exists.intro
                    apply And.intro
                    · intro w' hw'
                      obtain ⟨x', rfl⟩ := hw'
                      go_simp
                      first | done | rfl | (rw [if_neg (by omega)]; done) | (rw [if_neg (by omega)]; rfl) | (rw [if_pos (by omega)]; done) | (rw [if_pos (by omega)]; rfl)
                    go_simp
                    refine hK _ ?_
                    clear hK K'
                  refine Grow.heads_nil ?_
                  intro w20 e20
                  refine Grow.seq_nil ?_
                  have V9 := Lib.hid ((V7.out.grow e20).cut HO.out)
                  have fz4 := (V7.out.grow e20).frozen 4
                  clear hgl c0 c1 c2 c3 c4 c5 c6 c7
                  obtain ⟨hgl, c0, c1, c2, c3, c4, c5, c6, c7⟩ := (V7.out.grow e20).cells
                  clear e20
                  go_wp2_with fail
                  (try simp only [Exit.inBlock, Exit.then])
                  first | refine bodyPost_ret (results_none rfl _ _ _) rfl ?_ | refine bodyPost_end (results_none rfl _ _ _) rfl ?_
                  refine ⟨rfl, av7, cv7, ab7, cb7, ?_⟩
                  rw [hu1.out, loopV_stop (j := 0) (k := k + 1) (by rw [hnx.out]; exact .inl hl7) l.length (by omega), hnx.out]
                  exact V9.out
                · cases hf7 : s7.found
                  · have hf8 := Lib.hid hf7
                    clear hf7
                    try clear hgl c0 c1 c2 c3 c4 c5 c6 c7
                    obtain ⟨hgl, c0, c1, c2, c3, c4, c5, c6, c7⟩ := V7.out.cells
                    rw [hOl.out] at c4
                    refine Grow.region_tail 14 [0, 1, 2, 3, 4, 5, 6, 7, 8, 9, 10, 11, 12, 13] [] (by kernel_rfl) (by kernel_rfl) ?_
                    simp only [Grow.pick, Grow.pickB, List.getElem?_cons_succ, List.getElem?_cons_zero, List.drop_succ_cons, List.drop_zero]
                    repeat
                      refine Grow.heads_step (fun K' hK => ⟨rfl, ?_⟩)
                      apply Exists.intro
                      apply And.intro
                      · intro w' hw'
                        obtain ⟨x', rfl⟩ := hw'
                        go_simp
                        first | done | rfl | (rw [if_neg (by omega)]; done) | (rw [if_neg (by omega)]; rfl) | (rw [if_pos (by omega)]; done) | (rw [if_pos (by omega)]; rfl)
                      go_simp
                      refine hK _ ?_
                      clear hK K'
                    refine Grow.heads_step (fun K' hK => ⟨rfl, .slice av7 ord.length cv7, ?_, ?_⟩)
                    · intro w' hw'
                      obtain ⟨x', rfl⟩ := hw'
                      go_simp
                      rw [wrap_len hlen, if_pos ⟨by omega, by have := V7.out.capv; rw [hOl.out] at this; omega⟩, Int.toNat_natCast]
                    refine hK _ ?_
                    clear hK K'
                    repeat
                      refine Grow.heads_step (fun K' hK => ⟨rfl, ?_⟩)
                      apply Exists.intro
                      apply And.intro
                      · intro w' hw'
                        obtain ⟨x', rfl⟩ := hw'
                        go_simp
                        first | done | rfl | (rw [if_neg (by omega)]; done) | (rw [if_neg (by omega)]; rfl) | (rw [if_pos (by omega)]; done) | (rw [if_pos (by omega)]; rfl)
                      go_simp
                      refine hK _ ?_
                      clear hK K'
                    refine Grow.heads_nil ?_
                    intro w20 e20
                    refine Grow.seq_nil ?_
                    have V9 := Lib.hid ((V7.out.grow e20).cut HO.out)
                    have fz4 := (V7.out.grow e20).frozen 4
                    clear hgl c0 c1 c2 c3 c4 c5 c6 c7
                    obtain ⟨hgl, c0, c1, c2, c3, c4, c5, c6, c7⟩ := (V7.out.grow e20).cells
                    clear e20
                    rw [hf8.out] at c7
                    go_wp2_with fail
                    go_roundw
                    case rel => exact ⟨k + 1, s7, av7, cv7, ab7, cb7, by omega, by go_num, hnx.out, V9.out, hf8.out, hl7⟩
                    case measure => simp [intOf]; omega
                  · have hf8 := Lib.hid hf7
                    clear hf7
                    try clear hgl c0 c1 c2 c3 c4 c5 c6 c7
                    obtain ⟨hgl, c0, c1, c2, c3, c4, c5, c6, c7⟩ := V7.out.cells
                    rw [hOl.out] at c4
                    refine Grow.region_tail 14 [0, 1, 2, 3, 4, 5, 6, 7, 8, 9, 10, 11, 12, 13] [] (by kernel_rfl) (by kernel_rfl) ?_
                    simp only [Grow.pick, Grow.pickB, List.getElem?_cons_succ, List.getElem?_cons_zero, List.drop_succ_cons, List.drop_zero]
                    repeat
                      refine Grow.heads_step (fun K' hK => ⟨rfl, ?_⟩)
                      apply Exists.intro
                      apply And.intro
                      · intro w' hw'
                        obtain ⟨x', rfl⟩ := hw'
                        go_simp
                        first | done | rfl | (rw [if_neg (by omega)]; done) | (rw [if_neg (by omega)]; rfl) | (rw [if_pos (by omega)]; done) | (rw [if_pos (by omega)]; rfl)
                      go_simp
                      refine hK _ ?_
                      clear hK K'
                    refine Grow.heads_step (fun K' hK => ⟨rfl, .slice av7 ord.length cv7, ?_, ?_⟩)
                    · intro w' hw'
                      obtain ⟨x', rfl⟩ := hw'
                      go_simp
                      rw [wrap_len hlen, if_pos ⟨by omega, by have := V7.out.capv; rw [hOl.out] at this; omega⟩, Int.toNat_natCast]
                    refine hK _ ?_
                    clear hK K'
                    repeat
                      refine Grow.heads_step (fun K' hK => ⟨rfl, ?_⟩)
                      apply Exists.intro
                      apply And.intro
                      · intro w' hw'
                        obtain ⟨x', rfl⟩ := hw'
                        go_simp
                        first | done | rfl | (rw [if_neg (by omega)]; done) | (rw [if_neg (by omega)]; rfl) | (rw [if_pos (by omega)]; done) | (rw [if_pos (by omega)]; rfl)
                      go_simp
                      refine hK _ ?_
                      clear hK K'
                    refine Grow.heads_nil ?_
                    intro w20 e20
                    refine Grow.seq_nil ?_
                    have V9 := Lib.hid ((V7.out.grow e20).cut HO.out)
                    have fz4 := (V7.out.grow e20).frozen 4
                    clear hgl c0 c1 c2 c3 c4 c5 c6 c7
                    obtain ⟨hgl, c0, c1, c2, c3, c4, c5, c6, c7⟩ := (V7.out.grow e20).cells
                    clear e20
                    rw [hf8.out] at c7
                    go_wp2_with fail
                    (try simp only [Exit.inBlock, Exit.then])
                    first | refine bodyPost_ret (results_none rfl _ _ _) rfl ?_ | refine bodyPost_end (results_none rfl _ _ _) rfl ?_
                    refine ⟨rfl, av7, cv7, ab7, cb7, ?_⟩
                    rw [hu1.out, loopV_stop (j := 0) (k := k + 1) (by rw [hnx.out]; exact .inr hf8.out) l.length (by omega), hnx.out]
                    exact V9.out
              · have hnx : Hid (loopV (okS l crews) rec ord s1 (k + 1) = { s' with left := s'.left - 1 }) := by
                  show stepV _ _ _ (loopV (okS l crews) rec ord s1 k) k = _; rw [hs'.out, stepV_full hf'.out HH.out hok.out (by omega), show s'.left - 1 = -1 by omega]
                clear hok V5
                go_wp2_with fail
                generalize w12.setCell ⟨g, 2, none⟩ (.int .i64 (s'.left - 1)) = W6 at *
                clear hw hgl c0 c1 c2 c3 c4 c5 c6 c7 fz2
                try clear hgl c0 c1 c2 c3 c4 c5 c6 c7
                obtain ⟨hgl, c0, c1, c2, c3, c4, c5, c6, c7⟩ := V6.out.cells
                rw [hOl.out] at c4
                refine Grow.region_tail 14 [0, 1, 2, 3, 4, 5, 6, 7, 8, 9, 10, 11, 12, 13] [] (by kernel_rfl) (by kernel_rfl) ?_
                simp only [Grow.pick, Grow.pickB, List.getElem?_cons_succ, List.getElem?_cons_zero, List.drop_succ_cons, List.drop_zero]
                repeat
                  refine Grow.heads_step (fun K' hK => ⟨rfl, ?_⟩)
                  apply Exists.intro
                  apply And.intro
                  · intro w' hw'
                    obtain ⟨x', rfl⟩ := hw'
                    go_simp
                    first | done | rfl | (rw [if_neg (by omega)]; done) | (rw [if_neg (by omega)]; rfl) | (rw [if_pos (by omega)]; done) | (rw [if_pos (by omega)]; rfl)
                  go_simp
                  refine hK _ ?_
                  clear hK K'
                refine Grow.heads_step (fun K' hK => ⟨rfl, .slice av2 ord.length cv2, ?_, ?_⟩)
                · intro w' hw'
                  obtain ⟨x', rfl⟩ := hw'
                  go_simp
                  rw [wrap_len hlen, if_pos ⟨by omega, by have := V6.out.capv; rw [hOl.out] at this; omega⟩, Int.toNat_natCast]
                refine hK _ ?_
                clear hK K'
                repeat
                  refine Grow.heads_step (fun K' hK => ⟨rfl, ?_⟩)
                  apply Exists.intro
                  apply And.intro
                  · intro w' hw'
                    obtain ⟨x', rfl⟩ := hw'
                    go_simp
                    first | done | rfl | (rw [if_neg (by omega)]; done) | (rw [if_neg (by omega)]; rfl) | (rw [if_pos (by omega)]; done) | (rw [if_pos (by omega)]; rfl)
                  go_simp
                  refine hK _ ?_
                  clear hK K'
                refine Grow.heads_nil ?_
                intro w20 e20
                refine Grow.seq_nil ?_
                have V9 := Lib.hid ((V6.out.grow e20).cut HO.out)
                have fz4 := (V6.out.grow e20).frozen 4
                clear hgl c0 c1 c2 c3 c4 c5 c6 c7
                obtain ⟨hgl, c0, c1, c2, c3, c4, c5, c6, c7⟩ := (V6.out.grow e20).cells
                clear e20
                go_wp2_with fail
                (try simp only [Exit.inBlock, Exit.then])
                first | refine bodyPost_ret (results_none rfl _ _ _) rfl ?_ | refine bodyPost_end (results_none rfl _ _ _) rfl ?_
                refine ⟨rfl, av2, cv2, ab', cb', ?_⟩
                rw [hu1.out, loopV_stop (j := 0) (k := k + 1) (by rw [hnx.out]; exact .inl (by show s'.left - 1 < 0; omega)) l.length (by omega), hnx.out]
                exact V9.out
          · rw [hh] at HC
            have hnx : Hid (loopV (okS l crews) rec ord s1 (k + 1) = s') := by show stepV _ _ _ (loopV (okS l crews) rec ord s1 k) k = _; rw [hs'.out]; exact stepV_has hh
            clear hh
            go_wp2_with (go_at_call 38; refine HC.out.mono ?_; rintro e w' ⟨rfl, hw⟩; subst hw)
            go_roundw
            case rel => exact ⟨k + 1, s', av', cv', ab', cb', by omega, by go_num, hnx.out, V.out, hf'.out, hl'⟩
            case measure => simp [intOf]; omega
        · obtain rfl : k = l.length := by omega
          go_wp2_with fail
          (try simp only [Exit.inBlock, Exit.then])
          first | refine bodyPost_ret (results_none rfl _ _ _) rfl ?_ | refine bodyPost_end (results_none rfl _ _ _) rfl ?_
          exact ⟨rfl, av', cv', ab', cb', by rw [hu1.out, hs'.out]; exact V.out⟩
    · by_cases hle : ord.length = l.length
      · have hq : ((ord.length : Int) == (l.length : Int)) = true := by rw [hle]; simp
        have hu1 := Lib.hid (ht.out (by rw [hle]; simp))
        clear hu ht hle
        refine region_quiet (by kernel_rfl) (by kernel_rfl) ?_
        repeat (any_goals (first | go_big_quiet_step (fail) | quiet_step (fail)))
        refine wpQuiet_nil ?_
        intro _ hw'
        obtain ⟨y, hw''⟩ := hw'
        subst hw''
        replace V3 := Lib.hid (V3.out.grow ((Ext.refl _).lift y))
        generalize lift _ y = W4 at *
        clear hgl c0 c1 c2 c3 c4 c5 c6 c7
        obtain ⟨hgl, c0, c1, c2, c3, c4, c5, c6, c7⟩ := V3.out.cells
        have HC : Hid (Calls Try.prog 43 #[.slice av ord.length cv] W4 (OutL 2 1 cellI W4 ord)) := CloneInt_any av cv ord W4 V3.out.row (by omega)
        go_wp2_with fail
        refine HC.out.mono ?_
        rintro e w5 ⟨ab5, cb5, rfl, hcb5, HO5, HR5, E5⟩
        have V5 := Lib.hid (V3.out.done E5 HO5 HR5 hcb5)
        have fz5 := (V3.out.grow E5).frozen 5
        have fz7 := (V3.out.grow E5).frozen 7
        obtain ⟨hgl2, d0, d1, d2, d3, d4, d5, d6, d7⟩ := (V3.out.grow E5).cells
        clear V3 HC HO5 HR5 hgl c0 c1 c2 c3 c4 c5 c6 c7
        go_wp2_with fail
        (try simp only [Exit.inBlock, Exit.then])
        first | refine bodyPost_ret (results_none rfl _ _ _) rfl ?_ | refine bodyPost_end (results_none rfl _ _ _) rfl ?_
        refine ⟨rfl, av, cv, ab5, cb5, ?_⟩
        rw [hu1.out, loopV_stop (j := 0) (k := 0) (.inr rfl) l.length (Nat.zero_le _)]
        exact V5.out
      · have hq : ((ord.length : Int) == (l.length : Int)) = false := by rw [beq_eq_false_iff_ne]; omega
        have hu1 := Lib.hid (hu.out (by rw [Bool.true_and, beq_eq_false_iff_ne]; exact hle))
        clear hu ht hle
        refine region_quiet (by kernel_rfl) (by kernel_rfl) ?_
        repeat (any_goals (first | go_big_quiet_step (fail) | quiet_step (fail)))
        refine wpQuiet_nil ?_
        intro _ hw'
        obtain ⟨y, hw''⟩ := hw'
        subst hw''
        replace V3 := Lib.hid (V3.out.grow ((Ext.refl _).lift y))
        clear hgl c0 c1 c2 c3 c4 c5 c6 c7 hq
        obtain ⟨hgl, c0, c1, c2, c3, c4, c5, c6, c7⟩ := V3.out.cells
        go_wp2_with fail
        go_loopw [66] (fun i wr => ∃ (k : Nat) (s' : St) (av : Option Addr) (cv : Nat) (ab : Option Addr) (cb : Nat), k ≤ l.length ∧ i = .int .i64 k ∧ Hid (loopV (okS l crews) rec ord s1 k = s') ∧ Hid (VI w0 wr a l.length cap crews true g s' ord av cv ab cb) ∧ Hid (s'.found = false) ∧ 0 ≤ s'.left) (fun i _ => l.length - (intOf i).toNat)
        case atStart => exact ⟨0, s1, av, cv, ab2, cb2, Nat.zero_le _, rfl, rfl, V3.out, hf1.out, hl1⟩
        case round =>
          clear V3 hgl c0 c1 c2 c3 c4 c5 c6 c7
          obtain ⟨k, s', av', cv', ab', cb', hk, rfl, hs', V, hf', hl'⟩ := hrel
          obtain ⟨hgl, c0, c1, c2, c3, c4, c5, c6, c7⟩ := V.out.cells
          by_cases hlt : k < l.length
          · have HC : Hid (Calls Try.prog 38 #[.slice av' ord.length cv', .int .i64 k] wr fun e w' => e = .returned (.bool (hasB ord k)) ∧ w' = wr) := Contains_any av' cv' ord k wr V.out.row (by omega)
            cases hh : hasB ord (k : Int)
            · rw [hh] at HC
              obtain ⟨O, hO⟩ : ∃ O : List Int, O = ord ++ [(k : Int)] := ⟨_, rfl⟩
              have hOl : Hid (O.length = ord.length + 1) := by show _ = _; rw [hO]; simp
              have hO9 : O.length ≤ 9 := by rw [hOl.out]; omega
              have HO := Lib.hid hO
              have HKO : Hid (ShotsOk l O) := by show ShotsOk _ _; rw [hO]; exact HK.out.push hlt
              have HH := Lib.hid hh
              have fz4 := V.out.frozen 4
              clear hO hh
              go_wp2_with (first
                | (go_at_call 38; refine HC.out.mono ?_; rintro e w' ⟨rfl, hw⟩; subst hw; have V1 := Lib.hid (V.out.grow ((Ext.refl _).alloc (.cells #[.int .i64 k] 2))); have HR1 : Hid (IntAt (w'.alloc (.cells #[.int .i64 k] 2)) (some ⟨w'.heap.size, 0, none⟩) [(k : Int)]) := rows_int _ _ rfl; clear HC)
                | (at_builtin; refine wpList_pushAt elInt oneInt rfl _ _ rfl (g + 1) _ ord (by rfl) V1.out.srch.lst _ 1 1 [(k : Int)] rfl (by rfl) HR1.out (by have := hOl.out; omega) (by omega) (by rw [size_new]; omega) ?_; intro v' w3 HL hg3 hat3; rw [← HO.out] at HL; obtain ⟨av2, cv2, rfl, hcv2, -, -, -⟩ := HL.shape; have V4 := Lib.hid (V1.out.pushed HL hg3 hat3 hcv2); obtain ⟨e0, e1, e2⟩ := V1.out.mid hg3; clear V1 HR1 HL hg3 hat3 hgl c0 c1 c2 c3 c4 c5 c6 c7 fz4))
              generalize w3.setCell ⟨g, 4, none⟩ (.slice av2 O.length cv2) = W4 at *
              clear e0 e1 e2
              obtain ⟨hgl, c0, c1, c2, c3, c4, c5, c6, c7⟩ := V4.out.cells
              have HW : Hid (∀ w', Ext W4 w' → Calls Try.prog 35 #[.slice a l.length cap, .slice av2 O.length cv2, .int .i64 (crews : Int)] w' (OutS 53 2 Work.cell w' (worksV l O crews) [.bool (worksB l O crews)])) := fun w' e =>
                worksOf_any a cap l av2 cv2 O crews w' (HA.out.ext (V4.out.srch.ext.trans e)) (V4.out.row.ext e) HKO.out hc0 hc1 (by omega)
              refine Grow.region [0, 1, 2, 3, 4, 5, 6, 7, 8, 9, 10, 11] [(false, 12), (false, 13), (true, 14), (true, 15), (true, 16), (true, 17)] (by kernel_rfl) (by kernel_rfl) ?_
              simp only [Grow.pick, Grow.pickB, List.getElem?_cons_succ, List.getElem?_cons_zero]
              repeat
                refine Grow.heads_step (fun K' hK => ⟨rfl, ?_⟩)
                apply Exists.intro
                apply And.intro
                · intro w' hw'
                  obtain ⟨x', rfl⟩ := hw'
                  go_simp
                  first | done | rfl | (rw [if_neg (by omega)]; done) | (rw [if_neg (by omega)]; rfl) | (rw [if_pos (by omega)]; done) | (rw [if_pos (by omega)]; rfl)
                go_simp
                refine hK _ ?_
                clear hK K'
              refine Grow.heads_nil ?_
              intro w5 e5
              refine Grow.seq_step (fun K' hK => ⟨rfl, ?_⟩)
              go_simp
              simp only [Grow.upon]
              refine (HW.out w5 e5).mono ?_
              rintro e w6 ⟨a6, cap6, rfl, -, -, -, E6⟩
              refine ⟨_, rfl, E6, fun w7 e7 => hK _ _ ?_⟩
              clear hK K'
              refine Grow.seq_step (fun K' hK => ⟨rfl, ?_⟩)
              go_simp
              try rw [if_neg (by omega)]
              simp only [Grow.upon]
              refine ⟨Ext.refl _, fun w8 e8 => hK _ _ ?_⟩
              clear hK K'
              refine Grow.seq_pure (fun K' hK => ⟨rfl, ?_⟩)
              apply Exists.intro
              apply And.intro
              · intro w' hw'
                obtain ⟨x', rfl⟩ := hw'
                go_simp
                first | done | rfl | (rw [if_neg (by omega)]; done) | (rw [if_neg (by omega)]; rfl)
              intro w9 e9
              go_simp
              refine hK _ _ ?_
              clear hK K'
              refine Grow.seq_pure (fun K' hK => ⟨rfl, ?_⟩)
              apply Exists.intro
              apply And.intro
              · intro w' hw'
                obtain ⟨x', rfl⟩ := hw'
                go_simp
                first | done | rfl | (rw [if_neg (by omega)]; done) | (rw [if_neg (by omega)]; rfl)
              intro w10 e10
              go_simp
              refine hK _ _ ?_
              clear hK K'
              refine Grow.seq_pure (fun K' hK => ⟨rfl, ?_⟩)
              apply Exists.intro
              apply And.intro
              · intro w' hw'
                obtain ⟨x', rfl⟩ := hw'
                go_simp
                first | done | rfl | (rw [if_neg (by omega)]; done) | (rw [if_neg (by omega)]; rfl)
              intro w11 e11
              go_simp
              refine hK _ _ ?_
              clear hK K'
              refine Grow.seq_pure (fun K' hK => ⟨rfl, ?_⟩)
              apply Exists.intro
              apply And.intro
              · intro w' hw'
                obtain ⟨x', rfl⟩ := hw'
                go_simp
                first | done | rfl | (rw [if_neg (by omega)]; done) | (rw [if_neg (by omega)]; rfl)
              intro w12 e12
              go_simp
              refine hK _ _ ?_
              clear hK K'
              refine Grow.seq_nil ?_
              have V5 := Lib.hid (V4.out.grow (e5.trans (E6.trans (e7.trans (e8.trans (e9.trans (e10.trans (e11.trans e12))))))))
              clear V4 HW e5 E6 e7 e8 e9 e10 e11 e12 hgl c0 c1 c2 c3 c4 c5 c6 c7
              obtain ⟨hgl, c0, c1, c2, c3, c4, c5, c6, c7⟩ := V5.out.cells
              have hlo := V5.out.lo
              have hhi := V5.out.hi
              cases hw : worksB l O crews
              · have hnx : Hid (loopV (okS l crews) rec ord s1 (k + 1) = s') := by
                  show stepV _ _ _ (loopV (okS l crews) rec ord s1 k) k = _; rw [hs'.out]; exact stepV_no (by show worksB l (ord ++ [(k : Int)]) crews = false; rw [← HO.out]; exact hw)
                go_wp2_with fail
                clear hw
                try clear hgl c0 c1 c2 c3 c4 c5 c6 c7
                obtain ⟨hgl, c0, c1, c2, c3, c4, c5, c6, c7⟩ := V5.out.cells
                rw [hOl.out] at c4
                refine Grow.region_tail 14 [0, 1, 2, 3, 4, 5, 6, 7, 8, 9, 10, 11, 12, 13] [] (by kernel_rfl) (by kernel_rfl) ?_
                simp only [Grow.pick, Grow.pickB, List.getElem?_cons_succ, List.getElem?_cons_zero, List.drop_succ_cons, List.drop_zero]
                repeat
                  refine Grow.heads_step (fun K' hK => ⟨rfl, ?_⟩)
                  apply Exists.intro
                  apply And.intro
                  · intro w' hw'
                    obtain ⟨x', rfl⟩ := hw'
                    go_simp
                    first | done | rfl | (rw [if_neg (by omega)]; done) | (rw [if_neg (by omega)]; rfl) | (rw [if_pos (by omega)]; done) | (rw [if_pos (by omega)]; rfl)
                  go_simp
                  refine hK _ ?_
                  clear hK K'
                refine Grow.heads_step (fun K' hK => ⟨rfl, .slice av2 ord.length cv2, ?_, ?_⟩)
                · intro w' hw'
                  obtain ⟨x', rfl⟩ := hw'
                  go_simp
                  rw [wrap_len hlen, if_pos ⟨by omega, by have := V5.out.capv; rw [hOl.out] at this; omega⟩, Int.toNat_natCast]
                refine hK _ ?_
                clear hK K'
                repeat
                  refine Grow.heads_step (fun K' hK => ⟨rfl, ?_⟩)
                  apply Exists.intro
                  apply And.intro
                  · intro w' hw'
                    obtain ⟨x', rfl⟩ := hw'
                    go_simp
                    first | done | rfl | (rw [if_neg (by omega)]; done) | (rw [if_neg (by omega)]; rfl) | (rw [if_pos (by omega)]; done) | (rw [if_pos (by omega)]; rfl)
                  go_simp
                  refine hK _ ?_
                  clear hK K'
                refine Grow.heads_nil ?_
                intro w20 e20
                refine Grow.seq_nil ?_
                have V9 := Lib.hid ((V5.out.grow e20).cut HO.out)
                have fz4 := (V5.out.grow e20).frozen 4
                clear hgl c0 c1 c2 c3 c4 c5 c6 c7
                obtain ⟨hgl, c0, c1, c2, c3, c4, c5, c6, c7⟩ := (V5.out.grow e20).cells
                clear e20
                rw [hf'.out] at c7
                go_wp2_with fail
                go_roundw
                case rel => exact ⟨k + 1, s', av2, cv2, ab', cb', by omega, by go_num, hnx.out, V9.out, hf'.out, hl'⟩
                case measure => simp [intOf]; omega
              · have hok : Hid (okS l crews (ord ++ [(k : Int)]) = true) := by show worksB l (ord ++ [(k : Int)]) crews = true; rw [← HO.out]; exact hw
                have V6 := Lib.hid (V5.out.spend (x := s'.left - 1) (by omega) (by omega))
                have fz2 := V5.out.frozen 2
                rcases Int.lt_or_le 0 s'.left with hl0 | hl0
                · have hnx : Hid (loopV (okS l crews) rec ord s1 (k + 1) = rec (ord ++ [(k : Int)]) { s' with left := s'.left - 1 }) := by
                    show stepV _ _ _ (loopV (okS l crews) rec ord s1 k) k = _; rw [hs'.out]; exact stepV_go hf'.out HH.out hok.out hl0
                  clear hok V5
                  go_wp2_with fail
                  have HR6 : Hid (Calls Try.prog 28 #[.pointer (some ⟨g, 0, none⟩)] (w12.setCell ⟨g, 2, none⟩ (.int .i64 (s'.left - 1))) fun e w' => e = .returned (.tuple #[]) ∧ ∃ av' cv' ab' cb', VI w0 w' a l.length cap crews true g (rec (ord ++ [(k : Int)]) { s' with left := s'.left - 1 }) (ord ++ [(k : Int)]) av' cv' ab' cb') :=
                    HR.out k { s' with left := s'.left - 1 } _ av2 cv2 ab' cb' hlt HH.out (by rw [← HO.out]; exact V6.out) hf'.out (by show 0 ≤ s'.left - 1; omega)
                  refine HR6.out.mono ?_
                  rintro e w13 ⟨rfl, av7, cv7, ab7, cb7, hV7⟩
                  rw [← HO.out] at hV7 hnx
                  obtain ⟨s7, hs7⟩ : ∃ s7, s7 = rec O { s' with left := s'.left - 1 } := ⟨_, rfl⟩
                  rw [← hs7] at hV7 hnx
                  have V7 := Lib.hid hV7
                  clear hV7 hs7 V6 HR6 hgl c0 c1 c2 c3 c4 c5 c6 c7 hw fz2
                  go_wp2_with fail
                  have hlo7 := V7.out.lo
                  rcases Int.lt_or_le s7.left 0 with hl7 | hl7
                  · try clear hgl c0 c1 c2 c3 c4 c5 c6 c7
                    obtain ⟨hgl, c0, c1, c2, c3, c4, c5, c6, c7⟩ := V7.out.cells
                    rw [hOl.out] at c4
                    refine Grow.region_tail 14 [0, 1, 2, 3, 4, 5, 6, 7, 8, 9, 10, 11, 12, 13] [] (by kernel_rfl) (by kernel_rfl) ?_
                    simp only [Grow.pick, Grow.pickB, List.getElem?_cons_succ, List.getElem?_cons_zero, List.drop_succ_cons, List.drop_zero]
                    repeat
                      refine Grow.heads_step (fun K' hK => ⟨rfl, ?_⟩)
                      apply Exists.intro
                      apply And.intro
                      · intro w' hw'
                        obtain ⟨x', rfl⟩ := hw'
                        go_simp
                        first | done | rfl | (rw [if_neg (by omega)]; done) | (rw [if_neg (by omega)]; rfl) | (rw [if_pos (by omega)]; done) | (rw [if_pos (by omega)]; rfl)
                      go_simp
                      refine hK _ ?_
                      clear hK K'
                    refine Grow.heads_step (fun K' hK => ⟨rfl, .slice av7 ord.length cv7, ?_, ?_⟩)
                    · intro w' hw'
                      obtain ⟨x', rfl⟩ := hw'
                      go_simp
                      rw [wrap_len hlen, if_pos ⟨by omega, by have := V7.out.capv; rw [hOl.out] at this; omega⟩, Int.toNat_natCast]
                    refine hK _ ?_
                    clear hK K'
                    repeat
                      refine Grow.heads_step (fun K' hK => ⟨rfl, ?_⟩)
                      apply Exists.intro
                      apply And.intro
                      · intro w' hw'
                        obtain ⟨x', rfl⟩ := hw'
                        go_simp
                        first | done | rfl | (rw [if_neg (by omega)]; done) | (rw [if_neg (by omega)]; rfl) | (rw [if_pos (by omega)]; done) | (rw [if_pos (by omega)]; rfl)
                      go_simp
                      refine hK _ ?_
                      clear hK K'
                    refine Grow.heads_nil ?_
                    intro w20 e20
                    refine Grow.seq_nil ?_
                    have V9 := Lib.hid ((V7.out.grow e20).cut HO.out)
                    have fz4 := (V7.out.grow e20).frozen 4
                    clear hgl c0 c1 c2 c3 c4 c5 c6 c7
                    obtain ⟨hgl, c0, c1, c2, c3, c4, c5, c6, c7⟩ := (V7.out.grow e20).cells
                    clear e20
                    go_wp2_with fail
                    (try simp only [Exit.inBlock, Exit.then])
                    first | refine bodyPost_ret (results_none rfl _ _ _) rfl ?_ | refine bodyPost_end (results_none rfl _ _ _) rfl ?_
                    refine ⟨rfl, av7, cv7, ab7, cb7, ?_⟩
                    rw [hu1.out, loopV_stop (j := 0) (k := k + 1) (by rw [hnx.out]; exact .inl hl7) l.length (by omega), hnx.out]
                    exact V9.out
                  · cases hf7 : s7.found
                    · have hf8 := Lib.hid hf7
                      clear hf7
                      try clear hgl c0 c1 c2 c3 c4 c5 c6 c7
                      obtain ⟨hgl, c0, c1, c2, c3, c4, c5, c6, c7⟩ := V7.out.cells
                      rw [hOl.out] at c4
                      refine Grow.region_tail 14 [0, 1, 2, 3, 4, 5, 6, 7, 8, 9, 10, 11, 12, 13] [] (by kernel_rfl) (by kernel_rfl) ?_
                      simp only [Grow.pick, Grow.pickB, List.getElem?_cons_succ, List.getElem?_cons_zero, List.drop_succ_cons, List.drop_zero]
                      repeat
                        refine Grow.heads_step (fun K' hK => ⟨rfl, ?_⟩)
                        apply Exists.intro
                        apply And.intro
                        · intro w' hw'
                          obtain ⟨x', rfl⟩ := hw'
                          go_simp
                          first | done | rfl | (rw [if_neg (by omega)]; done) | (rw [if_neg (by omega)]; rfl) | (rw [if_pos (by omega)]; done) | (rw [if_pos (by omega)]; rfl)
                        go_simp
                        refine hK _ ?_
                        clear hK K'
                      refine Grow.heads_step (fun K' hK => ⟨rfl, .slice av7 ord.length cv7, ?_, ?_⟩)
                      · intro w' hw'
                        obtain ⟨x', rfl⟩ := hw'
                        go_simp
                        rw [wrap_len hlen, if_pos ⟨by omega, by have := V7.out.capv; rw [hOl.out] at this; omega⟩, Int.toNat_natCast]
                      refine hK _ ?_
                      clear hK K'
                      repeat
                        refine Grow.heads_step (fun K' hK => ⟨rfl, ?_⟩)
                        apply Exists.intro
                        apply And.intro
                        · intro w' hw'
                          obtain ⟨x', rfl⟩ := hw'
                          go_simp
                          first | done | rfl | (rw [if_neg (by omega)]; done) | (rw [if_neg (by omega)]; rfl) | (rw [if_pos (by omega)]; done) | (rw [if_pos (by omega)]; rfl)
                        go_simp
                        refine hK _ ?_
                        clear hK K'
                      refine Grow.heads_nil ?_
                      intro w20 e20
                      refine Grow.seq_nil ?_
                      have V9 := Lib.hid ((V7.out.grow e20).cut HO.out)
                      have fz4 := (V7.out.grow e20).frozen 4
                      clear hgl c0 c1 c2 c3 c4 c5 c6 c7
                      obtain ⟨hgl, c0, c1, c2, c3, c4, c5, c6, c7⟩ := (V7.out.grow e20).cells
                      clear e20
                      rw [hf8.out] at c7
                      go_wp2_with fail
                      go_roundw
                      case rel => exact ⟨k + 1, s7, av7, cv7, ab7, cb7, by omega, by go_num, hnx.out, V9.out, hf8.out, hl7⟩
                      case measure => simp [intOf]; omega
                    · have hf8 := Lib.hid hf7
                      clear hf7
                      try clear hgl c0 c1 c2 c3 c4 c5 c6 c7
                      obtain ⟨hgl, c0, c1, c2, c3, c4, c5, c6, c7⟩ := V7.out.cells
                      rw [hOl.out] at c4
                      refine Grow.region_tail 14 [0, 1, 2, 3, 4, 5, 6, 7, 8, 9, 10, 11, 12, 13] [] (by kernel_rfl) (by kernel_rfl) ?_
                      simp only [Grow.pick, Grow.pickB, List.getElem?_cons_succ, List.getElem?_cons_zero, List.drop_succ_cons, List.drop_zero]
                      repeat
                        refine Grow.heads_step (fun K' hK => ⟨rfl, ?_⟩)
                        apply Exists.intro
                        apply And.intro
                        · intro w' hw'
                          obtain ⟨x', rfl⟩ := hw'
                          go_simp
                          first | done | rfl | (rw [if_neg (by omega)]; done) | (rw [if_neg (by omega)]; rfl) | (rw [if_pos (by omega)]; done) | (rw [if_pos (by omega)]; rfl)
                        go_simp
                        refine hK _ ?_
                        clear hK K'
                      refine Grow.heads_step (fun K' hK => ⟨rfl, .slice av7 ord.length cv7, ?_, ?_⟩)
                      · intro w' hw'
                        obtain ⟨x', rfl⟩ := hw'
                        go_simp
                        rw [wrap_len hlen, if_pos ⟨by omega, by have := V7.out.capv; rw [hOl.out] at this; omega⟩, Int.toNat_natCast]
                      refine hK _ ?_
                      clear hK K'
                      repeat
                        refine Grow.heads_step (fun K' hK => ⟨rfl, ?_⟩)
                        apply Exists.intro
                        apply And.intro
                        · intro w' hw'
                          obtain ⟨x', rfl⟩ := hw'
                          go_simp
                          first | done | rfl | (rw [if_neg (by omega)]; done) | (rw [if_neg (by omega)]; rfl) | (rw [if_pos (by omega)]; done) | (rw [if_pos (by omega)]; rfl)
                        go_simp
                        refine hK _ ?_
                        clear hK K'
                      refine Grow.heads_nil ?_
                      intro w20 e20
                      refine Grow.seq_nil ?_
                      have V9 := Lib.hid ((V7.out.grow e20).cut HO.out)
                      have fz4 := (V7.out.grow e20).frozen 4
                      clear hgl c0 c1 c2 c3 c4 c5 c6 c7
                      obtain ⟨hgl, c0, c1, c2, c3, c4, c5, c6, c7⟩ := (V7.out.grow e20).cells
                      clear e20
                      rw [hf8.out] at c7
                      go_wp2_with fail
                      (try simp only [Exit.inBlock, Exit.then])
                      first | refine bodyPost_ret (results_none rfl _ _ _) rfl ?_ | refine bodyPost_end (results_none rfl _ _ _) rfl ?_
                      refine ⟨rfl, av7, cv7, ab7, cb7, ?_⟩
                      rw [hu1.out, loopV_stop (j := 0) (k := k + 1) (by rw [hnx.out]; exact .inr hf8.out) l.length (by omega), hnx.out]
                      exact V9.out
                · have hnx : Hid (loopV (okS l crews) rec ord s1 (k + 1) = { s' with left := s'.left - 1 }) := by
                    show stepV _ _ _ (loopV (okS l crews) rec ord s1 k) k = _; rw [hs'.out, stepV_full hf'.out HH.out hok.out (by omega), show s'.left - 1 = -1 by omega]
                  clear hok V5
                  go_wp2_with fail
                  generalize w12.setCell ⟨g, 2, none⟩ (.int .i64 (s'.left - 1)) = W6 at *
                  clear hw hgl c0 c1 c2 c3 c4 c5 c6 c7 fz2
                  try clear hgl c0 c1 c2 c3 c4 c5 c6 c7
                  obtain ⟨hgl, c0, c1, c2, c3, c4, c5, c6, c7⟩ := V6.out.cells
                  rw [hOl.out] at c4
                  refine Grow.region_tail 14 [0, 1, 2, 3, 4, 5, 6, 7, 8, 9, 10, 11, 12, 13] [] (by kernel_rfl) (by kernel_rfl) ?_
                  simp only [Grow.pick, Grow.pickB, List.getElem?_cons_succ, List.getElem?_cons_zero, List.drop_succ_cons, List.drop_zero]
                  repeat
                    refine Grow.heads_step (fun K' hK => ⟨rfl, ?_⟩)
                    apply Exists.intro
                    apply And.intro
                    · intro w' hw'
                      obtain ⟨x', rfl⟩ := hw'
                      go_simp
                      first | done | rfl | (rw [if_neg (by omega)]; done) | (rw [if_neg (by omega)]; rfl) | (rw [if_pos (by omega)]; done) | (rw [if_pos (by omega)]; rfl)
                    go_simp
                    refine hK _ ?_
                    clear hK K'
                  refine Grow.heads_step (fun K' hK => ⟨rfl, .slice av2 ord.length cv2, ?_, ?_⟩)
                  · intro w' hw'
                    obtain ⟨x', rfl⟩ := hw'
                    go_simp
                    rw [wrap_len hlen, if_pos ⟨by omega, by have := V6.out.capv; rw [hOl.out] at this; omega⟩, Int.toNat_natCast]
                  refine hK _ ?_
                  clear hK K'
                  repeat
                    refine Grow.heads_step (fun K' hK => ⟨rfl, ?_⟩)
                    apply Exists.intro
                    apply And.intro
                    · intro w' hw'
                      obtain ⟨x', rfl⟩ := hw'
                      go_simp
                      first | done | rfl | (rw [if_neg (by omega)]; done) | (rw [if_neg (by omega)]; rfl) | (rw [if_pos (by omega)]; done) | (rw [if_pos (by omega)]; rfl)
                    go_simp
                    refine hK _ ?_
                    clear hK K'
                  refine Grow.heads_nil ?_
                  intro w20 e20
                  refine Grow.seq_nil ?_
                  have V9 := Lib.hid ((V6.out.grow e20).cut HO.out)
                  have fz4 := (V6.out.grow e20).frozen 4
                  clear hgl c0 c1 c2 c3 c4 c5 c6 c7
                  obtain ⟨hgl, c0, c1, c2, c3, c4, c5, c6, c7⟩ := (V6.out.grow e20).cells
                  clear e20
                  go_wp2_with fail
                  (try simp only [Exit.inBlock, Exit.then])
                  first | refine bodyPost_ret (results_none rfl _ _ _) rfl ?_ | refine bodyPost_end (results_none rfl _ _ _) rfl ?_
                  refine ⟨rfl, av2, cv2, ab', cb', ?_⟩
                  rw [hu1.out, loopV_stop (j := 0) (k := k + 1) (by rw [hnx.out]; exact .inl (by show s'.left - 1 < 0; omega)) l.length (by omega), hnx.out]
                  exact V9.out
            · rw [hh] at HC
              have hnx : Hid (loopV (okS l crews) rec ord s1 (k + 1) = s') := by show stepV _ _ _ (loopV (okS l crews) rec ord s1 k) k = _; rw [hs'.out]; exact stepV_has hh
              clear hh
              go_wp2_with (go_at_call 38; refine HC.out.mono ?_; rintro e w' ⟨rfl, hw⟩; subst hw)
              go_roundw
              case rel => exact ⟨k + 1, s', av', cv', ab', cb', by omega, by go_num, hnx.out, V.out, hf'.out, hl'⟩
              case measure => simp [intOf]; omega
          · obtain rfl : k = l.length := by omega
            go_wp2_with fail
            (try simp only [Exit.inBlock, Exit.then])
            first | refine bodyPost_ret (results_none rfl _ _ _) rfl ?_ | refine bodyPost_end (results_none rfl _ _ _) rfl ?_
            exact ⟨rfl, av', cv', ab', cb', by rw [hu1.out, hs'.out]; exact V.out⟩
  · go_wp2_with fail
    obtain ⟨s1, hs1⟩ : ∃ s1 : St, s1 = s := ⟨_, rfl⟩
    have hl1 : 0 ≤ s1.left := by rw [hs1]; exact hl
    have hf1 : Hid (s1.found = false) := by rw [hs1]; exact hfn.out
    have hu : Hid ((all && ord.length == l.length) = false → updI l all ord s = s1) := fun h => by rw [hs1]; exact updI_ff h (by omega)
    have ht : Hid ((all && ord.length == l.length) = true → updI l all ord s = ⟨ord, s1.most, s1.left, true⟩) := fun h => by rw [hs1]; exact updI_tf h (by omega)
    have V3 := V1
    rw [← hs1] at V3
    clear V1 hs1 hgt hgl c0 c1 c2 c3 c4 c5 c6 c7
    obtain ⟨hgl, c0, c1, c2, c3, c4, c5, c6, c7⟩ := V3.out.cells
    cases all
    · have hu1 : Hid (updI l false ord s = s1) := hu.out rfl
      clear hu ht
      refine region_quiet (by kernel_rfl) (by kernel_rfl) ?_
      repeat (any_goals (first | go_big_quiet_step (fail) | quiet_step (fail)))
      refine wpQuiet_nil ?_
      intro _ hw'
      obtain ⟨y, hw''⟩ := hw'
      subst hw''
      replace V3 := Lib.hid (V3.out.grow ((Ext.refl _).lift y))
      clear hgl c0 c1 c2 c3 c4 c5 c6 c7
      obtain ⟨hgl, c0, c1, c2, c3, c4, c5, c6, c7⟩ := V3.out.cells
      go_wp2_with fail
      go_loopw [66] (fun i wr => ∃ (k : Nat) (s' : St) (av : Option Addr) (cv : Nat) (ab : Option Addr) (cb : Nat), k ≤ l.length ∧ i = .int .i64 k ∧ Hid (loopV (okS l crews) rec ord s1 k = s') ∧ Hid (VI w0 wr a l.length cap crews false g s' ord av cv ab cb) ∧ Hid (s'.found = false) ∧ 0 ≤ s'.left) (fun i _ => l.length - (intOf i).toNat)
      case atStart => exact ⟨0, s1, av, cv, ab, cb, Nat.zero_le _, rfl, rfl, V3.out, hf1.out, hl1⟩
      case round =>
        clear V3 hgl c0 c1 c2 c3 c4 c5 c6 c7
        obtain ⟨k, s', av', cv', ab', cb', hk, rfl, hs', V, hf', hl'⟩ := hrel
        obtain ⟨hgl, c0, c1, c2, c3, c4, c5, c6, c7⟩ := V.out.cells
        by_cases hlt : k < l.length
        · have HC : Hid (Calls Try.prog 38 #[.slice av' ord.length cv', .int .i64 k] wr fun e w' => e = .returned (.bool (hasB ord k)) ∧ w' = wr) := Contains_any av' cv' ord k wr V.out.row (by omega)
          cases hh : hasB ord (k : Int)
          · rw [hh] at HC
            obtain ⟨O, hO⟩ : ∃ O : List Int, O = ord ++ [(k : Int)] := ⟨_, rfl⟩
            have hOl : Hid (O.length = ord.length + 1) := by show _ = _; rw [hO]; simp
            have hO9 : O.length ≤ 9 := by rw [hOl.out]; omega
            have HO := Lib.hid hO
            have HKO : Hid (ShotsOk l O) := by show ShotsOk _ _; rw [hO]; exact HK.out.push hlt
            have HH := Lib.hid hh
            have fz4 := V.out.frozen 4
            clear hO hh
            go_wp2_with (first
              | (go_at_call 38; refine HC.out.mono ?_; rintro e w' ⟨rfl, hw⟩; subst hw; have V1 := Lib.hid (V.out.grow ((Ext.refl _).alloc (.cells #[.int .i64 k] 2))); have HR1 : Hid (IntAt (w'.alloc (.cells #[.int .i64 k] 2)) (some ⟨w'.heap.size, 0, none⟩) [(k : Int)]) := rows_int _ _ rfl; clear HC)
              | (at_builtin; refine wpList_pushAt elInt oneInt rfl _ _ rfl (g + 1) _ ord (by rfl) V1.out.srch.lst _ 1 1 [(k : Int)] rfl (by rfl) HR1.out (by have := hOl.out; omega) (by omega) (by rw [size_new]; omega) ?_; intro v' w3 HL hg3 hat3; rw [← HO.out] at HL; obtain ⟨av2, cv2, rfl, hcv2, -, -, -⟩ := HL.shape; have V4 := Lib.hid (V1.out.pushed HL hg3 hat3 hcv2); obtain ⟨e0, e1, e2⟩ := V1.out.mid hg3; clear V1 HR1 HL hg3 hat3 hgl c0 c1 c2 c3 c4 c5 c6 c7 fz4))
            generalize w3.setCell ⟨g, 4, none⟩ (.slice av2 O.length cv2) = W4 at *
            clear e0 e1 e2
            obtain ⟨hgl, c0, c1, c2, c3, c4, c5, c6, c7⟩ := V4.out.cells
            have HW : Hid (∀ w', Ext W4 w' → Calls Try.prog 35 #[.slice a l.length cap, .slice av2 O.length cv2, .int .i64 (crews : Int)] w' (OutS 53 2 Work.cell w' (worksV l O crews) [.bool (worksB l O crews)])) := fun w' e =>
              worksOf_any a cap l av2 cv2 O crews w' (HA.out.ext (V4.out.srch.ext.trans e)) (V4.out.row.ext e) HKO.out hc0 hc1 (by omega)
            refine Grow.region [0, 1, 2, 3, 4, 5, 6, 7, 8, 9, 10, 11] [(false, 12), (false, 13), (true, 14), (true, 15), (true, 16), (true, 17)] (by kernel_rfl) (by kernel_rfl) ?_
            simp only [Grow.pick, Grow.pickB, List.getElem?_cons_succ, List.getElem?_cons_zero]
            repeat
              refine Grow.heads_step (fun K' hK => ⟨rfl, ?_⟩)
              apply Exists.intro
              apply And.intro
              · intro w' hw'
                obtain ⟨x', rfl⟩ := hw'
                go_simp
                first | done | rfl | (rw [if_neg (by omega)]; done) | (rw [if_neg (by omega)]; rfl) | (rw [if_pos (by omega)]; done) | (rw [if_pos (by omega)]; rfl)
              go_simp
              refine hK _ ?_
              clear hK K'
            refine Grow.heads_nil ?_
            intro w5 e5
            refine Grow.seq_step (fun K' hK => ⟨rfl, ?_⟩)
            go_simp
            simp only [Grow.upon]
            refine (HW.out w5 e5).mono ?_
            rintro e w6 ⟨a6, cap6, rfl, -, -, -, E6⟩
            refine ⟨_, rfl, E6, fun w7 e7 => hK _ _ ?_⟩
            clear hK K'
            refine Grow.seq_step (fun K' hK => ⟨rfl, ?_⟩)
            go_simp
            try rw [if_neg (by omega)]
            simp only [Grow.upon]
            refine ⟨Ext.refl _, fun w8 e8 => hK _ _ ?_⟩
            clear hK K'
            refine Grow.seq_pure (fun K' hK => ⟨rfl, ?_⟩)
            apply Exists.intro
            apply And.intro
            · intro w' hw'
              obtain ⟨x', rfl⟩ := hw'
              go_simp
              first | done | rfl | (rw [if_neg (by omega)]; done) | (rw [if_neg (by omega)]; rfl)
            intro w9 e9
            go_simp
            refine hK _ _ ?_
            clear hK K'
            refine Grow.seq_pure (fun K' hK => ⟨rfl, ?_⟩)
            apply Exists.intro
            apply And.intro
            · intro w' hw'
              obtain ⟨x', rfl⟩ := hw'
              go_simp
              first | done | rfl | (rw [if_neg (by omega)]; done) | (rw [if_neg (by omega)]; rfl)
            intro w10 e10
            go_simp
            refine hK _ _ ?_
            clear hK K'
            refine Grow.seq_pure (fun K' hK => ⟨rfl, ?_⟩)
            apply Exists.intro
            apply And.intro
            · intro w' hw'
              obtain ⟨x', rfl⟩ := hw'
              go_simp
              first | done | rfl | (rw [if_neg (by omega)]; done) | (rw [if_neg (by omega)]; rfl)
            intro w11 e11
            go_simp
            refine hK _ _ ?_
            clear hK K'
            refine Grow.seq_pure (fun K' hK => ⟨rfl, ?_⟩)
            apply Exists.intro
            apply And.intro
            · intro w' hw'
              obtain ⟨x', rfl⟩ := hw'
              go_simp
              first | done | rfl | (rw [if_neg (by omega)]; done) | (rw [if_neg (by omega)]; rfl)
            intro w12 e12
            go_simp
            refine hK _ _ ?_
            clear hK K'
            refine Grow.seq_nil ?_
            have V5 := Lib.hid (V4.out.grow (e5.trans (E6.trans (e7.trans (e8.trans (e9.trans (e10.trans (e11.trans e12))))))))
            clear V4 HW e5 E6 e7 e8 e9 e10 e11 e12 hgl c0 c1 c2 c3 c4 c5 c6 c7
            obtain ⟨hgl, c0, c1, c2, c3, c4, c5, c6, c7⟩ := V5.out.cells
            have hlo := V5.out.lo
            have hhi := V5.out.hi
            cases hw : worksB l O crews
            · have hnx : Hid (loopV (okS l crews) rec ord s1 (k + 1) = s') := by
                show stepV _ _ _ (loopV (okS l crews) rec ord s1 k) k = _; rw [hs'.out]; exact stepV_no (by show worksB l (ord ++ [(k : Int)]) crews = false; rw [← HO.out]; exact hw)
              go_wp2_with fail
              clear hw
              try clear hgl c0 c1 c2 c3 c4 c5 c6 c7
              obtain ⟨hgl, c0, c1, c2, c3, c4, c5, c6, c7⟩ := V5.out.cells
              rw [hOl.out] at c4
              refine Grow.region_tail 14 [0, 1, 2, 3, 4, 5, 6, 7, 8, 9, 10, 11, 12, 13] [] (by kernel_rfl) (by kernel_rfl) ?_
              simp only [Grow.pick, Grow.pickB, List.getElem?_cons_succ, List.getElem?_cons_zero, List.drop_succ_cons, List.drop_zero]
              repeat
                refine Grow.heads_step (fun K' hK => ⟨rfl, ?_⟩)
                apply Exists.intro
                apply And.intro
                · intro w' hw'
                  obtain ⟨x', rfl⟩ := hw'
                  go_simp
                  first | done | rfl | (rw [if_neg (by omega)]; done) | (rw [if_neg (by omega)]; rfl) | (rw [if_pos (by omega)]; done) | (rw [if_pos (by omega)]; rfl)
                go_simp
                refine hK _ ?_
                clear hK K'
              refine Grow.heads_step (fun K' hK => ⟨rfl, .slice av2 ord.length cv2, ?_, ?_⟩)
              · intro w' hw'
                obtain ⟨x', rfl⟩ := hw'
                go_simp
                rw [wrap_len hlen, if_pos ⟨by omega, by have := V5.out.capv; rw [hOl.out] at this; omega⟩, Int.toNat_natCast]
              refine hK _ ?_
              clear hK K'
              repeat
                refine Grow.heads_step (fun K' hK => ⟨rfl, ?_⟩)
                apply Exists.intro
                apply And.intro
                · intro w' hw'
                  obtain ⟨x', rfl⟩ := hw'
                  go_simp
                  first | done | rfl | (rw [if_neg (by omega)]; done) | (rw [if_neg (by omega)]; rfl) | (rw [if_pos (by omega)]; done) | (rw [if_pos (by omega)]; rfl)
                go_simp
                refine hK _ ?_
                clear hK K'
              refine Grow.heads_nil ?_
              intro w20 e20
              refine Grow.seq_nil ?_
              have V9 := Lib.hid ((V5.out.grow e20).cut HO.out)
              have fz4 := (V5.out.grow e20).frozen 4
              clear hgl c0 c1 c2 c3 c4 c5 c6 c7
              obtain ⟨hgl, c0, c1, c2, c3, c4, c5, c6, c7⟩ := (V5.out.grow e20).cells
              clear e20
              rw [hf'.out] at c7
              go_wp2_with fail
              go_roundw
              case rel => exact ⟨k + 1, s', av2, cv2, ab', cb', by omega, by go_num, hnx.out, V9.out, hf'.out, hl'⟩
              case measure => simp [intOf]; omega
            · have hok : Hid (okS l crews (ord ++ [(k : Int)]) = true) := by show worksB l (ord ++ [(k : Int)]) crews = true; rw [← HO.out]; exact hw
              have V6 := Lib.hid (V5.out.spend (x := s'.left - 1) (by omega) (by omega))
              have fz2 := V5.out.frozen 2
              rcases Int.lt_or_le 0 s'.left with hl0 | hl0
              · have hnx : Hid (loopV (okS l crews) rec ord s1 (k + 1) = rec (ord ++ [(k : Int)]) { s' with left := s'.left - 1 }) := by
                  show stepV _ _ _ (loopV (okS l crews) rec ord s1 k) k = _; rw [hs'.out]; exact stepV_go hf'.out HH.out hok.out hl0
                clear hok V5
                go_wp2_with fail
                have HR6 : Hid (Calls Try.prog 28 #[.pointer (some ⟨g, 0, none⟩)] (w12.setCell ⟨g, 2, none⟩ (.int .i64 (s'.left - 1))) fun e w' => e = .returned (.tuple #[]) ∧ ∃ av' cv' ab' cb', VI w0 w' a l.length cap crews false g (rec (ord ++ [(k : Int)]) { s' with left := s'.left - 1 }) (ord ++ [(k : Int)]) av' cv' ab' cb') :=
                  HR.out k { s' with left := s'.left - 1 } _ av2 cv2 ab' cb' hlt HH.out (by rw [← HO.out]; exact V6.out) hf'.out (by show 0 ≤ s'.left - 1; omega)
                refine HR6.out.mono ?_
                rintro e w13 ⟨rfl, av7, cv7, ab7, cb7, hV7⟩
                rw [← HO.out] at hV7 hnx
                obtain ⟨s7, hs7⟩ : ∃ s7, s7 = rec O { s' with left := s'.left - 1 } := ⟨_, rfl⟩
                rw [← hs7] at hV7 hnx
                have V7 := Lib.hid hV7
                clear hV7 hs7 V6 HR6 hgl c0 c1 c2 c3 c4 c5 c6 c7 hw fz2
                go_wp2_with fail
                have hlo7 := V7.out.lo
                rcases Int.lt_or_le s7.left 0 with hl7 | hl7
                · try clear hgl c0 c1 c2 c3 c4 c5 c6 c7
                  obtain ⟨hgl, c0, c1, c2, c3, c4, c5, c6, c7⟩ := V7.out.cells
                  rw [hOl.out] at c4
                  refine Grow.region_tail 14 [0, 1, 2, 3, 4, 5, 6, 7, 8, 9, 10, 11, 12, 13] [] (by kernel_rfl) (by kernel_rfl) ?_
                  simp only [Grow.pick, Grow.pickB, List.getElem?_cons_succ, List.getElem?_cons_zero, List.drop_succ_cons, List.drop_zero]
                  repeat
                    refine Grow.heads_step (fun K' hK => ⟨rfl, ?_⟩)
                    apply Exists.intro
                    apply And.intro
                    · intro w' hw'
                      obtain ⟨x', rfl⟩ := hw'
                      go_simp
                      first | done | rfl | (rw [if_neg (by omega)]; done) | (rw [if_neg (by omega)]; rfl) | (rw [if_pos (by omega)]; done) | (rw [if_pos (by omega)]; rfl)
                    go_simp
                    refine hK _ ?_
                    clear hK K'
                  refine Grow.heads_step (fun K' hK => ⟨rfl, .slice av7 ord.length cv7, ?_, ?_⟩)
                  · intro w' hw'
                    obtain ⟨x', rfl⟩ := hw'
                    go_simp
                    rw [wrap_len hlen, if_pos ⟨by omega, by have := V7.out.capv; rw [hOl.out] at this; omega⟩, Int.toNat_natCast]
                  refine hK _ ?_
                  clear hK K'
                  repeat
                    refine Grow.heads_step (fun K' hK => ⟨rfl, ?_⟩)
                    apply Exists.intro
                    apply And.intro
                    · intro w' hw'
                      obtain ⟨x', rfl⟩ := hw'
                      go_simp
                      first | done | rfl | (rw [if_neg (by omega)]; done) | (rw [if_neg (by omega)]; rfl) | (rw [if_pos (by omega)]; done) | (rw [if_pos (by omega)]; rfl)
                    go_simp
                    refine hK _ ?_
                    clear hK K'
                  refine Grow.heads_nil ?_
                  intro w20 e20
                  refine Grow.seq_nil ?_
                  have V9 := Lib.hid ((V7.out.grow e20).cut HO.out)
                  have fz4 := (V7.out.grow e20).frozen 4
                  clear hgl c0 c1 c2 c3 c4 c5 c6 c7
                  obtain ⟨hgl, c0, c1, c2, c3, c4, c5, c6, c7⟩ := (V7.out.grow e20).cells
                  clear e20
                  go_wp2_with fail
                  (try simp only [Exit.inBlock, Exit.then])
                  first | refine bodyPost_ret (results_none rfl _ _ _) rfl ?_ | refine bodyPost_end (results_none rfl _ _ _) rfl ?_
                  refine ⟨rfl, av7, cv7, ab7, cb7, ?_⟩
                  rw [hu1.out, loopV_stop (j := 0) (k := k + 1) (by rw [hnx.out]; exact .inl hl7) l.length (by omega), hnx.out]
                  exact V9.out
                · cases hf7 : s7.found
                  · have hf8 := Lib.hid hf7
                    clear hf7
                    try clear hgl c0 c1 c2 c3 c4 c5 c6 c7
                    obtain ⟨hgl, c0, c1, c2, c3, c4, c5, c6, c7⟩ := V7.out.cells
                    rw [hOl.out] at c4
                    refine Grow.region_tail 14 [0, 1, 2, 3, 4, 5, 6, 7, 8, 9, 10, 11, 12, 13] [] (by kernel_rfl) (by kernel_rfl) ?_
                    simp only [Grow.pick, Grow.pickB, List.getElem?_cons_succ, List.getElem?_cons_zero, List.drop_succ_cons, List.drop_zero]
                    repeat
                      refine Grow.heads_step (fun K' hK => ⟨rfl, ?_⟩)
                      apply Exists.intro
                      apply And.intro
                      · intro w' hw'
                        obtain ⟨x', rfl⟩ := hw'
                        go_simp
                        first | done | rfl | (rw [if_neg (by omega)]; done) | (rw [if_neg (by omega)]; rfl) | (rw [if_pos (by omega)]; done) | (rw [if_pos (by omega)]; rfl)
                      go_simp
                      refine hK _ ?_
                      clear hK K'
                    refine Grow.heads_step (fun K' hK => ⟨rfl, .slice av7 ord.length cv7, ?_, ?_⟩)
                    · intro w' hw'
                      obtain ⟨x', rfl⟩ := hw'
                      go_simp
                      rw [wrap_len hlen, if_pos ⟨by omega, by have := V7.out.capv; rw [hOl.out] at this; omega⟩, Int.toNat_natCast]
                    refine hK _ ?_
                    clear hK K'
                    repeat
                      refine Grow.heads_step (fun K' hK => ⟨rfl, ?_⟩)
                      apply Exists.intro
                      apply And.intro
                      · intro w' hw'
                        obtain ⟨x', rfl⟩ := hw'
                        go_simp
                        first | done | rfl | (rw [if_neg (by omega)]; done) | (rw [if_neg (by omega)]; rfl) | (rw [if_pos (by omega)]; done) | (rw [if_pos (by omega)]; rfl)
                      go_simp
                      refine hK _ ?_
                      clear hK K'
                    refine Grow.heads_nil ?_
                    intro w20 e20
                    refine Grow.seq_nil ?_
                    have V9 := Lib.hid ((V7.out.grow e20).cut HO.out)
                    have fz4 := (V7.out.grow e20).frozen 4
                    clear hgl c0 c1 c2 c3 c4 c5 c6 c7
                    obtain ⟨hgl, c0, c1, c2, c3, c4, c5, c6, c7⟩ := (V7.out.grow e20).cells
                    clear e20
                    rw [hf8.out] at c7
                    go_wp2_with fail
                    go_roundw
                    case rel => exact ⟨k + 1, s7, av7, cv7, ab7, cb7, by omega, by go_num, hnx.out, V9.out, hf8.out, hl7⟩
                    case measure => simp [intOf]; omega
                  · have hf8 := Lib.hid hf7
                    clear hf7
                    try clear hgl c0 c1 c2 c3 c4 c5 c6 c7
                    obtain ⟨hgl, c0, c1, c2, c3, c4, c5, c6, c7⟩ := V7.out.cells
                    rw [hOl.out] at c4
                    refine Grow.region_tail 14 [0, 1, 2, 3, 4, 5, 6, 7, 8, 9, 10, 11, 12, 13] [] (by kernel_rfl) (by kernel_rfl) ?_
                    simp only [Grow.pick, Grow.pickB, List.getElem?_cons_succ, List.getElem?_cons_zero, List.drop_succ_cons, List.drop_zero]
                    repeat
                      refine Grow.heads_step (fun K' hK => ⟨rfl, ?_⟩)
                      apply Exists.intro
                      apply And.intro
                      · intro w' hw'
                        obtain ⟨x', rfl⟩ := hw'
                        go_simp
                        first | done | rfl | (rw [if_neg (by omega)]; done) | (rw [if_neg (by omega)]; rfl) | (rw [if_pos (by omega)]; done) | (rw [if_pos (by omega)]; rfl)
                      go_simp
                      refine hK _ ?_
                      clear hK K'
                    refine Grow.heads_step (fun K' hK => ⟨rfl, .slice av7 ord.length cv7, ?_, ?_⟩)
                    · intro w' hw'
                      obtain ⟨x', rfl⟩ := hw'
                      go_simp
                      rw [wrap_len hlen, if_pos ⟨by omega, by have := V7.out.capv; rw [hOl.out] at this; omega⟩, Int.toNat_natCast]
                    refine hK _ ?_
                    clear hK K'
                    repeat
                      refine Grow.heads_step (fun K' hK => ⟨rfl, ?_⟩)
                      apply Exists.intro
                      apply And.intro
                      · intro w' hw'
                        obtain ⟨x', rfl⟩ := hw'
                        go_simp
                        first | done | rfl | (rw [if_neg (by omega)]; done) | (rw [if_neg (by omega)]; rfl) | (rw [if_pos (by omega)]; done) | (rw [if_pos (by omega)]; rfl)
                      go_simp
                      refine hK _ ?_
                      clear hK K'
                    refine Grow.heads_nil ?_
                    intro w20 e20
                    refine Grow.seq_nil ?_
                    have V9 := Lib.hid ((V7.out.grow e20).cut HO.out)
                    have fz4 := (V7.out.grow e20).frozen 4
                    clear hgl c0 c1 c2 c3 c4 c5 c6 c7
                    obtain ⟨hgl, c0, c1, c2, c3, c4, c5, c6, c7⟩ := (V7.out.grow e20).cells
                    clear e20
                    rw [hf8.out] at c7
                    go_wp2_with fail
                    (try simp only [Exit.inBlock, Exit.then])
                    first | refine bodyPost_ret (results_none rfl _ _ _) rfl ?_ | refine bodyPost_end (results_none rfl _ _ _) rfl ?_
                    refine ⟨rfl, av7, cv7, ab7, cb7, ?_⟩
                    rw [hu1.out, loopV_stop (j := 0) (k := k + 1) (by rw [hnx.out]; exact .inr hf8.out) l.length (by omega), hnx.out]
                    exact V9.out
              · have hnx : Hid (loopV (okS l crews) rec ord s1 (k + 1) = { s' with left := s'.left - 1 }) := by
                  show stepV _ _ _ (loopV (okS l crews) rec ord s1 k) k = _; rw [hs'.out, stepV_full hf'.out HH.out hok.out (by omega), show s'.left - 1 = -1 by omega]
                clear hok V5
                go_wp2_with fail
                generalize w12.setCell ⟨g, 2, none⟩ (.int .i64 (s'.left - 1)) = W6 at *
                clear hw hgl c0 c1 c2 c3 c4 c5 c6 c7 fz2
                try clear hgl c0 c1 c2 c3 c4 c5 c6 c7
                obtain ⟨hgl, c0, c1, c2, c3, c4, c5, c6, c7⟩ := V6.out.cells
                rw [hOl.out] at c4
                refine Grow.region_tail 14 [0, 1, 2, 3, 4, 5, 6, 7, 8, 9, 10, 11, 12, 13] [] (by kernel_rfl) (by kernel_rfl) ?_
                simp only [Grow.pick, Grow.pickB, List.getElem?_cons_succ, List.getElem?_cons_zero, List.drop_succ_cons, List.drop_zero]
                repeat
                  refine Grow.heads_step (fun K' hK => ⟨rfl, ?_⟩)
                  apply Exists.intro
                  apply And.intro
                  · intro w' hw'
                    obtain ⟨x', rfl⟩ := hw'
                    go_simp
                    first | done | rfl | (rw [if_neg (by omega)]; done) | (rw [if_neg (by omega)]; rfl) | (rw [if_pos (by omega)]; done) | (rw [if_pos (by omega)]; rfl)
                  go_simp
                  refine hK _ ?_
                  clear hK K'
                refine Grow.heads_step (fun K' hK => ⟨rfl, .slice av2 ord.length cv2, ?_, ?_⟩)
                · intro w' hw'
                  obtain ⟨x', rfl⟩ := hw'
                  go_simp
                  rw [wrap_len hlen, if_pos ⟨by omega, by have := V6.out.capv; rw [hOl.out] at this; omega⟩, Int.toNat_natCast]
                refine hK _ ?_
                clear hK K'
                repeat
                  refine Grow.heads_step (fun K' hK => ⟨rfl, ?_⟩)
                  apply Exists.intro
                  apply And.intro
                  · intro w' hw'
                    obtain ⟨x', rfl⟩ := hw'
                    go_simp
                    first | done | rfl | (rw [if_neg (by omega)]; done) | (rw [if_neg (by omega)]; rfl) | (rw [if_pos (by omega)]; done) | (rw [if_pos (by omega)]; rfl)
                  go_simp
                  refine hK _ ?_
                  clear hK K'
                refine Grow.heads_nil ?_
                intro w20 e20
                refine Grow.seq_nil ?_
                have V9 := Lib.hid ((V6.out.grow e20).cut HO.out)
                have fz4 := (V6.out.grow e20).frozen 4
                clear hgl c0 c1 c2 c3 c4 c5 c6 c7
                obtain ⟨hgl, c0, c1, c2, c3, c4, c5, c6, c7⟩ := (V6.out.grow e20).cells
                clear e20
                go_wp2_with fail
                (try simp only [Exit.inBlock, Exit.then])
                first | refine bodyPost_ret (results_none rfl _ _ _) rfl ?_ | refine bodyPost_end (results_none rfl _ _ _) rfl ?_
                refine ⟨rfl, av2, cv2, ab', cb', ?_⟩
                rw [hu1.out, loopV_stop (j := 0) (k := k + 1) (by rw [hnx.out]; exact .inl (by show s'.left - 1 < 0; omega)) l.length (by omega), hnx.out]
                exact V9.out
          · rw [hh] at HC
            have hnx : Hid (loopV (okS l crews) rec ord s1 (k + 1) = s') := by show stepV _ _ _ (loopV (okS l crews) rec ord s1 k) k = _; rw [hs'.out]; exact stepV_has hh
            clear hh
            go_wp2_with (go_at_call 38; refine HC.out.mono ?_; rintro e w' ⟨rfl, hw⟩; subst hw)
            go_roundw
            case rel => exact ⟨k + 1, s', av', cv', ab', cb', by omega, by go_num, hnx.out, V.out, hf'.out, hl'⟩
            case measure => simp [intOf]; omega
        · obtain rfl : k = l.length := by omega
          go_wp2_with fail
          (try simp only [Exit.inBlock, Exit.then])
          first | refine bodyPost_ret (results_none rfl _ _ _) rfl ?_ | refine bodyPost_end (results_none rfl _ _ _) rfl ?_
          exact ⟨rfl, av', cv', ab', cb', by rw [hu1.out, hs'.out]; exact V.out⟩
    · by_cases hle : ord.length = l.length
      · have hq : ((ord.length : Int) == (l.length : Int)) = true := by rw [hle]; simp
        have hu1 := Lib.hid (ht.out (by rw [hle]; simp))
        clear hu ht hle
        refine region_quiet (by kernel_rfl) (by kernel_rfl) ?_
        repeat (any_goals (first | go_big_quiet_step (fail) | quiet_step (fail)))
        refine wpQuiet_nil ?_
        intro _ hw'
        obtain ⟨y, hw''⟩ := hw'
        subst hw''
        replace V3 := Lib.hid (V3.out.grow ((Ext.refl _).lift y))
        generalize lift _ y = W4 at *
        clear hgl c0 c1 c2 c3 c4 c5 c6 c7
        obtain ⟨hgl, c0, c1, c2, c3, c4, c5, c6, c7⟩ := V3.out.cells
        have HC : Hid (Calls Try.prog 43 #[.slice av ord.length cv] W4 (OutL 2 1 cellI W4 ord)) := CloneInt_any av cv ord W4 V3.out.row (by omega)
        go_wp2_with fail
        refine HC.out.mono ?_
        rintro e w5 ⟨ab5, cb5, rfl, hcb5, HO5, HR5, E5⟩
        have V5 := Lib.hid (V3.out.done E5 HO5 HR5 hcb5)
        have fz5 := (V3.out.grow E5).frozen 5
        have fz7 := (V3.out.grow E5).frozen 7
        obtain ⟨hgl2, d0, d1, d2, d3, d4, d5, d6, d7⟩ := (V3.out.grow E5).cells
        clear V3 HC HO5 HR5 hgl c0 c1 c2 c3 c4 c5 c6 c7
        go_wp2_with fail
        (try simp only [Exit.inBlock, Exit.then])
        first | refine bodyPost_ret (results_none rfl _ _ _) rfl ?_ | refine bodyPost_end (results_none rfl _ _ _) rfl ?_
        refine ⟨rfl, av, cv, ab5, cb5, ?_⟩
        rw [hu1.out, loopV_stop (j := 0) (k := 0) (.inr rfl) l.length (Nat.zero_le _)]
        exact V5.out
      · have hq : ((ord.length : Int) == (l.length : Int)) = false := by rw [beq_eq_false_iff_ne]; omega
        have hu1 := Lib.hid (hu.out (by rw [Bool.true_and, beq_eq_false_iff_ne]; exact hle))
        clear hu ht hle
        refine region_quiet (by kernel_rfl) (by kernel_rfl) ?_
        repeat (any_goals (first | go_big_quiet_step (fail) | quiet_step (fail)))
        refine wpQuiet_nil ?_
        intro _ hw'
        obtain ⟨y, hw''⟩ := hw'
        subst hw''
        replace V3 := Lib.hid (V3.out.grow ((Ext.refl _).lift y))
        clear hgl c0 c1 c2 c3 c4 c5 c6 c7 hq
        obtain ⟨hgl, c0, c1, c2, c3, c4, c5, c6, c7⟩ := V3.out.cells
        go_wp2_with fail
        go_loopw [66] (fun i wr => ∃ (k : Nat) (s' : St) (av : Option Addr) (cv : Nat) (ab : Option Addr) (cb : Nat), k ≤ l.length ∧ i = .int .i64 k ∧ Hid (loopV (okS l crews) rec ord s1 k = s') ∧ Hid (VI w0 wr a l.length cap crews true g s' ord av cv ab cb) ∧ Hid (s'.found = false) ∧ 0 ≤ s'.left) (fun i _ => l.length - (intOf i).toNat)
        case atStart => exact ⟨0, s1, av, cv, ab, cb, Nat.zero_le _, rfl, rfl, V3.out, hf1.out, hl1⟩
        case round =>
          clear V3 hgl c0 c1 c2 c3 c4 c5 c6 c7
          obtain ⟨k, s', av', cv', ab', cb', hk, rfl, hs', V, hf', hl'⟩ := hrel
          obtain ⟨hgl, c0, c1, c2, c3, c4, c5, c6, c7⟩ := V.out.cells
          by_cases hlt : k < l.length
          · have HC : Hid (Calls Try.prog 38 #[.slice av' ord.length cv', .int .i64 k] wr fun e w' => e = .returned (.bool (hasB ord k)) ∧ w' = wr) := Contains_any av' cv' ord k wr V.out.row (by omega)
            cases hh : hasB ord (k : Int)
            · rw [hh] at HC
              obtain ⟨O, hO⟩ : ∃ O : List Int, O = ord ++ [(k : Int)] := ⟨_, rfl⟩
              have hOl : Hid (O.length = ord.length + 1) := by show _ = _; rw [hO]; simp
              have hO9 : O.length ≤ 9 := by rw [hOl.out]; omega
              have HO := Lib.hid hO
              have HKO : Hid (ShotsOk l O) := by show ShotsOk _ _; rw [hO]; exact HK.out.push hlt
              have HH := Lib.hid hh
              have fz4 := V.out.frozen 4
              clear hO hh
              go_wp2_with (first
                | (go_at_call 38; refine HC.out.mono ?_; rintro e w' ⟨rfl, hw⟩; subst hw; have V1 := Lib.hid (V.out.grow ((Ext.refl _).alloc (.cells #[.int .i64 k] 2))); have HR1 : Hid (IntAt (w'.alloc (.cells #[.int .i64 k] 2)) (some ⟨w'.heap.size, 0, none⟩) [(k : Int)]) := rows_int _ _ rfl; clear HC)
                | (at_builtin; refine wpList_pushAt elInt oneInt rfl _ _ rfl (g + 1) _ ord (by rfl) V1.out.srch.lst _ 1 1 [(k : Int)] rfl (by rfl) HR1.out (by have := hOl.out; omega) (by omega) (by rw [size_new]; omega) ?_; intro v' w3 HL hg3 hat3; rw [← HO.out] at HL; obtain ⟨av2, cv2, rfl, hcv2, -, -, -⟩ := HL.shape; have V4 := Lib.hid (V1.out.pushed HL hg3 hat3 hcv2); obtain ⟨e0, e1, e2⟩ := V1.out.mid hg3; clear V1 HR1 HL hg3 hat3 hgl c0 c1 c2 c3 c4 c5 c6 c7 fz4))
              generalize w3.setCell ⟨g, 4, none⟩ (.slice av2 O.length cv2) = W4 at *
              clear e0 e1 e2
              obtain ⟨hgl, c0, c1, c2, c3, c4, c5, c6, c7⟩ := V4.out.cells
              have HW : Hid (∀ w', Ext W4 w' → Calls Try.prog 35 #[.slice a l.length cap, .slice av2 O.length cv2, .int .i64 (crews : Int)] w' (OutS 53 2 Work.cell w' (worksV l O crews) [.bool (worksB l O crews)])) := fun w' e =>
                worksOf_any a cap l av2 cv2 O crews w' (HA.out.ext (V4.out.srch.ext.trans e)) (V4.out.row.ext e) HKO.out hc0 hc1 (by omega)
              refine Grow.region [0, 1, 2, 3, 4, 5, 6, 7, 8, 9, 10, 11] [(false, 12), (false, 13), (true, 14), (true, 15), (true, 16), (true, 17)] (by kernel_rfl) (by kernel_rfl) ?_
              simp only [Grow.pick, Grow.pickB, List.getElem?_cons_succ, List.getElem?_cons_zero]
              repeat
                refine Grow.heads_step (fun K' hK => ⟨rfl, ?_⟩)
                apply Exists.intro
                apply And.intro
                · intro w' hw'
                  obtain ⟨x', rfl⟩ := hw'
                  go_simp
                  first | done | rfl | (rw [if_neg (by omega)]; done) | (rw [if_neg (by omega)]; rfl) | (rw [if_pos (by omega)]; done) | (rw [if_pos (by omega)]; rfl)
                go_simp
                refine hK _ ?_
                clear hK K'
              refine Grow.heads_nil ?_
              intro w5 e5
              refine Grow.seq_step (fun K' hK => ⟨rfl, ?_⟩)
              go_simp
              simp only [Grow.upon]
              refine (HW.out w5 e5).mono ?_
              rintro e w6 ⟨a6, cap6, rfl, -, -, -, E6⟩
              refine ⟨_, rfl, E6, fun w7 e7 => hK _ _ ?_⟩
              clear hK K'
              refine Grow.seq_step (fun K' hK => ⟨rfl, ?_⟩)
              go_simp
              try rw [if_neg (by omega)]
              simp only [Grow.upon]
              refine ⟨Ext.refl _, fun w8 e8 => hK _ _ ?_⟩
              clear hK K'
              refine Grow.seq_pure (fun K' hK => ⟨rfl, ?_⟩)
              apply Exists.intro
              apply And.intro
              · intro w' hw'
                obtain ⟨x', rfl⟩ := hw'
                go_simp
                first | done | rfl | (rw [if_neg (by omega)]; done) | (rw [if_neg (by omega)]; rfl)
              intro w9 e9
              go_simp
              refine hK _ _ ?_
              clear hK K'
              refine Grow.seq_pure (fun K' hK => ⟨rfl, ?_⟩)
              apply Exists.intro
              apply And.intro
              · intro w' hw'
                obtain ⟨x', rfl⟩ := hw'
                go_simp
                first | done | rfl | (rw [if_neg (by omega)]; done) | (rw [if_neg (by omega)]; rfl)
              intro w10 e10
              go_simp
              refine hK _ _ ?_
              clear hK K'
              refine Grow.seq_pure (fun K' hK => ⟨rfl, ?_⟩)
              apply Exists.intro
              apply And.intro
              · intro w' hw'
                obtain ⟨x', rfl⟩ := hw'
                go_simp
                first | done | rfl | (rw [if_neg (by omega)]; done) | (rw [if_neg (by omega)]; rfl)
              intro w11 e11
              go_simp
              refine hK _ _ ?_
              clear hK K'
              refine Grow.seq_pure (fun K' hK => ⟨rfl, ?_⟩)
              apply Exists.intro
              apply And.intro
              · intro w' hw'
                obtain ⟨x', rfl⟩ := hw'
                go_simp
                first | done | rfl | (rw [if_neg (by omega)]; done) | (rw [if_neg (by omega)]; rfl)
              intro w12 e12
              go_simp
              refine hK _ _ ?_
              clear hK K'
              refine Grow.seq_nil ?_
              have V5 := Lib.hid (V4.out.grow (e5.trans (E6.trans (e7.trans (e8.trans (e9.trans (e10.trans (e11.trans e12))))))))
              clear V4 HW e5 E6 e7 e8 e9 e10 e11 e12 hgl c0 c1 c2 c3 c4 c5 c6 c7
              obtain ⟨hgl, c0, c1, c2, c3, c4, c5, c6, c7⟩ := V5.out.cells
              have hlo := V5.out.lo
              have hhi := V5.out.hi
              cases hw : worksB l O crews
              · have hnx : Hid (loopV (okS l crews) rec ord s1 (k + 1) = s') := by
                  show stepV _ _ _ (loopV (okS l crews) rec ord s1 k) k = _; rw [hs'.out]; exact stepV_no (by show worksB l (ord ++ [(k : Int)]) crews = false; rw [← HO.out]; exact hw)
                go_wp2_with fail
                clear hw
                try clear hgl c0 c1 c2 c3 c4 c5 c6 c7
                obtain ⟨hgl, c0, c1, c2, c3, c4, c5, c6, c7⟩ := V5.out.cells
                rw [hOl.out] at c4
                refine Grow.region_tail 14 [0, 1, 2, 3, 4, 5, 6, 7, 8, 9, 10, 11, 12, 13] [] (by kernel_rfl) (by kernel_rfl) ?_
                simp only [Grow.pick, Grow.pickB, List.getElem?_cons_succ, List.getElem?_cons_zero, List.drop_succ_cons, List.drop_zero]
                repeat
                  refine Grow.heads_step (fun K' hK => ⟨rfl, ?_⟩)
                  apply Exists.intro
                  apply And.intro
                  · intro w' hw'
                    obtain ⟨x', rfl⟩ := hw'
                    go_simp
                    first | done | rfl | (rw [if_neg (by omega)]; done) | (rw [if_neg (by omega)]; rfl) | (rw [if_pos (by omega)]; done) | (rw [if_pos (by omega)]; rfl)
                  go_simp
                  refine hK _ ?_
                  clear hK K'
                refine Grow.heads_step (fun K' hK => ⟨rfl, .slice av2 ord.length cv2, ?_, ?_⟩)
                · intro w' hw'
                  obtain ⟨x', rfl⟩ := hw'
                  go_simp
                  rw [wrap_len hlen, if_pos ⟨by omega, by have := V5.out.capv; rw [hOl.out] at this; omega⟩, Int.toNat_natCast]
                refine hK _ ?_
                clear hK K'
                repeat
                  refine Grow.heads_step (fun K' hK => ⟨rfl, ?_⟩)
                  apply Exists.intro
                  apply And.intro
                  · intro w' hw'
                    obtain ⟨x', rfl⟩ := hw'
                    go_simp
                    first | done | rfl | (rw [if_neg (by omega)]; done) | (rw [if_neg (by omega)]; rfl) | (rw [if_pos (by omega)]; done) | (rw [if_pos (by omega)]; rfl)
                  go_simp
                  refine hK _ ?_
                  clear hK K'
                refine Grow.heads_nil ?_
                intro w20 e20
                refine Grow.seq_nil ?_
                have V9 := Lib.hid ((V5.out.grow e20).cut HO.out)
                have fz4 := (V5.out.grow e20).frozen 4
                clear hgl c0 c1 c2 c3 c4 c5 c6 c7
                obtain ⟨hgl, c0, c1, c2, c3, c4, c5, c6, c7⟩ := (V5.out.grow e20).cells
                clear e20
                rw [hf'.out] at c7
                go_wp2_with fail
                go_roundw
                case rel => exact ⟨k + 1, s', av2, cv2, ab', cb', by omega, by go_num, hnx.out, V9.out, hf'.out, hl'⟩
                case measure => simp [intOf]; omega
              · have hok : Hid (okS l crews (ord ++ [(k : Int)]) = true) := by show worksB l (ord ++ [(k : Int)]) crews = true; rw [← HO.out]; exact hw
                have V6 := Lib.hid (V5.out.spend (x := s'.left - 1) (by omega) (by omega))
                have fz2 := V5.out.frozen 2
                rcases Int.lt_or_le 0 s'.left with hl0 | hl0
                · have hnx : Hid (loopV (okS l crews) rec ord s1 (k + 1) = rec (ord ++ [(k : Int)]) { s' with left := s'.left - 1 }) := by
                    show stepV _ _ _ (loopV (okS l crews) rec ord s1 k) k = _; rw [hs'.out]; exact stepV_go hf'.out HH.out hok.out hl0
                  clear hok V5
                  go_wp2_with fail
                  have HR6 : Hid (Calls Try.prog 28 #[.pointer (some ⟨g, 0, none⟩)] (w12.setCell ⟨g, 2, none⟩ (.int .i64 (s'.left - 1))) fun e w' => e = .returned (.tuple #[]) ∧ ∃ av' cv' ab' cb', VI w0 w' a l.length cap crews true g (rec (ord ++ [(k : Int)]) { s' with left := s'.left - 1 }) (ord ++ [(k : Int)]) av' cv' ab' cb') :=
                    HR.out k { s' with left := s'.left - 1 } _ av2 cv2 ab' cb' hlt HH.out (by rw [← HO.out]; exact V6.out) hf'.out (by show 0 ≤ s'.left - 1; omega)
                  refine HR6.out.mono ?_
                  rintro e w13 ⟨rfl, av7, cv7, ab7, cb7, hV7⟩
                  rw [← HO.out] at hV7 hnx
                  obtain ⟨s7, hs7⟩ : ∃ s7, s7 = rec O { s' with left := s'.left - 1 } := ⟨_, rfl⟩
                  rw [← hs7] at hV7 hnx
                  have V7 := Lib.hid hV7
                  clear hV7 hs7 V6 HR6 hgl c0 c1 c2 c3 c4 c5 c6 c7 hw fz2
                  go_wp2_with fail
                  have hlo7 := V7.out.lo
                  rcases Int.lt_or_le s7.left 0 with hl7 | hl7
                  · try clear hgl c0 c1 c2 c3 c4 c5 c6 c7
                    obtain ⟨hgl, c0, c1, c2, c3, c4, c5, c6, c7⟩ := V7.out.cells
                    rw [hOl.out] at c4
                    refine Grow.region_tail 14 [0, 1, 2, 3, 4, 5, 6, 7, 8, 9, 10, 11, 12, 13] [] (by kernel_rfl) (by kernel_rfl) ?_
                    simp only [Grow.pick, Grow.pickB, List.getElem?_cons_succ, List.getElem?_cons_zero, List.drop_succ_cons, List.drop_zero]
                    repeat
                      refine Grow.heads_step (fun K' hK => ⟨rfl, ?_⟩)
                      apply Exists.intro
                      apply And.intro
                      · intro w' hw'
                        obtain ⟨x', rfl⟩ := hw'
                        go_simp
                        first | done | rfl | (rw [if_neg (by omega)]; done) | (rw [if_neg (by omega)]; rfl) | (rw [if_pos (by omega)]; done) | (rw [if_pos (by omega)]; rfl)
                      go_simp
                      refine hK _ ?_
                      clear hK K'
                    refine Grow.heads_step (fun K' hK => ⟨rfl, .slice av7 ord.length cv7, ?_, ?_⟩)
                    · intro w' hw'
                      obtain ⟨x', rfl⟩ := hw'
                      go_simp
                      rw [wrap_len hlen, if_pos ⟨by omega, by have := V7.out.capv; rw [hOl.out] at this; omega⟩, Int.toNat_natCast]
                    refine hK _ ?_
                    clear hK K'
                    repeat
                      refine Grow.heads_step (fun K' hK => ⟨rfl, ?_⟩)
                      apply Exists.intro
                      apply And.intro
                      · intro w' hw'
                        obtain ⟨x', rfl⟩ := hw'
                        go_simp
                        first | done | rfl | (rw [if_neg (by omega)]; done) | (rw [if_neg (by omega)]; rfl) | (rw [if_pos (by omega)]; done) | (rw [if_pos (by omega)]; rfl)
                      go_simp
                      refine hK _ ?_
                      clear hK K'
                    refine Grow.heads_nil ?_
                    intro w20 e20
                    refine Grow.seq_nil ?_
                    have V9 := Lib.hid ((V7.out.grow e20).cut HO.out)
                    have fz4 := (V7.out.grow e20).frozen 4
                    clear hgl c0 c1 c2 c3 c4 c5 c6 c7
                    obtain ⟨hgl, c0, c1, c2, c3, c4, c5, c6, c7⟩ := (V7.out.grow e20).cells
                    clear e20
                    go_wp2_with fail
                    (try simp only [Exit.inBlock, Exit.then])
                    first | refine bodyPost_ret (results_none rfl _ _ _) rfl ?_ | refine bodyPost_end (results_none rfl _ _ _) rfl ?_
                    refine ⟨rfl, av7, cv7, ab7, cb7, ?_⟩
                    rw [hu1.out, loopV_stop (j := 0) (k := k + 1) (by rw [hnx.out]; exact .inl hl7) l.length (by omega), hnx.out]
                    exact V9.out
                  · cases hf7 : s7.found
                    · have hf8 := Lib.hid hf7
                      clear hf7
                      try clear hgl c0 c1 c2 c3 c4 c5 c6 c7
                      obtain ⟨hgl, c0, c1, c2, c3, c4, c5, c6, c7⟩ := V7.out.cells
                      rw [hOl.out] at c4
                      refine Grow.region_tail 14 [0, 1, 2, 3, 4, 5, 6, 7, 8, 9, 10, 11, 12, 13] [] (by kernel_rfl) (by kernel_rfl) ?_
                      simp only [Grow.pick, Grow.pickB, List.getElem?_cons_succ, List.getElem?_cons_zero, List.drop_succ_cons, List.drop_zero]
                      repeat
                        refine Grow.heads_step (fun K' hK => ⟨rfl, ?_⟩)
                        apply Exists.intro
                        apply And.intro
                        · intro w' hw'
                          obtain ⟨x', rfl⟩ := hw'
                          go_simp
                          first | done | rfl | (rw [if_neg (by omega)]; done) | (rw [if_neg (by omega)]; rfl) | (rw [if_pos (by omega)]; done) | (rw [if_pos (by omega)]; rfl)
                        go_simp
                        refine hK _ ?_
                        clear hK K'
                      refine Grow.heads_step (fun K' hK => ⟨rfl, .slice av7 ord.length cv7, ?_, ?_⟩)
                      · intro w' hw'
                        obtain ⟨x', rfl⟩ := hw'
                        go_simp
                        rw [wrap_len hlen, if_pos ⟨by omega, by have := V7.out.capv; rw [hOl.out] at this; omega⟩, Int.toNat_natCast]
                      refine hK _ ?_
                      clear hK K'
                      repeat
                        refine Grow.heads_step (fun K' hK => ⟨rfl, ?_⟩)
                        apply Exists.intro
                        apply And.intro
                        · intro w' hw'
                          obtain ⟨x', rfl⟩ := hw'
                          go_simp
                          first | done | rfl | (rw [if_neg (by omega)]; done) | (rw [if_neg (by omega)]; rfl) | (rw [if_pos (by omega)]; done) | (rw [if_pos (by omega)]; rfl)
                        go_simp
                        refine hK _ ?_
                        clear hK K'
                      refine Grow.heads_nil ?_
                      intro w20 e20
                      refine Grow.seq_nil ?_
                      have V9 := Lib.hid ((V7.out.grow e20).cut HO.out)
                      have fz4 := (V7.out.grow e20).frozen 4
                      clear hgl c0 c1 c2 c3 c4 c5 c6 c7
                      obtain ⟨hgl, c0, c1, c2, c3, c4, c5, c6, c7⟩ := (V7.out.grow e20).cells
                      clear e20
                      rw [hf8.out] at c7
                      go_wp2_with fail
                      go_roundw
                      case rel => exact ⟨k + 1, s7, av7, cv7, ab7, cb7, by omega, by go_num, hnx.out, V9.out, hf8.out, hl7⟩
                      case measure => simp [intOf]; omega
                    · have hf8 := Lib.hid hf7
                      clear hf7
                      try clear hgl c0 c1 c2 c3 c4 c5 c6 c7
                      obtain ⟨hgl, c0, c1, c2, c3, c4, c5, c6, c7⟩ := V7.out.cells
                      rw [hOl.out] at c4
                      refine Grow.region_tail 14 [0, 1, 2, 3, 4, 5, 6, 7, 8, 9, 10, 11, 12, 13] [] (by kernel_rfl) (by kernel_rfl) ?_
                      simp only [Grow.pick, Grow.pickB, List.getElem?_cons_succ, List.getElem?_cons_zero, List.drop_succ_cons, List.drop_zero]
                      repeat
                        refine Grow.heads_step (fun K' hK => ⟨rfl, ?_⟩)
                        apply Exists.intro
                        apply And.intro
                        · intro w' hw'
                          obtain ⟨x', rfl⟩ := hw'
                          go_simp
                          first | done | rfl | (rw [if_neg (by omega)]; done) | (rw [if_neg (by omega)]; rfl) | (rw [if_pos (by omega)]; done) | (rw [if_pos (by omega)]; rfl)
                        go_simp
                        refine hK _ ?_
                        clear hK K'
                      refine Grow.heads_step (fun K' hK => ⟨rfl, .slice av7 ord.length cv7, ?_, ?_⟩)
                      · intro w' hw'
                        obtain ⟨x', rfl⟩ := hw'
                        go_simp
                        rw [wrap_len hlen, if_pos ⟨by omega, by have := V7.out.capv; rw [hOl.out] at this; omega⟩, Int.toNat_natCast]
                      refine hK _ ?_
                      clear hK K'
                      repeat
                        refine Grow.heads_step (fun K' hK => ⟨rfl, ?_⟩)
                        apply Exists.intro
                        apply And.intro
                        · intro w' hw'
                          obtain ⟨x', rfl⟩ := hw'
                          go_simp
                          first | done | rfl | (rw [if_neg (by omega)]; done) | (rw [if_neg (by omega)]; rfl) | (rw [if_pos (by omega)]; done) | (rw [if_pos (by omega)]; rfl)
                        go_simp
                        refine hK _ ?_
                        clear hK K'
                      refine Grow.heads_nil ?_
                      intro w20 e20
                      refine Grow.seq_nil ?_
                      have V9 := Lib.hid ((V7.out.grow e20).cut HO.out)
                      have fz4 := (V7.out.grow e20).frozen 4
                      clear hgl c0 c1 c2 c3 c4 c5 c6 c7
                      obtain ⟨hgl, c0, c1, c2, c3, c4, c5, c6, c7⟩ := (V7.out.grow e20).cells
                      clear e20
                      rw [hf8.out] at c7
                      go_wp2_with fail
                      (try simp only [Exit.inBlock, Exit.then])
                      first | refine bodyPost_ret (results_none rfl _ _ _) rfl ?_ | refine bodyPost_end (results_none rfl _ _ _) rfl ?_
                      refine ⟨rfl, av7, cv7, ab7, cb7, ?_⟩
                      rw [hu1.out, loopV_stop (j := 0) (k := k + 1) (by rw [hnx.out]; exact .inr hf8.out) l.length (by omega), hnx.out]
                      exact V9.out
                · have hnx : Hid (loopV (okS l crews) rec ord s1 (k + 1) = { s' with left := s'.left - 1 }) := by
                    show stepV _ _ _ (loopV (okS l crews) rec ord s1 k) k = _; rw [hs'.out, stepV_full hf'.out HH.out hok.out (by omega), show s'.left - 1 = -1 by omega]
                  clear hok V5
                  go_wp2_with fail
                  generalize w12.setCell ⟨g, 2, none⟩ (.int .i64 (s'.left - 1)) = W6 at *
                  clear hw hgl c0 c1 c2 c3 c4 c5 c6 c7 fz2
                  try clear hgl c0 c1 c2 c3 c4 c5 c6 c7
                  obtain ⟨hgl, c0, c1, c2, c3, c4, c5, c6, c7⟩ := V6.out.cells
                  rw [hOl.out] at c4
                  refine Grow.region_tail 14 [0, 1, 2, 3, 4, 5, 6, 7, 8, 9, 10, 11, 12, 13] [] (by kernel_rfl) (by kernel_rfl) ?_
                  simp only [Grow.pick, Grow.pickB, List.getElem?_cons_succ, List.getElem?_cons_zero, List.drop_succ_cons, List.drop_zero]
                  repeat
                    refine Grow.heads_step (fun K' hK => ⟨rfl, ?_⟩)
                    apply Exists.intro
                    apply And.intro
                    · intro w' hw'
                      obtain ⟨x', rfl⟩ := hw'
                      go_simp
                      first | done | rfl | (rw [if_neg (by omega)]; done) | (rw [if_neg (by omega)]; rfl) | (rw [if_pos (by omega)]; done) | (rw [if_pos (by omega)]; rfl)
                    go_simp
                    refine hK _ ?_
                    clear hK K'
                  refine Grow.heads_step (fun K' hK => ⟨rfl, .slice av2 ord.length cv2, ?_, ?_⟩)
                  · intro w' hw'
                    obtain ⟨x', rfl⟩ := hw'
                    go_simp
                    rw [wrap_len hlen, if_pos ⟨by omega, by have := V6.out.capv; rw [hOl.out] at this; omega⟩, Int.toNat_natCast]
                  refine hK _ ?_
                  clear hK K'
                  repeat
                    refine Grow.heads_step (fun K' hK => ⟨rfl, ?_⟩)
                    apply Exists.intro
                    apply And.intro
                    · intro w' hw'
                      obtain ⟨x', rfl⟩ := hw'
                      go_simp
                      first | done | rfl | (rw [if_neg (by omega)]; done) | (rw [if_neg (by omega)]; rfl) | (rw [if_pos (by omega)]; done) | (rw [if_pos (by omega)]; rfl)
                    go_simp
                    refine hK _ ?_
                    clear hK K'
                  refine Grow.heads_nil ?_
                  intro w20 e20
                  refine Grow.seq_nil ?_
                  have V9 := Lib.hid ((V6.out.grow e20).cut HO.out)
                  have fz4 := (V6.out.grow e20).frozen 4
                  clear hgl c0 c1 c2 c3 c4 c5 c6 c7
                  obtain ⟨hgl, c0, c1, c2, c3, c4, c5, c6, c7⟩ := (V6.out.grow e20).cells
                  clear e20
                  go_wp2_with fail
                  (try simp only [Exit.inBlock, Exit.then])
                  first | refine bodyPost_ret (results_none rfl _ _ _) rfl ?_ | refine bodyPost_end (results_none rfl _ _ _) rfl ?_
                  refine ⟨rfl, av2, cv2, ab', cb', ?_⟩
                  rw [hu1.out, loopV_stop (j := 0) (k := k + 1) (by rw [hnx.out]; exact .inl (by show s'.left - 1 < 0; omega)) l.length (by omega), hnx.out]
                  exact V9.out
            · rw [hh] at HC
              have hnx : Hid (loopV (okS l crews) rec ord s1 (k + 1) = s') := by show stepV _ _ _ (loopV (okS l crews) rec ord s1 k) k = _; rw [hs'.out]; exact stepV_has hh
              clear hh
              go_wp2_with (go_at_call 38; refine HC.out.mono ?_; rintro e w' ⟨rfl, hw⟩; subst hw)
              go_roundw
              case rel => exact ⟨k + 1, s', av', cv', ab', cb', by omega, by go_num, hnx.out, V.out, hf'.out, hl'⟩
              case measure => simp [intOf]; omega
          · obtain rfl : k = l.length := by omega
            go_wp2_with fail
            (try simp only [Exit.inBlock, Exit.then])
            first | refine bodyPost_ret (results_none rfl _ _ _) rfl ?_ | refine bodyPost_end (results_none rfl _ _ _) rfl ?_
            exact ⟨rfl, av', cv', ab', cb', by rw [hu1.out, hs'.out]; exact V.out⟩
theorem visit_any (l : List Shot) (a : Option Addr) (cap crews : Nat) (all : Bool) (w0 : World) (H : ShotAt w0 a l) (hn : l.length ≤ 8) (hcap : l.length ≤ cap) (hc0 : 0 < crews) (hc1 : crews ≤ 3) (g : Nat) :
    ∀ (d : Nat) (ord : List Int), ShotsOk l ord → ord.length + d ≤ l.length → lacks l.length ord ≤ d → ∀ (s : St) (W : World) (av : Option Addr) (cv : Nat) (ab : Option Addr) (cb : Nat), VI w0 W a l.length cap crews all g s ord av cv ab cb → s.found = false → 0 ≤ s.left →
      Calls Try.prog 28 #[.pointer (some ⟨g, 0, none⟩)] W fun e w' => e = .returned (.tuple #[]) ∧ ∃ av' cv' ab' cb', VI w0 w' a l.length cap crews all g (visitV l.length (okS l crews) (updI l all) d ord s) ord av' cv' ab' cb'
  | 0, ord, hO, hd1, hd2, s, W, av, cv, ab, cb, hV, hf, hl =>
    visit_step l a cap crews all w0 H hn hcap hc0 hc1 g ord hO (by omega) (fun _ s => s) (fun k _ _ _ _ _ _ hk hh => absurd (lacks_zero hd2 hk) (by rw [hh]; decide)) s W av cv ab cb hV hf hl
  | d + 1, ord, hO, hd1, hd2, s, W, av, cv, ab, cb, hV, hf, hl =>
    visit_step l a cap crews all w0 H hn hcap hc0 hc1 g ord hO (by omega) (visitV l.length (okS l crews) (updI l all) d) (fun k s W av cv ab cb hk hh hV hf hl =>
      visit_any l a cap crews all w0 H hn hcap hc0 hc1 g d (ord ++ [(k : Int)]) (hO.push hk) (by rw [List.length_append]; simp only [List.length_cons, List.length_nil]; omega) (by have := lacks_push hk hh; omega) s W av cv ab cb hV hf hl) s W av cv ab cb hV hf hl
end Go.Proofs.Ytpmbaemfpkcjnaa
