/- Chapter 10: the reference's search for the best stands to be planted: nodes, counts, visits. -/
import Derived.Test.YtmkmmenkjbmppaaPlantS
namespace Go.Proofs.Ytmkmmenkjbmppaa
open Go.RowKit
def nodesQ (bud left : Int) : Int := bud - max left 0
/-- The cells of the reference's search. -/
def objQ (a : Option Addr) (n cap : Nat) (ca : Option Addr) (cc : Nat) (snow least : Int) (v vb : Value) (most nodes bud : Int) (full : Bool) : Nat → Value
  | 0 => .slice a n cap
  | 1 => .slice ca n cc
  | 2 => .int .i64 snow
  | 3 => .int .i64 least
  | 4 => v
  | 5 => vb
  | 6 => .int .i64 most
  | 7 => .int .i64 nodes
  | 8 => .int .i64 bud
  | _ => .bool full
structure VQ (w0 w : World) (a : Option Addr) (n cap : Nat) (ca : Option Addr) (cc : Nat) (snow least bud : Int) (g : Nat) (s : Ps) (ord : List Int) (av : Option Addr) (cv : Nat) (ab : Option Addr) (cb : Nat) : Prop where
  srch : Srch 43 2 10 w0 w g (objQ a n cap ca cc snow least (.slice av ord.length cv) (.slice ab s.best.length cb) s.most (nodesQ bud s.left) bud (decide (s.left < 0))) (.slice av ord.length cv) ord ab s.best
  capv : ord.length ≤ cv
  capb : s.best.length ≤ cb
  ok : PsOk n s
  bd : s.left ≤ bud ∧ bud ≤ 20000
section
variable {w0 w w' : World} {a : Option Addr} {n cap : Nat} {ca : Option Addr} {cc : Nat} {snow least bud : Int} {g : Nat} {s : Ps} {ord : List Int} {av : Option Addr} {cv : Nat} {ab : Option Addr} {cb : Nat}
theorem VQ.cells (h : VQ w0 w a n cap ca cc snow least bud g s ord av cv ab cb) :
    g < w.heap.size ∧ w.cell? ⟨g, 0, none⟩ = some (.slice a n cap) ∧ w.cell? ⟨g, 1, none⟩ = some (.slice ca n cc) ∧ w.cell? ⟨g, 2, none⟩ = some (.int .i64 snow) ∧ w.cell? ⟨g, 3, none⟩ = some (.int .i64 least) ∧ w.cell? ⟨g, 4, none⟩ = some (.slice av ord.length cv) ∧ w.cell? ⟨g, 5, none⟩ = some (.slice ab s.best.length cb) ∧ w.cell? ⟨g, 6, none⟩ = some (.int .i64 s.most) ∧ w.cell? ⟨g, 7, none⟩ = some (.int .i64 (nodesQ bud s.left)) ∧ w.cell? ⟨g, 8, none⟩ = some (.int .i64 bud) ∧ w.cell? ⟨g, 9, none⟩ = some (.bool (decide (s.left < 0))) :=
  have o := h.srch.obj
  ⟨o.blk.lt, o.cell 0 (by decide), o.cell 1 (by decide), o.cell 2 (by decide), o.cell 3 (by decide), o.cell 4 (by decide), o.cell 5 (by decide), o.cell 6 (by decide), o.cell 7 (by decide), o.cell 8 (by decide), o.cell 9 (by decide)⟩
theorem VQ.frozen (h : VQ w0 w a n cap ca cc snow least bud g s ord av cv ab cb) (o : Nat) : w.frozen? ⟨g, o, none⟩ = false := h.srch.obj.blk.frozen o
theorem VQ.grow (h : VQ w0 w a n cap ca cc snow least bud g s ord av cv ab cb) (he : Ext w w') : VQ w0 w' a n cap ca cc snow least bud g s ord av cv ab cb :=
  ⟨h.srch.grow he, h.capv, h.capb, h.ok, h.bd⟩
theorem VQ.row (h : VQ w0 w a n cap ca cc snow least bud g s ord av cv ab cb) : IntAt w av ord := by
  obtain ⟨a', c', e, -, -, h, -⟩ := h.srch.lst.shape
  simp only [Value.slice.injEq, true_and] at e
  rw [e.1]; exact h
theorem VQ.nilv (h : VQ w0 w a n cap ca cc snow least bud g s ord av cv ab cb) : av = none → cv = 0 := fun e => by
  have := h.srch.lst
  rw [e] at this
  exact this.nilcap.2
theorem VQ.better (h : VQ w0 w a n cap ca cc snow least bud g s ord av cv ab cb) {m : Int} (he : Ext (w.setCell ⟨g, 6, none⟩ (.int .i64 m)) w') {ab' : Option Addr} {cb' : Nat} (ho : Own w' (w.setCell ⟨g, 6, none⟩ (.int .i64 m)).heap.size 2 1 ab' ord.length) (hr : IntAt w' ab' ord) (hc : ord.length ≤ cb') (hok : PsOk n ⟨ord, m, s.left⟩) :
    VQ w0 (w'.setCell ⟨g, 5, none⟩ (.slice ab' ord.length cb')) a n cap ca cc snow least bud g ⟨ord, m, s.left⟩ ord av cv ab' cb' :=
  ⟨((h.srch.set (f' := objQ a n cap ca cc snow least (.slice av ord.length cv) (.slice ab s.best.length cb) m (nodesQ bud s.left) bud (decide (s.left < 0))) 6 _ (by decide) rfl (fun j hj hne => by rcases (show j = 0 ∨ j = 1 ∨ j = 2 ∨ j = 3 ∨ j = 4 ∨ j = 5 ∨ j = 6 ∨ j = 7 ∨ j = 8 ∨ j = 9 by omega) with rfl | rfl | rfl | rfl | rfl | rfl | rfl | rfl | rfl | rfl <;> first | rfl | exact absurd rfl hne)).newBest he ho hr).set 5 _ (by decide) rfl (fun j hj hne => by rcases (show j = 0 ∨ j = 1 ∨ j = 2 ∨ j = 3 ∨ j = 4 ∨ j = 5 ∨ j = 6 ∨ j = 7 ∨ j = 8 ∨ j = 9 by omega) with rfl | rfl | rfl | rfl | rfl | rfl | rfl | rfl | rfl | rfl <;> first | rfl | exact absurd rfl hne), h.capv, hc, hok, h.bd⟩
theorem VQ.pushed (h : VQ w0 w a n cap ca cc snow least bud g s ord av cv ab cb) {O : List Int} {av' : Option Addr} {cv' : Nat} (hL : Lst 2 1 cellI w' (g + 1) (.slice av' O.length cv') O) (hg : w.grownBy w' (Value.slice av ord.length cv).ownBlock) (hat : (Value.slice av' O.length cv').ownBlock = (Value.slice av ord.length cv).ownBlock ∨ (Value.slice av' O.length cv').ownBlock = some w.heap.size) (hc : O.length ≤ cv') :
    VQ w0 (w'.setCell ⟨g, 4, none⟩ (.slice av' O.length cv')) a n cap ca cc snow least bud g s O av' cv' ab cb :=
  ⟨(h.srch.newOrd hL hg hat).set 4 _ (by decide) rfl (fun j hj hne => by rcases (show j = 0 ∨ j = 1 ∨ j = 2 ∨ j = 3 ∨ j = 4 ∨ j = 5 ∨ j = 6 ∨ j = 7 ∨ j = 8 ∨ j = 9 by omega) with rfl | rfl | rfl | rfl | rfl | rfl | rfl | rfl | rfl | rfl <;> first | rfl | exact absurd rfl hne), hc, h.capb, h.ok, h.bd⟩
theorem VQ.mid (h : VQ w0 w a n cap ca cc snow least bud g s ord av cv ab cb) (hg : w.grownBy w' (Value.slice av ord.length cv).ownBlock) : g < w'.heap.size ∧ w'.cell? ⟨g, 4, none⟩ = some (.slice av ord.length cv) ∧ w'.frozen? ⟨g, 4, none⟩ = false :=
  have o := h.srch.obj.grown hg (h.srch.lst.row_ne (Nat.lt_succ_self g))
  ⟨o.blk.lt, o.cell 4 (by decide), o.blk.frozen 4⟩
theorem VQ.cut {x : Int} {O : List Int} (h : VQ w0 w a n cap ca cc snow least bud g s O av cv ab cb) (hO : O = ord ++ [x]) :
    VQ w0 (w.setCell ⟨g, 4, none⟩ (.slice av ord.length cv)) a n cap ca cc snow least bud g s ord av cv ab cb := by
  subst hO
  have e : (ord ++ [x]).length = ord.length + 1 := by simp
  have h1 := h.srch
  have h2 := h.capv
  rw [e] at h1 h2
  exact ⟨(h1.pop rfl).set 4 _ (by decide) rfl (fun j hj hne => by rcases (show j = 0 ∨ j = 1 ∨ j = 2 ∨ j = 3 ∨ j = 4 ∨ j = 5 ∨ j = 6 ∨ j = 7 ∨ j = 8 ∨ j = 9 by omega) with rfl | rfl | rfl | rfl | rfl | rfl | rfl | rfl | rfl | rfl <;> first | rfl | exact absurd rfl hne), by omega, h.capb, h.ok, h.bd⟩
theorem VQ.stop (h : VQ w0 w a n cap ca cc snow least bud g s ord av cv ab cb) (hl : s.left ≤ 0) :
    VQ w0 (w.setCell ⟨g, 9, none⟩ (.bool true)) a n cap ca cc snow least bud g { s with left := -1 } ord av cv ab cb := by
  have e : nodesQ bud s.left = nodesQ bud (-1) := by unfold nodesQ; omega
  have h1 := h.srch
  rw [e] at h1
  have := h.bd
  have := h.ok.left0
  exact ⟨h1.set 9 _ (by decide) rfl (fun j hj hne => by rcases (show j = 0 ∨ j = 1 ∨ j = 2 ∨ j = 3 ∨ j = 4 ∨ j = 5 ∨ j = 6 ∨ j = 7 ∨ j = 8 ∨ j = 9 by omega) with rfl | rfl | rfl | rfl | rfl | rfl | rfl | rfl | rfl | rfl <;> first | rfl | exact absurd rfl hne), h.capv, h.capb, ⟨h.ok.lo, h.ok.hi, h.ok.len, Int.le_refl _, by show -1 ≤ (20000 : Int); decide⟩, by show -1 ≤ bud; omega, h.bd.2⟩
theorem VQ.spend (h : VQ w0 w a n cap ca cc snow least bud g s ord av cv ab cb) (hl : 0 < s.left) :
    VQ w0 (w.setCell ⟨g, 7, none⟩ (.int .i64 (bud - s.left + 1))) a n cap ca cc snow least bud g { s with left := s.left - 1 } ord av cv ab cb := by
  have e : bud - s.left + 1 = nodesQ bud (s.left - 1) := by unfold nodesQ; omega
  have e2 : decide (s.left < 0) = decide (s.left - 1 < 0) := by rw [decide_eq_false (by omega), decide_eq_false (by omega)]
  have h1 := h.srch
  rw [e2] at h1
  have := h.bd
  rw [e]
  exact ⟨h1.set 7 _ (by decide) rfl (fun j hj hne => by rcases (show j = 0 ∨ j = 1 ∨ j = 2 ∨ j = 3 ∨ j = 4 ∨ j = 5 ∨ j = 6 ∨ j = 7 ∨ j = 8 ∨ j = 9 by omega) with rfl | rfl | rfl | rfl | rfl | rfl | rfl | rfl | rfl | rfl <;> first | rfl | exact absurd rfl hne), h.capv, h.capb, ⟨h.ok.lo, h.ok.hi, h.ok.len, by show -1 ≤ s.left - 1; omega, by have := h.ok.left1; show s.left - 1 ≤ 20000; omega⟩, by show s.left - 1 ≤ bud; omega, h.bd.2⟩
end
set_option maxRecDepth 100000 in
set_option maxHeartbeats 2000000 in
theorem nodeQ_any (a : Option Addr) (n cap : Nat) (ca : Option Addr) (cc : Nat) (snow least bud : Int) (w0 : World) (g : Nat) (s : Ps) (ord : List Int) (W : World) (av : Option Addr) (cv : Nat) (ab : Option Addr) (cb : Nat) (hV : VQ w0 W a n cap ca cc snow least bud g s ord av cv ab cb) :
    Calls Try.prog 33 #[.pointer (some ⟨g, 0, none⟩)] W fun e w' => e = .returned (.bool (decide (0 < s.left))) ∧ VQ w0 w' a n cap ca cc snow least bud g (if 0 < s.left then { s with left := s.left - 1 } else { s with left := -1 }) ord av cv ab cb := by
  have V0 := Lib.hid hV
  have hbd := hV.bd
  have hl0 := hV.ok.left0
  clear hV
  obtain ⟨hgl, c0, c1, c2, c3, c4, c5, c6, c7, c8, c9⟩ := V0.out.cells
  rcases Int.lt_or_le 0 s.left with hl | hl
  · have e : nodesQ bud s.left = bud - s.left := by unfold nodesQ; omega
    rw [e] at c7
    rw [decide_eq_false (by omega)] at c9
    have hq : (bud - s.left == bud) = false := by rw [beq_eq_false_iff_ne]; omega
    rw [if_pos hl, decide_eq_true hl]
    clear e
    go_enter Try.func33, Try.ntmps33
    go_wp2_with fail
    refine region_quiet (by kernel_rfl) (by kernel_rfl) ?_
    repeat (any_goals (first | go_big_quiet_step ((fail)) | quiet_step ((fail))))
    refine wpQuiet_nil ?_
    intro _ hw'
    obtain ⟨y, hw''⟩ := hw'
    subst hw''
    have V1 := Lib.hid (V0.out.grow ((Ext.refl _).lift y))
    have fz7 := V1.out.frozen 7
    have V2 := Lib.hid (V1.out.spend hl)
    clear V0
    go_wp2_with fail
    go_ret
    exact ⟨rfl, V2.out⟩
  · have e : nodesQ bud s.left = bud := by unfold nodesQ; omega
    rw [e] at c7
    rw [if_neg (by omega), decide_eq_false (by omega)]
    clear e
    go_enter Try.func33, Try.ntmps33
    go_wp2_with fail
    refine region_quiet (by kernel_rfl) (by kernel_rfl) ?_
    repeat (any_goals (first | go_big_quiet_step ((fail)) | quiet_step ((fail))))
    refine wpQuiet_nil ?_
    intro _ hw'
    obtain ⟨y, hw''⟩ := hw'
    subst hw''
    have V1 := Lib.hid (V0.out.grow ((Ext.refl _).lift y))
    have fz9 := V1.out.frozen 9
    have V2 := Lib.hid (V1.out.stop hl)
    clear V0
    go_wp2_with fail
    go_ret
    exact ⟨rfl, V2.out⟩
set_option maxRecDepth 100000 in
set_option maxHeartbeats 4000000 in
theorem countQ_any (l : List Stand) (a : Option Addr) (cap : Nat) (ca : Option Addr) (cc : Nat) (snow least bud : Int) (w0 : World) (H : StandAt w0 a l) (hn : l.length ≤ 16) (hs0 : 0 ≤ snow) (hs1 : snow ≤ 2000) (hfew : ∀ k, k < l.length → fewS (nth l k)) (g : Nat) (s : Ps) (ord : List Int) (hord : ord.length ≤ 16) (W : World) (av : Option Addr) (cv : Nat) (ab : Option Addr) (cb : Nat) (hV : VQ w0 W a l.length cap ca cc snow least bud g s ord av cv ab cb) :
    Gives Try.prog 30 #[.pointer (some ⟨g, 0, none⟩)] W (.int .i64 (cntP l snow least ord l.length)) := by
  unfold Gives
  have V0 := Lib.hid hV
  have HA := Lib.hid H
  have HF := Lib.hid hfew
  clear hV H hfew
  obtain ⟨hgl, c0, c1, c2, c3, c4, c5, c6, c7, c8, c9⟩ := V0.out.cells
  go_enter Try.func30, Try.ntmps30
  go_wp2_with fail
  clear hgl c0 c1 c2 c3 c4 c5 c6 c7 c8 c9
  go_loopw [3, 4] (fun m i wr => ∃ k : Nat, k ≤ l.length ∧ i = .int .i64 k ∧ m = .int .i64 (cntP l snow least ord k) ∧ Ext W wr) (fun _ i _ => l.length - (intOf i).toNat)
  case atStart => exact ⟨0, Nat.zero_le _, rfl, rfl, Ext.refl W⟩
  case round =>
    obtain ⟨k, hk, rfl, rfl, he⟩ := hrel
    have hbd := cntP_bd l snow least ord k
    obtain ⟨hgl, c0, c1, c2, c3, c4, c5, c6, c7, c8, c9⟩ := (V0.out.grow he).cells
    have hE := Lib.hid he
    by_cases hlt : k < l.length
    · obtain ⟨b, off, rfl⟩ := HA.out.base hlt
      obtain ⟨hb, e0, e1, e2, e3, e4⟩ := Stand.at (HA.out.ext (V0.out.srch.ext.trans he)) k hlt
      have hfx := HF.out k hlt
      have hsn : Hid (cntP l snow least ord (k + 1) = if protB l snow least ord k = true then cntP l snow least ord k + 1 else cntP l snow least ord k) := rfl
      have hHas := Lib.hid (l00Has_any av cv ord k (wr.alloc (.cells #[.string (nth l k).id, .int .i64 (nth l k).trees, .int .i64 (nth l k).height, .int .i64 (nth l k).cover, .int .i64 (nth l k).gap] 45)) ((V0.out.row.ext he).ext ((Ext.refl _).alloc _)) (by omega))
      generalize cntP l snow least ord k = M at *
      cases hh : hasB ord (k : Int)
      · rw [hh] at hHas
        have hst : protB l snow least ord k = decide (least ≤ protS (nth l k) snow) := by unfold protB standAt; rw [if_neg (by rw [hh]; decide)]
        rw [hst] at hsn
        have HP := Lib.hid fun (q : Growth) => l10Protection_any wr.heap.size 0 (nth l k) snow (lift (wr.alloc (.cells #[.string (nth l k).id, .int .i64 (nth l k).trees, .int .i64 (nth l k).height, .int .i64 (nth l k).cover, .int .i64 (nth l k).gap] 45)) q) hfx hs0 hs1
          (((Ext.refl _).lift q).cell (by rw [cell_new]; rfl)) (((Ext.refl _).lift q).cell (by rw [cell_new]; rfl)) (((Ext.refl _).lift q).cell (by rw [cell_new]; rfl)) (((Ext.refl _).lift q).cell (by rw [cell_new]; rfl))
        have hE2 := Lib.hid (hE.out.trans ((Ext.refl wr).alloc (.cells #[.string (nth l k).id, .int .i64 (nth l k).trees, .int .i64 (nth l k).height, .int .i64 (nth l k).cover, .int .i64 (nth l k).gap] 45)))
        clear hst hh he
        generalize nth l k = x at *
        by_cases hp : least ≤ protS x snow
        all_goals
          go_wp2_with (go_at_call 42; refine hHas.out.mono ?_; rintro e w' ⟨rfl, hw⟩; subst hw)
          refine region_quiet (by kernel_rfl) (by kernel_rfl) ?_
          repeat (any_goals (first | go_big_quiet_step ((exact Gives.quiet (HP.out _))) | quiet_step ((exact Gives.quiet (HP.out _)))))
          refine wpQuiet_nil ?_
          intro _ hw'
          obtain ⟨y, hw''⟩ := hw'
          subst hw''
          go_wp2_with fail
          go_roundw
          case rel => exact ⟨k + 1, by omega, by go_num, by rw [hsn.out]; first | rw [if_pos (decide_eq_true (by omega))] | rw [if_neg (by simp; omega)], hE2.out.lift y⟩
          case measure => simp [intOf]; omega
      · rw [hh] at hHas
        have hst : protB l snow least ord k = decide (least ≤ protS (plantedS (nth l k)) snow) := by unfold protB standAt; rw [if_pos hh]
        rw [hst] at hsn
        obtain ⟨W1, hW1⟩ : ∃ W1, W1 = wr.alloc (.cells #[.string (nth l k).id, .int .i64 2000, .int .i64 (nth l k).height, .int .i64 1000, .int .i64 0] 45) := ⟨_, rfl⟩
        have g1 : W1.cell? ⟨wr.heap.size, 1, none⟩ = some (.int .i64 2000) := by rw [hW1, cell_new]; rfl
        have g2 : W1.cell? ⟨wr.heap.size, 2, none⟩ = some (.int .i64 (nth l k).height) := by rw [hW1, cell_new]; rfl
        have g3 : W1.cell? ⟨wr.heap.size, 3, none⟩ = some (.int .i64 1000) := by rw [hW1, cell_new]; rfl
        have g4 : W1.cell? ⟨wr.heap.size, 4, none⟩ = some (.int .i64 0) := by rw [hW1, cell_new]; rfl
        have hX1 : Ext W W1 := by rw [hW1]; exact he.alloc _
        have HP := Lib.hid fun (q : Growth) => l10Protection_any wr.heap.size 0 (plantedS (nth l k)) snow (lift W1 q) (fewS_planted hfx) hs0 hs1
          (((Ext.refl _).lift q).cell g1) (((Ext.refl _).lift q).cell g2) (((Ext.refl _).lift q).cell g3) (((Ext.refl _).lift q).cell g4)
        have hE2 := Lib.hid hX1
        clear hst hh he hX1 g1 g2 g3 g4 hfx
        generalize hpx : protS (plantedS (nth l k)) snow = px at *
        clear hpx
        generalize nth l k = x at *
        by_cases hp : least ≤ px
        all_goals
          go_wp2_with (go_at_call 42; refine hHas.out.mono ?_; rintro e w' ⟨rfl, hw⟩; subst hw)
          rw [← hW1]
          clear hW1
          obtain ⟨hgl, c0, c1, c2, c3, c4, c5, c6, c7, c8, c9⟩ := (V0.out.grow hE2.out).cells
          refine region_quiet (by kernel_rfl) (by kernel_rfl) ?_
          repeat (any_goals (first | go_big_quiet_step ((exact Gives.quiet (HP.out _))) | quiet_step ((exact Gives.quiet (HP.out _)))))
          refine wpQuiet_nil ?_
          intro _ hw'
          obtain ⟨y, hw''⟩ := hw'
          subst hw''
          go_wp2_with fail
          go_roundw
          case rel => exact ⟨k + 1, by omega, by go_num, by rw [hsn.out]; first | rw [if_pos (decide_eq_true (by omega))] | rw [if_neg (by simp; omega)], hE2.out.lift y⟩
          case measure => simp [intOf]; omega
    · obtain rfl : k = l.length := by omega
      go_wp2_with fail
      go_ret
      exact ⟨rfl, he⟩
end Go.Proofs.Ytmkmmenkjbmppaa
