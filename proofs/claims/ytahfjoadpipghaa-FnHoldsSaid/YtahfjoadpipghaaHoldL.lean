/- The least hold with which a gate is shut at most some times. -/
import Derived.Test.YtahfjoadpipghaaHoldR
import Derived.Test.YtahfjoadpipghaaMoved
namespace Go.Proofs.Ytahfjoadpipghaa
open Go.RowKit
/-- A gate with another hold. -/
def Gate.held (x : Gate) (n : Int) : Gate := { x with hold := n }
def tH (x : Gate) (hz : List Int) (n : Int) : Int := timesG (x.held n) hz hz.length
theorem held_ok {x : Gate} (h : gateB x = true) {n : Int} (h0 : x.calm + 1 ≤ n) (h1 : n ≤ 48) : gateB (x.held n) = true := by
  rw [gateB_iff] at h ⊢
  obtain ⟨h1', h2, h3, h4, h5, h6⟩ := h
  exact ⟨h1', h2, h3, ⟨by show 1 ≤ n; omega, h1⟩, ⟨h5.1, by show x.calm ≤ n - 1; omega⟩, h6⟩
/-- What the closure reads. -/
structure HoldW (w : World) (b1 b2 b3 : Nat) (x : Gate) (a : Option Addr) (cap : Nat) (hz : List Int) (t : Int) : Prop where
  box : ∃ n, Gbox w b1 (x.held n)
  hzs : w.cell? ⟨b2, 0, none⟩ = some (.slice a hz.length cap)
  tms : w.cell? ⟨b3, 0, none⟩ = some (.int .i64 t)
  rows : IntAt w a hz
  ne2 : b2 ≠ b1
  ne3 : b3 ≠ b1
  low : ∀ p, a = some p → 0 < hz.length → p.block < b1
theorem HoldW.moved {w w' : World} {b1 b2 b3 : Nat} {x : Gate} {a : Option Addr} {cap : Nat} {hz : List Int} {t : Int} (h : HoldW w b1 b2 b3 x a cap hz t) (hm : Moved b1 w w') (hb : ∃ n, Gbox w' b1 (x.held n)) : HoldW w' b1 b2 b3 x a cap hz t :=
  ⟨hb, hm.cell h.ne2 h.hzs, hm.cell h.ne3 h.tms, fun k hk => by
    obtain ⟨b, off, e, hbl, hc⟩ := h.rows k hk
    have := h.low _ e (by omega)
    exact ⟨b, off, e, Nat.lt_of_lt_of_le hbl hm.size, fun j hj => hm.cell (by show b ≠ b1; have h1 : b < b1 := this; omega) (hc j hj)⟩, h.ne2, h.ne3, h.low⟩
set_option maxRecDepth 100000 in
set_option maxHeartbeats 8000000 in
theorem LeastHold1_any (w : World) (b1 b2 b3 : Nat) (x : Gate) (a : Option Addr) (cap : Nat) (hz : List Int) (t : Int) (H : HoldW w b1 b2 b3 x a cap hz t) (hx : gateB x = true) (hn : hz.length ≤ 64) (n : Int) (n0 : x.calm + 1 ≤ n) (n1 : n ≤ 48) :
    Calls Try.prog 70 #[.int .i64 n, .pointer (some ⟨b1, 0, none⟩), .pointer (some ⟨b2, 0, none⟩), .pointer (some ⟨b3, 0, none⟩)] w fun e w' => e = .returned (.bool (decide (tH x hz n ≤ t))) ∧ Gbox w' b1 (x.held n) ∧ Moved b1 w w' := by
  obtain ⟨m, hG⟩ := H.box
  have hrow : Hid (IntAt (w.setCell ⟨b1, 3, none⟩ (.int .i64 n)) a hz) := fun k hk => by
    obtain ⟨b, off, e, hbl, hc⟩ := H.rows k hk
    have h1 : b < b1 := H.low _ e (by omega)
    exact ⟨b, off, e, by simpa using hbl, fun j hj => by rw [cell_other _ (by omega)]; exact hc j hj⟩
  have c2 := H.hzs
  have c3 := H.tms
  have e2 := H.ne2
  have e3 := H.ne3
  have l2 := block_lt c2
  have l3 := block_lt c3
  have hG1 : Hid (Gbox (w.setCell ⟨b1, 3, none⟩ (.int .i64 n)) b1 (x.held n)) := ⟨hG.blk.set _ _ _, fun j hj => by
    by_cases h3 : j = 3
    · subst h3; rw [hG.blk.same (by decide)]; rfl
    · rw [cell_other _ (by omega), hG.cell j hj]
      rcases six hj with rfl | rfl | rfl | rfl | rfl | rfl <;> first | rfl | exact absurd rfl h3⟩
  have hM1 := Lib.hid (Moved.setCell b1 3 w (.int .i64 n))
  have hS := Lib.hid (Gate_shutHours (x.held n) a cap hz (w.setCell ⟨b1, 3, none⟩ (.int .i64 n)) (held_ok hx n0 n1) hrow.out (by omega))
  have d3 : (w.setCell ⟨b1, 3, none⟩ (.int .i64 n)).cell? ⟨b3, 0, none⟩ = some (.int .i64 t) := by rw [cell_other _ (by omega)]; exact c3
  obtain ⟨D, hD⟩ : ∃ D, D = tH x hz n := ⟨_, rfl⟩
  rw [show timesG (x.held n) hz hz.length = D from hD.symm] at hS
  rw [← hD]
  generalize hoursG (x.held n) hz hz.length = U at *
  have hl3 : Hid (∀ W : World, Ext (w.setCell ⟨b1, 3, none⟩ (.int .i64 n)) W → W.cell? ⟨b3, 0, none⟩ = some (.int .i64 t)) := fun W he => he.cell d3
  obtain ⟨gl, g0, g1, g2, g3, g4, g5⟩ := hG.all
  have k3 := hG.blk.frozen 3
  clear hD hrow H hG d3
  go_enter Try.func70, Try.ntmps70
  go_wp2_with fail
  refine hS.out.mono ?_
  rintro e w' ⟨rfl, he⟩
  have d3 := hl3.out w' he
  have hG2 := Lib.hid (hG1.out.ext he)
  have hM2 := Lib.hid (hM1.out.more he)
  have hw3 := block_lt d3
  clear hS hl3 he hG1 hM1 g0 g1 g2 g3 g4 g5 k3 c2 c3
  by_cases hle : D ≤ t
  · have hd : decide (D ≤ t) = true := decide_eq_true hle
    go_wp2_with fail
    go_ret
    exact ⟨by simp [hle], hG2.out, hM2.out⟩
  · have hd : decide (D ≤ t) = false := decide_eq_false hle
    go_wp2_with fail
    go_ret
    exact ⟨by simp [hle], hG2.out, hM2.out⟩
/-- What the least hold is told by. -/
def LeastOk (x : Gate) (hz : List Int) (t lo r : Int) : Prop := lo ≤ r ∧ r ≤ 48 ∧ tH x hz r ≤ t ∧ ∀ n, lo ≤ n → n < r → t < tH x hz n
set_option maxRecDepth 100000 in
set_option maxHeartbeats 8000000 in
theorem least_any (w : World) (b1 b2 b3 : Nat) (x : Gate) (a : Option Addr) (cap : Nat) (hz : List Int) (t : Int) (H : HoldW w b1 b2 b3 x a cap hz t) (hx : gateB x = true) (hn : hz.length ≤ 64) :
    Calls Try.prog 69 #[.int .i64 (x.calm + 1), .int .i64 48, .func (.func 70) #[] #[.pointer (some ⟨b1, 0, none⟩), .pointer (some ⟨b2, 0, none⟩), .pointer (some ⟨b3, 0, none⟩)]] w fun e w' => ∃ (r : Int) (ok : Bool), e = .returned (.tuple #[.int .i64 r, .bool ok]) ∧ Moved b1 w w' ∧ (ok = true → LeastOk x hz t (x.calm + 1) r) := by
  have hc := (gateB_iff.1 hx)
  obtain ⟨-, -, -, hc4, hc5, -⟩ := hc
  have HW := Lib.hid H
  clear H
  go_enter Try.func69, Try.ntmps69
  go_wp2_with fail
  go_loopw [8] (fun i wr => ∃ k : Int, x.calm + 1 ≤ k ∧ k ≤ 49 ∧ i = .int .i64 k ∧ Hid (HoldW wr b1 b2 b3 x a cap hz t) ∧ Hid (Moved b1 w wr) ∧ Hid (∀ n, x.calm + 1 ≤ n → n < k → t < tH x hz n)) (fun i _ => (49 - intOf i).toNat)
  case atStart => exact ⟨x.calm + 1, Int.le_refl _, by omega, rfl, HW.out, Moved.refl _ _, fun n h1 h2 => by omega⟩
  case round =>
    obtain ⟨k, k0, k1, rfl, HK, HM, hall⟩ := hrel
    by_cases hlt : k ≤ 48
    · have hcall := Lib.hid (LeastHold1_any wr b1 b2 b3 x a cap hz t HK.out hx hn k k0 hlt)
      obtain ⟨D, hD⟩ : ∃ D, D = tH x hz k := ⟨_, rfl⟩
      rw [← hD] at hcall
      have hD := Lib.hid hD.symm
      by_cases hle : D ≤ t
      · rw [decide_eq_true hle] at hcall
        have hok : Hid (LeastOk x hz t (x.calm + 1) k) := ⟨k0, hlt, by rw [hD.out]; exact hle, hall.out⟩
        go_wp2_with fail
        refine hcall.out.mono ?_
        rintro e w' ⟨rfl, hG, hM⟩
        have hM := Lib.hid (HM.out.trans hM)
        go_wp2_with fail
        go_ret2
        exact ⟨k, true, rfl, hM.out, fun _ => hok.out⟩
      · rw [decide_eq_false hle] at hcall
        have hnx : Hid (∀ n, x.calm + 1 ≤ n → n < k + 1 → t < tH x hz n) := fun n h1 h2 => by
          rcases Int.lt_or_le n k with h3 | h3
          · exact hall.out n h1 h3
          · obtain rfl : n = k := by omega
            rw [hD.out]; omega
        go_wp2_with fail
        refine hcall.out.mono ?_
        rintro e w' ⟨rfl, hG, hM⟩
        have hK2 := Lib.hid (HK.out.moved hM ⟨k, hG⟩)
        have hM := Lib.hid (HM.out.trans hM)
        clear hG
        go_wp2_with fail
        go_roundw
        case rel => exact ⟨k + 1, by omega, by omega, rfl, hK2.out, hM.out, hnx.out⟩
        case measure => simp [intOf]; omega
    · go_wp2_with fail
      go_ret2
      first
        | exact ⟨0, false, rfl, HM.out, fun h => by cases h⟩
        | exact ⟨0, .inl ⟨rfl, HM.out⟩⟩
theorem orNotFound_any (n : Int) (ok : Bool) (w : World) : Calls Try.prog 68 #[.int .i64 n, .bool ok] w fun e w' => e = .returned (.tuple #[.int .i64 (if ok = true then n else 0), .int .i64 (if ok = true then 0 else 3)]) ∧ w' = w := by
  cases ok
  all_goals
    go_enter Try.func68, Try.ntmps68
    go_wp2
    go_ret2
    exact ⟨rfl, rfl⟩
set_option maxRecDepth 100000 in
set_option maxHeartbeats 8000000 in
theorem implLeastHold_any (w : World) (x : Gate) (a : Option Addr) (cap : Nat) (hz : List Int) (t : Int) (hx : gateB x = true) (H : IntAt w a hz) (hn : hz.length ≤ 64) (hall : allIn hz 0 1000 = true) (t0 : 0 ≤ t) (t1 : t ≤ 64) :
    Calls Try.prog 35 #[.agg #[.string x.id, .int .i64 x.shut, .int .i64 x.opn, .int .i64 x.hold, .bool x.shuts, .int .i64 x.calm], .slice a hz.length cap, .int .i64 t] w fun e w' => ∃ r c : Int, e = .returned (.tuple #[.int .i64 r, .int .i64 c]) ∧ Ext w w' ∧ ((c = 0 ∧ LeastOk x hz t (x.calm + 1) r) ∨ c = 3) := by
  have hc := (gateB_iff.1 hx)
  obtain ⟨-, -, -, hc4, hc5, -⟩ := hc
  have HC := Lib.hid fun (W : World) (he : Ext w W) => Gate_code x a cap hz t W hx (RowsAt.ext H he) hn hall t0 t1
  have HX := Lib.hid hx
  have hlow : Hid (∀ p, a = some p → 0 < hz.length → p.block < w.heap.size) := fun p hp h0 => by
    obtain ⟨b, o, e, hb, -⟩ := H 0 h0
    rw [hp] at e
    simp only [Option.some.injEq] at e
    rw [e]; exact hb
  have HH := Lib.hid H
  obtain ⟨w0, hw0⟩ : ∃ w0, w0 = ((w.alloc (.cells #[.string x.id, .int .i64 x.shut, .int .i64 x.opn, .int .i64 x.hold, .bool x.shuts, .int .i64 x.calm] 54)).alloc (.cells #[.slice a hz.length cap] 24)).alloc (.cells #[.int .i64 t] 2) := ⟨_, rfl⟩
  have hE0 : Ext w w0 := by rw [hw0]; exact (by repeat (first | exact Ext.refl _ | refine Ext.lift ?_ _ | refine Ext.alloc ?_ _))
  clear H hx hall
  go_enter Try.func35, Try.ntmps35
  have s1 : (w.alloc (.cells #[.string x.id, .int .i64 x.shut, .int .i64 x.opn, .int .i64 x.hold, .bool x.shuts, .int .i64 x.calm] 54)).heap.size = w.heap.size + 1 := size_new _ _
  have s2 : ((w.alloc (.cells #[.string x.id, .int .i64 x.shut, .int .i64 x.opn, .int .i64 x.hold, .bool x.shuts, .int .i64 x.calm] 54)).alloc (.cells #[.slice a hz.length cap] 24)).heap.size = w.heap.size + 1 + 1 := by rw [size_new, s1]
  have hB0 : HoldW w0 w.heap.size (w.heap.size + 1) (w.heap.size + 1 + 1) x a cap hz t := by
    refine ⟨⟨x.hold, ?_⟩, ?_, ?_, RowsAt.ext HH.out hE0, by omega, by omega, hlow.out⟩
    · rw [hw0]
      exact (Gbox.new w x).ext (((Ext.refl _).alloc _).alloc _)
    · rw [hw0]
      refine ((Ext.refl _).alloc _).cell ?_
      rw [← s1, cell_new]; rfl
    · rw [hw0, ← s2, cell_new]; rfl
  replace hB0 := Lib.hid hB0
  go_wp2_with fail
  rw [← hw0]
  refine (HC.out w0 hE0).mono ?_
  rintro e w' ⟨rfl, y, rfl⟩
  obtain ⟨W1, hW1⟩ : ∃ W1, W1 = lift w0 y := ⟨_, rfl⟩
  have hE1 : Hid (Ext w W1) := by show Ext w W1; rw [hW1]; exact hE0.lift y
  have hM1 : Moved w.heap.size w0 W1 := Moved.grow (by rw [hW1]; exact (by repeat (first | exact Ext.refl _ | refine Ext.lift ?_ _ | refine Ext.alloc ?_ _)))
  have hB1 := Lib.hid (hB0.out.moved hM1 (by obtain ⟨n, hn⟩ := hB0.out.box; exact ⟨n, by rw [hW1]; exact hn.ext ((Ext.refl _).lift y)⟩))
  rw [← hW1]
  have hG1 : Hid (Gbox W1 w.heap.size x) := by
    show Gbox _ _ _
    rw [hW1, hw0]
    exact (Gbox.new w x).ext (by repeat (first | exact Ext.refl _ | refine Ext.lift ?_ _ | refine Ext.alloc ?_ _))
  clear hW1 hw0 hE0 hM1 s1 s2 HC hB0
  have hL := Lib.hid (least_any W1 w.heap.size (w.heap.size + 1) (w.heap.size + 1 + 1) x a cap hz t hB1.out HX.out hn)
  obtain ⟨gl, -, -, -, -, -, g5⟩ := hG1.out.all
  clear hB1
  go_wp2_with fail
  refine hL.out.mono ?_
  rintro e w' ⟨r, ok, rfl, hM, hok⟩
  have hE2 := Lib.hid (hM.ext w (Nat.le_refl _) hE1.out)
  have hok := Lib.hid hok
  clear hM hL g5 gl hG1
  cases ok
  all_goals
    go_wp2_with fail
    refine (orNotFound_any r _ _).mono ?_
    rintro e w'' ⟨rfl, rfl⟩
    go_wp2_with fail
    go_ret2
    first
      | exact ⟨_, _, rfl, hE2.out, .inr rfl⟩
      | exact ⟨_, _, rfl, hE2.out, .inl ⟨rfl, hok.out (by first | rfl | trivial)⟩⟩
end Go.Proofs.Ytahfjoadpipghaa
