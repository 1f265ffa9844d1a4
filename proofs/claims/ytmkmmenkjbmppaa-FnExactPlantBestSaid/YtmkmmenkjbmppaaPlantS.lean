/- Chapter 10: the reference's search for the best stands to be planted. -/
import Derived.Test.YtmkmmenkjbmppaaPlantI
import Derived.Laws.AppendOwnNone
namespace Go.Proofs.Ytmkmmenkjbmppaa
open Go.RowKit
theorem Lst.nilcap {α : Type} {n T : Nat} {cell : α → Nat → Value} {w : World} {base : Nat} {m cap : Nat} {l : List α} (h : Lst T n cell w base (.slice none m cap) l) : m = 0 ∧ cap = 0 := by
  rcases h.2 with ⟨h1, -⟩ | ⟨g, c, cur, h1, -⟩
  · simp only [Value.slice.injEq, true_and] at h1; exact h1
  · simp at h1
set_option maxRecDepth 100000 in
set_option maxHeartbeats 1000000 in
theorem l00Own_any (a : Option Addr) (cap : Nat) (l : List Int) (w : World) (H : IntAt w a l) (hnil : a = none → cap = 0) (hlen : l.length ≤ 1048576) :
    Calls Try.prog 32 #[.slice a l.length cap] w (OutL 2 1 cellI w l) := by
  have HL : Hid (Lst 2 1 cellI (w.alloc (.cells #[] 2)) w.heap.size (.slice (some ⟨w.heap.size, 0, none⟩) 0 0) ([] : List Int)) := Lst.new w _ (Nat.le_refl _)
  have hE := Lib.hid ((Ext.refl w).alloc (.cells #[] 2))
  have hb : Hid (w.heap.size ≤ (w.alloc (.cells #[] 2)).heap.size) := by show _ ≤ _; rw [size_new]; omega
  cases a with
  | none =>
    have h0 : l.length = 0 := by
      rcases Nat.eq_zero_or_pos l.length with h | h
      · exact h
      · obtain ⟨b, off, h, _⟩ := H 0 h; cases h
    obtain rfl : l = [] := List.length_eq_zero_iff.1 h0
    obtain rfl : cap = 0 := hnil rfl
    have hO : Hid ((w.alloc (.cells #[] 2)).ownsRow w.heap.size 2 1 (.slice (some ⟨w.heap.size, 0, none⟩) 0 0) 0 []) := HL.out
    obtain ⟨i, z, h2, -⟩ := elInt.inf
    have hI := Lib.hid h2
    clear h2 HL H hnil
    go_enter Try.func32, Try.ntmps32
    go_wp2_with (at_builtin; refine wpList_append_own_none rfl _ _ _ rfl w.heap.size _ _ 1 elInt.und hI.out _ 0 [] rfl hO.out rfl ?_)
    go_ret
    exact ⟨some ⟨w.heap.size, 0, none⟩, 0, rfl, Nat.le_refl _, .inl rfl, RowsAt.nil, hE.out⟩
  | some ad =>
    have HR := Lib.hid (H.ext hE.out)
    have C1 : Hid (([] : List Int).length + l.length ≤ 9223372036854775807) := by show _ ≤ _; simp; omega
    have C2 : Hid ((([] : List Int).length + l.length) * 8 ≤ 140737488355328) := by show _ ≤ _; simp; omega
    clear H
    go_enter Try.func32, Try.ntmps32
    go_wp2_with (at_builtin; refine wpList_pushL elInt oneInt rfl _ _ rfl w.heap.size _ [] rfl HL.out ad l.length cap l rfl rfl HR.out C1.out C2.out hb.out ?_; intro v' w1 HL1 hs1 _)
    rw [List.nil_append] at HL1
    obtain ⟨a', cap', rfl, hc', hm', R1, O1⟩ := HL1.shape
    have hX : Hid (Ext w w1) := hs1.ext hE.out (Nat.le_refl _)
    have R2 := Lib.hid R1
    have O2 := Lib.hid O1
    clear HL1 hs1 R1 O1
    go_wp2_with fail
    go_ret
    exact ⟨a', cap', rfl, hc', O2.out, R2.out, hX.out⟩
theorem l00Min_any (a b : Int) (w : World) : Calls Try.prog 50 #[.int .i64 a, .int .i64 b] w fun e w' => e = .returned (.int .i64 (min a b)) ∧ w' = w := by
  by_cases h : a < b
  · have hv : Hid (a = min a b) := by show _ = _; omega
    go_enter Try.func50, Try.ntmps50
    go_wp2
    go_ret
    exact ⟨ret_int hv.out, rfl⟩
  · have hv : Hid (b = min a b) := by show _ = _; omega
    go_enter Try.func50, Try.ntmps50
    go_wp2
    go_ret
    exact ⟨ret_int hv.out, rfl⟩
theorem l00Max_any (a b : Int) (w : World) : Calls Try.prog 52 #[.int .i64 a, .int .i64 b] w fun e w' => e = .returned (.int .i64 (max a b)) ∧ w' = w := by
  by_cases h : b < a
  · have hv : Hid (a = max a b) := by show _ = _; omega
    go_enter Try.func52, Try.ntmps52
    go_wp2
    go_ret
    exact ⟨ret_int hv.out, rfl⟩
  · have hv : Hid (b = max a b) := by show _ = _; omega
    go_enter Try.func52, Try.ntmps52
    go_wp2
    go_ret
    exact ⟨ret_int hv.out, rfl⟩
set_option maxRecDepth 100000 in
set_option maxHeartbeats 2000000 in
theorem l10Protection_any (b o : Nat) (x : Stand) (snow : Int) (w : World) (hx : fewS x) (h0 : 0 ≤ snow) (h1 : snow ≤ 2000) (d1 : w.cell? ⟨b, o + 1, none⟩ = some (.int .i64 x.trees)) (d2 : w.cell? ⟨b, o + 2, none⟩ = some (.int .i64 x.height)) (d3 : w.cell? ⟨b, o + 3, none⟩ = some (.int .i64 x.cover)) (d4 : w.cell? ⟨b, o + 4, none⟩ = some (.int .i64 x.gap)) :
    Gives Try.prog 43 #[.pointer (some ⟨b, o, none⟩), .int .i64 snow] w (.int .i64 (protS x snow)) := by
  unfold Gives
  have hbl := block_lt d1
  obtain ⟨⟨t0, t1⟩, ⟨e0, e1⟩, ⟨c0, c1⟩, g0, g1⟩ := hx
  by_cases hh : x.height < 2 * snow
  · have hv : Hid (protS x snow = 0) := if_pos hh
    go_enter Try.func43, Try.ntmps43
    go_wp2_with fail
    go_ret
    exact ⟨ret_int hv.out.symm, (by repeat (first | exact Ext.refl _ | refine Ext.lift ?_ _ | refine Ext.alloc ?_ _))⟩
  · have hD : Hid (∀ w' : World, Calls Try.prog 51 #[.int .i64 (x.trees * 1000), .int .i64 500] w' fun e w'' => e = .returned (.int .i64 (2 * x.trees)) ∧ w'' = w') := fun w' => by
      have := l01Div_any (x.trees * 1000) 500 w' (by omega) (by omega) (by omega) (by omega)
      rw [rdiv_500 _ t0] at this; exact this
    obtain ⟨m, hm⟩ : ∃ m, m = min (2 * x.trees) x.cover := ⟨_, rfl⟩
    obtain ⟨q, hq⟩ : ∃ q, q = min 1000 m := ⟨_, rfl⟩
    obtain ⟨p, hp⟩ : ∃ p, p = max 0 (x.gap - 20) := ⟨_, rfl⟩
    have hM1 : Hid (∀ w' : World, Calls Try.prog 50 #[.int .i64 (2 * x.trees), .int .i64 x.cover] w' fun e w'' => e = .returned (.int .i64 m) ∧ w'' = w') := fun w' => by have := l00Min_any (2 * x.trees) x.cover w'; rw [← hm] at this; exact this
    have hM2 : Hid (∀ w' : World, Calls Try.prog 50 #[.int .i64 1000, .int .i64 m] w' fun e w'' => e = .returned (.int .i64 q) ∧ w'' = w') := fun w' => by have := l00Min_any 1000 m w'; rw [← hq] at this; exact this
    have hM3 : Hid (∀ w' : World, Calls Try.prog 52 #[.int .i64 0, .int .i64 (x.gap - 20)] w' fun e w'' => e = .returned (.int .i64 p) ∧ w'' = w') := fun w' => by have := l00Max_any 0 (x.gap - 20) w'; rw [← hp] at this; exact this
    have hM4 := Lib.hid fun (w' : World) => l00Max_any 0 (q - 10 * p) w'
    have hv : Hid (protS x snow = max 0 (q - 10 * p)) := by
      show _ = _
      unfold protS; rw [if_neg hh, rdiv_500 _ t0, ← hm, ← hq]; omega
    have q0 : 0 ≤ q ∧ q ≤ 1000 := by omega
    have p0 : 0 ≤ p ∧ p ≤ 100 := by omega
    clear hm hq hp
    go_enter Try.func43, Try.ntmps43
    go_wp2_with fail
    refine region_quiet (by kernel_rfl) (by kernel_rfl) ?_
    repeat (any_goals (first | go_big_quiet_step ((first | exact Gives.quiet (Gives.same (hD.out _)) | exact Gives.quiet (Gives.same (hM1.out _)) | exact Gives.quiet (Gives.same (hM2.out _)))) | quiet_step ((first | exact Gives.quiet (Gives.same (hD.out _)) | exact Gives.quiet (Gives.same (hM1.out _)) | exact Gives.quiet (Gives.same (hM2.out _))))))
    refine wpQuiet_nil ?_
    intro _ hw'
    obtain ⟨y, hw''⟩ := hw'
    subst hw''
    go_wp2_with fail
    refine (hM3.out _).mono ?_
    rintro e w' ⟨rfl, hw⟩
    subst hw
    go_wp2_with fail
    refine (hM4.out _).mono ?_
    rintro e w' ⟨rfl, hw⟩
    subst hw
    go_wp2_with fail
    go_ret
    exact ⟨ret_int hv.out.symm, (by repeat (first | exact Ext.refl _ | refine Ext.lift ?_ _ | refine Ext.alloc ?_ _))⟩
set_option maxRecDepth 100000 in
set_option maxHeartbeats 1000000 in
theorem l10Before_any (a a2 : Option Addr) (cap cap2 : Nat) (l l2 : List Int) (w : World) (H : IntAt w a l) (H2 : IntAt w a2 l2) (hl : l.length ≤ 1048576) (_ : l2.length ≤ 1048576) :
    Gives Try.prog 31 #[.slice a l.length cap, .slice a2 l2.length cap2] w (.bool (lexB l l2)) := by
  unfold Gives
  have HA := Lib.hid H
  have HB := Lib.hid H2
  clear H H2
  go_enter Try.func31, Try.ntmps31
  go_wp2_with fail
  go_loopw [5] (fun i wr => ∃ k : Nat, k ≤ l.length ∧ k ≤ l2.length ∧ i = .int .i64 k ∧ Hid (∀ j, j < k → nth l j = nth l2 j) ∧ Ext w wr) (fun i _ => l.length - (intOf i).toNat)
  case atStart => exact ⟨0, Nat.zero_le _, Nat.zero_le _, rfl, upto_zero, Ext.refl _⟩
  case round =>
    obtain ⟨k, hk, hk2, rfl, hall, he⟩ := hrel
    by_cases hlt : k < l.length
    · by_cases hlt2 : k < l2.length
      · obtain ⟨b, off, rfl⟩ := HA.out.base hlt
        obtain ⟨hb, c0⟩ := IntAt.at (HA.out.ext he) k hlt
        obtain ⟨b2, off2, rfl⟩ := HB.out.base hlt2
        obtain ⟨hb2, d0⟩ := IntAt.at (HB.out.ext he) k hlt2
        by_cases hq : nth l k = nth l2 k
        · have hnx : Hid (∀ j, j < k + 1 → nth l j = nth l2 j) := upto_succ hall.out hq
          have hd : (nth l k != nth l2 k) = false := by rw [hq]; simp
          clear hq
          go_wp2_with fail
          refine region_quiet (by kernel_rfl) (by kernel_rfl) ?_
          repeat (any_goals (first | go_big_quiet_step ((fail)) | quiet_step ((fail))))
          refine wpQuiet_nil ?_
          intro _ hw'
          obtain ⟨y, hw''⟩ := hw'
          subst hw''
          go_wp2_with fail
          go_roundw
          case rel => exact ⟨k + 1, by omega, by omega, by go_num, hnx.out, he.lift y⟩
          case measure => simp [intOf]; omega
        · have hv : Hid (lexB l l2 = decide (nth l k < nth l2 k)) := lexB_at hall.out hlt hlt2 hq
          have hd : (nth l k != nth l2 k) = true := bne_iff_ne.2 hq
          have hE := Lib.hid he
          clear hq
          go_wp2_with fail
          refine region_quiet (by kernel_rfl) (by kernel_rfl) ?_
          repeat (any_goals (first | go_big_quiet_step ((fail)) | quiet_step ((fail))))
          refine wpQuiet_nil ?_
          intro _ hw'
          obtain ⟨y, hw''⟩ := hw'
          subst hw''
          obtain ⟨y1, hy⟩ : ∃ z, z = y := ⟨_, rfl⟩
          subst hy
          go_wp2_with fail
          refine region_quiet (by kernel_rfl) (by kernel_rfl) ?_
          repeat (any_goals (first | go_big_quiet_step ((fail)) | quiet_step ((fail))))
          refine wpQuiet_nil ?_
          intro _ hw'
          obtain ⟨y, hw''⟩ := hw'
          subst hw''
          go_wp2_with fail
          go_ret
          exact ⟨ret_bool hv.out.symm, hE.out.trans (by repeat (first | exact Ext.refl _ | refine Ext.lift ?_ _ | refine Ext.alloc ?_ _))⟩
      · obtain rfl : k = l2.length := by omega
        have hv : Hid (lexB l l2 = decide (l.length < l2.length)) := lexB_end fun j _ h2 => hall.out j h2
        have hd : decide (l.length < l2.length) = false := decide_eq_false (by omega)
        go_wp2_with fail
        go_ret
        exact ⟨ret_bool (by rw [hv.out, hd]), he⟩
    · obtain rfl : k = l.length := by omega
      have hv : Hid (lexB l l2 = decide (l.length < l2.length)) := lexB_end fun j h1 _ => hall.out j h1
      by_cases hq : l.length < l2.length
      all_goals
        go_wp2_with fail
        go_ret
        exact ⟨ret_bool (by rw [hv.out]; simp [hq]), he⟩
end Go.Proofs.Ytmkmmenkjbmppaa
