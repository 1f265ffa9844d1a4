/- Chapter 25: the worth of an order of areas. What the program's and the reference's functions hand back, for lists that are not too long. -/
import Derived.Test.YtccbcjopmkmipaaDoorSearch
import Derived.Test.YtccbcjopmkmipaaDoorSurv
import Derived.Test.YtccbcjopmkmipaaDoorLists
namespace Go.Proofs.YtccbcjopmkmipaaDoor
open Go.RowKit

theorem lateOk_any (n : Int) (w : World) : Calls Tryd.prog 19 #[.int .i64 n] w fun e w' => e = .returned (.bool (inB n 0 1000)) ∧ w' = w := by
  go_enter Tryd.func19, Tryd.ntmps19
  go_wp2_with (go_at_call 34; refine (within_any _ _ _ _).mono ?_; rintro e w' ⟨rfl, rfl⟩)
  go_ret
  exact ⟨rfl, rfl⟩
theorem l25Late_any (n : Int) (w : World) : Calls Tryd.prog 38 #[.int .i64 n] w fun e w' => e = .returned (.bool (inB n 0 1000)) ∧ w' = w := by
  go_enter Tryd.func38, Tryd.ntmps38
  go_wp2_with (go_at_call 52; refine (l00In_any _ _ _ _).mono ?_; rintro e w' ⟨rfl, rfl⟩)
  go_ret
  exact ⟨rfl, rfl⟩
theorem indexValid_any (a : Option Addr) (n cap : Nat) (i : Int) (w : World) (hn : n ≤ 1000000000000) :
    Calls Tryd.prog 42 #[.slice a n cap, .int .i64 i] w fun e w' => e = .returned (.bool (inB i 0 ((n : Int) - 1))) ∧ w' = w := by
  go_enter Tryd.func42, Tryd.ntmps42
  go_wp2_with (go_at_call 34; refine (within_any _ _ _ _).mono ?_; rintro e w' ⟨rfl, rfl⟩)
  go_ret
  exact ⟨rfl, rfl⟩
def ordAt (n : Nat) (l : List Int) (k : Nat) : Bool := inB (nth l k) 0 ((n : Int) - 1) && !hasB (l.take k) (nth l k)
def orderB (n : Nat) (l : List Int) : Bool := allB l.length (ordAt n l)
theorem ordAt_false1 {n : Nat} {l : List Int} {k : Nat} (h : inB (nth l k) 0 ((n : Int) - 1) = false) : ordAt n l k = false := by unfold ordAt; rw [h]; rfl
theorem ordAt_eq {n : Nat} {l : List Int} {k : Nat} {b : Bool} (h : inB (nth l k) 0 ((n : Int) - 1) = true) (h' : hasB (l.take k) (nth l k) = b) : ordAt n l k = !b := by unfold ordAt; rw [h, h']; rfl
set_option maxHeartbeats 400000 in
theorem l25Order_any (a : Option Addr) (n cap : Nat) (a2 : Option Addr) (cap2 : Nat) (l : List Int) (w : World) (H : IntAt w a2 l) (hn : n ≤ 1000000000000) (hlen : l.length ≤ 1000000000000) (hcap : l.length ≤ cap2) :
    Gives Tryd.prog 39 #[.slice a n cap, .slice a2 l.length cap2] w (.bool (orderB n l)) := by
  unfold Gives
  go_enter Tryd.func39, Tryd.ntmps39
  go_wp2_with fail
  go_loopw [5] (fun i wr => ∃ k : Nat, k ≤ l.length ∧ i = .int .i64 k ∧ Hid (∀ j, j < k → ordAt n l j = true) ∧ Ext w wr) (fun i _ => l.length - (intOf i).toNat)
  case atStart => exact ⟨0, Nat.zero_le _, rfl, upto_zero, Ext.refl w⟩
  case round =>
    obtain ⟨k, hk, rfl, hall, he⟩ := hrel
    replace H := H.ext he
    by_cases hlt : k < l.length
    · obtain ⟨b, off, rfl⟩ := H.base hlt
      obtain ⟨hb, c0⟩ := IntAt.at H k hlt
      have HT := Lib.hid (H.take k)
      have hlk : Hid ((l.take k).length = k) := by show _ = _; rw [List.length_take]; omega
      clear H
      cases h1 : inB (nth l k) 0 ((n : Int) - 1)
      · have hv : Hid (false = orderB n l) := (allB_bad hlt (ordAt_false1 h1)).symm
        go_wp2_with fail
        refine region_quiet (by kernel_rfl) (by kernel_rfl) ?_
        repeat (any_goals (first | go_big_quiet_step ((exact Gives.quiet (Gives.same (l00In_any _ _ _ _)))) | quiet_step ((exact Gives.quiet (Gives.same (l00In_any _ _ _ _))))))
        refine wpQuiet_nil ?_
        intro _ hw'
        obtain ⟨y, hw''⟩ := hw'
        subst hw''
        go_wp2
        go_ret
        exact ⟨ret_bool hv.out, he.lift y⟩
      · cases h2 : hasB (l.take k) (nth l k)
        all_goals
          have hv := Lib.hid (ordAt_eq h1 h2)
          have hx : Hid (ordAt n l k = false → false = orderB n l) := fun h => (allB_bad hlt h).symm
          have HH : Hid (∀ x, Calls Tryd.prog 53 #[.slice (some ⟨b, off, none⟩) k cap2, .int .i64 (nth l k)] (lift wr x) fun e w' => e = .returned (.bool (hasB (l.take k) (nth l k))) ∧ w' = lift wr x) := fun x => by
            have := l00Has_any (some ⟨b, off, none⟩) cap2 (l.take k) (nth l k) (lift wr x) (HT.out.ext ((Ext.refl _).lift x)) (by rw [hlk.out]; omega)
            rwa [hlk.out] at this
          rw [h2] at HH
          go_wp2_with fail
          refine region_quiet (by kernel_rfl) (by kernel_rfl) ?_
          repeat (any_goals (first | go_big_quiet_step ((first | (go_at_call 52; exact Gives.quiet (Gives.same (l00In_any _ _ _ _))) | (go_at_call 53; exact Gives.quiet (Gives.same (HH.out _))))) | quiet_step ((first | (go_at_call 52; exact Gives.quiet (Gives.same (l00In_any _ _ _ _))) | (go_at_call 53; exact Gives.quiet (Gives.same (HH.out _)))))))
          refine wpQuiet_nil ?_
          intro _ hw'
          obtain ⟨y, hw''⟩ := hw'
          subst hw''
          go_wp2
          first
            | (go_ret; exact ⟨ret_bool (hx.out hv.out), he.lift y⟩)
            | (go_roundw
               case rel => exact ⟨k + 1, by omega, by go_num, upto_succ hall.out hv.out, he.lift y⟩
               case measure => simp [intOf]; omega)
    · have hv : Hid (true = orderB n l) := (allB_end fun j hj => hall.out j (by omega)).symm
      clear H
      go_wp2
      go_ret
      exact ⟨ret_bool hv.out, he⟩
def askI (l : List Area) (ord : List Int) (ok : Bool) : Int := if validAreas l = true then (if ok = true then (if orderB l.length ord = true then 0 else 7) else 2) else 1
theorem askI_1 {l : List Area} {ord : List Int} {ok : Bool} (h : validAreas l = false) : 1 = askI l ord ok := by unfold askI; rw [h]; rfl
theorem askI_2 {l : List Area} {ord : List Int} {ok : Bool} (h : validAreas l = true) (h2 : ok = false) : 2 = askI l ord ok := by unfold askI; rw [h, h2]; rfl
theorem askI_7 {l : List Area} {ord : List Int} {ok : Bool} (h : validAreas l = true) (h2 : ok = true) (h3 : orderB l.length ord = false) : 7 = askI l ord ok := by unfold askI; rw [h, h2, h3]; rfl
theorem askI_0 {l : List Area} {ord : List Int} {ok : Bool} (h : validAreas l = true) (h2 : ok = true) (h3 : orderB l.length ord = true) : 0 = askI l ord ok := by unfold askI; rw [h, h2, h3]; rfl
set_option maxHeartbeats 400000 in
theorem l25Ask_any (a : Option Addr) (cap : Nat) (l : List Area) (a2 : Option Addr) (cap2 : Nat) (ord : List Int) (start : Int) (w : World) (H : AreaAt w a l) (hsz : AreaSz l) (H2 : IntAt w a2 ord) (hn : l.length ≤ 1000000000000) (hlen : ord.length ≤ 1000000000000) (hcap : ord.length ≤ cap2) :
    Gives Tryd.prog 24 #[.slice a l.length cap, .slice a2 ord.length cap2, .int .i64 start] w (.int .i64 (askI l ord (inB start 0 1000))) := by
  unfold Gives
  have HA := Lib.hid (l25Ok_any a cap l w H hsz hn)
  have HI := Lib.hid H2
  clear H H2 hsz
  cases h1 : validAreas l
  · have hv := Lib.hid (askI_1 (ord := ord) (ok := inB start 0 1000) h1)
    go_enter Tryd.func24, Tryd.ntmps24
    go_wp2_with (go_at_call 37; refine HA.out.mono ?_; rintro e w' ⟨rfl, y, rfl⟩)
    go_ret
    exact ⟨ret_int hv.out, (Ext.refl _).lift y⟩
  cases h2 : inB start 0 1000
  · have hv := Lib.hid (askI_2 (ord := ord) h1 h2)
    go_enter Tryd.func24, Tryd.ntmps24
    go_wp2_with (first | (go_at_call 37; refine HA.out.mono ?_; rintro e w' ⟨rfl, y, rfl⟩) | (go_at_call 38; refine (l25Late_any _ _).mono ?_; rintro e w' ⟨rfl, rfl⟩))
    go_ret
    exact ⟨ret_int (by rw [← h2]; exact hv.out), (Ext.refl _).lift y⟩
  cases h3 : orderB l.length ord
  all_goals
    first
      | have hv := Lib.hid (askI_7 h1 h2 h3)
      | have hv := Lib.hid (askI_0 h1 h2 h3)
    go_enter Tryd.func24, Tryd.ntmps24
    go_wp2_with (first | (go_at_call 37; refine HA.out.mono ?_; rintro e w' ⟨rfl, y, rfl⟩) | (go_at_call 38; refine (l25Late_any _ _).mono ?_; rintro e w' ⟨rfl, rfl⟩) | (go_at_call 39; refine (l25Order_any _ _ _ _ _ ord _ (HI.out.ext ((Ext.refl _).lift _)) hn hlen hcap).mono ?_; rintro e w' ⟨rfl, z, rfl⟩))
    go_ret
    exact ⟨ret_int (by rw [← h2]; exact hv.out), ((Ext.refl _).lift y).lift z⟩
set_option maxHeartbeats 1000000 in
theorem areasCode_any (a : Option Addr) (cap : Nat) (l : List Area) (a2 : Option Addr) (cap2 : Nat) (ord : List Int) (a3 : Option Addr) (cap3 : Nat) (ms : List Int) (w : World) (H : AreaAt w a l) (hsz : AreaSz l) (H2 : IntAt w a2 ord) (H3 : IntAt w a3 ms)
    (hn : l.length ≤ 1000000000000) (hlen : ord.length ≤ 1000000000000) (hcap : ord.length ≤ cap2) (hms : ms.length ≤ 1000000000000) :
    Gives Tryd.prog 26 #[.slice a l.length cap, .slice a2 ord.length cap2, .slice a3 ms.length cap3] w (.int .i64 (askI l ord (allIn ms 0 1000))) := by
  unfold Gives
  have HA := Lib.hid (ValidAreas_any a cap l w H hsz hn)
  have HM := Lib.hid H3
  clear H H3 hsz
  cases h1 : validAreas l
  · have hv := Lib.hid (askI_1 (ord := ord) (ok := allIn ms 0 1000) h1)
    clear H2
    go_enter Tryd.func26, Tryd.ntmps26
    go_wp2_with (go_at_call 18; refine HA.out.mono ?_; rintro e w' ⟨rfl, y, rfl⟩)
    go_ret
    exact ⟨ret_int hv.out, (Ext.refl _).lift y⟩
  cases h2 : allIn ms 0 1000
  · have hv := Lib.hid (askI_2 (ord := ord) h1 h2)
    clear H2
    go_enter Tryd.func26, Tryd.ntmps26
    go_wp2_with (first | (go_at_call 18; refine HA.out.mono ?_; rintro e w' ⟨rfl, y, rfl⟩) | (go_at_call 41; refine (allWithin_any _ _ ms _ _ _ (HM.out.ext ((Ext.refl _).lift _)) hms).mono ?_; rintro e w' ⟨rfl, z, rfl⟩))
    go_ret
    exact ⟨ret_int (by rw [← h2]; exact hv.out), ((Ext.refl _).lift y).lift z⟩
  go_enter Tryd.func26, Tryd.ntmps26
  go_wp2_with (first | (go_at_call 18; refine HA.out.mono ?_; rintro e w' ⟨rfl, y, rfl⟩) | (go_at_call 41; refine (allWithin_any _ _ ms _ _ _ (HM.out.ext ((Ext.refl _).lift _)) hms).mono ?_; rintro e w' ⟨rfl, z, rfl⟩))
  go_loopw [19] (fun i wr => ∃ k : Nat, k ≤ ord.length ∧ i = .int .i64 k ∧ Hid (∀ j, j < k → ordAt l.length ord j = true) ∧ Ext w wr) (fun i _ => ord.length - (intOf i).toNat)
  case atStart => exact ⟨0, Nat.zero_le _, rfl, upto_zero, ((Ext.refl _).lift y).lift z⟩
  case round =>
    obtain ⟨k, hk, rfl, hall, he⟩ := hrel
    replace H2 := H2.ext he
    by_cases hlt : k < ord.length
    · obtain ⟨b, off, rfl⟩ := H2.base hlt
      obtain ⟨hb, c0⟩ := IntAt.at H2 k hlt
      have HT := Lib.hid (H2.take k)
      have hlk : Hid ((ord.take k).length = k) := by show _ = _; rw [List.length_take]; omega
      clear H2
      cases h3 : inB (nth ord k) 0 ((l.length : Int) - 1)
      · have hv := Lib.hid (askI_7 h1 h2 (allB_bad hlt (ordAt_false1 h3)))
        go_wp2_with (first | (go_at_call 42; refine (indexValid_any _ _ _ _ _ hn).mono ?_; rintro e w' ⟨rfl, rfl⟩))
        go_ret
        exact ⟨ret_int (by rw [← h2]; exact hv.out), he⟩
      · cases h4 : hasB (ord.take k) (nth ord k)
        all_goals
          have hv := Lib.hid (ordAt_eq h3 h4)
          have hx : Hid (ordAt l.length ord k = false → 7 = askI l ord (allIn ms 0 1000)) := fun h => askI_7 h1 h2 (allB_bad hlt h)
          have HH : Hid (Calls Tryd.prog 36 #[.slice (some ⟨b, off, none⟩) k cap2, .int .i64 (nth ord k)] wr fun e w' => e = .returned (.bool (hasB (ord.take k) (nth ord k))) ∧ w' = wr) := by
            have := Contains_any (some ⟨b, off, none⟩) cap2 (ord.take k) (nth ord k) wr HT.out (by rw [hlk.out]; omega)
            rwa [hlk.out] at this
          rw [h4] at HH
          go_wp2_with (first | (go_at_call 42; refine (indexValid_any _ _ _ _ _ hn).mono ?_; rintro e w' ⟨rfl, rfl⟩; rw [h3]) | (go_at_call 36; refine HH.out.mono ?_; rintro e w' ⟨rfl, rfl⟩))
          first
            | (go_ret; exact ⟨ret_int (by rw [← h2]; exact hx.out hv.out), he⟩)
            | (go_roundw
               case rel => exact ⟨k + 1, by omega, by go_num, upto_succ hall.out hv.out, he⟩
               case measure => simp [intOf]; omega)
    · have hv := Lib.hid (askI_0 h1 h2 (allB_end fun j hj => hall.out j (by omega)))
      clear H2
      go_wp2
      go_ret
      exact ⟨ret_int (by rw [← h2]; exact hv.out), he⟩
/-! ### The worth -/
/-- The area that the k-th number of an order names. -/
def pickA (l : List Area) (ord : List Int) (k : Nat) : Area := nth l (nth ord k).toNat
def endAt (l : List Area) (ord : List Int) (s : Int) : Nat → Int
  | 0 => s
  | k + 1 => endAt l ord s k + (pickA l ord k).minutes
def worthAt (l : List Area) (ord : List Int) (s : Int) : Nat → Int
  | 0 => 0
  | k + 1 => worthAt l ord s k + (pickA l ord k).chance * surv (endAt l ord s (k + 1))
theorem surv_bd {m : Int} (h : 0 ≤ m) : 0 ≤ surv m ∧ surv m ≤ 1000 := by
  by_cases hl : 180 ≤ m
  · rw [surv_late hl]; omega
  · have : ∃ k, k < 7 ∧ tm k ≤ m ∧ m < tm (k + 1) := by
      rcases Int.lt_or_le m 10 with h1 | h1; exact ⟨0, by decide, h, h1⟩
      rcases Int.lt_or_le m 15 with h2 | h2; exact ⟨1, by decide, h1, h2⟩
      rcases Int.lt_or_le m 35 with h3 | h3; exact ⟨2, by decide, h2, h3⟩
      rcases Int.lt_or_le m 60 with h4 | h4; exact ⟨3, by decide, h3, h4⟩
      rcases Int.lt_or_le m 90 with h5 | h5; exact ⟨4, by decide, h4, h5⟩
      rcases Int.lt_or_le m 130 with h6 | h6; exact ⟨5, by decide, h5, h6⟩
      exact ⟨6, by decide, h6, by simp only [tm]; omega⟩
    obtain ⟨k, hk, h0, h1⟩ := this
    rw [surv_at hk h0 h1]
    have : rdiv ((ch (k + 1) - ch k) * (m - tm k)) (tm (k + 1) - tm k) ≤ 0 ∧ ch (k + 1) - ch k ≤ rdiv ((ch (k + 1) - ch k) * (m - tm k)) (tm (k + 1) - tm k) := by
      unfold rdiv
      rcases nat7 hk with rfl | rfl | rfl | rfl | rfl | rfl | rfl <;> simp only [tm, ch] at * <;> split <;> omega
    have := ch_bd k
    have := ch_bd (k + 1)
    omega
/-- All areas are valid ones, and the order names some of them. -/
structure WorthOk (l : List Area) (ord : List Int) : Prop where
  area : ∀ k, k < l.length → areaB (nth l k) = true
  ord : ∀ k, k < ord.length → 0 ≤ nth ord k ∧ nth ord k < l.length
theorem WorthOk.pick {l : List Area} {ord : List Int} (h : WorthOk l ord) {k : Nat} (hk : k < ord.length) : areaB (pickA l ord k) = true := h.area _ (by have := h.ord k hk; omega)
theorem WorthOk.end_bd {l : List Area} {ord : List Int} (h : WorthOk l ord) (s : Int) : ∀ {k : Nat}, k ≤ ord.length → s ≤ endAt l ord s k ∧ endAt l ord s k ≤ s + 600 * k
  | 0, _ => by simp [endAt]
  | k + 1, hk => by
    have := h.end_bd s (k := k) (by omega)
    have := areaB_parts (h.pick (k := k) (by omega))
    simp only [endAt]; omega
theorem mul_bd {a b m n : Int} (h0 : 0 ≤ a) (h1 : a ≤ m) (h2 : 0 ≤ b) (h3 : b ≤ n) : 0 ≤ a * b ∧ a * b ≤ m * n :=
  ⟨Int.mul_nonneg h0 h2, Int.mul_le_mul h1 h3 h2 (by omega)⟩
theorem WorthOk.term_bd {l : List Area} {ord : List Int} (h : WorthOk l ord) {s : Int} (hs : 0 ≤ s) {k : Nat} (hk : k < ord.length) :
    0 ≤ (pickA l ord k).chance * surv (endAt l ord s (k + 1)) ∧ (pickA l ord k).chance * surv (endAt l ord s (k + 1)) ≤ 1000000 := by
  have h1 := areaB_parts (h.pick hk)
  have h2 := surv_bd (m := endAt l ord s (k + 1)) (by have := h.end_bd s (k := k + 1) (by omega); omega)
  have := mul_bd h1.2.1 h1.2.2.1 h2.1 h2.2
  omega
theorem WorthOk.worth_bd {l : List Area} {ord : List Int} (h : WorthOk l ord) {s : Int} (hs : 0 ≤ s) : ∀ {k : Nat}, k ≤ ord.length → 0 ≤ worthAt l ord s k ∧ worthAt l ord s k ≤ 1000000 * k
  | 0, _ => by simp [worthAt]
  | k + 1, hk => by
    have := h.worth_bd hs (k := k) (by omega)
    have := h.term_bd hs (k := k) (by omega)
    simp only [worthAt]; omega
set_option maxHeartbeats 1000000 in
theorem worthOfOrder_any (a : Option Addr) (cap : Nat) (l : List Area) (a2 : Option Addr) (cap2 : Nat) (ord : List Int) (s : Int) (w : World) (H : AreaAt w a l) (H2 : IntAt w a2 ord) (hok : WorthOk l ord)
    (hs : 0 ≤ s) (hs2 : s ≤ 10000) (hlen : ord.length ≤ 1048576) :
    Gives Tryd.prog 22 #[.slice a l.length cap, .slice a2 ord.length cap2, .int .i64 s] w (.int .i64 (worthAt l ord s ord.length)) := by
  unfold Gives
  have HO := Lib.hid hok
  clear hok
  go_enter Tryd.func22, Tryd.ntmps22
  go_wp2_with fail
  go_loopw [2, 7, 12] (fun st wo i wr => ∃ k : Nat, k ≤ ord.length ∧ i = .int .i64 k ∧ st = .int .i64 (endAt l ord s k) ∧ wo = .int .i64 (worthAt l ord s k) ∧ Ext w wr) (fun _ _ i _ => ord.length - (intOf i).toNat)
  case atStart => exact ⟨0, Nat.zero_le _, rfl, rfl, rfl, Ext.refl w⟩
  case round =>
    obtain ⟨k, hk, rfl, rfl, rfl, he⟩ := hrel
    obtain ⟨w0, w1⟩ := HO.out.worth_bd hs (k := k) hk
    obtain ⟨e0, e1⟩ := HO.out.end_bd s (k := k) hk
    by_cases hlt : k < ord.length
    · obtain ⟨b2, off2, rfl⟩ := H2.base hlt
      obtain ⟨hb2, d0⟩ := IntAt.at (H2.ext he) k hlt
      obtain ⟨i0, i1⟩ := HO.out.ord k hlt
      obtain ⟨m, hm⟩ := Int.eq_ofNat_of_zero_le i0
      have hml : m < l.length := by omega
      obtain ⟨b, off, rfl⟩ := H.base hml
      obtain ⟨hb, c0, c1, c2⟩ := Area.at (H.ext he) m hml
      have hp : Hid (pickA l ord k = nth l m) := by show _ = _; unfold pickA; rw [hm]; rfl
      have t := HO.out.term_bd hs hlt
      rw [hp.out] at t
      obtain ⟨-, -, -, m0, m1⟩ := areaB_parts (HO.out.area m hml)
      have hE : Hid (endAt l ord s (k + 1) = endAt l ord s k + (nth l m).minutes) := by show _ = _; rw [← hp.out]; rfl
      have hW : Hid (worthAt l ord s (k + 1) = worthAt l ord s k + (nth l m).chance * surv (endAt l ord s k + (nth l m).minutes)) := by show _ = _; rw [← hE.out, ← hp.out]; rfl
      rw [hE.out] at t
      obtain ⟨t0, t1⟩ := t
      rw [hm] at d0
      clear H H2 i0 i1 hm
      go_wp2_with fail
      refine region_quiet (by kernel_rfl) (by kernel_rfl) ?_
      repeat (any_goals (first | go_big_quiet_step ((exact Gives.quiet (survivalAt_any _ _ (by omega) (by omega)))) | quiet_step ((exact Gives.quiet (survivalAt_any _ _ (by omega) (by omega))))))
      refine wpQuiet_nil ?_
      intro _ hw'
      obtain ⟨y, hw''⟩ := hw'
      subst hw''
      go_wp2
      go_roundw
      case rel => exact ⟨k + 1, by omega, by go_num, by rw [hE.out], by rw [hW.out], he.lift y⟩
      case measure => simp [intOf]; omega
    · obtain rfl : k = ord.length := by omega
      clear H H2 hlt
      go_wp2
      go_ret
      exact ⟨rfl, he⟩
set_option maxHeartbeats 1000000 in
theorem l25Worth_any (a : Option Addr) (cap : Nat) (l : List Area) (a2 : Option Addr) (cap2 : Nat) (ord : List Int) (s : Int) (w : World) (H : AreaAt w a l) (H2 : IntAt w a2 ord) (hok : WorthOk l ord)
    (hs : 0 ≤ s) (hs2 : s ≤ 10000) (hlen : ord.length ≤ 1048576) :
    Gives Tryd.prog 25 #[.slice a l.length cap, .slice a2 ord.length cap2, .int .i64 s] w (.int .i64 (worthAt l ord s ord.length)) := by
  unfold Gives
  have HO := Lib.hid hok
  clear hok
  go_enter Tryd.func25, Tryd.ntmps25
  go_wp2_with fail
  go_loopw [7, 8, 9] (fun wo st i wr => ∃ k : Nat, k ≤ ord.length ∧ i = .int .i64 k ∧ st = .int .i64 (endAt l ord s k) ∧ wo = .int .i64 (worthAt l ord s k) ∧ Ext w wr) (fun _ _ i _ => ord.length - (intOf i).toNat)
  case atStart => exact ⟨0, Nat.zero_le _, rfl, rfl, rfl, Ext.refl w⟩
  case round =>
    obtain ⟨k, hk, rfl, rfl, rfl, he⟩ := hrel
    obtain ⟨w0, w1⟩ := HO.out.worth_bd hs (k := k) hk
    obtain ⟨e0, e1⟩ := HO.out.end_bd s (k := k) hk
    by_cases hlt : k < ord.length
    · obtain ⟨b2, off2, rfl⟩ := H2.base hlt
      obtain ⟨hb2, d0⟩ := IntAt.at (H2.ext he) k hlt
      obtain ⟨i0, i1⟩ := HO.out.ord k hlt
      obtain ⟨m, hm⟩ := Int.eq_ofNat_of_zero_le i0
      have hml : m < l.length := by omega
      obtain ⟨b, off, rfl⟩ := H.base hml
      obtain ⟨hb, c0, c1, c2⟩ := Area.at (H.ext he) m hml
      have hp : Hid (pickA l ord k = nth l m) := by show _ = _; unfold pickA; rw [hm]; rfl
      have t := HO.out.term_bd hs hlt
      rw [hp.out] at t
      obtain ⟨-, -, -, m0, m1⟩ := areaB_parts (HO.out.area m hml)
      have hE : Hid (endAt l ord s (k + 1) = endAt l ord s k + (nth l m).minutes) := by show _ = _; rw [← hp.out]; rfl
      have hW : Hid (worthAt l ord s (k + 1) = worthAt l ord s k + (nth l m).chance * surv (endAt l ord s k + (nth l m).minutes)) := by show _ = _; rw [← hE.out, ← hp.out]; rfl
      rw [hE.out] at t
      obtain ⟨t0, t1⟩ := t
      rw [hm] at d0
      clear H H2 i0 i1 hm
      go_wp2_with fail
      refine region_quiet (by kernel_rfl) (by kernel_rfl) ?_
      repeat (any_goals (first | go_big_quiet_step ((exact Gives.quiet (l25Survival_any _ _ (by omega) (by omega)))) | quiet_step ((exact Gives.quiet (l25Survival_any _ _ (by omega) (by omega))))))
      refine wpQuiet_nil ?_
      intro _ hw'
      obtain ⟨y, hw''⟩ := hw'
      subst hw''
      go_wp2
      go_roundw
      case rel => exact ⟨k + 1, by omega, by go_num, by rw [hE.out], by rw [hW.out], he.lift y⟩
      case measure => simp [intOf]; omega
    · obtain rfl : k = ord.length := by omega
      clear H H2 hlt
      go_wp2
      go_ret
      exact ⟨rfl, he⟩
theorem validAreas_all {l : List Area} (h : validAreas l = true) : l.length ≤ 8 ∧ (∀ k, k < l.length → okAt l k = true) ∧ sumTo l l.length ≤ 1000 := by
  unfold validAreas at h
  simp only [Bool.and_eq_true, decide_eq_true_eq, List.all_eq_true, List.mem_range] at h
  exact ⟨h.1.1, fun k hk => h.1.2 k hk, h.2⟩
theorem ok_of_ask {l : List Area} {ord : List Int} {ok : Bool} (h : askI l ord ok = 0) : validAreas l = true ∧ ok = true ∧ orderB l.length ord = true := by
  unfold askI at h
  split at h
  · split at h
    · split at h
      · exact ⟨by assumption, by assumption, by assumption⟩
      · cases h
    · cases h
  · cases h
theorem WorthOk.of_valid {l : List Area} {ord : List Int} (h1 : validAreas l = true) (h2 : orderB l.length ord = true) : WorthOk l ord :=
  ⟨fun k hk => okAt_area ((validAreas_all h1).2.1 k hk), fun k hk => by
    have := (allB_iff.1 h2) k hk
    unfold ordAt at this
    simp only [Bool.and_eq_true, inB_iff] at this
    omega⟩
def worthV (l : List Area) (ord : List Int) (s : Int) : Int := if askI l ord (inB s 0 1000) = 0 then worthAt l ord s ord.length else 0
theorem intAt_one (w : World) (s : Int) : IntAt (w.alloc (.cells #[.int .i64 s] 2)) (some ⟨w.heap.size, 0, none⟩) [s] := fun k hk => by
  obtain rfl : k = 0 := by simp at hk; omega
  refine ⟨_, _, rfl, by rw [size_new]; omega, fun j hj => ?_⟩
  obtain rfl : j = 0 := by omega
  rw [cell_new]; rfl
theorem allIn_one (s lo hi : Int) : allIn [s] lo hi = inB s lo hi := by simp [allIn]
set_option maxHeartbeats 1000000 in
theorem specWorthOf_any (a : Option Addr) (cap : Nat) (l : List Area) (a2 : Option Addr) (cap2 : Nat) (ord : List Int) (s : Int) (w : World) (H : AreaAt w a l) (hsz : AreaSz l) (H2 : IntAt w a2 ord) (hn : l.length ≤ 1000000000000) (hlen : ord.length ≤ 1048576) (hcap : ord.length ≤ cap2) :
    Gives Tryd.prog 9 #[.slice a l.length cap, .slice a2 ord.length cap2, .int .i64 s] w (.tuple #[.int .i64 (worthV l ord s), .int .i64 (askI l ord (inB s 0 1000))]) := by
  unfold Gives
  have hE : Hid (Ext w w) := Ext.refl w
  have HA := Lib.hid (l25Ask_any a cap l a2 cap2 ord s w H hsz H2 hn (by omega) hcap)
  have HW : Hid (WorthOk l ord → 0 ≤ s → s ≤ 10000 → ∀ y, Gives Tryd.prog 25 #[.slice a l.length cap, .slice a2 ord.length cap2, .int .i64 s] (lift w y) (.int .i64 (worthAt l ord s ord.length))) :=
    fun h1 h2 h3 y => l25Worth_any a cap l a2 cap2 ord s _ (H.ext (hE.out.lift y)) (H2.ext (hE.out.lift y)) h1 h2 h3 hlen
  clear H H2 hsz
  cases h0 : askI l ord (inB s 0 1000) == 0
  · have hne : Hid (0 = worthV l ord s) := by show _ = _; unfold worthV; rw [if_neg (beq_eq_false_iff_ne.1 h0)]
    have h0' : (askI l ord (inB s 0 1000) != 0) = true := by rw [bne, h0]; rfl
    clear h0
    go_enter Tryd.func9, Tryd.ntmps9
    go_wp2_with (go_at_call 24; refine HA.out.mono ?_; rintro e w' ⟨rfl, y, rfl⟩)
    go_ret2
    exact ⟨ret_int2 hne.out rfl, hE.out.lift y⟩
  · have he := beq_iff_eq.1 h0
    have hv : Hid (worthAt l ord s ord.length = worthV l ord s ∧ askI l ord (inB s 0 1000) = 0) := ⟨by unfold worthV; rw [if_pos he], he⟩
    obtain ⟨g1, g2, g3⟩ := ok_of_ask he
    rw [inB_iff] at g2
    have HW' := Lib.hid (HW.out (.of_valid g1 g3) (by omega) (by omega))
    have h0' : (askI l ord (inB s 0 1000) != 0) = false := by rw [bne, h0]; rfl
    clear h0 he g1 g2 g3
    go_enter Tryd.func9, Tryd.ntmps9
    go_wp2_with (first | (go_at_call 24; refine HA.out.mono ?_; rintro e w' ⟨rfl, y, rfl⟩) | (go_at_call 25; refine (HW'.out _).mono ?_; rintro e w' ⟨rfl, z, rfl⟩))
    go_ret2
    exact ⟨ret_int2 hv.out.1 hv.out.2.symm, (hE.out.lift y).lift z⟩
set_option maxHeartbeats 1000000 in
theorem implWorthOf_any (a : Option Addr) (cap : Nat) (l : List Area) (a2 : Option Addr) (cap2 : Nat) (ord : List Int) (s : Int) (w : World) (H : AreaAt w a l) (hsz : AreaSz l) (H2 : IntAt w a2 ord) (hn : l.length ≤ 1000000000000) (hlen : ord.length ≤ 1048576) (hcap : ord.length ≤ cap2) :
    Gives Tryd.prog 10 #[.slice a l.length cap, .slice a2 ord.length cap2, .int .i64 s] w (.tuple #[.int .i64 (worthV l ord s), .int .i64 (askI l ord (inB s 0 1000))]) := by
  unfold Gives
  have hE : Hid (Ext w (w.alloc (.cells #[.int .i64 s] 2))) := (Ext.refl w).alloc _
  have HA := Lib.hid (areasCode_any a cap l a2 cap2 ord (some ⟨w.heap.size, 0, none⟩) 1 [s] (w.alloc (.cells #[.int .i64 s] 2)) (H.ext hE.out) hsz (H2.ext hE.out) (intAt_one w s) hn (by omega) hcap (by simp))
  rw [allIn_one] at HA
  have HW : Hid (WorthOk l ord → 0 ≤ s → s ≤ 10000 → ∀ y, Gives Tryd.prog 22 #[.slice a l.length cap, .slice a2 ord.length cap2, .int .i64 s] (lift (w.alloc (.cells #[.int .i64 s] 2)) y) (.int .i64 (worthAt l ord s ord.length))) :=
    fun h1 h2 h3 y => worthOfOrder_any a cap l a2 cap2 ord s _ (H.ext (hE.out.lift y)) (H2.ext (hE.out.lift y)) h1 h2 h3 hlen
  clear H H2 hsz
  cases h0 : askI l ord (inB s 0 1000) == 0
  · have hne : Hid (0 = worthV l ord s) := by show _ = _; unfold worthV; rw [if_neg (beq_eq_false_iff_ne.1 h0)]
    have h0' : (askI l ord (inB s 0 1000) != 0) = true := by rw [bne, h0]; rfl
    clear h0
    go_enter Tryd.func10, Tryd.ntmps10
    go_wp2_with (go_at_call 26; refine HA.out.mono ?_; rintro e w' ⟨rfl, y, rfl⟩)
    go_ret2
    exact ⟨ret_int2 hne.out rfl, hE.out.lift y⟩
  · have he := beq_iff_eq.1 h0
    have hv : Hid (worthAt l ord s ord.length = worthV l ord s ∧ askI l ord (inB s 0 1000) = 0) := ⟨by unfold worthV; rw [if_pos he], he⟩
    obtain ⟨g1, g2, g3⟩ := ok_of_ask he
    rw [inB_iff] at g2
    have HW' := Lib.hid (HW.out (.of_valid g1 g3) (by omega) (by omega))
    have h0' : (askI l ord (inB s 0 1000) != 0) = false := by rw [bne, h0]; rfl
    clear h0 he g1 g2 g3
    go_enter Tryd.func10, Tryd.ntmps10
    go_wp2_with (first | (go_at_call 26; refine HA.out.mono ?_; rintro e w' ⟨rfl, y, rfl⟩) | (go_at_call 22; refine (HW'.out _).mono ?_; rintro e w' ⟨rfl, z, rfl⟩))
    go_ret2
    exact ⟨ret_int2 hv.out.1 hv.out.2.symm, (hE.out.lift y).lift z⟩
end Go.Proofs.YtccbcjopmkmipaaDoor
