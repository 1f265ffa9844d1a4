/- Hours without a watch; who is on watch. -/
import Derived.Test.YtmkmmenkjbmppaaDoorWatL
import Derived.Test.YtmkmmenkjbmppaaDoorSrch
import Derived.Test.YtmkmmenkjbmppaaDoorStrs
import Derived.Test.YtmkmmenkjbmppaaDoorTurnW
namespace Go.Proofs.YtmkmmenkjbmppaaDoor
open Go.RowKit
/-- Someone of the first k is at work at an hour. -/
def covTo (l : List Watch) (h : Int) : Nat → Bool
  | 0 => false
  | k + 1 => covTo l h k || (!(nth l k).call && decide ((nth l k).start ≤ h) && decide (h < (nth l k).start + (nth l k).hours))
def covW (l : List Watch) (h : Int) : Bool := covTo l h l.length
theorem covTo_false {l : List Watch} {h : Int} : ∀ {k j : Nat}, covTo l h k = false → j < k → (!(nth l j).call && decide ((nth l j).start ≤ h) && decide (h < (nth l j).start + (nth l j).hours)) = false
  | 0, _, _, hj => absurd hj (Nat.not_lt_zero _)
  | k + 1, j, hc, hj => by
    unfold covTo at hc
    rw [Bool.or_eq_false_iff] at hc
    rcases (show j < k ∨ j = k by omega) with h1 | rfl
    · exact covTo_false hc.1 h1
    · exact hc.2
/-- Hours that rise, without a watch, within bounds. -/
structure HoursOk (l : List Watch) (a b : Int) (V : List Int) : Prop where
  inn : ∀ k, k < V.length → a ≤ nth V k ∧ nth V k < b
  up : ∀ k, k + 1 < V.length → nth V k < nth V (k + 1)
  cov : ∀ k, k < V.length → covW l (nth V k) = false
theorem HoursOk.nil (l : List Watch) (a b : Int) : HoursOk l a b [] := ⟨fun _ h => absurd h (Nat.not_lt_zero _), fun _ h => absurd h (Nat.not_lt_zero _), fun _ h => absurd h (Nat.not_lt_zero _)⟩
theorem nth_snocL {α : Type} [Inhabited α] {l : List α} {x : α} {k : Nat} (h : k < l.length) : nth (l ++ [x]) k = nth l k := by simp [nth, List.getElem?_append_left h]
theorem nth_snocR {α : Type} [Inhabited α] (l : List α) (x : α) : nth (l ++ [x]) l.length = x := by simp [nth]
theorem HoursOk.more {l : List Watch} {a b : Int} {V : List Int} (h : HoursOk l a b V) {c : Int} (hc : b ≤ c) : HoursOk l a c V := ⟨fun k hk => by have := h.inn k hk; omega, h.up, h.cov⟩
theorem HoursOk.push {l : List Watch} {a b : Int} {V : List Int} (h : HoursOk l a b V) (hab : a ≤ b) (hc : covW l b = false) : HoursOk l a (b + 1) (V ++ [b]) where
  inn := fun k hk => by
    rw [List.length_append] at hk; simp only [List.length_cons, List.length_nil] at hk
    rcases (show k < V.length ∨ k = V.length by omega) with h1 | rfl
    · rw [nth_snocL h1]; have := h.inn k h1; omega
    · rw [nth_snocR]; omega
  up := fun k hk => by
    rw [List.length_append] at hk; simp only [List.length_cons, List.length_nil] at hk
    rcases (show k + 1 < V.length ∨ k + 1 = V.length by omega) with h1 | h1
    · rw [nth_snocL h1, nth_snocL (by omega)]; exact h.up k h1
    · rw [h1, nth_snocR, nth_snocL (by omega)]; exact (h.inn k (by omega)).2
  cov := fun k hk => by
    rw [List.length_append] at hk; simp only [List.length_cons, List.length_nil] at hk
    rcases (show k < V.length ∨ k = V.length by omega) with h1 | rfl
    · rw [nth_snocL h1]; exact h.cov k h1
    · rw [nth_snocR]; exact hc
end Go.Proofs.YtmkmmenkjbmppaaDoor
namespace Go.Proofs.YtmkmmenkjbmppaaDoor
open Go.RowKit
theorem watchHour_any (n : Int) (w : World) : Calls Tryd.prog 29 #[.int .i64 n] w fun e w' => e = .returned (.bool (inB n 0 10100)) ∧ w' = w := by
  go_enter Tryd.func29, Tryd.ntmps29
  go_wp2_with (go_at_call 34; refine (within_any _ _ _ _).mono ?_; rintro e w' ⟨rfl, rfl⟩)
  go_ret
  exact ⟨rfl, rfl⟩
theorem l26Hour_any (n : Int) (w : World) : Calls Tryd.prog 32 #[.int .i64 n] w fun e w' => e = .returned (.bool (inB n 0 10100)) ∧ w' = w := by
  go_enter Tryd.func32, Tryd.ntmps32
  go_wp2_with (go_at_call 50; refine (l00In_any _ _ _ _).mono ?_; rintro e w' ⟨rfl, rfl⟩)
  go_ret
  exact ⟨rfl, rfl⟩
/-- A watch has an hour, at work. -/
def atW (x : Watch) (h : Int) : Bool := !x.call && decide (x.start ≤ h) && decide (h < x.start + x.hours)
theorem covTo_succ (l : List Watch) (h : Int) (k : Nat) : covTo l h (k + 1) = (covTo l h k || atW (nth l k) h) := rfl
theorem covTo_no {l : List Watch} {h : Int} {k : Nat} (hc : covTo l h k = false) (ha : atW (nth l k) h = false) : covTo l h (k + 1) = false := by rw [covTo_succ, hc, ha]; rfl
theorem covTo_yes {l : List Watch} {h : Int} : ∀ {n k : Nat}, k < n → atW (nth l k) h = true → covTo l h n = true
  | 0, _, hk, _ => absurd hk (Nat.not_lt_zero _)
  | n + 1, k, hk, ha => by
    rw [covTo_succ, Bool.or_eq_true]
    rcases (show k < n ∨ k = n by omega) with h1 | rfl
    · exact .inl (covTo_yes h1 ha)
    · exact .inr ha
theorem cov_at {l : List Watch} {h : Int} (hc : covW l h = false) {k : Nat} (hk : k < l.length) : atW (nth l k) h = false := by
  rw [← Bool.not_eq_true]
  intro ha
  rw [show covW l h = true from covTo_yes hk ha] at hc
  cases hc
set_option maxRecDepth 100000 in
theorem l26At_any (b o : Nat) (x : Watch) (h : Int) (w : World) (hs : 0 ≤ x.start ∧ x.start ≤ 10000) (hh : 1 ≤ x.hours ∧ x.hours ≤ 48) (c1 : w.cell? ⟨b, o + 1, none⟩ = some (.int .i64 x.start)) (c2 : w.cell? ⟨b, o + 2, none⟩ = some (.int .i64 x.hours)) :
    Gives Tryd.prog 33 #[.pointer (some ⟨b, o, none⟩), .int .i64 h] w (.bool (decide (x.start ≤ h) && decide (h < x.start + x.hours))) := by
  unfold Gives
  obtain ⟨s0, s1⟩ := hs
  obtain ⟨h0, h1⟩ := hh
  have hb := block_lt c1
  generalize x.start = s at *
  generalize x.hours = t at *
  cases hc : decide (s ≤ h)
  · go_enter Tryd.func33, Tryd.ntmps33
    go_wp2_with fail
    refine region_quiet (by kernel_rfl) (by kernel_rfl) ?_
    repeat (any_goals (first | go_big_quiet_step (fail) | quiet_step (fail)))
    refine wpQuiet_nil ?_
    intro _ hw'
    obtain ⟨y, hw''⟩ := hw'
    subst hw''
    go_wp2_with fail
    go_ret
    exact ⟨rfl, (Ext.refl w).lift y⟩
  · go_enter Tryd.func33, Tryd.ntmps33
    go_wp2_with fail
    refine region_quiet (by kernel_rfl) (by kernel_rfl) ?_
    repeat (any_goals (first | go_big_quiet_step (fail) | quiet_step (fail)))
    refine wpQuiet_nil ?_
    intro _ hw'
    obtain ⟨y, hw''⟩ := hw'
    subst hw''
    go_wp2_with fail
    go_ret
    exact ⟨rfl, (Ext.refl w).lift y⟩
set_option maxRecDepth 100000 in
set_option maxHeartbeats 4000000 in
theorem personsAt_any (a : Option Addr) (cap : Nat) (l : List Watch) (h : Int) (w : World) (H : WatchAt w a l) (hok : ∀ k, k < l.length → watchB (nth l k) = true) (hl : l.length ≤ 32) :
    Calls Tryd.prog 30 #[.slice a l.length cap, .int .i64 h, .bool false] w fun e w' => ∃ (va : Option Addr) (vn vc : Nat), e = .returned (.slice va vn vc) ∧ (decide (0 < vn) = covW l h) ∧ vn ≤ 32 ∧ Ext w w' := by
  have HX := Lib.hid H
  have hB := Lib.hid hok
  clear H hok
  go_enter Tryd.func30, Tryd.ntmps30
  go_wp2_with fail
  go_loopw [7, 12] (fun o i wr => ∃ (k : Nat) (V : List ByteArray), k ≤ l.length ∧ i = .int .i64 (k : Int) ∧ V.length ≤ k ∧ Hid (decide (0 < V.length) = covTo l h k) ∧ Hid (Lst 9 1 cellS wr w.heap.size o V) ∧ Hid (Ext w wr)) (fun _ i _ => l.length - (intOf i).toNat)
  case atStart => exact ⟨0, [], Nat.zero_le _, rfl, Nat.zero_le _, rfl, Lst.nil _ _, Ext.refl w⟩
  case round =>
    obtain ⟨k, V, hk, rfl, hVk, hc, hL, hE⟩ := hrel
    by_cases hlt : k < l.length
    · have hd : decide (k < l.length) = true := decide_eq_true hlt
      have HR := RowsAt.ext HX.out hE.out
      obtain ⟨b, off, rfl⟩ := RowsAt.base HR hlt
      obtain ⟨hb, c0, c1, c2, c3⟩ := Watch.at HR k hlt
      obtain ⟨-, bs, bh⟩ := watchB_bd (hB.out k hlt)
      have hsu := Lib.hid (covTo_succ l h k)
      have HEnd := Lib.hid fun W => Watch_end (nth l k) W bs bh
      clear HR
      obtain ⟨x, hx⟩ : ∃ x, x = nth l k := ⟨_, rfl⟩
      rw [← hx] at c0 c1 c2 c3 bs bh hsu HEnd
      clear hx
      obtain ⟨s0, s1⟩ := bs
      obtain ⟨h0, h1⟩ := bh
      have hX := (Ext.refl wr).alloc (.cells #[.string x.person, .int .i64 x.start, .int .i64 x.hours, .bool x.call] 65)
      have hL2 := Lib.hid (hL.out.ext hX)
      have hE2 := Lib.hid (hE.out.trans hX)
      replace hX := Lib.hid hX
      cases hcl : x.call
      · rcases Int.lt_or_le h x.start with hc1 | hc1
        · have hat : Hid (atW x h = false) := by show _ = _; unfold atW; rw [hcl, decide_eq_false (show ¬ x.start ≤ h by omega)]; rfl
          have hdd : decide (x.start ≤ h) = false := decide_eq_false (by omega)
          rw [hcl] at c3 HEnd hL2 hE2 hX
          clear hL hE
          go_wp2_with fail
          go_roundw
          case rel => exact ⟨k + 1, V, by omega, by go_num, by omega, by show _ = _; rw [hsu.out, hat.out, Bool.or_false]; exact hc.out, hL2.out, hE2.out⟩
          case measure => simp [intOf]; omega
        · have hdd : decide (x.start ≤ h) = true := decide_eq_true hc1
          rcases Int.lt_or_le h (x.start + x.hours) with hc2 | hc2
          · have hat : Hid (atW x h = true) := by show _ = _; unfold atW; rw [hcl, hdd, decide_eq_true hc2]; rfl
            have hde : decide (h < x.start + x.hours) = true := decide_eq_true hc2
            rw [hcl] at c3 HEnd hL2 hE2 hX
            clear hL hE hcl
            go_wp2_with fail
            refine (HEnd.out _).mono ?_
            rintro e w5 ⟨rfl, E5⟩
            have hX5 := hX.out.trans E5
            have d0 := E5.cell (show (wr.alloc (.cells #[.string x.person, .int .i64 x.start, .int .i64 x.hours, .bool false] 65)).cell? ⟨wr.heap.size, 0, none⟩ = some (.string x.person) by rw [cell_new]; rfl)
            have dl := block_lt d0
            have hL5 := Lib.hid ((hL2.out.ext E5).ext ((Ext.refl w5).alloc (.cells #[.string x.person] 9)))
            have hE5 := Lib.hid ((hE2.out.trans E5).trans ((Ext.refl w5).alloc (.cells #[.string x.person] 9)))
            have HR2 := Lib.hid (rows_str (T := 9) w5 x.person (n := w5.heap.size) rfl)
            have hbs : Hid (w.heap.size ≤ (w5.alloc (.cells #[.string x.person] 9)).heap.size) := hE5.out.size
            clear E5 hX5 HEnd hL2 hE2
            go_wp2_with (at_builtin; refine wpList_pushL elStrs oneStr rfl _ _ rfl w.heap.size _ V (by rfl) hL5.out _ 1 1 [x.person] rfl (by rfl) HR2.out (by omega) (by omega) hbs.out ?_; intro v6 w6 L6 _ g6; have L6 := Lib.hid L6; have hge := hL5.out.ge; have hE6 := Lib.hid (hE5.out.grown g6 (fun q hq => hge q hq)); clear g6 hge)
            go_roundw
            case rel => exact ⟨k + 1, V ++ [x.person], by omega, by go_num, by rw [List.length_append]; simp; omega, by show _ = _; rw [hsu.out, hat.out, Bool.or_true, List.length_append]; exact decide_eq_true (by simp), L6.out, hE6.out⟩
            case measure => simp [intOf]; omega
          · have hat : Hid (atW x h = false) := by show _ = _; unfold atW; rw [decide_eq_false (show ¬ h < x.start + x.hours by omega), Bool.and_false]
            have hde : decide (h < x.start + x.hours) = false := decide_eq_false (by omega)
            rw [hcl] at c3 HEnd hL2 hE2 hX
            clear hL hE hcl
            go_wp2_with fail
            refine (HEnd.out _).mono ?_
            rintro e w5 ⟨rfl, E5⟩
            have hL5 := Lib.hid (hL2.out.ext E5)
            have hE5 := Lib.hid (hE2.out.trans E5)
            clear E5 HEnd hL2 hE2
            go_wp2_with fail
            go_roundw
            case rel => exact ⟨k + 1, V, by omega, by go_num, by omega, by show _ = _; rw [hsu.out, hat.out, Bool.or_false]; exact hc.out, hL5.out, hE5.out⟩
            case measure => simp [intOf]; omega
      · have hat : Hid (atW x h = false) := by show _ = _; unfold atW; rw [hcl]; rfl
        rw [hcl] at c3 HEnd hL2 hE2 hX
        clear hL hE
        go_wp2_with fail
        go_roundw
        case rel => exact ⟨k + 1, V, by omega, by go_num, by omega, by show _ = _; rw [hsu.out, hat.out, Bool.or_false]; exact hc.out, hL2.out, hE2.out⟩
        case measure => simp [intOf]; omega
    · have hd : decide (k < l.length) = false := decide_eq_false hlt
      have hkl : k = l.length := by omega
      obtain ⟨va, vc, rfl, -, -, -, -⟩ := hL.out.shape
      have hcv : Hid (decide (0 < V.length) = covW l h) := by show _ = covTo l h l.length; rw [← hkl]; exact hc.out
      clear hkl
      go_wp2_with fail
      go_ret
      exact ⟨va, V.length, vc, rfl, hcv.out, by omega, hE.out⟩
end Go.Proofs.YtmkmmenkjbmppaaDoor
namespace Go.Proofs.YtmkmmenkjbmppaaDoor
open Go.RowKit
/-- What the law asks of the hours. -/
def HoursOut (w : World) (l : List Watch) (a b : Int) (e : Ending) (w' : World) : Prop := ∃ (va : Option Addr) (vc : Nat) (V : List Int) (C : Int), e = .returned (.tuple #[.slice va V.length vc, .int .i64 C]) ∧ IntAt w' va V ∧ Ext w w' ∧ (C ≠ 0 → V = []) ∧ (C = 0 → watList l = true ∧ 0 ≤ a ∧ b ≤ 10100 ∧ V.length ≤ 64 ∧ HoursOk l a b V)
theorem HoursOut.no {w w' : World} {l : List Watch} {a b : Int} {e : Ending} {C : Int} (h : e = .returned (.tuple #[.slice none 0 0, .int .i64 C])) (hC : C ≠ 0) (hE : Ext w w') : HoursOut w l a b e w' := ⟨none, 0, [], C, h, RowsAt.nil, hE, fun _ => rfl, fun h => absurd h hC⟩
set_option maxRecDepth 100000 in
set_option maxHeartbeats 8000000 in
theorem UnwatchedHours_any (w : World) (a : Option Addr) (cap : Nat) (l : List Watch) (H : WatchAt w a l) (hsz : ∀ k, k < l.length → (nth l k).Small) (hn : l.length ≤ 1048576) (fr un : Int) :
    Calls Tryd.prog 11 #[.slice a l.length cap, .int .i64 fr, .int .i64 un] w (HoursOut w l fr un) := by
  have HX := Lib.hid H
  have HV := Lib.hid (ValidWatches_any a cap l w H hsz hn)
  clear H hsz
  cases h1 : watList l
  · rw [h1] at HV
    clear h1
    go_enter Tryd.func11, Tryd.ntmps11
    go_wp2_with fail
    refine HV.out.mono ?_
    rintro e w1 ⟨rfl, E1⟩
    have E1 := Lib.hid E1
    clear HV
    go_wp2_with fail
    go_ret2
    exact HoursOut.no rfl (by decide) E1.out
  rw [h1] at HV
  have hwl := Lib.hid h1
  have hB := Lib.hid (vAll_one (show vAll watchB watOrd 32 l = true from h1))
  have hl32 : l.length ≤ 32 := vAll_len_le (show vAll watchB watOrd 32 l = true from h1)
  clear h1
  have HW1 := Lib.hid fun W => watchHour_any fr W
  have HW2 := Lib.hid fun W => watchHour_any un W
  cases h2 : inB fr 0 10100
  · rw [h2] at HW1
    clear h2
    go_enter Tryd.func11, Tryd.ntmps11
    go_wp2_with fail
    refine HV.out.mono ?_
    rintro e w1 ⟨rfl, E1⟩
    have E1 := Lib.hid E1
    clear HV
    go_wp2_with fail
    refine (HW1.out _).mono ?_
    rintro e w2 ⟨rfl, hw2⟩
    rw [hw2]
    clear hw2
    go_wp2_with fail
    go_ret2
    exact HoursOut.no rfl (by decide) E1.out
  rw [h2] at HW1
  obtain ⟨f0, f1⟩ := inB_iff.1 h2
  clear h2
  cases h3 : inB un 0 10100
  · rw [h3] at HW2
    clear h3
    go_enter Tryd.func11, Tryd.ntmps11
    go_wp2_with fail
    refine HV.out.mono ?_
    rintro e w1 ⟨rfl, E1⟩
    have E1 := Lib.hid E1
    clear HV
    go_wp2_with fail
    refine (HW1.out _).mono ?_
    rintro e w2 ⟨rfl, hw2⟩
    rw [hw2]
    clear hw2
    go_wp2_with fail
    refine (HW2.out _).mono ?_
    rintro e w2 ⟨rfl, hw2⟩
    rw [hw2]
    clear hw2
    go_wp2_with fail
    go_ret2
    exact HoursOut.no rfl (by decide) E1.out
  rw [h3] at HW2
  obtain ⟨u0, u1⟩ := inB_iff.1 h3
  clear h3
  rcases Int.lt_or_le un fr with h4 | h4
  · have hd : decide (un < fr) = true := decide_eq_true h4
    go_enter Tryd.func11, Tryd.ntmps11
    go_wp2_with fail
    refine HV.out.mono ?_
    rintro e w1 ⟨rfl, E1⟩
    have E1 := Lib.hid E1
    clear HV
    go_wp2_with fail
    refine (HW1.out _).mono ?_
    rintro e w2 ⟨rfl, hw2⟩
    rw [hw2]
    clear hw2
    go_wp2_with fail
    refine (HW2.out _).mono ?_
    rintro e w2 ⟨rfl, hw2⟩
    rw [hw2]
    clear hw2
    go_wp2_with fail
    go_ret2
    exact HoursOut.no rfl (by decide) E1.out
  · have hd : decide (un < fr) = false := decide_eq_false (by omega)
    go_enter Tryd.func11, Tryd.ntmps11
    go_wp2_with fail
    refine HV.out.mono ?_
    rintro e w1 ⟨rfl, E1⟩
    have E1 := Lib.hid E1
    clear HV
    go_wp2_with fail
    refine (HW1.out _).mono ?_
    rintro e w2 ⟨rfl, hw2⟩
    rw [hw2]
    clear hw2
    go_wp2_with fail
    refine (HW2.out _).mono ?_
    rintro e w2 ⟨rfl, hw2⟩
    rw [hw2]
    clear hw2 HW1 HW2 hd
    go_wp2_with fail
    go_loopw [8, 9] (fun o i wr => ∃ (h : Int) (V : List Int), fr ≤ h ∧ h ≤ un ∧ i = .int .i64 h ∧ V.length ≤ 64 ∧ Hid (HoursOk l fr h V) ∧ Hid (Lst 2 1 cellI wr w.heap.size o V) ∧ Hid (Ext w wr)) (fun _ i _ => (un - intOf i).toNat)
    case atStart => exact ⟨fr, [], Int.le_refl _, h4, rfl, Nat.zero_le _, HoursOk.nil _ _ _, Lst.nil _ _, E1.out⟩
    case round =>
      clear E1
      obtain ⟨h, V, hf, hu, rfl, hV, hH, hL, hE⟩ := hrel
      rcases Int.lt_or_le h un with hlt | hge
      · have hd : decide (h < un) = true := decide_eq_true hlt
        have HP := Lib.hid (personsAt_any a cap l h wr (RowsAt.ext HX.out hE.out) hB.out hl32)
        obtain ⟨va, vc, rfl, -, -, -, -⟩ := hL.out.shape
        go_wp2_with fail
        refine HP.out.mono ?_
        rintro e w5 ⟨pa, pn, pc, rfl, hpn, hp32, E5⟩
        have hL5 := Lib.hid (hL.out.ext E5)
        have hE5 := Lib.hid (hE.out.trans E5)
        clear HP E5 hL hE
        cases hc : covW l h
        · rw [hc] at hpn
          have hp0 : pn = 0 := by
            rcases Nat.eq_zero_or_pos pn with h0 | h0
            · exact h0
            · rw [decide_eq_true h0] at hpn; cases hpn
          subst hp0
          have hH2 := Lib.hid (hH.out.push hf hc)
          clear hpn hc hH
          by_cases h64 : V.length = 64
          · have h6 : ((V.length : Int) == 64) = true := by rw [h64]; rfl
            clear h64
            go_wp2_with fail
            go_ret2
            exact HoursOut.no rfl (by decide) hE5.out
          · have h6 : ((V.length : Int) == 64) = false := beq_eq_false_iff_ne.2 (by omega)
            have hLx := Lib.hid (hL5.out.ext ((Ext.refl w5).alloc (.cells #[.int .i64 h] 2)))
            have hEx := Lib.hid (hE5.out.trans ((Ext.refl w5).alloc (.cells #[.int .i64 h] 2)))
            have HR2 : Hid (IntAt (w5.alloc (.cells #[.int .i64 h] 2)) (some ⟨w5.heap.size, 0, none⟩) [h]) := rows_new (n := 1) (cell := cellI) (T := 2) w5 #[.int .i64 h] h (fun i hi => by rw [show i = 0 from Nat.lt_one_iff.1 hi]; rfl)
            have hbs : Hid (w.heap.size ≤ (w5.alloc (.cells #[.int .i64 h] 2)).heap.size) := hEx.out.size
            go_wp2_with (at_builtin; refine wpList_pushL elInt oneInt rfl _ _ rfl w.heap.size _ V (by rfl) hLx.out _ 1 1 [h] rfl (by rfl) HR2.out (by omega) (by omega) hbs.out ?_; intro v6 w6 L6 _ g6; have L6 := Lib.hid L6; have hge := hLx.out.ge; have hE6 := Lib.hid (hEx.out.grown g6 (fun q hq => hge q hq)); clear g6 hge)
            go_roundw
            case rel => exact ⟨h + 1, V ++ [h], by omega, by omega, by go_num, by rw [List.length_append]; simp; omega, hH2.out, L6.out, hE6.out⟩
            case measure => simp [intOf]; omega
        · rw [hc] at hpn
          have hp0 : 0 < pn := of_decide_eq_true hpn
          clear hpn hc
          go_wp2_with fail
          go_roundw
          case rel => exact ⟨h + 1, V, by omega, by omega, by go_num, hV, hH.out.more (by omega), hL5.out, hE5.out⟩
          case measure => simp [intOf]; omega
      · have hd : decide (h < un) = false := decide_eq_false (by omega)
        have hhu : h = un := by omega
        subst hhu
        obtain ⟨va, vc, rfl, -, -, hR, -⟩ := hL.out.shape
        have hR := Lib.hid hR
        go_wp2_with fail
        go_ret2
        exact ⟨va, vc, V, 0, rfl, hR.out, hE.out, fun h => absurd rfl h, fun _ => ⟨hwl.out, f0, u1, hV, hH.out⟩⟩
set_option maxRecDepth 100000 in
set_option maxHeartbeats 8000000 in
theorem OnWatch_no (w : World) (a : Option Addr) (cap : Nat) (l : List Watch) (H : WatchAt w a l) (hsz : ∀ k, k < l.length → (nth l k).Small) (hn : l.length ≤ 1048576) (h : Int) (hwl : watList l = true) (h0 : 0 ≤ h) (h1 : h ≤ 10100) (hcov : covW l h = false) :
    Calls Tryd.prog 12 #[.slice a l.length cap, .int .i64 h] w fun e w' => ∃ (va : Option Addr) (vc : Nat), e = .returned (.tuple #[.slice va 0 vc, .int .i64 0]) ∧ Ext w w' := by
  have HX := Lib.hid H
  have HV := Lib.hid (l26Ok_any a cap l w H hsz hn)
  have HW := Lib.hid fun W => l26Hour_any h W
  rw [hwl] at HV
  rw [show inB h 0 10100 = true from inB_iff.2 ⟨h0, h1⟩] at HW
  have hB := Lib.hid (vAll_one (show vAll watchB watOrd 32 l = true from hwl))
  have hl32 : l.length ≤ 32 := vAll_len_le (show vAll watchB watOrd 32 l = true from hwl)
  have hat := Lib.hid fun k (hk : k < l.length) => cov_at hcov hk
  clear H hsz hwl hcov
  go_enter Tryd.func12, Tryd.ntmps12
  go_wp2_with fail
  refine HV.out.mono ?_
  rintro e w1 ⟨rfl, E1⟩
  have E1 := Lib.hid E1
  clear HV
  go_wp2_with fail
  refine (HW.out _).mono ?_
  rintro e w2 ⟨rfl, hw2⟩
  rw [hw2]
  clear hw2 HW
  have E2 := Lib.hid (E1.out.trans ((Ext.refl w1).alloc (.cells #[] 9)))
  go_wp2_with fail
  go_loopw [6, 7] (fun o i wr => ∃ (k : Nat) (va : Option Addr) (vc : Nat), k ≤ l.length ∧ i = .int .i64 (k : Int) ∧ o = .slice va 0 vc ∧ Hid (Ext w wr)) (fun _ i _ => l.length - (intOf i).toNat)
  case atStart => exact ⟨0, some ⟨w1.heap.size, 0, none⟩, 0, Nat.zero_le _, rfl, rfl, E2.out⟩
  case round =>
    clear E2
    obtain ⟨k, va, vc, hk, rfl, rfl, hE⟩ := hrel
    by_cases hlt : k < l.length
    · have hd : decide (k < l.length) = true := decide_eq_true hlt
      have HR := RowsAt.ext HX.out hE.out
      obtain ⟨b, off, rfl⟩ := RowsAt.base HR hlt
      obtain ⟨hb, c0, c1, c2, c3⟩ := Watch.at HR k hlt
      obtain ⟨-, bs, bh⟩ := watchB_bd (hB.out k hlt)
      have hak := hat.out k hlt
      have HA := Lib.hid (l26At_any b (off + k * 4) (nth l k) h wr bs bh c1 c2)
      clear HR
      obtain ⟨x, hx⟩ : ∃ x, x = nth l k := ⟨_, rfl⟩
      rw [← hx] at c0 c1 c2 c3 bs bh hak HA
      clear hx
      cases hcl : x.call
      · have hf : (decide (x.start ≤ h) && decide (h < x.start + x.hours)) = false := by unfold atW at hak; rw [hcl] at hak; simpa using hak
        rw [hf] at HA
        rw [hcl] at c3
        clear hak hf hcl
        go_wp2_with fail
        refine HA.out.mono ?_
        rintro e w5 ⟨rfl, E5⟩
        have hE5 := Lib.hid (hE.out.trans E5)
        clear E5 HA
        go_wp2_with fail
        go_roundw
        case rel => exact ⟨k + 1, va, vc, by omega, by go_num, rfl, hE5.out⟩
        case measure => simp [intOf]; omega
      · rw [hcl] at c3
        clear hak
        go_wp2_with fail
        go_roundw
        case rel => exact ⟨k + 1, va, vc, by omega, by go_num, rfl, hE.out⟩
        case measure => simp [intOf]; omega
    · have hd : decide (k < l.length) = false := decide_eq_false hlt
      go_wp2_with fail
      go_ret2
      exact ⟨va, vc, rfl, hE.out⟩
theorem b10Has_any (a : Option Addr) (cap : Nat) (l : List Int) (n : Int) (w : World) (H : IntAt w a l) (hlen : l.length ≤ 1000000000000) :
    Calls Tryd.prog 9 #[.slice a l.length cap, .int .i64 n] w fun e w' => e = .returned (.bool (hasB l n)) ∧ w' = w := by
  have HX := Lib.hid H
  clear H
  go_enter Tryd.func9, Tryd.ntmps9
  go_wp2
  go_loop [5] (fun i => ∃ k : Nat, k ≤ l.length ∧ i = .int .i64 k ∧ Hid (∀ j, j < k → nth l j ≠ n)) (fun i => l.length - (intOf i).toNat)
  case atStart => exact ⟨0, Nat.zero_le _, rfl, upto_zero⟩
  case round =>
    obtain ⟨k, hk, rfl, hall⟩ := hrel
    by_cases hlt : k < l.length
    · have hd : decide (k < l.length) = true := decide_eq_true hlt
      obtain ⟨b, off, rfl⟩ := RowsAt.base HX.out hlt
      obtain ⟨hb, c0⟩ := IntAt.at HX.out k hlt
      cases h1 : (nth l k == n)
      · have hn := Lib.hid (beq_eq_false_iff_ne.1 h1)
        go_wp2
        go_round
        case rel => exact ⟨k + 1, by omega, by go_num, upto_succ hall.out hn.out⟩
        case measure => simp [intOf]; omega
      · have hv : Hid (true = hasB l n) := hasB_true hlt (beq_iff_eq.1 h1)
        go_wp2
        go_ret
        exact ⟨ret_bool hv.out, rfl⟩
    · have hd : decide (k < l.length) = false := decide_eq_false hlt
      have hv : Hid (false = hasB l n) := hasB_false fun j hj => hall.out j (by omega)
      go_wp2
      go_ret
      exact ⟨ret_bool hv.out, rfl⟩
end Go.Proofs.YtmkmmenkjbmppaaDoor
