/- Histories: when a list of versions is valid. What the program's and the reference's functions say. -/
import Derived.Test.YtbcpgdidajapoaaDoorVrs
namespace Go.Proofs.YtbcpgdidajapoaaDoor
open Go.RowKit
def okP (P : List VerP) (k : Nat) : Bool := ((nth P k).number == (k : Int) + 1) && inB (nth P k).parent 0 k && memoB (nth P k).memo && settingList (nth P k).state
def histP (P : List VerP) : Bool := decide (P.length ≤ 32) && allB P.length (okP P)
theorem okP_strips {l : List Version} {k : Nat} (hk : k < l.length) : okP (strips l) k = (((nth l k).number == (k : Int) + 1) && inB (nth l k).parent 0 k && memoB (nth l k).memo && settingList (nth l k).state) := by
  unfold okP; rw [nth_strips hk]; rfl
theorem histP_bad {l : List Version} {k : Nat} (hk : k < l.length) (h : okP (strips l) k = false) : false = histP (strips l) := by
  unfold histP; rw [allB_bad (by rw [strips_len]; exact hk) h]; simp
theorem histP_len {l : List Version} (h : 32 < l.length) : false = histP (strips l) := by
  unfold histP; rw [strips_len, show decide (l.length ≤ 32) = false from decide_eq_false (by omega)]; rfl
theorem histP_end {l : List Version} (h : ∀ j, j < l.length → okP (strips l) j = true) : histP (strips l) = decide (l.length ≤ 32) := by
  unfold histP; rw [allB_end (by rw [strips_len]; exact h), strips_len]; simp
theorem histP_bd {P : List VerP} (h : histP P = true) : P.length ≤ 32 ∧ ∀ k, k < P.length → (nth P k).number = (k : Int) + 1 ∧ (0 ≤ (nth P k).parent ∧ (nth P k).parent ≤ k) ∧ memoB (nth P k).memo = true ∧ settingList (nth P k).state = true := by
  unfold histP at h
  simp only [Bool.and_eq_true, decide_eq_true_eq] at h
  refine ⟨h.1, fun k hk => ?_⟩
  have := allB_iff.1 h.2 k hk
  unfold okP at this
  simp only [Bool.and_eq_true, inB_iff, beq_iff_eq] at this
  exact ⟨this.1.1.1, this.1.1.2, this.1.2, this.2⟩
/-- The same at a list of versions. -/
theorem hist_bd {l : List Version} (h : histP (strips l) = true) : l.length ≤ 32 ∧ ∀ k, k < l.length → (nth l k).number = (k : Int) + 1 ∧ (0 ≤ (nth l k).parent ∧ (nth l k).parent ≤ k) ∧ memoB (nth l k).memo = true ∧ settingList (nth l k).state = true := by
  obtain ⟨h1, h2⟩ := histP_bd h
  rw [strips_len] at h1 h2
  exact ⟨h1, fun k hk => by have := h2 k hk; rw [nth_strips hk] at this; exact this⟩
set_option maxRecDepth 100000 in
set_option maxHeartbeats 4000000 in
theorem ValidHistory_any (a : Option Addr) (cap : Nat) (l : List Version) (w : World) (H : VersAt w a l) (hsz : ∀ k, k < l.length → (nth l k).Small) (hlen : l.length ≤ 1048576) :
    Gives Tryd.prog 35 #[.slice a l.length cap] w (.bool (histP (strips l))) := by
  unfold Gives
  by_cases hl8 : 32 < l.length
  · have hv := Lib.hid (histP_len hl8)
    go_enter Tryd.func35, Tryd.ntmps35
    go_wp2
    go_ret
    exact ⟨ret_bool hv.out, Ext.refl _⟩
  have HA := Lib.hid H
  have HZ := Lib.hid hsz
  clear H hsz
  go_enter Tryd.func35, Tryd.ntmps35
  go_wp2_with fail
  go_loopw [10] (fun i wr => ∃ k : Nat, k ≤ l.length ∧ i = .int .i64 k ∧ Hid (∀ j, j < k → okP (strips l) j = true) ∧ Ext w wr) (fun i _ => l.length - (intOf i).toNat)
  case atStart => exact ⟨0, Nat.zero_le _, rfl, upto_zero, Ext.refl w⟩
  case round =>
    obtain ⟨k, hk, rfl, hall, he⟩ := hrel
    by_cases hlt : k < l.length
    · obtain ⟨b, off, rfl⟩ := HA.out.row.base hlt
      obtain ⟨hb, c0, c1, c2, c3⟩ := Version.at (HA.out.row.ext he) k hlt
      have hok := Lib.hid (okP_strips hlt)
      have hzm : (nth l k).memo.size ≤ 1000000000000 := by have := (HZ.out k hlt).1; omega
      have hzs := Lib.hid fun W (hW : Ext wr W) => ValidSettings_any (nth l k).addr (nth l k).cap (nth l k).state W ((HA.out.inn k hlt).ext (he.trans hW)) (HZ.out k hlt).2.1 (HZ.out k hlt).2.2.1
      have hbad := Lib.hid (histP_bad hlt)
      by_cases hn : (nth l k).number = (k : Int) + 1
      · have hn1 : ((nth l k).number == (k : Int) + 1) = true := beq_iff_eq.2 hn
        rcases and4 (inB (nth l k).parent 0 k) (memoB (nth l k).memo) (settingList (nth l k).state) with h1 | ⟨h1, h2⟩ | ⟨h1, h2, h3⟩ | ⟨h1, h2, h3⟩
        all_goals
          first
            | have hv : Hid (okP (strips l) k = true) := by show _ = _; rw [hok.out]; simp [*]
            | have hv : Hid (false = histP (strips l)) := hbad.out (by rw [hok.out]; simp [*])
          clear hbad hok hn1
          go_wp2_with (first | (go_at_call 37; refine (within_any _ _ _ _).mono ?_; rintro e w' ⟨rfl, rfl⟩) | (go_at_call 36; refine (memoValid_any _ _ hzm).mono ?_; rintro e w' ⟨rfl, rfl⟩) | (go_at_call 24; refine (hzs.out _ ((Ext.refl _).alloc _)).mono ?_; rintro e w' ⟨rfl, y, rfl⟩))
          first
            | (go_ret; exact ⟨ret_bool hv.out, by first | exact he.alloc _ | exact (he.alloc _).lift _⟩)
            | (go_roundw
               case rel => exact ⟨k + 1, by omega, by go_num, upto_succ hall.out hv.out, (he.alloc _).lift _⟩
               case measure => simp [intOf]; omega)
      · have hn1 : ((nth l k).number == (k : Int) + 1) = false := beq_eq_false_iff_ne.2 hn
        have hv : Hid (false = histP (strips l)) := hbad.out (by rw [hok.out, hn1]; rfl)
        clear hbad hok hn1
        go_wp2_with fail
        go_ret
        exact ⟨ret_bool hv.out, he.alloc _⟩
    · have hv : Hid (histP (strips l) = decide (l.length ≤ 32)) := histP_end fun j hj => hall.out j (by omega)
      have hl8' : decide (l.length ≤ 32) = true := decide_eq_true (by omega)
      go_wp2
      go_ret
      exact ⟨ret_bool (by rw [hv.out, hl8']), he⟩
set_option maxRecDepth 100000 in
set_option maxHeartbeats 4000000 in
theorem l27Ok_any (a : Option Addr) (cap : Nat) (l : List Version) (w : World) (H : VersAt w a l) (hsz : ∀ k, k < l.length → (nth l k).Small) (hlen : l.length ≤ 1048576) :
    Gives Tryd.prog 46 #[.slice a l.length cap] w (.bool (histP (strips l))) := by
  unfold Gives
  have HA := Lib.hid H
  have HZ := Lib.hid hsz
  clear H hsz
  go_enter Tryd.func46, Tryd.ntmps46
  go_wp2_with fail
  go_loopw [3] (fun i wr => ∃ k : Nat, k ≤ l.length ∧ i = .int .i64 k ∧ Hid (∀ j, j < k → okP (strips l) j = true) ∧ Ext w wr) (fun i _ => l.length - (intOf i).toNat)
  case atStart => exact ⟨0, Nat.zero_le _, rfl, upto_zero, Ext.refl w⟩
  case round =>
    obtain ⟨k, hk, rfl, hall, he⟩ := hrel
    by_cases hlt : k < l.length
    · obtain ⟨b, off, rfl⟩ := HA.out.row.base hlt
      obtain ⟨hb, c0, c1, c2, c3⟩ := Version.at (HA.out.row.ext he) k hlt
      have hok := Lib.hid (okP_strips hlt)
      have hzm : (nth l k).memo.size ≤ 1000000000000 := by have := (HZ.out k hlt).1; omega
      have hzs := Lib.hid fun W (hW : Ext wr W) => l27State_any (nth l k).addr (nth l k).cap (nth l k).state W ((HA.out.inn k hlt).ext (he.trans hW)) (HZ.out k hlt).2.1 (HZ.out k hlt).2.2.1
      have hbad := Lib.hid (histP_bad hlt)
      by_cases hn : (nth l k).number = (k : Int) + 1
      · have hn1 : ((nth l k).number == (k : Int) + 1) = true := beq_iff_eq.2 hn
        rcases and4 (inB (nth l k).parent 0 k) (memoB (nth l k).memo) (settingList (nth l k).state) with h1 | ⟨h1, h2⟩ | ⟨h1, h2, h3⟩ | ⟨h1, h2, h3⟩
        all_goals
          first
            | have hv : Hid (okP (strips l) k = true) := by show _ = _; rw [hok.out]; simp [*]
            | have hv : Hid (false = histP (strips l)) := hbad.out (by rw [hok.out]; simp [*])
          clear hbad hok hn1
          go_wp2_with (first | (go_at_call 63; refine (l00In_any _ _ _ _).mono ?_; rintro e w' ⟨rfl, rfl⟩) | (go_at_call 64; refine (l27Memo_any _ _ hzm).mono ?_; rintro e w' ⟨rfl, rfl⟩) | (go_at_call 65; refine (hzs.out _ ((Ext.refl _).alloc _)).mono ?_; rintro e w' ⟨rfl, y, rfl⟩))
          first
            | (go_ret; exact ⟨ret_bool hv.out, by first | exact he.alloc _ | exact (he.alloc _).lift _⟩)
            | (go_roundw
               case rel => exact ⟨k + 1, by omega, by go_num, upto_succ hall.out hv.out, (he.alloc _).lift _⟩
               case measure => simp [intOf]; omega)
      · have hn1 : ((nth l k).number == (k : Int) + 1) = false := beq_eq_false_iff_ne.2 hn
        have hv : Hid (false = histP (strips l)) := hbad.out (by rw [hok.out, hn1]; rfl)
        clear hbad hok hn1
        go_wp2_with fail
        go_ret
        exact ⟨ret_bool hv.out, he.alloc _⟩
    · have hv : Hid (histP (strips l) = decide (l.length ≤ 32)) := histP_end fun j hj => hall.out j (by omega)
      go_wp2
      go_ret
      exact ⟨ret_bool (by rw [hv.out, Bool.eq_iff_iff, decide_eq_true_eq, decide_eq_true_eq]; omega), he⟩
end Go.Proofs.YtbcpgdidajapoaaDoor
