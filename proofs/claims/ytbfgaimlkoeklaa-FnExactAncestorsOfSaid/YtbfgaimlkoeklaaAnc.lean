/- AncestorsOf: what the program's and the reference's functions hand back. -/
import Derived.Test.YtbfgaimlkoeklaaCommon
import Derived.Test.YtbfgaimlkoeklaaOwnO
namespace Go.Proofs.Ytbfgaimlkoeklaa
open Go.RowKit
theorem OutSO.nil {w w' : World} {rest : List Value} {e : Ending} (a : Option Addr) (cap : Nat) (he : e = .returned (.tuple (.slice a 0 cap :: rest).toArray)) (hE : Ext w w') : OutSO w [] rest e w' :=
  ⟨a, cap, he, Nat.zero_le _, .inl rfl, RowsAt.nil, hE⟩
set_option maxRecDepth 100000 in
set_option maxHeartbeats 4000000 in
theorem specAncestorsOf_any (w : World) (a : Option Addr) (cap : Nat) (l : List Version) (H : VersAt w a l) (hsz : ∀ k, k < l.length → (nth l k).Small) (hn : l.length ≤ 1048576) (x : Int) :
    Calls Try.prog 21 #[.slice a l.length cap, .int .i64 x] w (OutR 1 (fun (x : Int) (_ : Nat) => Value.int .i64 x) w (ancV (strips l) x) [.int .i64 (vcodeP (strips l) [x])]) := by
  have HV := Lib.hid fun (w' : World) (he : Ext w w') => l27Ok_any a cap l w' (H.ext he) hsz hn
  have HN := Lib.hid fun (w' : World) => l27Number_any w' a cap l.length x hn
  cases h1 : histP (strips l)
  · have hv := Lib.hid (vcodeP_bad (P := strips l) [x] h1)
    have hu : Hid (ancV (strips l) x = []) := if_neg (by rw [hv.out]; decide)
    rw [h1] at HV
    clear h1 H hsz HN
    go_enter Try.func21, Try.ntmps21
    go_wp2_with (go_at_call 57; refine (HV.out _ (by repeat (first | exact Ext.refl _ | refine Ext.lift ?_ _ | refine Ext.alloc ?_ _))).mono ?_; rintro e w' ⟨rfl, y, rfl⟩)
    go_ret2
    rw [hu.out, hv.out]
    exact (OutS.nil (T := 2) none 0 rfl (by repeat (first | exact Ext.refl _ | refine Ext.lift ?_ _ | refine Ext.alloc ?_ _))).read
  rw [h1] at HV
  have hv := Lib.hid (vcodeP_one (P := strips l) x h1)
  rw [strips_len] at hv
  cases h2 : inB x 1 l.length
  · have hv3 : Hid (vcodeP (strips l) [x] = 3) := by show _ = _; rw [hv.out, h2]; rfl
    have hu : Hid (ancV (strips l) x = []) := if_neg (by rw [hv3.out]; decide)
    rw [h2] at HN
    clear h1 h2 H hsz hv
    go_enter Try.func21, Try.ntmps21
    go_wp2_with (first | (go_at_call 57; refine (HV.out _ (by repeat (first | exact Ext.refl _ | refine Ext.lift ?_ _ | refine Ext.alloc ?_ _))).mono ?_; rintro e w' ⟨rfl, y, rfl⟩) | (go_at_call 64; refine (HN.out _).mono ?_; rintro e w' ⟨rfl, rfl⟩))
    go_ret2
    rw [hu.out, hv3.out]
    exact (OutS.nil (T := 2) none 0 rfl (by repeat (first | exact Ext.refl _ | refine Ext.lift ?_ _ | refine Ext.alloc ?_ _))).read
  rw [h2] at HN
  have hx := inB_iff.1 h2
  have hv3 : Hid (vcodeP (strips l) [x] = 0) := by show _ = _; rw [hv.out, h2]; rfl
  have hu : Hid (ancV (strips l) x = (lineP (strips l) x).tail) := if_pos hv3.out
  have HC := Lib.hid fun (w' : World) (he : Ext w w') => l27Above_any w' a cap l x (H.ext he) h1 (by omega) hx.2
  obtain ⟨T, hT⟩ : ∃ T, T = (lineP (strips l) x).tail := ⟨_, rfl⟩
  rw [← hT] at HC hu
  clear h1 h2 H hsz hv hx hT
  go_enter Try.func21, Try.ntmps21
  go_wp2_with (first | (go_at_call 57; refine (HV.out _ (by repeat (first | exact Ext.refl _ | refine Ext.lift ?_ _ | refine Ext.alloc ?_ _))).mono ?_; rintro e w' ⟨rfl, y, rfl⟩) | (go_at_call 64; refine (HN.out _).mono ?_; rintro e w' ⟨rfl, rfl⟩))
  have E0 : Ext w (lift w y) := (Ext.refl w).lift y
  refine (HC.out _ E0).mono ?_
  rintro e w2 ⟨ma, mc, rfl, hmc, -, HM, E1⟩
  have HM1 := Lib.hid HM
  have E2 := Lib.hid (E0.trans E1)
  clear HM E1 E0 HC
  go_wp2_with fail
  go_ret2
  rw [hu.out, hv3.out]
  exact ⟨ma, mc, rfl, hmc, HM1.out, E2.out⟩
set_option maxRecDepth 100000 in
set_option maxHeartbeats 4000000 in
theorem implAncestorsOf_any (w : World) (a : Option Addr) (cap : Nat) (l : List Version) (H : VersAt w a l) (hsz : ∀ k, k < l.length → (nth l k).Small) (hn : l.length ≤ 1048576) (x : Int) :
    Calls Try.prog 22 #[.slice a l.length cap, .int .i64 x] w (OutSO w (ancV (strips l) x) [.int .i64 (vcodeP (strips l) [x])]) := by
  have HV : Hid (Gives Try.prog 66 #[.slice a l.length cap, .slice (some ⟨w.heap.size, 0, none⟩) 1 1] (w.alloc (.cells #[.int .i64 x] 2)) (.int .i64 (vcodeP (strips l) [x]))) :=
    versionsCode_any _ a cap l (some ⟨w.heap.size, 0, none⟩) 1 [x] (H.ext ((Ext.refl _).alloc _)) hsz hn (rows_int w x rfl) (by simp)
  by_cases h0 : vcodeP (strips l) [x] = 0
  · obtain ⟨hh, hall⟩ := vcodeP_zero h0
    have hall2 : inB x 1 l.length = true := by rw [strips_len] at hall; unfold allIn at hall; simpa using hall
    have hx := inB_iff.1 hall2
    have hl32 := (hist_bd hh).1
    have hlp := lineP_len (strips l) x
    have hpos := lineP_pos hh (n := x) (by omega) (by rw [strips_len]; exact hx.2)
    have hu : Hid (ancV (strips l) x = (lineP (strips l) x).tail) := if_pos h0
    have HC := Lib.hid fun (w' : World) (he : Ext w w') => lineOf_any w' a cap l x (H.ext he) hh (by omega) hx.2
    obtain ⟨T, hT⟩ : ∃ T, T = lineP (strips l) (nth (strips l) (x.toNat - 1)).parent := ⟨_, rfl⟩
    rw [← hT] at hpos
    rw [hpos] at HC hu hlp
    have hTl : T.length + 1 ≤ 32 := by rw [List.length_cons] at hlp; omega
    have h0' := Lib.hid h0
    clear h0 hh hall hall2 hx H hsz hpos hT hlp
    rw [h0'.out] at HV
    go_enter Try.func22, Try.ntmps22
    go_wp2_with fail
    refine HV.out.mono ?_
    rintro e w' ⟨rfl, z, rfl⟩
    clear HV
    have E0 : Ext w (lift (w.alloc (.cells #[.int .i64 x] 2)) z) := (by repeat (first | exact Ext.refl _ | refine Ext.lift ?_ _ | refine Ext.alloc ?_ _))
    go_wp2_with fail
    refine (HC.out _ E0).mono ?_
    rintro e w2 ⟨ma, mc, rfl, hmc, hO, HM, E1⟩
    rcases hO with h | ⟨g, N, rfl, hg, hB, hN⟩
    · exact absurd h (by simp)
    rw [List.length_cons] at hmc hN
    have hsz0 := E0.size
    have HO2 : Hid (OwnO w2 w.heap.size 2 (some ⟨g, 1, none⟩) T.length) := .inr ⟨g, 1, N, rfl, by omega, hB, by omega⟩
    have HM2 : Hid (IntAt w2 (some ⟨g, 1, none⟩) T) := IntAt.of hB.lt fun k hk => by
      have := (IntAt.at (l := x :: T) HM (k + 1) (by simp; omega)).2
      rw [nth_cons_succ] at this
      rw [← this]; congr 2; omega
    have E2 := Lib.hid (E0.trans E1)
    clear HM E1 E0 HC hB hN hg hsz0
    have hmc' := Lib.hid hmc
    simp only [List.length_cons]
    by_cases hm1 : mc = 1
    · subst hm1
      obtain rfl : T = [] := List.eq_nil_of_length_eq_zero (by omega)
      go_wp2_with fail
      go_ret2
      rw [hu.out, h0'.out]
      exact OutSO.nil (some ⟨g, 0, none⟩) 0 rfl E2.out
    · have hm2 : 1 < mc := by omega
      clear hm1
      go_wp2_with fail
      all_goals
        go_ret2
        rw [hu.out, h0'.out]
        exact ⟨some ⟨g, 1, none⟩, mc - 1, rfl, by rw [List.tail_cons]; have := hmc'.out; omega, HO2.out, HM2.out, E2.out⟩
  · have hu : Hid (ancV (strips l) x = []) := if_neg h0
    obtain ⟨c, hc⟩ : ∃ c, c = vcodeP (strips l) [x] := ⟨_, rfl⟩
    rw [← hc] at HV h0 ⊢
    have hd : (c == 0) = false := beq_eq_false_iff_ne.2 h0
    clear h0 H hsz hc
    go_enter Try.func22, Try.ntmps22
    go_wp2_with fail
    refine HV.out.mono ?_
    rintro e w' ⟨rfl, z, rfl⟩
    go_wp2_with fail
    go_ret2
    rw [hu.out]
    exact OutSO.nil none 0 rfl (by repeat (first | exact Ext.refl _ | refine Ext.lift ?_ _ | refine Ext.alloc ?_ _))
end Go.Proofs.Ytbfgaimlkoeklaa
