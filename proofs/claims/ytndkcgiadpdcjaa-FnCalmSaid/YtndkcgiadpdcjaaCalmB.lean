/- Chapter 28: BuriedShare of the program: a share between 0 and 1000. -/
import Derived.Test.YtndkcgiadpdcjaaCalmW
namespace Go.Proofs.Ytndkcgiadpdcjaa
open Go.RowKit
theorem rdiv_share {b c : Int} (h0 : 0 ≤ b) (h1 : b ≤ c) (h2 : 0 < c) : 0 ≤ rdiv (1000 * b) c ∧ rdiv (1000 * b) c ≤ 1000 := by
  unfold rdiv
  rw [if_neg (by omega)]
  constructor
  · exact Int.ediv_nonneg (by omega) (by omega)
  · have : (2 * (1000 * b) + c) / (2 * c) < 1001 := by
      apply Int.ediv_lt_of_lt_mul (by omega)
      omega
    omega
set_option maxRecDepth 100000 in
set_option maxHeartbeats 8000000 in
theorem BuriedShare_any (w : World) (a : Option Addr) (cap : Nat) (l : List Incident) (H : IncidentAt w a l) (hsz : ∀ k, k < l.length → (nth l k).Small) (hn : l.length ≤ 1048576) (s : ByteArray) :
    Calls Try.prog 26 #[.slice a l.length cap, .string s] w fun e w' => ∃ p c : Int, e = .returned (.tuple #[.int .i64 p, .int .i64 c]) ∧ (c = 0 → 0 ≤ p ∧ p ≤ 1000) ∧ Ext w w' := by
  have HA := Lib.hid H
  have HV := Lib.hid fun (w' : World) (he : Ext w w') => ValidIncidents_any a cap l w' (H.ext he) hsz hn
  clear hsz
  cases h1 : incidentList l
  · rw [h1] at HV
    clear h1
    go_enter Try.func26, Try.ntmps26
    go_wp2_with (go_at_call 41; refine (HV.out _ (by repeat (first | exact Ext.refl _ | refine Ext.lift ?_ _ | refine Ext.alloc ?_ _))).mono ?_; rintro e w' ⟨rfl, y, rfl⟩)
    go_ret2
    exact ⟨0, 1, rfl, fun h => absurd h (by decide), (by repeat (first | exact Ext.refl _ | refine Ext.lift ?_ _ | refine Ext.alloc ?_ _))⟩
  rw [h1] at HV
  have h48 := incident_lenW h1
  have hbd := Lib.hid fun k (hk : k < l.length) => (incidentB_bd (vAll_one (show vAll incidentB incB 48 l = true from h1) k hk)).2.2.2.2
  clear h1
  go_enter Try.func26, Try.ntmps26
  go_wp2_with (go_at_call 41; refine (HV.out _ (by repeat (first | exact Ext.refl _ | refine Ext.lift ?_ _ | refine Ext.alloc ?_ _))).mono ?_; rintro e w' ⟨rfl, y, rfl⟩)
  clear HV
  have hE0 := Lib.hid ((Ext.refl w).lift y)
  go_loopw [6, 7, 15] (fun p q i wr => ∃ (k : Nat) (b c : Int), k ≤ l.length ∧ i = .int .i64 k ∧ p = .int .i64 b ∧ q = .int .i64 c ∧ 0 ≤ b ∧ b ≤ c ∧ c ≤ 20 * k ∧ Hid (Ext w wr)) (fun _ _ i _ => l.length - (intOf i).toNat)
  case atStart => exact ⟨0, 0, 0, Nat.zero_le _, rfl, rfl, rfl, by omega, by omega, by omega, hE0.out⟩
  case round =>
    obtain ⟨k, b, c, hk, rfl, rfl, rfl, hb0, hb1, hb2, hE⟩ := hrel
    by_cases hlt : k < l.length
    · obtain ⟨g, off, rfl⟩ := HA.out.base hlt
      obtain ⟨hb, c0, c1, c2, c3, c4, c5⟩ := Incident.at (HA.out.ext hE.out) k hlt
      obtain ⟨⟨e0, e1⟩, f0, f1⟩ := hbd.out k hlt
      have hEa := Lib.hid fun (o : Obj) => hE.out.alloc o
      clear hE hE0
      generalize (nth l k).caught = ct at *
      generalize (nth l k).buried = bu at *
      cases hq : sEq (nth l k).cause s
      · go_wp2_with fail
        go_roundw
        case rel => exact ⟨k + 1, b, c, by omega, by go_num, rfl, rfl, hb0, hb1, by omega, hEa.out _⟩
        case measure => simp [intOf]; omega
      · go_wp2_with fail
        refine region_quiet (by kernel_rfl) (by kernel_rfl) ?_
        repeat (any_goals (first | go_big_quiet_step (fail) | quiet_step (fail)))
        refine wpQuiet_nil ?_
        intro _ hw'
        obtain ⟨y, hw''⟩ := hw'
        subst hw''
        go_wp2_with fail
        go_roundw
        case rel => exact ⟨k + 1, b + bu, c + ct, by omega, by go_num, rfl, rfl, by omega, by omega, by omega, (hEa.out _).lift _⟩
        case measure => simp [intOf]; omega
    · obtain rfl : k = l.length := by omega
      clear hE0
      by_cases hc : c = 0
      · subst hc
        go_wp2_with fail
        go_ret2
        exact ⟨0, 3, rfl, fun h => absurd h (by decide), hE.out⟩
      · have hs := Lib.hid (rdiv_share hb0 hb1 (by omega))
        have hD := Lib.hid fun (W : World) => divRound_any (1000 * b) c W (by omega) (by omega) (by omega) (by omega)
        go_wp2_with (go_at_call 47; refine (hD.out _).mono ?_; rintro e w' ⟨rfl, y2, rfl⟩)
        go_ret2
        exact ⟨_, 0, rfl, fun _ => hs.out, hE.out.lift _⟩
end Go.Proofs.Ytndkcgiadpdcjaa
