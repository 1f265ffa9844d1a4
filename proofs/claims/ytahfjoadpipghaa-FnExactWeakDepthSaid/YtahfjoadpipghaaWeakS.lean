/- WeakDepth of the reference. -/
import Derived.Test.YtahfjoadpipghaaWeakD
namespace Go.Proofs.Ytahfjoadpipghaa
open Go.RowKit
/-- How many of the weak tests among the first k are near a depth. -/
theorem weakTo_near_y {l : List Test} {k : Nat} {near d : Int} (h : classV (nth l k) ≤ 2) : nearN (weakTo l (k + 1)) near d = nearN (weakTo l k) near d + (if -near ≤ (nth l k).depth - d ∧ (nth l k).depth - d ≤ near then 1 else 0) := by rw [weakTo_y h, nearN_snoc]
theorem weakTo_near_n {l : List Test} {k : Nat} {near d : Int} (h : ¬ classV (nth l k) ≤ 2) : nearN (weakTo l (k + 1)) near d = nearN (weakTo l k) near d := by rw [weakTo_n h]
theorem top_y {N : Int → Nat} {l : List Test} {k : Nat} (h : classV (nth l k) ≤ 2) : topTo N (weakTo l (k + 1)) = if (topTo N (weakTo l k)).2 < N (nth l k).depth ∨ (N (nth l k).depth = (topTo N (weakTo l k)).2 ∧ (nth l k).depth < (topTo N (weakTo l k)).1) then ((nth l k).depth, N (nth l k).depth) else topTo N (weakTo l k) := by rw [weakTo_y h, topTo_snoc]
theorem top_n {N : Int → Nat} {l : List Test} {k : Nat} (h : ¬ classV (nth l k) ≤ 2) : topTo N (weakTo l (k + 1)) = topTo N (weakTo l k) := by rw [weakTo_n h]
set_option maxRecDepth 100000 in
set_option maxHeartbeats 4000000 in
theorem specWeakDepth_any (w : World) (a : Option Addr) (cap : Nat) (l : List Test) (H : TestAt w a l) (hsz : ∀ k, k < l.length → (nth l k).Small) (hn : l.length ≤ 1048576) (hcap : l.length ≤ cap) (near : Int) :
    Gives Try.prog 17 #[.slice a l.length cap, .int .i64 near] w (.tuple #[.int .i64 (weakB l near), .int .i64 (weakM l near), .int .i64 (weakC l near)]) := by
  unfold Gives
  have _ := hcap
  have HA := Lib.hid H
  have HV := Lib.hid fun (w' : World) (he : Ext w w') => l08Ok_any a cap l w' (H.ext he) hsz hn
  have HN := Lib.hid fun (w' : World) => l08Near_any near w'
  clear H hsz
  cases h1 : testList l
  · have hv := Lib.hid (weak_1 (near := near) h1)
    rw [h1] at HV
    clear h1
    go_enter Try.func17, Try.ntmps17
    go_wp2_with (go_at_call 42; refine (HV.out _ (by repeat (first | exact Ext.refl _ | refine Ext.lift ?_ _ | refine Ext.alloc ?_ _))).mono ?_; rintro e w' ⟨rfl, y, rfl⟩)
    go_ret3
    exact ⟨ret_three hv.out.2.1.symm hv.out.2.2.symm hv.out.1.symm, (by repeat (first | exact Ext.refl _ | refine Ext.lift ?_ _ | refine Ext.alloc ?_ _))⟩
  rw [h1] at HV
  cases h2 : inB near 0 300
  · have hv := Lib.hid (weak_2 (near := near) h1 h2)
    rw [h2] at HN
    clear h1 h2
    go_enter Try.func17, Try.ntmps17
    go_wp2_with (first | (go_at_call 42; refine (HV.out _ (by repeat (first | exact Ext.refl _ | refine Ext.lift ?_ _ | refine Ext.alloc ?_ _))).mono ?_; rintro e w' ⟨rfl, y, rfl⟩) | (go_at_call 49; refine (HN.out _).mono ?_; rintro e w' ⟨rfl, hw⟩; subst hw))
    go_ret3
    exact ⟨ret_three hv.out.2.1.symm hv.out.2.2.symm hv.out.1.symm, (by repeat (first | exact Ext.refl _ | refine Ext.lift ?_ _ | refine Ext.alloc ?_ _))⟩
  rw [h2] at HN
  obtain ⟨n0, n1⟩ := inB_iff.1 h2
  have hl16 := testList_len h1
  have hone := Lib.hid (vAll_one h1)
  have hdep := Lib.hid fun k (hk : k < l.length) => (testB_bd (vAll_one h1 k hk)).2.1
  have hpp := Lib.hid fun p hp h3 => weak_3 (p := p) h1 h2 hp h3
  have hpq := Lib.hid fun p hp h3 => weak_0 (p := p) h1 h2 hp h3
  have HC := Lib.hid fun (W : World) (b o : Nat) (k : Nat) (hk : k < l.length) c0 c1 c2 => l08Class_any b o (nth l k) W (vAll_one h1 k hk) c0 c1 c2
  clear h1 h2
  obtain ⟨N, hN⟩ : ∃ N : Int → Nat, N = nearN (weakTo l l.length) near := ⟨_, rfl⟩
  rw [← hN] at hpp hpq
  have hNd := Lib.hid fun d => congrFun hN d
  clear hN
  go_enter Try.func17, Try.ntmps17
  go_wp2_with (first | (go_at_call 42; refine (HV.out _ (by repeat (first | exact Ext.refl _ | refine Ext.lift ?_ _ | refine Ext.alloc ?_ _))).mono ?_; rintro e w' ⟨rfl, y, rfl⟩) | (go_at_call 49; refine (HN.out _).mono ?_; rintro e w' ⟨rfl, hw⟩; subst hw))
  clear HV HN
  have E0 : Ext w (lift w y) := (Ext.refl w).lift y
  generalize lift w y = w0 at *
  go_loopw [7, 8, 9] (fun be mo i wr => ∃ (q : Nat) (p : Int × Nat), q ≤ l.length ∧ i = .int .i64 q ∧ be = .int .i64 p.1 ∧ mo = .int .i64 (p.2 : Nat) ∧ p.2 ≤ 16 ∧ Hid (p = topTo N (weakTo l q)) ∧ Ext w wr) (fun _ _ i _ => l.length - (intOf i).toNat)
  case atStart => exact ⟨0, (0, 0), Nat.zero_le _, rfl, rfl, rfl, by simp, rfl, E0⟩
  case round =>
    obtain ⟨q, p, hq, rfl, rfl, rfl, hp16, hpt, he⟩ := hrel
    by_cases hqt : q < l.length
    · obtain ⟨b, off, rfl⟩ := HA.out.base hqt
      obtain ⟨hb, c0, c1, c2, c3, c4⟩ := Test.at (HA.out.ext he) q hqt
      obtain ⟨d0, d1⟩ := hdep.out q hqt
      have hdl : decide ((q : Int) < (l.length : Int)) = true := decide_eq_true (by omega)
      have HCq := Lib.hid (HC.out wr b (off + q * 5) q hqt c0 c1 c2)
      have hcb := classV_bd (nth l q)
      by_cases hk : classV (nth l q) ≤ 2
      · have hut := Lib.hid (top_y (N := N) hk)
        rw [← hpt.out] at hut
        have hEq := Lib.hid he
        clear hpt
        go_wp2_with fail
        clear c0 c1 c2 c3 c4 hb
        refine HCq.out.mono ?_
        rintro e w' ⟨rfl, y2, rfl⟩
        clear HCq
        have hE := Lib.hid (hEq.out.lift y2)
        clear he hEq
        generalize lift wr y2 = wo at *
        go_wp2_with fail
        go_loopw [10, 11] (fun c i wr => ∃ m : Nat, m ≤ l.length ∧ i = .int .i64 m ∧ c = .int .i64 (nearN (weakTo l m) near (nth l q).depth : Nat) ∧ Ext wo wr) (fun _ i _ => l.length - (intOf i).toNat)
        case atStart => exact ⟨0, Nat.zero_le _, rfl, rfl, Ext.refl _⟩
        case round =>
          obtain ⟨m, hm, rfl, rfl, he2⟩ := hrel
          have hnl := nearN_le (weakTo l m) near (nth l q).depth
          have hwl := weakTo_len l m
          by_cases hmt : m < l.length
          · obtain ⟨hb, c0, c1, c2, c3, c4⟩ := Test.at (HA.out.ext (hE.out.trans he2)) m hmt
            obtain ⟨-, -, -, -, x3, -⟩ := Test.at (HA.out.ext (hE.out.trans he2)) q hqt
            obtain ⟨e0, e1⟩ := hdep.out m hmt
            have hdm : decide ((m : Int) < (l.length : Int)) = true := decide_eq_true (by omega)
            have HCm := Lib.hid fun (W : World) (hw : Ext wr W) => HC.out W b (off + m * 5) m hmt (hw.cell c0) (hw.cell c1) (hw.cell c2)
            have hcm := classV_bd (nth l m)
            have hE2 := Lib.hid he2
            clear he2
            by_cases hkm : classV (nth l m) ≤ 2
            · have hnx := Lib.hid (weakTo_near_y (near := near) (d := (nth l q).depth) hkm)
              have hdk : decide (classV (nth l m) ≤ 2) = true := decide_eq_true hkm
              by_cases hc : absI ((nth l m).depth - (nth l q).depth) ≤ near
              · have hn2 : Hid (nearN (weakTo l (m + 1)) near (nth l q).depth = nearN (weakTo l m) near (nth l q).depth + 1) := by show _ = _; rw [hnx.out, if_pos (abs_near.1 hc)]
                have hdc : decide (absI ((nth l m).depth - (nth l q).depth) ≤ near) = true := decide_eq_true hc
                clear hnx
                go_wp2_with fail
                refine region_quiet (by kernel_rfl) (by kernel_rfl) ?_
                repeat (any_goals (first | go_big_quiet_step ((first | exact Gives.quiet (HCm.out _ (by repeat (first | exact Ext.refl _ | refine Ext.lift ?_ _ | refine Ext.alloc ?_ _))) | exact Gives.quiet (Gives.same (l04Abs_any _ _ (by omega) (by omega))))) | quiet_step ((first | exact Gives.quiet (HCm.out _ (by repeat (first | exact Ext.refl _ | refine Ext.lift ?_ _ | refine Ext.alloc ?_ _))) | exact Gives.quiet (Gives.same (l04Abs_any _ _ (by omega) (by omega)))))))
                refine wpQuiet_nil ?_
                intro _ hw'
                obtain ⟨y, hw''⟩ := hw'
                subst hw''
                go_wp2_with fail
                go_roundw
                case rel => exact ⟨m + 1, by omega, by go_num, by rw [hn2.out]; simp, hE2.out.lift _⟩
                case measure => simp [intOf]; omega
              · have hn2 : Hid (nearN (weakTo l (m + 1)) near (nth l q).depth = nearN (weakTo l m) near (nth l q).depth) := by show _ = _; rw [hnx.out, if_neg (fun h => hc (abs_near.2 h))]; rfl
                have hdc : decide (absI ((nth l m).depth - (nth l q).depth) ≤ near) = false := decide_eq_false hc
                have hc' : near < absI ((nth l m).depth - (nth l q).depth) := by omega
                clear hnx hc
                go_wp2_with fail
                refine region_quiet (by kernel_rfl) (by kernel_rfl) ?_
                repeat (any_goals (first | go_big_quiet_step ((first | exact Gives.quiet (HCm.out _ (by repeat (first | exact Ext.refl _ | refine Ext.lift ?_ _ | refine Ext.alloc ?_ _))) | exact Gives.quiet (Gives.same (l04Abs_any _ _ (by omega) (by omega))))) | quiet_step ((first | exact Gives.quiet (HCm.out _ (by repeat (first | exact Ext.refl _ | refine Ext.lift ?_ _ | refine Ext.alloc ?_ _))) | exact Gives.quiet (Gives.same (l04Abs_any _ _ (by omega) (by omega)))))))
                refine wpQuiet_nil ?_
                intro _ hw'
                obtain ⟨y, hw''⟩ := hw'
                subst hw''
                go_wp2_with fail
                go_roundw
                case rel => exact ⟨m + 1, by omega, by go_num, by rw [hn2.out], hE2.out.lift _⟩
                case measure => simp [intOf]; omega
            · have hn2 : Hid (nearN (weakTo l (m + 1)) near (nth l q).depth = nearN (weakTo l m) near (nth l q).depth) := weakTo_near_n hkm
              have hdk : decide (classV (nth l m) ≤ 2) = false := decide_eq_false hkm
              have hk2 : 2 < classV (nth l m) := by omega
              clear hkm
              go_wp2_with fail
              refine region_quiet (by kernel_rfl) (by kernel_rfl) ?_
              repeat (any_goals (first | go_big_quiet_step ((first | exact Gives.quiet (HCm.out _ (by repeat (first | exact Ext.refl _ | refine Ext.lift ?_ _ | refine Ext.alloc ?_ _))) | exact Gives.quiet (Gives.same (l04Abs_any _ _ (by omega) (by omega))))) | quiet_step ((first | exact Gives.quiet (HCm.out _ (by repeat (first | exact Ext.refl _ | refine Ext.lift ?_ _ | refine Ext.alloc ?_ _))) | exact Gives.quiet (Gives.same (l04Abs_any _ _ (by omega) (by omega)))))))
              refine wpQuiet_nil ?_
              intro _ hw'
              obtain ⟨y, hw''⟩ := hw'
              subst hw''
              go_wp2_with fail
              go_roundw
              case rel => exact ⟨m + 1, by omega, by go_num, by rw [hn2.out], hE2.out.lift _⟩
              case measure => simp [intOf]; omega
          · obtain rfl : m = l.length := by omega
            obtain ⟨-, -, -, -, x3, -⟩ := Test.at (HA.out.ext (hE.out.trans he2)) q hqt
            have hNq := hNd.out (nth l q).depth
            rw [← hNq] at hnl ⊢
            obtain ⟨K, hK⟩ : ∃ K, K = N (nth l q).depth := ⟨_, rfl⟩
            rw [← hK] at hnl hut ⊢
            have hE2 := Lib.hid (hE.out.trans he2)
            have hK16 : K ≤ 16 := by omega
            have hbq := block_lt x3
            clear hNq hK he2 hnl hwl
            rcases Nat.lt_trichotomy p.2 K with h | h | h
            · have hn2 : Hid (((nth l q).depth, K) = topTo N (weakTo l (q + 1))) := by show _ = _; rw [hut.out, if_pos (.inl h)]
              clear hut
              go_wp2_with fail
              go_roundw
              case rel => exact ⟨q + 1, ((nth l q).depth, K), by omega, by go_num, rfl, rfl, hK16, hn2.out, hE2.out⟩
              case measure => simp [intOf]; omega
            · by_cases hd : (nth l q).depth < p.1
              · have hn2 : Hid (((nth l q).depth, K) = topTo N (weakTo l (q + 1))) := by show _ = _; rw [hut.out, if_pos (.inr ⟨h.symm, hd⟩)]
                have hKp : ((K : Int) == ((p.2 : Nat) : Int)) = true := by rw [h]; exact beq_self_eq_true _
                have hlk : ¬ ((p.2 : Nat) : Int) < K := by omega
                clear hut h
                go_wp2_with fail
                go_roundw
                case rel => exact ⟨q + 1, ((nth l q).depth, K), by omega, by go_num, rfl, rfl, hK16, hn2.out, hE2.out⟩
                case measure => simp [intOf]; omega
              · have hn2 : Hid (p = topTo N (weakTo l (q + 1))) := by show _ = _; rw [hut.out, if_neg (by omega)]
                have hKp : ((K : Int) == ((p.2 : Nat) : Int)) = true := by rw [h]; exact beq_self_eq_true _
                have hlk : ¬ ((p.2 : Nat) : Int) < K := by omega
                have hd' : p.1 ≤ (nth l q).depth := by omega
                clear hut h hd
                go_wp2_with fail
                go_roundw
                case rel => exact ⟨q + 1, p, by omega, by go_num, rfl, rfl, hp16, hn2.out, hE2.out⟩
                case measure => simp [intOf]; omega
            · have hn2 : Hid (p = topTo N (weakTo l (q + 1))) := by show _ = _; rw [hut.out, if_neg (by omega)]
              have hKp : ((K : Int) == ((p.2 : Nat) : Int)) = false := beq_eq_false_iff_ne.2 (by omega)
              have hlk : ¬ ((p.2 : Nat) : Int) < K := by omega
              clear hut
              go_wp2_with fail
              go_roundw
              case rel => exact ⟨q + 1, p, by omega, by go_num, rfl, rfl, hp16, hn2.out, hE2.out⟩
              case measure => simp [intOf]; omega
      · have hn2 : Hid (p = topTo N (weakTo l (q + 1))) := by show _ = _; rw [top_n hk]; exact hpt.out
        have hk2 : 2 < classV (nth l q) := by omega
        have hEq := Lib.hid he
        clear hpt hk
        go_wp2_with fail
        clear c0 c1 c2 c3 c4 hb
        refine HCq.out.mono ?_
        rintro e w' ⟨rfl, y2, rfl⟩
        clear HCq
        go_wp2_with fail
        go_roundw
        case rel => exact ⟨q + 1, p, by omega, by go_num, rfl, rfl, hp16, hn2.out, hEq.out.lift y2⟩
        case measure => simp [intOf]; omega
    · obtain rfl : q = l.length := by omega
      have hE3 := Lib.hid he
      clear he
      by_cases h0 : p.2 = 0
      · have hv := Lib.hid (hpp.out p hpt.out.symm h0)
        have hz : (((p.2 : Nat) : Int) == 0) = true := by rw [h0]; rfl
        clear hpt h0
        go_wp2_with fail
        go_ret3
        exact ⟨ret_three hv.out.2.1.symm hv.out.2.2.symm hv.out.1.symm, hE3.out⟩
      · have hv := Lib.hid (hpq.out p hpt.out.symm h0)
        have hz : (((p.2 : Nat) : Int) == 0) = false := beq_eq_false_iff_ne.2 (by omega)
        clear hpt h0
        go_wp2_with fail
        go_ret3
        exact ⟨ret_three hv.out.2.1.symm hv.out.2.2.symm hv.out.1.symm, hE3.out⟩
end Go.Proofs.Ytahfjoadpipghaa
