/- ApplyChanges of the program: what it hands back, in memory of its own. -/
import Derived.Test.YtbfgaimlkoeklaaApplyI
namespace Go.Proofs.Ytbfgaimlkoeklaa
open Go.RowKit
theorem cmp_mono {l : List Setting} (h : IncS l) (n : ByteArray) : ∀ i j, i ≤ j → j < l.length → cmpS (nth l j).name n < 0 → cmpS (nth l i).name n < 0 := fun i j hij hj hc => by
  rcases Nat.lt_or_ge i j with h1 | h1
  · rw [cmpS_lt] at hc ⊢
    exact sLt_trans (inc_lt h h1 hj) hc
  · obtain rfl : i = j := by omega
    exact hc
theorem hitB_lt {α : Type} [Inhabited α] {c : α → Int} {l : List α} (h : hitB c l = true) : lowB c l < l.length := by
  unfold hitB at h
  simp only [Bool.and_eq_true, decide_eq_true_eq] at h
  exact h.1
set_option maxRecDepth 100000 in
set_option maxHeartbeats 16000000 in
theorem implApplyChanges_any (w : World) (a : Option Addr) (cap : Nat) (l : List Setting) (H : SettingAt w a l) (hsz : ∀ k, k < l.length → (nth l k).Small) (hn : l.length ≤ 1048576) (_ : l.length ≤ cap)
    (a2 : Option Addr) (cap2 : Nat) (cs : List Change) (H2 : ChangeAt w a2 cs) (hsz2 : ∀ k, k < cs.length → (nth cs k).Small) (hn2 : cs.length ≤ 1048576) (_ : cs.length ≤ cap2) :
    Calls Try.prog 35 #[.slice a l.length cap, .slice a2 cs.length cap2] w (OutS 92 2 Setting.cell w (applyV l cs) [.int .i64 (applyC l cs)]) := by
  have HC := Lib.hid H2
  have HZ : Hid (∀ k, k < cs.length → (nth cs k).name.size ≤ 2000000) := fun k hk => by have := hsz2 k hk; unfold Change.Small at this; omega
  have HV := Lib.hid (ValidSettings_any a cap l w H hsz hn)
  have HX := Lib.hid fun (W : World) (he : Ext w W) => ContainsWrong_any a2 cap2 cs W (RowsAt.ext H2 he) HZ.out hn2
  have HK := Lib.hid fun (W : World) (he : Ext w W) => CloneSetting_any a cap l W (RowsAt.ext H he) hn
  clear H H2 hsz hsz2
  obtain ⟨C, hC⟩ : ∃ C, C = applyC l cs := ⟨_, rfl⟩
  obtain ⟨V, hV⟩ : ∃ V, V = applyV l cs := ⟨_, rfl⟩
  rw [← hC, ← hV]
  have hB : Hid (∀ x : Int, (applyC l cs = x ∧ applyV l cs = []) → C = x ∧ V = []) := fun x h => ⟨hC.trans h.1, hV.trans h.2⟩
  have hC := Lib.hid hC
  have hV := Lib.hid hV
  cases h1 : settingList l
  · obtain ⟨rfl, rfl⟩ := hB.out 1 (apply_1 h1)
    rw [h1] at HV
    go_enter Try.func35, Try.ntmps35
    go_wp2_with (go_at_call 76; refine HV.out.mono ?_; rintro e w' ⟨rfl, y, rfl⟩)
    go_ret2
    exact OutS.nil (T := 92) none 0 rfl (by repeat (first | exact Ext.refl _ | refine Ext.lift ?_ _ | refine Ext.alloc ?_ _))
  rw [h1] at HV
  cases h2 : allCh cs
  · obtain ⟨rfl, rfl⟩ := hB.out 1 (apply_2 h2)
    rw [h2] at HX
    clear h1
    go_enter Try.func35, Try.ntmps35
    go_wp2_with (first | (go_at_call 76; refine HV.out.mono ?_; rintro e w' ⟨rfl, y, rfl⟩) | (go_at_call 87; refine (HX.out _ (by repeat (first | exact Ext.refl _ | refine Ext.lift ?_ _ | refine Ext.alloc ?_ _))).mono ?_; rintro e w' ⟨rfl, y2, rfl⟩))
    go_ret2
    exact OutS.nil (T := 92) none 0 rfl (by repeat (first | exact Ext.refl _ | refine Ext.lift ?_ _ | refine Ext.alloc ?_ _))
  rw [h2] at HX
  have hG := Lib.hid (goodS_of h1)
  have hl24 : l.length ≤ 24 := hG.out.len
  have hAll : Hid (∀ k, k < cs.length → (nth cs k).kind = 1 ∨ (nth cs k).kind = 2) := fun k hk => (changeB_bd (allB_iff.1 h2 k hk)).1
  have h1h := Lib.hid h1
  have h2h := Lib.hid h2
  clear h1 h2
  go_enter Try.func35, Try.ntmps35
  go_wp2_with (first | (go_at_call 76; refine HV.out.mono ?_; rintro e w' ⟨rfl, y, rfl⟩) | (go_at_call 87; refine (HX.out _ (by repeat (first | exact Ext.refl _ | refine Ext.lift ?_ _ | refine Ext.alloc ?_ _))).mono ?_; rintro e w' ⟨rfl, y2, rfl⟩))
  refine (HK.out _ (by repeat (first | exact Ext.refl _ | refine Ext.lift ?_ _ | refine Ext.alloc ?_ _))).mono ?_
  rintro e W0 ⟨v, rfl, hL, hE0⟩
  have hL0 : Hid (Lst 92 2 Setting.cell W0 w.heap.size v l) := Lst.low hL (by simp; try omega)
  have hE0 : Hid (Ext w W0) := Ext.trans (by repeat (first | exact Ext.refl _ | refine Ext.lift ?_ _ | refine Ext.alloc ?_ _)) hE0
  clear HV HX HK hL
  have hsz0 := hE0.out.size
  go_wp2_with fail
  go_loopw [7, 24] (fun o i wr => ∃ k : Nat, k ≤ cs.length ∧ i = .int .i64 k ∧ Hid ((runC l cs k).1 = 0) ∧ Hid (Lst 92 2 Setting.cell wr w.heap.size o (runC l cs k).2) ∧ Ext w wr) (fun _ i _ => cs.length - (intOf i).toNat)
  case atStart => exact ⟨0, Nat.zero_le _, rfl, rfl, hL0.out, hE0.out⟩
  case round =>
    clear hL0 hE0
    obtain ⟨k, hk, rfl, h0, hO, he⟩ := hrel
    have hg := Lib.hid (runC_good hG.out h0.out)
    have hE := Lib.hid he
    have hszr := he.size
    clear he
    by_cases hlt : k < cs.length
    · have hsu := Lib.hid (runC_succ h0.out)
      have hEnd : Hid (∀ x : Int, chE (runC l cs k).2 (nth cs k) = x → x ≠ 0 → C = x ∧ V = []) := fun x h hx => hB.out x (apply_bad h1h.out h2h.out h0.out hlt h hx)
      have hO2 : Hid (chE (runC l cs k).2 (nth cs k) = 0 → (runC l cs (k + 1)).1 = 0) := fun h => by rw [hsu.out]; exact h
      have hN2 : Hid ((runC l cs (k + 1)).2 = chN (runC l cs k).2 (nth cs k)) := by show _ = _; rw [hsu.out]
      have hlen : (runC l cs k).2.length ≤ 24 := hg.out.len
      generalize (runC l cs k).2 = L at *
      clear hsu h0
      obtain ⟨va, vc, rfl, hvc, hvm, hvR, -⟩ := hO.out.shape
      have hvR := Lib.hid hvR
      obtain ⟨b, off, rfl⟩ := HC.out.base hlt
      obtain ⟨hb, c0, c1, c2⟩ := Change.at (HC.out.ext hE.out) k hlt
      have hkind := hAll.out k hlt
      obtain ⟨ch, hch⟩ : ∃ ch, ch = nth cs k := ⟨_, rfl⟩
      rw [← hch] at c0 c1 c2 hkind hEnd hO2 hN2
      clear hch
      have hx1 := Lib.hid ((Ext.refl wr).alloc (.cells #[.int .i64 ch.kind, .string ch.name, .int .i64 ch.value] 102))
      have HS := Lib.hid (BSSetting_any va vc L 90 ch.set (fun y => cmpS y.name ch.name) (wr.alloc (.cells #[.int .i64 ch.kind, .string ch.name, .int .i64 ch.value] 102)) (enters_of Try.func90 (by kernel_rfl) rfl) (RowsAt.ext hvR.out hx1.out) (by omega) (fun j W _ _ => compareSettings_any (nth L j) ch.set W) (cmp_mono hg.out.inc ch.name))
      have hpl : lowB (fun y => cmpS y.name ch.name) L ≤ L.length := posOf_le _ _
      have F0 := Lib.hid (fun h => hitB_lt (c := fun y => cmpS y.name ch.name) (l := L) h)
      have F1 := Lib.hid (fun h1 h2 => ch_set hg.out (c := ch) h1 h2)
      have F2 := Lib.hid (fun h1 h2 h3 => ch_full hg.out (c := ch) h1 h2 h3)
      have F3 := Lib.hid (fun h1 h2 h3 => ch_ins hg.out (c := ch) h1 h2 h3)
      have F4 := Lib.hid (fun h1 h2 => ch_none hg.out (c := ch) h1 h2)
      have F5 := Lib.hid (fun h1 h2 => ch_has hg.out (c := ch) h1 h2)
      generalize lowB (fun y => cmpS y.name ch.name) L = p at *
      generalize hitB (fun y => cmpS y.name ch.name) L = hit at *
      clear hvR
      go_wp2_with fail
      refine HS.out.mono ?_
      rintro e W1' ⟨rfl, y, rfl⟩
      clear HS
      obtain ⟨W1, hW1⟩ : ∃ W1, W1 = lift (wr.alloc (.cells #[.int .i64 ch.kind, .string ch.name, .int .i64 ch.value] 102)) y := ⟨_, rfl⟩
      obtain ⟨bx, hbx⟩ : ∃ bx, bx = wr.heap.size := ⟨_, rfl⟩
      have e1 : Ext wr W1 := by rw [hW1]; exact (by repeat (first | exact Ext.refl _ | refine Ext.lift ?_ _ | refine Ext.alloc ?_ _))
      have e2 : Ext (wr.alloc (.cells #[.int .i64 ch.kind, .string ch.name, .int .i64 ch.value] 102)) W1 := by rw [hW1]; exact (by repeat (first | exact Ext.refl _ | refine Ext.lift ?_ _ | refine Ext.alloc ?_ _))
      have d0 : W1.cell? ⟨bx, 0, none⟩ = some (.int .i64 ch.kind) := by rw [hbx]; exact e2.cell (by rw [cell_new]; rfl)
      have d1 : W1.cell? ⟨bx, 0 + 1, none⟩ = some (.string ch.name) := by rw [hbx]; exact e2.cell (by rw [cell_new]; rfl)
      have d2 : W1.cell? ⟨bx, 0 + 1 + 1, none⟩ = some (.int .i64 ch.value) := by rw [hbx]; exact e2.cell (by rw [cell_new]; rfl)
      have hbl : bx < W1.heap.size := by have := e2.size; rw [size_new] at this; omega
      have hbw : wr.heap.size ≤ bx := by omega
      have hO1 := Lib.hid (hO.out.ext e1)
      have hE1 := Lib.hid (hE.out.trans e1)
      rw [← hW1, ← hbx]
      clear hW1 hbx e1 e2 hO hE c0 c1 c2 hb hx1
      rcases hkind with hk1 | hk1
      · have q1 : (ch.kind == 1) = true := by rw [hk1]; rfl
        cases hit
        · by_cases h24 : L.length = 24
          · obtain ⟨rfl, rfl⟩ := hEnd.out 5 (F2.out hk1 rfl h24) (by decide)
            have q2 : ((L.length : Int) == 24) = true := by rw [h24]; rfl
            clear F0 F1 F2 F3 F4 F5 hk1 h24
            go_wp2_with fail
            go_ret2
            exact OutS.nil (T := 92) none 0 rfl hE1.out
          · obtain ⟨g1, g2⟩ := F3.out hk1 rfl h24
            have hz := Lib.hid (hO2.out g1)
            have hL2 := Lib.hid (hN2.out.trans g2)
            have q2 : ((L.length : Int) == 24) = false := by rw [beq_eq_false_iff_ne]; omega
            have hx2 := Lib.hid ((Ext.refl W1).alloc (.cells #[.string ch.name, .int .i64 ch.value] 92))
            have HI := Lib.hid (InsertSetting_any _ L w.heap.size p W1.heap.size 1 ch.set #[.string ch.name, .int .i64 ch.value] 92 (W1.alloc (.cells #[.string ch.name, .int .i64 ch.value] 92)) (hO1.out.ext hx2.out) (by rw [size_new]; omega) hpl (by omega) (alloc_get W1 _ _ rfl) (fun j hj => by rcases (show j = 0 ∨ j = 1 by omega) with rfl | rfl <;> rfl) (fun e => by have := ownsRow_lt hO1.out _ e; omega))
            have hE2 := Lib.hid (hE1.out.trans hx2.out)
            clear F0 F1 F2 F3 F4 F5 hk1 h24 g1 g2 hEnd hO2 hN2 hO1 hx2
            go_wp2_with fail
            refine HI.out.mono ?_
            rintro e W2 ⟨v2, rfl, L2, S2⟩
            have L2 := Lib.hid L2
            have hE3 := Lib.hid (S2 w hE2.out (Nat.le_refl _))
            clear HI S2
            go_wp2_with fail
            go_roundw
            case rel => exact ⟨k + 1, by omega, by go_num, hz.out, by rw [hL2.out]; exact L2.out, hE3.out⟩
            case measure => simp [intOf]; omega
        · obtain ⟨g1, g2⟩ := F1.out hk1 rfl
          have hpp := F0.out rfl
          have hz := Lib.hid (hO2.out g1)
          have hL2 := Lib.hid (hN2.out.trans g2)
          obtain ⟨xg, xc, xe, hxg, hxB, hxR, hxc, hxm⟩ := hO1.out.parts (by omega)
          simp only [Value.slice.injEq, true_and] at xe
          obtain ⟨rfl, rfl⟩ := xe
          have hxl := hxB.lt
          obtain ⟨u0, v0⟩ := hxB.cell (o := p * 2) (by omega)
          obtain ⟨u1, v1⟩ := hxB.cell (o := p * 2 + 1) (by omega)
          have f0 := hxB.frozen (p * 2)
          have f1 := hxB.frozen (p * 2 + 1)
          have hput := Lib.hid (Lst.put (base := w.heap.size) hxg hxB hxR hxc hxm hpp ch.set [.string ch.name, .int .i64 ch.value] rfl (fun j hj => by rcases (show j = 0 ∨ j = 1 by omega) with rfl | rfl <;> rfl))
          have hE3 : Hid (Ext w (W1.setCells xg (p * 2) [.string ch.name, .int .i64 ch.value])) := ext_setCells hxg _ _ _ hE1.out
          clear F0 F1 F2 F3 F4 F5 hk1 g1 g2 hEnd hO2 hN2 hO1 hxB hxR hE1
          go_wp2_with fail
          go_roundw
          case rel => exact ⟨k + 1, by omega, by go_num, hz.out, by rw [hL2.out]; first | exact hput.out | (have := hput.out; rw [List.length_set] at this; exact this), hE3.out⟩
          case measure => simp [intOf]; omega
      · have hk2 : ch.kind ≠ 1 := by omega
        have q1 : (ch.kind == 1) = false := by rw [beq_eq_false_iff_ne]; exact hk2
        cases hit
        · obtain ⟨rfl, rfl⟩ := hEnd.out 3 (F4.out hk2 rfl) (by decide)
          clear F0 F1 F2 F3 F4 F5 hk1 hk2
          go_wp2_with fail
          go_ret2
          exact OutS.nil (T := 92) none 0 rfl hE1.out
        · obtain ⟨hpp, hnm, g1, g2⟩ := F5.out hk2 rfl
          have g2 := Lib.hid (hN2.out.trans g2)
          have g1 := Lib.hid g1
          obtain ⟨xg, xc, xe, hxg, hxB, hxR, hxc, hxm⟩ := hO1.out.parts (by omega)
          simp only [Value.slice.injEq, true_and] at xe
          obtain ⟨rfl, rfl⟩ := xe
          obtain ⟨hxl, v0, v1⟩ := Setting.at hxR p hpp
          rw [Nat.zero_add] at v0 v1
          rw [hnm] at v0
          by_cases hval : (nth L p).value = ch.value
          · rw [hval] at v1
            rw [if_pos hval] at g1
            have hz := Lib.hid (hO2.out g1.out)
            have HD := Lib.hid fun (W : World) (he : Ext W1 W) => DeleteSetting_any _ L w.heap.size p W (hO1.out.ext he) (by have := he.size; omega) hpp (by omega)
            clear F0 F1 F2 F3 F4 F5 hk1 hk2 hEnd hO2 hN2 hval hnm hxB hxR
            go_wp2_with fail
            refine region_quiet (by kernel_rfl) (by kernel_rfl) ?_
            repeat (any_goals (first | go_big_quiet_step ((fail)) | quiet_step ((fail))))
            refine wpQuiet_nil ?_
            intro _ hw'
            obtain ⟨y, hw''⟩ := hw'
            subst hw''
            go_wp2_with fail
            refine (HD.out _ (by repeat (first | exact Ext.refl _ | refine Ext.lift ?_ _ | refine Ext.alloc ?_ _))).mono ?_
            rintro e W2 ⟨v2, rfl, L2, S2⟩
            have L2 := Lib.hid L2
            have hE3 := Lib.hid (S2 w (hE1.out.lift y) (Nat.le_refl _))
            clear HD S2
            go_wp2_with fail
            go_roundw
            case rel => exact ⟨k + 1, by omega, by go_num, hz.out, by rw [g2.out]; exact L2.out, hE3.out⟩
            case measure => simp [intOf]; omega
          · rw [if_neg hval] at g1
            obtain ⟨rfl, rfl⟩ := hEnd.out 6 g1.out (by decide)
            have hval' : ((nth L p).value == ch.value) = false := by simpa using hval
            clear F0 F1 F2 F3 F4 F5 hk1 hk2 hEnd hO2 hN2 hnm hxB hxR
            go_wp2_with fail
            refine region_quiet (by kernel_rfl) (by kernel_rfl) ?_
            repeat (any_goals (first | go_big_quiet_step ((fail)) | quiet_step ((fail))))
            refine wpQuiet_nil ?_
            intro _ hw'
            obtain ⟨y, hw''⟩ := hw'
            subst hw''
            go_wp2_with fail
            go_ret2
            exact OutS.nil (T := 92) none 0 rfl (hE1.out.lift y)
    · obtain rfl : k = cs.length := by omega
      obtain ⟨rfl, rfl⟩ : C = 0 ∧ V = (runC l cs cs.length).2 := by
        obtain ⟨e1, e2⟩ := apply_ok h1h.out h2h.out h0.out
        exact ⟨hC.out.trans e1, hV.out.trans e2⟩
      generalize (runC l cs cs.length).2 = L at *
      obtain ⟨va, vc, rfl, hvc, hvm, hvR, hvO⟩ := hO.out.shape
      have hvR := Lib.hid hvR
      have hvO := Lib.hid hvO
      go_wp2_with fail
      go_ret2
      exact ⟨va, vc, rfl, hvc, hvO.out, hvR.out, hE.out⟩
end Go.Proofs.Ytbfgaimlkoeklaa
