/- ApplyChanges of the reference: what it hands back. -/
import Derived.Test.YtbfgaimlkoeklaaApplyP
namespace Go.Proofs.Ytbfgaimlkoeklaa
open Go.RowKit
/-- append(dst, src...) where src may be nil. -/
theorem wpList_pushO {α : Type} [Inhabited α] {T n : Nat} {cell : α → Nat → Value} {w : World} {P : Program} {ops : Array Oper} {rest : List Oper} {o : Oper} {a : Act} {Q : Exit → Act → World → Prop} {t bytes : Nat} (E : El P t T n bytes) (hcell : ∀ x j, j < n → (cell x j).oneCell' = true) (hgd : o.guard = none) (s x : Operand)
    (ho : o.op = .call { callee := .builtin .append, args := #[s, x], argTypes := #[t, t] }) (base : Nat) (v : Value) (l : List α) (hs : a.eval s = v) (hown : Lst T n cell w base v l)
    (ad : Option Addr) (c : Nat) (l2 : List α) (hx : a.eval x = .slice ad l2.length c) (hR : RowsAt n cell w ad l2)
    (h63 : l.length + l2.length ≤ 9223372036854775807) (hbytes : (l.length + l2.length) * bytes ≤ 140737488355328) (hbase : base ≤ w.heap.size)
    (h : ∀ v' w', Lst T n cell w' base v' (l ++ l2) → Since base w w' → wpList P ops Q rest (a.put o.dst v') w') : wpList P ops Q (o :: rest) a w := by
  cases ad with
  | none =>
    have h0 : l2 = [] := by
      cases l2 with
      | nil => rfl
      | cons y r => obtain ⟨b, off, h⟩ := hR.base (show 0 < (y :: r).length by simp); cases h
    subst h0
    exact wpList_push_none E hgd s x ho base v l hs hown c hx (h v w (by rw [List.append_nil]; exact hown) (Since.of_ext (Ext.refl w)))
  | some ad => exact wpList_pushL E hcell hgd s x ho base v l hs hown ad l2.length c l2 rfl hx hR h63 hbytes hbase (fun v' w' h1 h2 _ => h v' w' h1 h2)
set_option maxRecDepth 100000 in
set_option maxHeartbeats 16000000 in
theorem specApplyChanges_any (w : World) (a : Option Addr) (cap : Nat) (l : List Setting) (H : SettingAt w a l) (hsz : ∀ k, k < l.length → (nth l k).Small) (hn : l.length ≤ 1048576) (_ : l.length ≤ cap)
    (a2 : Option Addr) (cap2 : Nat) (cs : List Change) (H2 : ChangeAt w a2 cs) (hsz2 : ∀ k, k < cs.length → (nth cs k).Small) (hn2 : cs.length ≤ 1048576) (_ : cs.length ≤ cap2) :
    Calls Try.prog 33 #[.slice a l.length cap, .slice a2 cs.length cap2] w (OutR 2 Setting.cell w (applyV l cs) [.int .i64 (applyC l cs)]) := by
  have HA := Lib.hid H
  have HC := Lib.hid H2
  have HZ : Hid (∀ k, k < cs.length → (nth cs k).name.size ≤ 2000000) := fun k hk => by have := hsz2 k hk; unfold Change.Small at this; omega
  have HV := Lib.hid (l27State_any a cap l w H hsz hn)
  clear H H2 hsz hsz2
  obtain ⟨C, hC⟩ : ∃ C, C = applyC l cs := ⟨_, rfl⟩
  obtain ⟨V, hV⟩ : ∃ V, V = applyV l cs := ⟨_, rfl⟩
  rw [← hC, ← hV]
  have hC := Lib.hid hC
  have hV := Lib.hid hV
  have hB : Hid (∀ x : Int, (applyC l cs = x ∧ applyV l cs = []) → C = x ∧ V = []) := fun x h => ⟨hC.out.trans h.1, hV.out.trans h.2⟩
  cases h1 : settingList l
  · obtain ⟨rfl, rfl⟩ := hB.out 1 (apply_1 h1)
    rw [h1] at HV
    go_enter Try.func33, Try.ntmps33
    go_wp2_with (go_at_call 72; refine HV.out.mono ?_; rintro e w' ⟨rfl, y, rfl⟩)
    go_ret2
    exact (OutS.nil (T := 92) none 0 rfl (by repeat (first | exact Ext.refl _ | refine Ext.lift ?_ _ | refine Ext.alloc ?_ _))).read
  rw [h1] at HV
  have hG := Lib.hid (goodS_of h1)
  have hl24 : l.length ≤ 24 := hG.out.len
  have h1h := Lib.hid h1
  clear h1
  go_enter Try.func33, Try.ntmps33
  go_wp2_with (go_at_call 72; refine HV.out.mono ?_; rintro e w' ⟨rfl, y, rfl⟩)
  clear HV
  go_loopw [6] (fun i wr => ∃ k : Nat, k ≤ cs.length ∧ i = .int .i64 k ∧ Hid (∀ j, j < k → changeB (nth cs j) = true) ∧ Ext w wr) (fun i _ => cs.length - (intOf i).toNat)
  case atStart => exact ⟨0, Nat.zero_le _, rfl, upto_zero, (by repeat (first | exact Ext.refl _ | refine Ext.lift ?_ _ | refine Ext.alloc ?_ _))⟩
  case round =>
    obtain ⟨k, hk, rfl, hall, he⟩ := hrel
    by_cases hlt : k < cs.length
    · obtain ⟨b, off, rfl⟩ := HC.out.base hlt
      obtain ⟨hb, c0, c1, c2⟩ := Change.at (HC.out.ext he) k hlt
      have hcall := Lib.hid (l27Change_any b (off + k * 3) (nth cs k) wr (HZ.out k hlt) c0 c1 c2)
      have hE := Lib.hid he
      clear he c0 c1 c2
      cases h2 : changeB (nth cs k)
      · obtain ⟨rfl, rfl⟩ := hB.out 1 (apply_2 (allB_bad hlt h2))
        rw [h2] at hcall
        go_wp2_with (go_at_call 81; refine hcall.out.mono ?_; rintro e w' ⟨rfl, y, rfl⟩)
        go_ret2
        exact (OutS.nil (T := 92) none 0 rfl (hE.out.trans (by repeat (first | exact Ext.refl _ | refine Ext.lift ?_ _ | refine Ext.alloc ?_ _)))).read
      · have hnx : Hid (∀ j, j < k + 1 → changeB (nth cs j) = true) := upto_succ hall.out h2
        rw [h2] at hcall
        go_wp2_with (go_at_call 81; refine hcall.out.mono ?_; rintro e w' ⟨rfl, y, rfl⟩)
        go_roundw
        case rel => exact ⟨k + 1, by omega, by go_num, hnx.out, hE.out.lift y⟩
        case measure => simp [intOf]; omega
    · obtain rfl : k = cs.length := by omega
      have h2 : Hid (allCh cs = true) := allB_end hall.out
      have hK : Hid (∀ k, k < cs.length → (nth cs k).kind = 1 ∨ (nth cs k).kind = 2) := fun k hk => (changeB_bd (hall.out k hk)).1
      clear hall
      have HN := Lib.hid (Lst.new (T := 92) (n := 2) (cell := Setting.cell) wr wr.heap.size (Nat.le_refl _))
      have HR := Lib.hid (RowsAt.ext HA.out (he.trans ((Ext.refl wr).alloc (.cells #[] 92))))
      have hE := Lib.hid he
      have hE1 := Lib.hid ((Ext.refl wr).alloc (.cells #[] 92))
      clear he
      try dsimp only
      repeat (first | (at_builtin; refine Hid.out ?_) | go_values | go_skip | go_guarded | go_step | go_upon | go_back)
      refine Lib.hid ?_
      refine wpList_pushO elSetting oneSetting rfl _ _ rfl wr.heap.size _ [] rfl HN.out a cap l rfl HR.out (by simp; omega) (by simp; omega) (by rw [size_new]; omega) ?_
      intro v1 w1 L1 hs1
      obtain ⟨oa, oc, rfl, hoc, -, hOR, -⟩ := L1.shape
      have hE2 := Lib.hid (hE.out.trans (hs1 wr hE1.out (Nat.le_refl _)))
      have hOR : Hid (RowsAt 2 Setting.cell w1 oa l) := hOR
      have hoc : l.length ≤ oc := hoc
      clear L1 hs1 HN HR hE hE1
      go_wp2_with fail
      go_loopw [7, 8] (fun o i wq => ∃ (k : Nat) (xa : Option Addr) (xc : Nat), k ≤ cs.length ∧ i = .int .i64 k ∧ o = .slice xa (runC l cs k).2.length xc ∧ (runC l cs k).2.length ≤ xc ∧ Hid ((runC l cs k).1 = 0) ∧ Hid (RowsAt 2 Setting.cell wq xa (runC l cs k).2) ∧ Ext w wq) (fun _ i _ => cs.length - (intOf i).toNat)
      case atStart => exact ⟨0, oa, oc, Nat.zero_le _, rfl, rfl, hoc, rfl, hOR.out, hE2.out⟩
      case round =>
        clear hOR hE2 hoc
        obtain ⟨k, xa, xc, hk, rfl, rfl, hxc, h0, hO, he⟩ := hrel
        have hg := Lib.hid (runC_good hG.out h0.out)
        have hE := Lib.hid he
        clear he
        by_cases hlt : k < cs.length
        · have hsu := Lib.hid (runC_succ h0.out)
          have hEnd : Hid (∀ x : Int, chE (runC l cs k).2 (nth cs k) = x → x ≠ 0 → C = x ∧ V = []) := fun x h hx => hB.out x (apply_bad h1h.out h2.out h0.out hlt h hx)
          have hO2 : Hid (chE (runC l cs k).2 (nth cs k) = 0 → (runC l cs (k + 1)).1 = 0) := fun h => by rw [hsu.out]; exact h
          have hN2 : Hid ((runC l cs (k + 1)).2 = chN (runC l cs k).2 (nth cs k)) := by show _ = _; rw [hsu.out]
          have hlen : (runC l cs k).2.length ≤ 24 := hg.out.len
          generalize (runC l cs k).2 = L at *
          clear hsu h0
          obtain ⟨b, off, rfl⟩ := HC.out.base hlt
          obtain ⟨hb, c0, c1, c2⟩ := Change.at (HC.out.ext hE.out) k hlt
          have hx1 := Lib.hid ((Ext.refl wr).alloc (.cells #[.string (nth cs k).name, .int .i64 (nth cs k).value] 92))
          have hOx := Lib.hid (RowsAt.ext hO.out hx1.out)
          have hEx := Lib.hid (hE.out.trans hx1.out)
          have hkind := hK.out k hlt
          by_cases hk1 : (nth cs k).kind = 1
          · have hset := Lib.hid (l27Set_any _ xa xc L (nth cs k).set hOx.out (by omega))
            have hcN : Hid (chN L (nth cs k) = setS (nth cs k).set L) := if_pos hk1
            have hcE : Hid (chE L (nth cs k) = if 24 < (setS (nth cs k).set L).length then 5 else 0) := if_pos hk1
            have hq : ((nth cs k).kind == 1) = true := by rw [hk1]; rfl
            clear hO hE hkind hk1 hx1 hOx
            go_wp2_with fail
            refine hset.out.mono ?_
            rintro e W1 ⟨ya, yc, rfl, hyc, -, hYR, hYE⟩
            have hYR := Lib.hid hYR
            have hYE := Lib.hid (hEx.out.trans hYE)
            clear hset hEx
            by_cases hbig : 24 < (setS (nth cs k).set L).length
            · obtain ⟨rfl, rfl⟩ := hEnd.out 5 (by rw [hcE.out, if_pos hbig]) (by decide)
              clear hcE hcN hN2
              go_wp2_with fail
              go_ret2
              exact (OutS.nil (T := 92) none 0 rfl hYE.out).read
            · have hz : Hid ((runC l cs (k + 1)).1 = 0) := hO2.out (by rw [hcE.out, if_neg hbig])
              have hL2 : Hid ((runC l cs (k + 1)).2 = setS (nth cs k).set L) := hN2.out.trans hcN.out
              clear hcE hcN hN2 hO2 hEnd
              generalize setS (nth cs k).set L = L2 at *
              go_wp2_with fail
              go_roundw
              case rel => exact ⟨k + 1, ya, yc, by omega, by go_num, by rw [hL2.out], by rw [hL2.out]; exact hyc, hz.out, by rw [hL2.out]; exact hYR.out, hYE.out⟩
              case measure => simp [intOf]; omega
          · have hat := Lib.hid fun (W : World) (hE : Ext (wr.alloc (.cells #[.string (nth cs k).name, .int .i64 (nth cs k).value] 92)) W) => l27At_any xa xc L (nth cs k).name W (RowsAt.ext hOx.out hE) (by omega)
            have hcN : Hid (chN L (nth cs k) = L.take (idxS (nth cs k).name L).toNat ++ L.drop ((idxS (nth cs k).name L).toNat + 1)) := if_neg hk1
            have hcE : Hid (chE L (nth cs k) = if idxS (nth cs k).name L < 0 then 3 else if (nth L (idxS (nth cs k).name L).toNat).value = (nth cs k).value then 0 else 6) := if_neg hk1
            have hq : ((nth cs k).kind == 1) = false := by simpa using hk1
            have hib := idxK_bd (nm := Setting.name) (nth cs k).name L
            have hin : Hid (0 ≤ idxS (nth cs k).name L → (nth L (idxS (nth cs k).name L).toNat).name = (nth cs k).name) := fun h => idxK_name h
            change -1 ≤ idxS (nth cs k).name L ∧ idxS (nth cs k).name L < L.length at hib
            obtain ⟨X, hX⟩ : ∃ X, X = idxS (nth cs k).name L := ⟨_, rfl⟩
            rw [← hX] at hat hcN hcE hin hib
            obtain ⟨hib0, hib1⟩ := hib
            clear hX hkind hx1
            go_wp2_with fail
            refine (hat.out _ (by repeat (first | exact Ext.refl _ | refine Ext.lift ?_ _ | refine Ext.alloc ?_ _))).mono ?_
            rintro e W1 ⟨rfl, hW⟩
            subst hW
            clear hat
            rcases Int.lt_or_le X 0 with hneg | hpos
            · obtain ⟨rfl, rfl⟩ := hEnd.out 3 (by rw [hcE.out, if_pos hneg]) (by decide)
              clear hcE hcN hN2 hin
              go_wp2_with fail
              go_ret2
              exact (OutS.nil (T := 92) none 0 rfl hEx.out).read
            · obtain ⟨m, rfl⟩ := Int.eq_ofNat_of_zero_le hpos
              rw [Int.toNat_natCast] at hcN hcE hin
              have hnm := hin.out hpos
              have hml : m < L.length := by omega
              rw [if_neg (by omega)] at hcE
              obtain ⟨xb, xo, rfl⟩ := hO.out.base hml
              obtain ⟨hxb, d0, d1⟩ := Setting.at hO.out m hml
              rw [hnm] at d0
              clear hin hib0
              by_cases hval : (nth L m).value = (nth cs k).value
              · rw [hval] at d1
                rw [if_pos hval] at hcE
                have hz : Hid ((runC l cs (k + 1)).1 = 0) := hO2.out hcE.out
                have hL2 : Hid ((runC l cs (k + 1)).2 = L.take m ++ L.drop (m + 1)) := hN2.out.trans hcN.out
                clear hcE hcN hN2 hO2 hEnd hval
                go_wp2_with fail
                refine region_quiet (by kernel_rfl) (by kernel_rfl) ?_
                repeat (any_goals (first | go_big_quiet_step ((fail)) | quiet_step ((fail))))
                refine wpQuiet_nil ?_
                intro _ hw'
                obtain ⟨y, hw''⟩ := hw'
                subst hw''
                obtain ⟨W1, hW1⟩ : ∃ W1, W1 = lift (wr.alloc (.cells #[.string (nth cs k).name, .int .i64 (nth cs k).value] 92)) y := ⟨_, rfl⟩
                have hw1 : Hid (Ext wr W1) := by show Ext wr W1; rw [hW1]; exact (by repeat (first | exact Ext.refl _ | refine Ext.lift ?_ _ | refine Ext.alloc ?_ _))
                rw [← hW1]
                clear hW1 d0 d1 hxb c0 c1 c2 hb hOx hEx hnm
                have HN := Lib.hid (Lst.new (T := 92) (n := 2) (cell := Setting.cell) W1 W1.heap.size (Nat.le_refl _))
                have hx1 := Lib.hid ((Ext.refl W1).alloc (.cells #[] 92))
                have HRt : Hid (SettingAt (W1.alloc (.cells #[] 92)) (some ⟨xb, xo, none⟩) (L.take m)) := (RowsAt.ext hO.out (hw1.out.trans hx1.out)).take m
                have htk : Hid ((L.take m).length = m) := by show _ = _; rw [List.length_take]; omega
                have htd : Hid ((L.drop (m + 1)).length = L.length - (m + 1)) := by show _ = _; rw [List.length_drop]
                try dsimp only
                repeat (first | (at_builtin; refine Hid.out ?_) | go_values | go_skip | go_guarded | go_step | go_upon | go_back)
                refine Lib.hid ?_
                refine wpList_pushL elSetting oneSetting rfl _ _ rfl W1.heap.size _ [] rfl HN.out _ m _ (L.take m) htk.out rfl HRt.out (by simp; omega) (by simp; omega) (by rw [size_new]; omega) ?_
                intro v1 w7 L1 hs1 hg1
                have hx2 := Lib.hid (hs1 W1 hx1.out (Nat.le_refl _))
                have hw7 := hx2.out.size
                have L1h : Hid (Lst 92 2 Setting.cell w7 W1.heap.size v1 (L.take m)) := L1
                have HRd : Hid (∀ q, q = xo + (m + 1) * 2 → SettingAt w7 (some ⟨xb, q, none⟩) (L.drop (m + 1))) := fun q hq => by
                  subst hq
                  exact RowsAt.drop (RowsAt.ext hO.out (hw1.out.trans hx2.out)) (m + 1)
                clear L1 hs1 hg1 HN hx1 HRt
                by_cases hcc : xc = m + 1
                · have hd0 : Hid (L.drop (m + 1) = []) := List.eq_nil_of_length_eq_zero (by rw [htd.out]; omega)
                  have hLm : L.length = m + 1 := by omega
                  clear HRd
                  try dsimp only
                  repeat (first | (at_builtin; refine Hid.out ?_) | go_values | go_skip | go_guarded | go_step | go_upon | go_back)
                  refine Lib.hid ?_
                  first
                    | refine wpList_pushL elSetting oneSetting rfl _ _ rfl W1.heap.size _ (L.take m) rfl L1h.out _ 0 _ [] rfl rfl RowsAt.nil (by rw [htk.out]; omega) (by rw [htk.out]; omega) hw7 ?_
                    | refine wpList_pushL elSetting oneSetting rfl _ _ rfl W1.heap.size _ (L.take m) rfl L1h.out _ (L.length - (m + 1)) _ [] (by simp; omega) rfl RowsAt.nil (by rw [htk.out]; omega) (by rw [htk.out]; omega) hw7 ?_
                    | refine wpList_pushL elSetting oneSetting rfl _ _ rfl W1.heap.size _ (L.take m) rfl L1h.out _ (m + 1 - (m + 1)) _ [] (by simp) rfl RowsAt.nil (by rw [htk.out]; omega) (by rw [htk.out]; omega) hw7 ?_
                  intro v3 w9 L5 hs5 hg5
                  have L5 : Lst 92 2 Setting.cell w9 W1.heap.size v3 (L.take m ++ L.drop (m + 1)) := by rw [hd0.out]; exact L5
                  obtain ⟨P, hP⟩ : ∃ P, P = L.take m ++ L.drop (m + 1) := ⟨_, rfl⟩
                  rw [← hP] at L5 hL2
                  clear hP
                  obtain ⟨ya, yc, rfl, hyc, -, hYR, -⟩ := L5.shape
                  have hYR := Lib.hid hYR
                  have hyc := Lib.hid hyc
                  have hYE := Lib.hid ((hE.out.trans hw1.out).trans (hs5 W1 hx2.out (Nat.le_refl _)))
                  clear L5 hs5 hg5 L1h
                  go_wp2_with fail
                  go_roundw
                  case rel => exact ⟨k + 1, ya, yc, by omega, by go_num, by rw [hL2.out], by rw [hL2.out]; exact hyc.out, hz.out, by rw [hL2.out]; exact hYR.out, hYE.out⟩
                  case measure => simp [intOf]; omega
                · try dsimp only
                  repeat (first | (at_builtin; refine Hid.out ?_) | go_values | go_skip | go_guarded | go_step | go_upon | go_back)
                  refine Lib.hid ?_
                  refine wpList_pushL elSetting oneSetting rfl _ _ rfl W1.heap.size _ (L.take m) rfl L1h.out _ (L.length - (m + 1)) _ (L.drop (m + 1)) htd.out rfl (HRd.out _ (by first | rfl | omega)) (by rw [htk.out]; omega) (by rw [htk.out]; omega) hw7 ?_
                  intro v3 w9 L5 hs5 hg5
                  obtain ⟨P, hP⟩ : ∃ P, P = L.take m ++ L.drop (m + 1) := ⟨_, rfl⟩
                  rw [← hP] at L5 hL2
                  clear hP
                  obtain ⟨ya, yc, rfl, hyc, -, hYR, -⟩ := L5.shape
                  have hYR := Lib.hid hYR
                  have hyc := Lib.hid hyc
                  have hYE := Lib.hid ((hE.out.trans hw1.out).trans (hs5 W1 hx2.out (Nat.le_refl _)))
                  clear L5 hs5 hg5 L1h
                  go_wp2_with fail
                  go_roundw
                  case rel => exact ⟨k + 1, ya, yc, by omega, by go_num, by rw [hL2.out], by rw [hL2.out]; exact hyc.out, hz.out, by rw [hL2.out]; exact hYR.out, hYE.out⟩
                  case measure => simp [intOf]; omega
              · rw [if_neg hval] at hcE
                obtain ⟨rfl, rfl⟩ := hEnd.out 6 hcE.out (by decide)
                have hval' : ((nth L m).value == (nth cs k).value) = false := by simpa using hval
                clear hcE hcN hN2 hO2 hEnd
                go_wp2_with fail
                refine region_quiet (by kernel_rfl) (by kernel_rfl) ?_
                repeat (any_goals (first | go_big_quiet_step ((fail)) | quiet_step ((fail))))
                refine wpQuiet_nil ?_
                intro _ hw'
                obtain ⟨y, hw''⟩ := hw'
                subst hw''
                go_wp2_with fail
                go_ret2
                exact (OutS.nil (T := 92) none 0 rfl (hEx.out.lift y)).read
        · obtain rfl : k = cs.length := by omega
          obtain ⟨rfl, rfl⟩ : C = 0 ∧ V = (runC l cs cs.length).2 := by
            obtain ⟨e1, e2⟩ := apply_ok h1h.out h2.out h0.out
            exact ⟨hC.out.trans e1, hV.out.trans e2⟩
          generalize (runC l cs cs.length).2 = L at *
          go_wp2_with fail
          go_ret2
          exact ⟨xa, xc, rfl, hxc, hO.out, hE.out⟩
end Go.Proofs.Ytbfgaimlkoeklaa
