/- The law FnDepths: groups of tests part all tests and lie apart, pairs contradict, and the weak depth has as many tests near it as told: for all inputs, of any length. -/
import Derived.Test.YtdopffhekinbnaaDrawDp
import Derived.Test.YtdopffhekinbnaaDepG
import Derived.Test.YtdopffhekinbnaaDepI
import Derived.Test.YtdopffhekinbnaaContra
import Derived.Test.YtdopffhekinbnaaWeakS
import Derived.Deep.CutRange
namespace Go.Proofs.Ytdopffhekinbnaa
open Go.RowKit
/-- How often a number is in a list. -/
def cntI (F : List Int) (j : Nat) : Int := (F.count (j : Int) : Nat)
theorem cntI_bd (F : List Int) (j : Nat) : 0 ≤ cntI F j ∧ cntI F j ≤ F.length := by
  unfold cntI
  have := List.count_le_length (l := F) (a := (j : Int))
  omega
theorem cntI_push (F : List Int) (x : Nat) (j : Nat) : cntI (F ++ [(x : Int)]) j = if j = x then cntI F j + 1 else cntI F j := by
  unfold cntI
  rw [List.count_append, List.count_singleton]
  by_cases h : j = x
  · subst h; simp
  · rw [if_neg h]
    have : ((x : Int) == (j : Int)) = false := beq_eq_false_iff_ne.2 (by omega)
    simp [this]
/-- Counts of numbers, in a block of their own. -/
structure CntAt (w : World) (b n : Nat) (F : List Int) : Prop where
  blk : Blk w b 2 n
  cell : ∀ j, j < n → w.cell? ⟨b, j, none⟩ = some (.int .i64 (cntI F j))
theorem CntAt.ext {w w' : World} {b n : Nat} {F : List Int} (h : CntAt w b n F) (he : Ext w w') : CntAt w' b n F := ⟨h.blk.ext he, fun j hj => he.cell (h.cell j hj)⟩
theorem CntAt.made (w : World) (n : Nat) : CntAt (w.alloc (.cells (madeCells #[.int .i64 0] n) 2)) w.heap.size n [] := by
  refine ⟨?_, fun j hj => ?_⟩
  · have h := Blk.new w (madeCells #[.int .i64 0] n) 2
    rwa [show (madeCells #[.int .i64 0] n).size = n by rw [← Array.length_toList, toList_madeCells_one]; simp] at h
  · rw [cell_new, ← Array.getElem?_toList, toList_madeCells_one]; simp [hj]; rfl
theorem CntAt.put {w : World} {b n : Nat} {F : List Int} (h : CntAt w b n F) {x : Nat} (hx : x < n) : CntAt (w.setCell ⟨b, x, none⟩ (.int .i64 (cntI F x + 1))) b n (F ++ [(x : Int)]) :=
  ⟨h.blk.set _ _ _, fun j hj => by
    rw [cntI_push]
    by_cases h1 : j = x
    · subst h1; rw [h.blk.same hj, if_pos rfl]
    · rw [cell_other _ (by omega), if_neg h1]; exact h.cell j hj⟩
theorem cnt_all {V : List (List Int)} {n : Nat} (h : V.flatten.Perm (ups n)) {j : Nat} (hj : j < n) : cntI V.flatten j = 1 := by
  unfold cntI
  have h1 : V.flatten.count (j : Int) = 1 := by
    rw [h.count_eq]
    have h2 : 0 < (ups n).count (j : Int) := List.count_pos_iff.2 (ups_mem.2 ⟨by omega, by omega⟩)
    have h3 := List.nodup_iff_count.1 (ups_nodup n) (j : Int)
    omega
  omega
theorem flat_snoc {V : List (List Int)} {g : Nat} (h : g < V.length) : (V.take (g + 1)).flatten = (V.take g).flatten ++ nth V g := by
  rw [List.take_succ_eq_append_getElem h, List.flatten_append, nth_eq V g h]; simp
theorem take_one {X : List Int} {i : Nat} (h : i < X.length) : X.take (i + 1) = X.take i ++ [nth X i] := by
  rw [List.take_succ_eq_append_getElem h, nth_eq X i h]
theorem flat_bd {l : List Test} {near : Int} {V : List (List Int)} (h : GroupsOk l near V) (hl : l.length ≤ 17) : ∀ g, g ≤ V.length → ((V.take g).flatten).length ≤ 17 * g
  | 0, _ => by simp
  | g + 1, hg => by
    rw [flat_snoc (by omega), List.length_append]
    have := flat_bd h hl g (by omega)
    have := (h.each g (by omega)).2
    omega
theorem weak_law (T : List Test) (near : Int) : (weakC T near ≠ 0 → weakB T near = 0 ∧ weakM T near = 0) ∧ (weakC T near = 0 → testList T = true ∧ (0 ≤ near ∧ near ≤ 300) ∧ weakB T near ∈ weakTo T T.length ∧ weakM T near = (nearN (weakTo T T.length) near (weakB T near) : Nat)) := by
  refine ⟨fun h => ⟨if_neg h, if_neg h⟩, fun h => ?_⟩
  have hB : weakB T near = (topTo (nearN (weakTo T T.length) near) (weakTo T T.length)).1 := if_pos h
  have hM : weakM T near = ((topTo (nearN (weakTo T T.length) near) (weakTo T T.length)).2 : Nat) := if_pos h
  unfold weakC at h
  split at h
  · rename_i h1
    split at h
    · rename_i h2
      split at h
      · omega
      · rename_i h3
        obtain ⟨n0, n1⟩ := inB_iff.1 h2
        have ht := topTo_top (nearN (weakTo T T.length) near) (weakTo T T.length) (fun d hd => nearN_self hd n0)
        refine ⟨h1, ⟨n0, n1⟩, ?_⟩
        rcases ht with ⟨-, -, h4⟩ | ⟨h4, h5, -⟩
        · exact absurd h4 h3
        · rw [hB, hM, h5]; exact ⟨h4, rfl⟩
    · omega
  · omega
theorem near_le (D : List Int) (near d : Int) : nearN D near d ≤ D.length := List.countP_le_length
theorem absV_near {x n : Int} (_ : 0 ≤ n) : absV x ≤ n ↔ -n ≤ x ∧ x ≤ n := by unfold absV; split <;> omega
theorem weak_in {T : List Test} {k : Nat} (h : classV (nth T k) ≤ 2) (B : Int) : decide (B ∈ weakTo T (k + 1)) = (decide (B ∈ weakTo T k) || ((nth T k).depth == B)) := by
  rw [weakTo_y h, Bool.eq_iff_iff, Bool.or_eq_true, decide_eq_true_eq, decide_eq_true_eq, beq_iff_eq, List.mem_append, List.mem_singleton, eq_comm (a := B)]
theorem weak_out {T : List Test} {k : Nat} (h : ¬ classV (nth T k) ≤ 2) (B : Int) : decide (B ∈ weakTo T (k + 1)) = decide (B ∈ weakTo T k) := by rw [weakTo_n h]
set_option maxRecDepth 100000 in
set_option maxHeartbeats 16000000 in
theorem depths_law (w : World) (a0 : Option Addr) (cap0 : Nat) (l0 : List UInt8) (H0 : RowsAt 1 (fun (x : UInt8) (_ : Nat) => Value.int .u8 x.toNat) w a0 l0) (_ : ∀ k, k < l0.length → True) (hn0 : l0.length ≤ 9223372036854775807) (_ : l0.length ≤ cap0)
    (a1 : Option Addr) (cap1 : Nat) (l1 : List UInt8) (H1 : RowsAt 1 (fun (x : UInt8) (_ : Nat) => Value.int .u8 x.toNat) w a1 l1) (_ : ∀ k, k < l1.length → True) (hn1 : l1.length ≤ 9223372036854775807) (_ : l1.length ≤ cap1) :
    Gives Try.prog 4 #[.slice a0 l0.length cap0, .slice a1 l1.length cap1] w (.bool true) := by
  unfold Gives
  have B0 := Lib.hid (ByteAt.of8 H0)
  have B1 := Lib.hid (ByteAt.of8 H1)
  have R0 := Lib.hid (byte_range l0)
  have R1 := Lib.hid (byte_range l1)
  rw [show l0.length = (l0.map fun x => (x.toNat : Int)).length by simp] at hn0 ⊢
  rw [show l1.length = (l1.map fun x => (x.toNat : Int)).length by simp] at hn1 ⊢
  clear H0 H1
  generalize (l0.map fun x => (x.toNat : Int)) = code at *
  generalize (l1.map fun x => (x.toNat : Int)) = more at *
  have HL0 := Lib.hid (b10Long_any a0 code.length cap0 w)
  have HL1 := Lib.hid (b10Long_any a1 more.length cap1 w)
  rcases Nat.lt_or_ge 1048576 code.length with f0 | f0
  · have hd : decide (1048576 < (code.length : Int)) = true := decide_eq_true (by omega)
    rw [hd] at HL0
    clear hd
    go_enter Try.func4, Try.ntmps4
    go_wp2_with fail
    refine HL0.out.mono ?_
    rintro e w' ⟨rfl, rfl⟩
    go_wp2_with fail
    go_ret
    exact ⟨rfl, Ext.refl _⟩
  have hd : decide (1048576 < (code.length : Int)) = false := decide_eq_false (by omega)
  rw [hd] at HL0
  clear hd
  rcases Nat.lt_or_ge 1048576 more.length with f1 | f1
  · have hd : decide (1048576 < (more.length : Int)) = true := decide_eq_true (by omega)
    rw [hd] at HL1
    clear hd
    go_enter Try.func4, Try.ntmps4
    go_wp2_with fail
    refine HL0.out.mono ?_
    rintro e w' ⟨rfl, rfl⟩
    go_wp2_with fail
    refine HL1.out.mono ?_
    rintro e w' ⟨rfl, rfl⟩
    go_wp2_with fail
    go_ret
    exact ⟨rfl, Ext.refl _⟩
  have hd : decide (1048576 < (more.length : Int)) = false := decide_eq_false (by omega)
  rw [hd] at HL1
  clear hd
  go_enter Try.func4, Try.ntmps4
  go_wp2_with fail
  refine HL0.out.mono ?_
  rintro e w' ⟨rfl, rfl⟩
  clear HL0
  go_wp2_with fail
  refine HL1.out.mono ?_
  rintro e w' ⟨rfl, rfl⟩
  clear HL1
  go_wp2_with fail
  refine (DrawDepthGroups_any w' a0 cap0 code B0.out R0.out f0).mono ?_
  rintro e w1 ⟨ta, tc, l, near, rfl, htc, hl, hA, hR, hnr, E1⟩
  have hA := Lib.hid hA
  have hR := Lib.hid hR
  have E1 := Lib.hid E1
  clear B0 R0 f0
  go_wp2_with fail
  refine (implDepthGroups_any w1 ta tc l hR.out (fun _ _ => trivial) (by omega) htc near).mono ?_
  rintro e w2 ⟨gv, vs, gs, he5, HB, E2⟩
  have he5' : e = .returned (.tuple #[gv, .int .i64 (depC l near)]) := he5
  subst he5'
  have E2 := Lib.hid E2
  clear he5
  go_upto_if 51 with fail
  obtain ⟨bb, hbb⟩ : ∃ bb, bb = (depC l near == 0) := ⟨_, rfl⟩
  rw [← hbb]
  replace hbb := Lib.hid hbb
  go_cut [9, 10, 11, 12, 13, 14, 15] from 52 to 156 (fun _ _ _ _ _ _ _ wx => Ext w' wx)
  case first =>
    as_aux_lemma =>
      clear R1 B1
      by_cases h0 : depC l near = 0
      · have hV : depV l near = (segs l near (ordD l l.length) l.length).map upG := by unfold depV; rw [if_pos h0]
        have hG := Lib.hid (groups_ok l near)
        rw [← hV] at hG
        have hdep := Lib.hid fun k (hk : k < l.length) => (hA.out.at k hk).de
        obtain ⟨V, hVe⟩ : ∃ V, V = depV l near := ⟨_, rfl⟩
        rw [← hVe] at HB hG
        clear hV hVe hA
        have hb1 : bb = true := by rw [hbb.out, h0]; rfl
        clear hbb
        subst hb1
        obtain ⟨pa, pc, rfl, hpc, -, -, -⟩ := HB.out
        have hII := Lib.hid HB.iis
        have hVl := hG.out.len
        have hR2 := Lib.hid (RowsAt.ext hR.out E2.out)
        have E0 := Lib.hid (E1.out.trans E2.out)
        clear HB hR E1 E2 h0
        have hM := Lib.hid (CntAt.made w2 l.length)
        have hX := Lib.hid ((Ext.refl w2).alloc (.cells (madeCells #[.int .i64 0] l.length) 2))
        have hmk := run_make_blk (P := Try.prog) (t := 38) Try.underlying38 (by kernel_rfl : (Try.prog.info? 2).map (fun i => (i.zero.map Value.cells, i.size, i.bytes)) = some (some #[.int .i64 0], 1, 8)) .i64 .i64 l.length (by omega) (by omega) w2
        rw [Nat.mul_one] at hmk
        go_wp2_with fail
        clear hmk
        obtain ⟨cb, hcb⟩ : ∃ cb, cb = w2.heap.size := ⟨_, rfl⟩
        rw [← hcb] at hM ⊢
        have hcb2 : w2.heap.size ≤ cb := by omega
        clear hcb
        go_loopw [10] (fun i wt => ∃ g : Nat, g ≤ V.length ∧ i = .int .i64 g ∧ Hid (Ext w2 wt) ∧ Hid (CntAt wt cb l.length ((V.take g).flatten))) (fun i _ => V.length - (intOf i).toNat)
        case atStart => exact ⟨0, Nat.zero_le _, rfl, hX.out, hM.out⟩
        case round =>
          clear hM hX
          obtain ⟨g, hg, rfl, he, hC⟩ := hrel
          by_cases hlg : g < V.length
          · have hg1 : decide (g < V.length) = true := decide_eq_true hlg
            have hIW := hII.out.ext he.out
            obtain ⟨pb, po, rfl⟩ := RowsAt.base hIW.row (by rw [hIW.len]; exact hlg)
            obtain ⟨hpb, ad, cp, hcell, -, hIA⟩ := hIW.at hlg
            obtain ⟨e1, e2⟩ := hG.out.each g hlg
            have hz0 : ((nth V g).length == 0) = false := beq_eq_false_iff_ne.2 (by omega)
            have hz1 : (((nth V g).length : Int) == 0) = false := beq_eq_false_iff_ne.2 (by omega)
            have hRS := Lib.hid (b10Rises_any ad cp (nth V g) l.length wr hIA (by omega) (by omega) (hG.out.inn g hlg) (hG.out.up g hlg))
            have hFl := flat_bd hG.out hl g hg
            have hcS := Lib.hid fun (W : World) (hW : Ext wr W) => And.intro (hW.cell hcell) (RowsAt.ext hIA hW)
            clear hIW hIA
            go_wp2_with fail
            refine hRS.out.mono ?_
            rintro e w5 ⟨rfl, E5⟩
            have hC := Lib.hid (hC.out.ext E5)
            have E5 := Lib.hid E5
            have hpb5 := Nat.lt_of_lt_of_le hpb E5.out.size
            clear hRS hcell hpb hz0 hz1
            go_wp2_with fail
            go_loopw [11] (fun i wt => ∃ k : Nat, k ≤ (nth V g).length ∧ i = .int .i64 k ∧ Hid (Ext w2 wt) ∧ Hid (CntAt wt cb l.length ((V.take g).flatten ++ (nth V g).take k))) (fun i _ => (nth V g).length - (intOf i).toNat)
            case atStart => exact ⟨0, Nat.zero_le _, rfl, he.out.trans E5.out, by rw [List.take_zero, List.append_nil]; exact hC.out⟩
            case round =>
              clear hC E5 he hpb5 hcS
              obtain ⟨k, hk, rfl, he, hC⟩ := hrel
              have hIW := hII.out.ext he.out
              obtain ⟨hpb, ad, cp, hcell, -, hIA⟩ := hIW.at hlg
              by_cases hlk : k < (nth V g).length
              · have hk1 : decide (k < (nth V g).length) = true := decide_eq_true hlk
                obtain ⟨x0, x1⟩ := hG.out.inn g hlg k hlk
                obtain ⟨X, hX⟩ := Int.eq_ofNat_of_zero_le x0
                obtain ⟨ab, ao, rfl⟩ := RowsAt.base hIA hlk
                obtain ⟨hab, c0⟩ := IntAt.at hIA k hlk
                rw [hX] at c0 x1
                have hXl : X < l.length := by omega
                have hcl := hC.out.blk.lt
                have hcf := hC.out.blk.frozen X
                have hcx := hC.out.cell X hXl
                obtain ⟨b0, b1⟩ := cntI_bd ((V.take g).flatten ++ (nth V g).take k) X
                rw [List.length_append, List.length_take] at b1
                have hput := Lib.hid (hC.out.put hXl)
                have hE9 := Lib.hid (he.out.setCell (p := ⟨cb, X, none⟩) hcb2 (.int .i64 (cntI ((V.take g).flatten ++ (nth V g).take k) X + 1)))
                have hto := Lib.hid (take_one hlk)
                have hXh := Lib.hid hX
                generalize cntI ((V.take g).flatten ++ (nth V g).take k) X = cx at *
                clear hIW hIA hX x0
                go_wp2_with fail
                go_roundw
                case rel => exact ⟨k + 1, by omega, by go_num, hE9.out, by rw [hto.out, ← List.append_assoc, hXh.out]; exact hput.out⟩
                case measure => simp [intOf]; omega
              · have hk1 : decide (k < (nth V g).length) = false := decide_eq_false hlk
                have hC : Hid (CntAt wr cb l.length ((V.take (g + 1)).flatten)) := by
                  have := hC.out
                  rw [show k = (nth V g).length by omega, List.take_length, ← flat_snoc hlg] at this
                  exact this
                clear hIW hIA
                go_wp2_with fail
                clear hcell hpb
                go_loopw [12] (fun i wt => ∃ h : Nat, h ≤ g ∧ i = .int .i64 h ∧ Hid (Ext w2 wt) ∧ Hid (CntAt wt cb l.length ((V.take (g + 1)).flatten))) (fun i _ => g - (intOf i).toNat)
                case atStart => exact ⟨0, Nat.zero_le _, rfl, he.out, hC.out⟩
                case round =>
                  clear he hC
                  obtain ⟨h, hh, rfl, he, hC⟩ := hrel
                  by_cases hlh : h < g
                  · have hh1 : decide (h < g) = true := decide_eq_true hlh
                    have hhV : h < V.length := by omega
                    go_wp2_with fail
                    go_loopw [13] (fun i wt => ∃ i9 : Nat, i9 ≤ (nth V g).length ∧ i = .int .i64 i9 ∧ Hid (Ext w2 wt) ∧ Hid (CntAt wt cb l.length ((V.take (g + 1)).flatten))) (fun i _ => (nth V g).length - (intOf i).toNat)
                    case atStart => exact ⟨0, Nat.zero_le _, rfl, he.out, hC.out⟩
                    case round =>
                      clear he hC
                      obtain ⟨i9, hi9, rfl, he, hC⟩ := hrel
                      have hIW := hII.out.ext he.out
                      obtain ⟨hpb, ad, cp, hcell, -, hIA⟩ := hIW.at hlg
                      by_cases hli : i9 < (nth V g).length
                      · have hi1 : decide (i9 < (nth V g).length) = true := decide_eq_true hli
                        clear hIW hIA
                        go_wp2_with fail
                        clear hcell hpb
                        go_loopw [14] (fun i wt => ∃ k9 : Nat, k9 ≤ (nth V h).length ∧ i = .int .i64 k9 ∧ Hid (Ext w2 wt) ∧ Hid (CntAt wt cb l.length ((V.take (g + 1)).flatten))) (fun i _ => (nth V h).length - (intOf i).toNat)
                        case atStart => exact ⟨0, Nat.zero_le _, rfl, he.out, hC.out⟩
                        case round =>
                          clear he hC
                          obtain ⟨k9, hk9, rfl, he, hC⟩ := hrel
                          have hIW := hII.out.ext he.out
                          obtain ⟨hpb, ad, cp, hcell, -, hIA⟩ := hIW.at hlg
                          obtain ⟨-, ad2, cp2, hcell2, -, hIA2⟩ := hIW.at hhV
                          by_cases hlk9 : k9 < (nth V h).length
                          · have hk91 : decide (k9 < (nth V h).length) = true := decide_eq_true hlk9
                            obtain ⟨x0, x1⟩ := hG.out.inn g hlg i9 hli
                            obtain ⟨y0, y1⟩ := hG.out.inn h hhV k9 hlk9
                            have hap := hG.out.apart g h hlh hlg i9 hli k9 hlk9
                            have hhl := (hG.out.each h hhV).2
                            obtain ⟨ab, ao, rfl⟩ := RowsAt.base hIA hli
                            obtain ⟨hab, c0⟩ := IntAt.at hIA i9 hli
                            obtain ⟨ab2, ao2, rfl⟩ := RowsAt.base hIA2 hlk9
                            obtain ⟨hab2, c1⟩ := IntAt.at hIA2 k9 hlk9
                            obtain ⟨X, hX⟩ := Int.eq_ofNat_of_zero_le x0
                            obtain ⟨Y, hY⟩ := Int.eq_ofNat_of_zero_le y0
                            rw [hX] at c0 x1 hap
                            rw [hY] at c1 y1 hap
                            have hXl : X < l.length := by omega
                            have hYl : Y < l.length := by omega
                            have hRT := RowsAt.ext hR2.out he.out
                            obtain ⟨tb, tof, rfl⟩ := RowsAt.base hRT hXl
                            obtain ⟨htb, -, -, -, t3, -⟩ := Test.at hRT X hXl
                            obtain ⟨-, -, -, -, s3, -⟩ := Test.at hRT Y hYl
                            have d0 := hdep.out X hXl
                            have d1 := hdep.out Y hYl
                            have hap2 : near < (nth l X).depth - (nth l Y).depth := hap
                            have hno : decide ((nth l X).depth - (nth l Y).depth ≤ near) = false := decide_eq_false (by omega)
                            clear hIW hIA hIA2 hX hY x0 y0 hap hRT
                            go_wp2_with fail
                            refine region_quiet (by kernel_rfl) (by kernel_rfl) ?_
                            repeat (any_goals (first | go_big_quiet_step ((fail)) | quiet_step ((fail))))
                            refine wpQuiet_nil ?_
                            intro _ hw'
                            obtain ⟨y, hw''⟩ := hw'
                            subst hw''
                            go_wp2
                            go_roundw
                            case rel => exact ⟨k9 + 1, by omega, by go_num, he.out.lift y, hC.out.ext ((Ext.refl _).lift y)⟩
                            case measure => simp [intOf]; omega
                          · have hk91 : decide (k9 < (nth V h).length) = false := decide_eq_false hlk9
                            clear hIW hIA hIA2
                            go_wp2_with fail
                            go_roundw
                            case rel => exact ⟨i9 + 1, by omega, by go_num, he.out, hC.out⟩
                            case measure => simp [intOf]; omega
                      · have hi1 : decide (i9 < (nth V g).length) = false := decide_eq_false hli
                        clear hIW hIA
                        go_wp2_with fail
                        go_roundw
                        case rel => exact ⟨h + 1, by omega, by go_num, he.out, hC.out⟩
                        case measure => simp [intOf]; omega
                  · have hh1 : decide (h < g) = false := decide_eq_false hlh
                    go_wp2_with fail
                    go_roundw
                    case rel => exact ⟨g + 1, by omega, by go_num, he.out, hC.out⟩
                    case measure => simp [intOf]; omega
          · have hg1 : decide (g < V.length) = false := decide_eq_false hlg
            have hC : Hid (CntAt wr cb l.length V.flatten) := by
              have := hC.out
              rw [show g = V.length by omega, List.take_length] at this
              exact this
            go_wp2_with fail
            go_loopw [15] (fun i wt => ∃ k : Nat, k ≤ l.length ∧ i = .int .i64 k ∧ wt = wr) (fun i _ => l.length - (intOf i).toNat)
            case atStart => exact ⟨0, Nat.zero_le _, rfl, rfl⟩
            case round =>
              obtain ⟨k, hk, rfl, hwt⟩ := hrel
              subst hwt
              by_cases hlk : k < l.length
              · have hk1 : decide (k < l.length) = true := decide_eq_true hlk
                have hcl := hC.out.blk.lt
                have hcx := hC.out.cell k hlk
                rw [cnt_all hG.out.perm hlk] at hcx
                go_wp2_with fail
                go_roundw
                case rel => exact ⟨k + 1, by omega, by go_num, by first | rfl | trivial⟩
                case measure => simp [intOf]; omega
              · have hk1 : decide (k < l.length) = false := decide_eq_false hlk
                go_wp2_with fail
                go_meet
                case rel => exact E0.out.trans he.out
      · have hb1 : bb = false := by rw [hbb.out]; exact beq_eq_false_iff_ne.2 h0
        clear hbb
        subst hb1
        go_wp2_with fail
        go_meet
        case rel => exact E1.out.trans E2.out
  case rest =>
    have B1 := Lib.hid (RowsAt.ext B1.out hcut)
    have hcut := Lib.hid hcut
    clear HB hR hA E1 E2 hnr hl htc
    go_wp2_with fail
    refine (DrawWeakDepth_any wc a1 cap1 more B1.out R1.out f1).mono ?_
    rintro e w3 ⟨xa, xc, T, nr, rfl, hxc, hT, hA, hR, hnr, E3⟩
    have hR := Lib.hid hR
    have EE := Lib.hid (hcut.out.trans E3)
    clear hcut B1 R1 f1 E3 hA
    obtain ⟨wk1, wk2⟩ := weak_law T nr
    have HW := Lib.hid (implWeakDepth_any w3 xa xc T hR.out (fun _ _ => trivial) (by omega) hxc nr)
    have HCo := Lib.hid fun (W : World) (he : Ext w3 W) => ContradictTests_any W xa xc T (RowsAt.ext hR.out he) (fun _ _ => trivial) (by omega) nr
    obtain ⟨B, hBe⟩ : ∃ B, B = weakB T nr := ⟨_, rfl⟩
    obtain ⟨M, hMe⟩ : ∃ M, M = weakM T nr := ⟨_, rfl⟩
    obtain ⟨C, hCe⟩ : ∃ C, C = weakC T nr := ⟨_, rfl⟩
    rw [← hBe, ← hMe, ← hCe] at HW wk1 wk2
    replace wk1 := Lib.hid wk1
    replace wk2 := Lib.hid wk2
    clear hBe hMe hCe
    go_wp2_with fail
    refine HW.out.mono ?_
    rintro e w4 ⟨rfl, E4⟩
    go_wp2_with fail
    refine (HCo.out w4 E4).mono ?_
    rintro e w5 ⟨v3, vs3, gs3, L, c, rfl, HB, hLl, hLc, hPk, E5⟩
    obtain ⟨pa, pc, rfl, hpc, -, -, -⟩ := HB.out
    have hII := Lib.hid HB.iis
    have hR5 := Lib.hid (RowsAt.ext hR.out (E4.trans E5))
    replace EE := Lib.hid (EE.out.trans (E4.trans E5))
    have hPk := Lib.hid hPk
    have hLc := Lib.hid hLc
    clear HW HCo E4 E5 HB hR
    go_wp2_with fail
    go_loopw [23] (fun i wt => ∃ q : Nat, q ≤ L.length ∧ i = .int .i64 q ∧ Hid (Ext w5 wt)) (fun i _ => L.length - (intOf i).toNat)
    case atStart => exact ⟨0, Nat.zero_le _, rfl, Ext.refl _⟩
    case round =>
      obtain ⟨q, hq, rfl, he⟩ := hrel
      by_cases hlq : q < L.length
      · as_aux_lemma =>
          obtain ⟨rfl, hTl⟩ := hLc.out (by omega)
          have hone := Lib.hid fun k (hk : k < T.length) => vAll_one (show vAll testB testOrd 16 T = true from hTl) k hk
          obtain ⟨i, k, hnth, hik, hkT, hd1, hd2⟩ := hPk.out q hlq
          have hIW := hII.out.ext he.out
          obtain ⟨pb, po, rfl⟩ := RowsAt.base hIW.row (by rw [hIW.len]; exact hlq)
          obtain ⟨hpb, ad, cp, hcell, -, hIA⟩ := hIW.at hlq
          rw [hnth] at hcell hIA
          replace hcell : wr.cell? ⟨pb, po + q, none⟩ = some (.slice ad 2 cp) := hcell
          obtain ⟨ab, ao, rfl⟩ := RowsAt.base hIA (show 0 < 2 by decide)
          obtain ⟨hab, c0⟩ := IntAt.at hIA 0 (by simp)
          obtain ⟨-, c1⟩ := IntAt.at hIA 1 (by simp)
          replace c0 : wr.cell? ⟨ab, ao, none⟩ = some (.int .i64 (i : Int)) := c0
          replace c1 : wr.cell? ⟨ab, ao + 1, none⟩ = some (.int .i64 (k : Int)) := c1
          have hiT : i < T.length := by omega
          have hRT := RowsAt.ext hR5.out he.out
          obtain ⟨tb, tof, rfl⟩ := RowsAt.base hRT hiT
          have g0 : decide ((i : Int) < 0) = false := decide_eq_false (by omega)
          have g1 : decide (k ≤ i) = false := decide_eq_false (by omega)
          have g2 : decide (T.length ≤ k) = false := decide_eq_false (by omega)
          have hq1 : decide (q < L.length) = true := decide_eq_true hlq
          have hC1 := Lib.hid fun (W : World) => specClassOf_any (nth T i) W (hone.out i hiT)
          have hC2 := Lib.hid fun (W : World) => specClassOf_any (nth T k) W (hone.out k hkT)
          obtain ⟨-, ⟨di0, di1⟩, -, -, -⟩ := testB_bd (hone.out i hiT)
          obtain ⟨-, ⟨dk0, dk1⟩, -, -, -⟩ := testB_bd (hone.out k hkT)
          obtain ⟨ci0, ci1⟩ := classV_bd (nth T i)
          obtain ⟨ck0, ck1⟩ := classV_bd (nth T k)
          have g3 : decide (absV (classV (nth T i) - classV (nth T k)) < 2) = false := decide_eq_false (by omega)
          have g4 : decide (nr < absV ((nth T i).depth - (nth T k).depth)) = false := decide_eq_false (by omega)
          have hF := Lib.hid fun (W : World) (hW : Ext wr W) => And.intro (And.intro (Nat.lt_of_lt_of_le hpb hW.size) (Nat.lt_of_lt_of_le hab hW.size)) (And.intro (hW.cell hcell) (And.intro (hW.cell c0) (hW.cell c1)))
          have hTT := Lib.hid fun (W : World) (hW : Ext wr W) => RowsAt.ext hRT hW
          clear hIW hIA hnth hRT hd1 hd2
          go_wp2_with fail
          refine region_quiet (by kernel_rfl) (by kernel_rfl) ?_
          repeat (any_goals (first | go_big_quiet_step ((fail)) | quiet_step ((fail))))
          refine wpQuiet_nil ?_
          intro _ hw'
          obtain ⟨y, hw''⟩ := hw'
          subst hw''
          have F1 := (Ext.refl wr).lift y
          have he := Lib.hid (he.out.trans F1)
          obtain ⟨⟨hpb, hab⟩, hcell, c0, c1⟩ := hF.out _ F1
          obtain ⟨htb, t0, t1, t2, t3, t4⟩ := Test.at (hTT.out _ F1) i hiT
          have F1 := Lib.hid F1
          generalize lift wr y = W1 at *
          go_wp2_with fail
          refine (hC1.out W1).mono ?_
          rintro e W2 ⟨rfl, E9⟩
          have F2 := F1.out.trans E9
          have he := Lib.hid (he.out.trans E9)
          clear hpb hab hcell c0 c1 htb t0 t1 t2 t3 t4 E9
          obtain ⟨⟨hpb, hab⟩, hcell, c0, c1⟩ := hF.out _ F2
          obtain ⟨htb, t0, t1, t2, t3, t4⟩ := Test.at (hTT.out _ F2) k hkT
          have F2 := Lib.hid F2
          go_wp2_with fail
          refine (hC2.out W2).mono ?_
          rintro e W3 ⟨rfl, E9⟩
          have F3 := F2.out.trans E9
          have he := Lib.hid (he.out.trans E9)
          clear hpb hab hcell c0 c1 htb t0 t1 t2 t3 t4 E9
          obtain ⟨⟨hpb, hab⟩, hcell, c0, c1⟩ := hF.out _ F3
          obtain ⟨htb, -, -, -, t3, -⟩ := Test.at (hTT.out _ F3) i hiT
          obtain ⟨-, -, -, -, s3, -⟩ := Test.at (hTT.out _ F3) k hkT
          clear F1 F2 hC1 hC2 hF hTT
          go_wp2_with fail
          refine region_quiet (by kernel_rfl) (by kernel_rfl) ?_
          repeat (any_goals (first | go_big_quiet_step ((exact Gives.quiet (Gives.same (b10Abs_any _ _ (by omega) (by omega))))) | quiet_step ((exact Gives.quiet (Gives.same (b10Abs_any _ _ (by omega) (by omega)))))))
          refine wpQuiet_nil ?_
          intro _ hw'
          obtain ⟨y, hw''⟩ := hw'
          subst hw''
          go_wp2
          go_roundw
          case rel => exact ⟨q + 1, by omega, by go_num, he.out.lift y⟩
          case measure => simp [intOf]; omega
      · have hq1 : decide (q < L.length) = false := decide_eq_false hlq
        have hEE := Lib.hid (EE.out.trans he.out)
        have hR6 := Lib.hid (RowsAt.ext hR5.out he.out)
        clear hII hPk hLc he hR5 EE
        by_cases hC : C = 0
        · obtain ⟨hTl, ⟨n0, n1⟩, hBm, hMe⟩ := wk2.out hC
          subst hC
          have hone := Lib.hid fun k (hk : k < T.length) => vAll_one (show vAll testB testOrd 16 T = true from hTl) k hk
          have hBb := weakTo_mem (fun k hk => (testB_bd (hone.out k hk)).2.1) T.length (Nat.le_refl _) B hBm
          have hMh := Lib.hid hMe
          have hBh := Lib.hid hBm
          clear hTl hMe hBm wk1 wk2
          go_wp2_with fail
          go_loopw [28, 29, 30] (fun f o i wt => ∃ k : Nat, k ≤ T.length ∧ f = .bool (decide (B ∈ weakTo T k)) ∧ o = .int .i64 ((nearN (weakTo T k) nr B : Nat) : Int) ∧ i = .int .i64 k ∧ Hid (Ext w' wt) ∧ Hid (Ext wr wt)) (fun _ _ i _ => T.length - (intOf i).toNat)
          case atStart => exact ⟨0, Nat.zero_le _, by simp [weakTo], rfl, rfl, hEE.out, Ext.refl _⟩
          case round =>
            clear hEE
            obtain ⟨k, hk, rfl, rfl, rfl, he, hi⟩ := hrel
            have hnl := near_le (weakTo T k) nr B
            have hwl := weakTo_len T k
            obtain ⟨fb, hfb⟩ : ∃ fb, fb = decide (B ∈ weakTo T k) := ⟨_, rfl⟩
            obtain ⟨N, hN⟩ : ∃ N, N = nearN (weakTo T k) nr B := ⟨_, rfl⟩
            rw [← hfb, ← hN]
            rw [← hN] at hnl
            replace hfb := Lib.hid hfb
            replace hN := Lib.hid hN
            by_cases hlk : k < T.length
            · as_aux_lemma =>
                have hk1 : decide (k < T.length) = true := decide_eq_true hlk
                have hRT := RowsAt.ext hR6.out hi.out
                obtain ⟨tb, tof, rfl⟩ := RowsAt.base hRT hlk
                obtain ⟨htb, t0, t1, t2, t3, t4⟩ := Test.at hRT k hlk
                obtain ⟨-, ⟨dk0, dk1⟩, -, -, -⟩ := testB_bd (hone.out k hlk)
                have hTT := Lib.hid fun (W : World) (hW : Ext wr W) => RowsAt.ext hRT hW
                clear hRT
                go_wp2_with fail
                refine (specClassOf_any (nth T k) _ (hone.out k hlk)).mono ?_
                rintro e W1 ⟨rfl, E9⟩
                clear htb t0 t1 t2 t3 t4
                obtain ⟨htb, -, -, -, t3, -⟩ := Test.at (hTT.out _ E9) k hlk
                have he := Lib.hid (he.out.trans E9)
                have hi := Lib.hid (hi.out.trans E9)
                clear E9
                by_cases hcl : classV (nth T k) ≤ 2
                · have hcd : decide (classV (nth T k) ≤ 2) = true := decide_eq_true hcl
                  have hin := Lib.hid (weak_in hcl B)
                  have hnn := Lib.hid (weakTo_near_y (near := nr) (d := B) hcl)
                  clear hcl
                  by_cases hab : absV ((nth T k).depth - B) ≤ nr
                  · have habd : decide (absV ((nth T k).depth - B) ≤ nr) = true := decide_eq_true hab
                    have hN2 : Hid (nearN (weakTo T (k + 1)) nr B = N + 1) := by show _ = _; rw [hnn.out, if_pos ((absV_near n0).1 hab), ← hN.out]
                    clear hab hnn
                    cases fb
                    · go_wp2_with fail
                      refine (b10Abs_any _ _ (by omega) (by omega)).mono ?_
                      rintro e W2 ⟨rfl, hw2⟩
                      subst hw2
                      go_wp2_with fail
                      go_roundw
                      case rel => exact ⟨k + 1, by omega, by rw [hin.out, ← hfb.out]; rfl, by rw [hN2.out]; go_num, by go_num, he.out, hi.out⟩
                      case measure => simp [intOf]; omega
                    · go_wp2_with fail
                      refine (b10Abs_any _ _ (by omega) (by omega)).mono ?_
                      rintro e W2 ⟨rfl, hw2⟩
                      subst hw2
                      go_wp2_with fail
                      go_roundw
                      case rel => exact ⟨k + 1, by omega, by rw [hin.out, ← hfb.out]; rfl, by rw [hN2.out]; go_num, by go_num, he.out, hi.out⟩
                      case measure => simp [intOf]; omega
                  · have habd : decide (absV ((nth T k).depth - B) ≤ nr) = false := decide_eq_false hab
                    have hN2 : Hid (nearN (weakTo T (k + 1)) nr B = N) := by show _ = _; rw [hnn.out, if_neg (fun h => hab ((absV_near n0).2 h)), ← hN.out]; rfl
                    clear hab hnn
                    cases fb
                    · go_wp2_with fail
                      refine (b10Abs_any _ _ (by omega) (by omega)).mono ?_
                      rintro e W2 ⟨rfl, hw2⟩
                      subst hw2
                      go_wp2_with fail
                      go_roundw
                      case rel => exact ⟨k + 1, by omega, by rw [hin.out, ← hfb.out]; rfl, by rw [hN2.out], by go_num, he.out, hi.out⟩
                      case measure => simp [intOf]; omega
                    · go_wp2_with fail
                      refine (b10Abs_any _ _ (by omega) (by omega)).mono ?_
                      rintro e W2 ⟨rfl, hw2⟩
                      subst hw2
                      go_wp2_with fail
                      go_roundw
                      case rel => exact ⟨k + 1, by omega, by rw [hin.out, ← hfb.out]; rfl, by rw [hN2.out], by go_num, he.out, hi.out⟩
                      case measure => simp [intOf]; omega
                · have hcd : decide (classV (nth T k) ≤ 2) = false := decide_eq_false hcl
                  have hin := Lib.hid (weak_out hcl B)
                  have hnn := Lib.hid (weakTo_near_n (near := nr) (d := B) hcl)
                  clear hcl
                  go_wp2_with fail
                  go_roundw
                  case rel => exact ⟨k + 1, by omega, by rw [hin.out, ← hfb.out], by rw [hnn.out, ← hN.out], by go_num, he.out, hi.out⟩
                  case measure => simp [intOf]; omega
            · have hk1 : decide (k < T.length) = false := decide_eq_false hlk
              have hkT : k = T.length := by omega
              have hft : fb = true := by rw [hfb.out, hkT]; exact decide_eq_true hBh.out
              have hNM : ((N : Int) == M) = true := by rw [hN.out, hkT, hMh.out]; simp
              clear hfb hN hkT
              subst hft
              go_wp2_with fail
              go_ret
              exact ⟨by first | rfl | (simp [hNM]; done), he.out⟩
        · obtain ⟨rfl, rfl⟩ := wk1.out hC
          have hCb : (C != 0) = true := bne_iff_ne.2 hC
          clear wk1 wk2 hC
          go_wp2_with fail
          go_ret
          exact ⟨rfl, hEE.out⟩
open Go.ChangeShapes Go.WideShapes Go.ChangeAt
open Go.ChangeMaps (open_string shut_string)
namespace lawFnDepths
set_option maxRecDepth 100000 in
theorem lifted (os : Os) (started : os.Started) (H : Type) (enc : TypeId × Value → H) :
    ReturnsInHanded {} Try.checked os 4 .any (Rows.fnDepthsSpec.pre6 enc Try.prog Try.f4 Rows.fnDepthsRow.domain false) (Rows.fnDepthsSpec.post enc Try.prog Try.f4 false true false false) := by
  refine returnsInHanded_of_change (C := Try.checked) own started (by kernel_rfl) Try.func4
    (ChangeSpec.witness6 (enc := enc) (C := Try.checked) false ⟨#[], #[.slice none 0 0, .slice none 0 0], []⟩ 8 (by kernel_rfl) (by kernel_rfl) (by kernel_rfl) (by kernel_rfl)) ?_
  intro W base args ds gs before hval0 hW hcnd _
  have hval : ∀ (j : Nat) t v, Try.f4.params[j]? = some t → args[j]? = some v → Value.okWide Try.prog W .any base t v := hval0
  have hW' := hW
  obtain ⟨p, q, hA0, hV, rfl, hfz, hnd⟩ := hW
  have hA : DataW.TrodAll enc Try.prog W 0 (fun _ => true) true Try.f4.params.toList args.toList ds p := hA0
  rw [Try.params4] at hA hval
  obtain ⟨v0, vs0, d0, ds0, p0, q0, hargs, rfl, rfl, h0, r0⟩ := trodAll_cons hA
  obtain ⟨v1, vs1, d1, ds1, p1, q1, rfl, rfl, rfl, h1, r1⟩ := trodAll_cons r0
  obtain ⟨rfl, rfl, rfl⟩ := trodAll_nil r1
  obtain rfl : args = #[v0, v1] := by cases args; simp_all
  obtain ⟨rfl, rfl⟩ := trodVars_none hV
  have k0 := h0
  have lt0 : ∀ x ∈ p0, x.block < W.heap.size := by obtain ⟨m, hm⟩ := k0; exact DataW.trod_lt m _ _ _ hm
  obtain ⟨a0, len0, cap0, rfl⟩ := okWide_slice Try.underlying34 (hval 0 34 v0 rfl rfl)
  obtain ⟨fuel0, hf0⟩ := h0
  obtain ⟨b0, c0, l0, e0, hl0, hc0, H0, Q0⟩ := open_rows (fun (x : UInt8) (_ : Nat) => Value.int .u8 x.toNat) (fun _ => True) Try.underlying34 (by kernel_rfl : Try.prog.cellsOf 5 = 1) (by decide) (fun _ _ _ => byte_el) hf0
  simp only [Value.cells, List.cons.injEq, Value.slice.injEq, and_true] at e0
  obtain ⟨rfl, rfl, rfl⟩ := e0
  have k1 := h1
  have lt1 : ∀ x ∈ p1, x.block < W.heap.size := by obtain ⟨m, hm⟩ := k1; exact DataW.trod_lt m _ _ _ hm
  obtain ⟨a1, len1, cap1, rfl⟩ := okWide_slice Try.underlying34 (hval 1 34 v1 rfl rfl)
  obtain ⟨fuel1, hf1⟩ := h1
  obtain ⟨b1, c1, l1, e1, hl1, hc1, H1, Q1⟩ := open_rows (fun (x : UInt8) (_ : Nat) => Value.int .u8 x.toNat) (fun _ => True) Try.underlying34 (by kernel_rfl : Try.prog.cellsOf 5 = 1) (by decide) (fun _ _ _ => byte_el) hf1
  simp only [Value.cells, List.cons.injEq, Value.slice.injEq, and_true] at e1
  obtain ⟨rfl, rfl, rfl⟩ := e1
  clear hA0 hval0
  refine (depths_law W a0 cap0 l0 H0 Q0 (by omega) hl0 a1 cap1 l1 H1 Q1 (by omega) hl1).mono fun e W' ⟨he, bx⟩ => ?_
  have bel := bx.below
  subst he
  exact ⟨_, rfl, _, _, _, [], _, [], hW', trodAll_mk1 (shut_bool Try.underlying4 _), (trodAll_cons_mk (Below.trod laidOut (by kernel_rfl) (of_decide_eq_true (by kernel_rfl)) k0 bel lt0) (trodAll_cons_mk (Below.trod laidOut (by kernel_rfl) (of_decide_eq_true (by kernel_rfl)) k1 bel lt1) trodAll_mk0)), rfl, bel.frame _, fun h => by cases h⟩
theorem over : Rows.fnDepthsRow.holds Try.pinned (OpenSpec.ofChange Rows.fnDepthsSpec) :=
  OpenClaim.holds_of_wide 4 Try.f4 rfl rfl rfl rfl rfl rfl rfl ⟨rfl, rfl, rfl, rfl, rfl⟩ rfl rfl rfl rfl rfl (by kernel_rfl) Try.func4 (by kernel_rfl)
    (of_decide_eq_true (by kernel_rfl)) (by unfold Func.isWrapper; first | (rw [if_pos (by decide +kernel)]; kernel_rfl) | (rw [if_neg (by decide +kernel)]; exact ⟨rfl, rfl⟩))
    (fun os started H enc _ => lifted os started H enc)
/-- The given statement. -/
theorem proved : Rows.FnDepthsSaid := over
end lawFnDepths
end Go.Proofs.Ytdopffhekinbnaa
