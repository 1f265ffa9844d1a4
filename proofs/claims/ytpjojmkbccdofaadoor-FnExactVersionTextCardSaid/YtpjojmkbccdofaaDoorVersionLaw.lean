/- The law FnExactVersionText: whatever the version, the program's text is the reference's. -/
import Derived.Test.YtpjojmkbccdofaaDoorHelpVersion
import Derived.Test.YtpjojmkbccdofaaDoorVersionText
import Derived.Test.YtpjojmkbccdofaaDoorTab
namespace Go.Proofs.YtpjojmkbccdofaaDoor
open Go.RowKit
set_option maxRecDepth 100000 in
set_option maxHeartbeats 4000000 in
theorem version_law (w : World) (ht : Tab w) (x : Version) (hsz : x.Sz) (hin : x.In w) :
    Gives Tryd.prog 11 #[.agg #[.int .i64 x.number, .int .i64 x.parent, .string x.memo, .slice x.addr x.state.length x.cap]] w (.bool true) := by
  unfold Gives
  have HT := Lib.hid ht
  have HI : Hid (SettingAt w x.addr x.state) := hin
  have HZ := Lib.hid hsz
  clear ht hin hsz
  go_enter Tryd.func11, Tryd.ntmps11
  go_wp2_with fail
  refine (szVersion_any x _ _ HZ.out (HI.out.ext (by repeat (first | exact Ext.refl _ | refine Ext.lift ?_ _ | refine Ext.alloc ?_ _))) (by omega) (by omega)).mono ?_
  rintro e w' ⟨r, rfl, ⟨y0, rfl⟩, q0, q1, q2⟩
  have HQ := Lib.hid q2
  clear q2
  by_cases hr : r < 0
  · go_wp2_with fail
    go_ret
    exact ⟨rfl, (by repeat (first | exact Ext.refl _ | refine Ext.lift ?_ _ | refine Ext.alloc ?_ _))⟩
  obtain ⟨m1, m2, m3⟩ := HQ.out (by omega)
  have HM : Hid (∀ k, k < x.state.length → (nth x.state k).Small) := fun k hk => by have := m3 k hk; unfold Setting.Small; omega
  clear HQ m3
  go_wp2_with fail
  refine (toVersion_any x _ (HI.out.ext (by repeat (first | exact Ext.refl _ | refine Ext.lift ?_ _ | refine Ext.alloc ?_ _))) (by omega)).mono ?_
  rintro e w' ⟨g1, rfl, -, -, A1, -, y1, rfl⟩
  replace A1 := Lib.hid A1
  go_wp2_with fail
  refine (specVersionText ⟨x.number, x.parent, x.memo, some ⟨g1, 0, none⟩, x.state.length, x.state⟩ _ ⟨by show x.memo.size ≤ _; omega, HM.out, by show x.state.length ≤ _; omega, Nat.le_refl _⟩ A1.out).mono ?_
  rintro e w' ⟨rfl, y2, rfl⟩
  have HS1 : Hid (versionS ⟨x.number, x.parent, x.memo, some ⟨g1, 0, none⟩, x.state.length, x.state⟩ = versionS x) := versionS_same ⟨rfl, rfl, rfl, rfl⟩
  rw [HS1.out]
  clear A1 HS1
  go_wp2_with fail
  refine (toVersion_any x _ (HI.out.ext (by repeat (first | exact Ext.refl _ | refine Ext.lift ?_ _ | refine Ext.alloc ?_ _))) (by omega)).mono ?_
  rintro e w' ⟨g2, rfl, -, -, A2, -, y3, rfl⟩
  replace A2 := Lib.hid A2
  go_wp2_with fail
  refine (implVersionText ⟨x.number, x.parent, x.memo, some ⟨g2, 0, none⟩, x.state.length, x.state⟩ _ (HT.out.ext (by repeat (first | exact Ext.refl _ | refine Ext.lift ?_ _ | refine Ext.alloc ?_ _))) ⟨by show x.memo.size ≤ _; omega, HM.out, by show x.state.length ≤ _; omega, Nat.le_refl _⟩ (RowsAt.ext A2.out (by repeat (first | exact Ext.refl _ | refine Ext.lift ?_ _ | refine Ext.alloc ?_ _)))).mono ?_
  rintro e w' ⟨rfl, y4, rfl⟩
  have HS1 : Hid (versionS ⟨x.number, x.parent, x.memo, some ⟨g2, 0, none⟩, x.state.length, x.state⟩ = versionS x) := versionS_same ⟨rfl, rfl, rfl, rfl⟩
  rw [HS1.out]
  clear HS1
  have hs2 : sEq (versionS x) (versionS x) = true := sEq_iff.2 rfl
  go_wp2_with fail
  refine Grow.region_tail 4 [0, 1] [(false, 2), (false, 3)] (by kernel_rfl) (by kernel_rfl) ?_
  simp only [Grow.pick, Grow.pickB, List.getElem?_cons_succ, List.getElem?_cons_zero, List.drop_succ_cons, List.drop_zero]
  repeat
    refine Grow.heads_step (fun K' hK => ⟨rfl, ?_⟩)
    apply Exists.intro
    apply And.intro
    · intro w' hw'
      obtain ⟨x', rfl⟩ := hw'
      go_simp
      first | done | rfl | (rw [if_neg (by omega)]; done) | (rw [if_neg (by omega)]; rfl)
    go_simp
    refine hK _ ?_
    clear hK K'
  refine Grow.heads_nil ?_
  intro w1 e1
  refine Grow.seq_step (fun K' hK => ⟨rfl, ?_⟩)
  go_simp
  simp only [Grow.upon]
  refine Calls.mono (toVersion_any x _ (HI.out.ext (Ext.trans (by repeat (first | exact Ext.refl _ | refine Ext.lift ?_ _ | refine Ext.alloc ?_ _)) e1)) (by omega)) ?_
  rintro e w2 ⟨g3, rfl, -, -, A3, -, E3⟩
  refine ⟨_, rfl, E3, fun w3 h3 => hK _ _ ?_⟩
  clear hK K'
  refine Grow.seq_step (fun K' hK => ⟨rfl, ?_⟩)
  go_simp
  refine Grow.gives_upon (eqVersion_same ⟨x.number, x.parent, x.memo, some ⟨g2, 0, none⟩, x.state.length, x.state⟩ ⟨x.number, x.parent, x.memo, some ⟨g3, 0, none⟩, x.state.length, x.state⟩ _ ⟨rfl, rfl, rfl, rfl⟩ (RowsAt.ext A2.out (((Ext.trans (by repeat (first | exact Ext.refl _ | refine Ext.lift ?_ _ | refine Ext.alloc ?_ _)) e1).trans E3).trans h3)) (RowsAt.ext A3 h3) (by show x.state.length ≤ _; omega)) fun w4 e4 => hK _ _ ?_
  clear hK K'
  have T4 : Ext w w4 := (((Ext.trans (by repeat (first | exact Ext.refl _ | refine Ext.lift ?_ _ | refine Ext.alloc ?_ _)) e1).trans E3).trans h3).trans e4
  have HT4 := Lib.hid T4
  clear e1 e4 E3 h3 T4
  refine Grow.seq_nil ?_
  go_wp2_with fail
  go_ret
  exact ⟨rfl, HT4.out⟩
open Go.ChangeShapes Go.WideShapes Go.ChangeAt
open Go.ChangeMaps (open_string shut_string)
namespace lawFnExactVersionText
set_option maxRecDepth 100000 in
theorem contract (H : Type) (enc : TypeId × Value → H) (W : World) (base : Nat) (args : Array Value) (ds gs : List (DataW H)) (before : List MemPlace)
    (hval : ∀ (j : Nat) t v, Tryd.f11.params[j]? = some t → args[j]? = some v → Value.okWide Tryd.prog W .any base t v)
    (hW : DataW.Whole enc Tryd.prog Tryd.f11.params.toList Rows.fnExactVersionTextSpec.vars false W args.toList ds gs before) (hL : laidMetH Tryd.prog Rows.fnExactVersionTextRow.laid W) :
    Calls Tryd.prog 11 args W fun e W' => ∃ v, e = .returned v ∧ Rows.fnExactVersionTextSpec.post enc Tryd.prog Tryd.f11 false true false false W args v W' := by
  have ht : Tab W := tab_of_laid hL
  have hW' := hW
  obtain ⟨p, q, hA0, hV, rfl, hfz, hnd⟩ := hW
  have hA : DataW.TrodAll enc Tryd.prog W 0 (fun _ => true) true Tryd.f11.params.toList args.toList ds p := hA0
  rw [Tryd.params11] at hA hval
  obtain ⟨v0, vs0, d0, ds0, p0, q0, hargs, rfl, rfl, h0, r0⟩ := trodAll_cons hA
  obtain ⟨rfl, rfl, rfl⟩ := trodAll_nil r0
  obtain rfl : args = #[v0] := by cases args; simp_all
  obtain ⟨rfl, rfl⟩ := trodVars_none hV
  have k0 := h0
  have lt0 : ∀ x ∈ p0, x.block < W.heap.size := by obtain ⟨m, hm⟩ := k0; exact DataW.trod_lt m _ _ _ hm
  obtain ⟨x0, e0, w0⟩ := Version.op (hval 0 77 v0 rfl rfl) h0
  subst e0
  clear hA0
  refine (version_law W ht x0 w0.1 w0.2).mono fun e W' ⟨he, bx⟩ => ?_
  have bel := bx.below
  subst he
  exact ⟨_, rfl, _, _, _, [], _, [], hW', trodAll_mk1 (shut_bool Tryd.underlying4 _), (trodAll_cons_mk (Below.trod laidOut (by kernel_rfl) (of_decide_eq_true (by kernel_rfl)) k0 bel lt0) trodAll_mk0), rfl, bel.frame _, fun h => by cases h⟩
theorem laid_met (os : Os) : laidMet Tryd.prog Rows.fnExactVersionTextRow.laid ((laidWorld os).forCall (fun _ _ => 0) ⟨#[], #[.agg #[.int .i64 0, .int .i64 0, .string ⟨#[]⟩, .slice none 0 0]], []⟩).memory :=
  laidMet_of_run' 8 (by kernel_rfl) (by kernel_rfl)
theorem reads (os : Os) {H : Type} (enc : TypeId × Value → H) : ∃ places, DataW.whole enc Tryd.prog ((laidWorld os).forCall (fun _ _ => 0) ⟨#[], #[.agg #[.int .i64 0, .int .i64 0, .string ⟨#[]⟩, .slice none 0 0]], []⟩).memory Tryd.f11.params.toList Rows.fnExactVersionTextSpec.vars false (#[.agg #[.int .i64 0, .int .i64 0, .string ⟨#[]⟩, .slice none 0 0]] : Array Value).toList 8 = some ([.agg [.lit (.int .i64 0), .lit (.int .i64 0), .lit (.string []), .nil]], [], places) :=
  ⟨[], by kernel_rfl⟩
set_option maxRecDepth 100000 in
theorem lifted (os : Os) (started : os.Started) (H : Type) (enc : TypeId × Value → H) (F : Stop.Interp) :
    ReturnsInHanded {} Tryd.checked os 11 .any ((OpenSpec.ofChange Rows.fnExactVersionTextSpec).preRow enc Tryd.prog Tryd.f11 Rows.fnExactVersionTextRow.domain false Rows.fnExactVersionTextRow.laid) (((OpenSpec.ofChange Rows.fnExactVersionTextSpec).at F).post enc Tryd.prog Tryd.f11 false true false false) := by
  obtain ⟨places, hx⟩ := reads os enc
  refine returnsInHanded_of_row (C := Tryd.checked) (s := OpenSpec.ofChange Rows.fnExactVersionTextSpec) own started (by kernel_rfl) Tryd.func11
    (witness_row_at (enc := enc) (C := Tryd.checked) false (laidWorld os) #[.agg #[.int .i64 0, .int .i64 0, .string ⟨#[]⟩, .slice none 0 0]] rfl (by kernel_rfl) (by kernel_rfl) (by kernel_rfl)
      (OpenSpec.preRow_of_cond 8 hx (by kernel_rfl) (fun k hk => by cases hk) (by kernel_rfl) (laid_met os))) ?_
  intro W base args ds gs before hval hW _ _ _ hL _ _
  exact contract H enc W base args ds gs before hval hW hL
theorem said : Rows.FnExactVersionTextSaid :=
  OpenClaim.holds_of_cond 11 Tryd.f11 rfl rfl rfl rfl rfl rfl rfl ⟨rfl, rfl, rfl, rfl, rfl⟩ rfl rfl rfl rfl rfl (by kernel_rfl) Tryd.func11 (by kernel_rfl)
    (of_decide_eq_true (by kernel_rfl)) (by unfold Func.isWrapper; first | (rw [if_pos (by decide +kernel)]; kernel_rfl) | (rw [if_neg (by decide +kernel)]; exact ⟨rfl, rfl⟩))
    (fun os started H enc _ F => by rw [OpenClaim.pre_eq_preRow]; exact lifted os started H enc F)
theorem plain (f : FuncId) (fn : Func) (hf : Tryd.pinned.checked.prog.funcNamed Rows.fnExactVersionTextRow.func = some f) (hfn : Tryd.pinned.checked.prog.funcs[f]? = some fn) :
    false = Tryd.pinned.checked.prog.looks [] ∧ ∀ (j : Nat) t, fn.params[j]? = some t → Tryd.pinned.checked.prog.wantsStandIn t = false := by
  obtain rfl : f = 11 := Option.some.inj ((show Tryd.prog.funcNamed Rows.fnExactVersionTextRow.func = some 11 by kernel_rfl).symm.trans hf) |>.symm
  obtain rfl : fn = Tryd.f11 := (Option.some.inj (Tryd.func11.symm.trans hfn)).symm
  refine ⟨by kernel_rfl, fun j t ht => ?_⟩
  rw [Tryd.params11] at ht
  have hm := Array.mem_of_getElem? ht
  have hm2 : t = 77 := by simpa using hm
  rcases hm2 with rfl
  · exact (show Tryd.prog.wantsStandIn 77 = false by kernel_rfl)
/-- The given statement. -/
theorem card : Rows.FnExactVersionTextCardSaid :=
  Claim7.holds_tied_plain_at .later [] _ _ _ _ said (fun _ h => by cases h) (by kernel_rfl) (fun _ h => by cases h) fnExactVersionText_row_tie rfl ⟨rfl, rfl⟩ (by kernel_rfl) rfl plain (by kernel_rfl)
end lawFnExactVersionText
end Go.Proofs.YtpjojmkbccdofaaDoor
