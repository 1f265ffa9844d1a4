/- The variables that the rows list: what the listing gives, and a start that meets it. -/
import Derived.Test.YtfiiaegfikocoaaDoorCards
import Derived.Test.YtfiiaegfikocoaaDoorTie
import Derived.Test.YtfiiaegfikocoaaDoorRDec
import Derived.Test.YtfiiaegfikocoaaDoorLift
import Derived.Deep.DeepHandedRow
import Derived.Lib.LaidTab
import Derived.Lib.LaidU8
import Derived.Shelf.Vars
import Derived.MakeChecks
import Derived.Lay
namespace Go.Proofs.YtfiiaegfikocoaaDoor
open Go.ChangeShapes Go.WideShapes Go.ChangeAt Go.RowKit
theorem gTab : Tryd.prog.globalNamed "internal/strconv.uint64pow10" = some 3 := by kernel_rfl
theorem gSyn : Tryd.prog.globalNamed "strconv.ErrSyntax" = some 1 := by kernel_rfl
theorem gRng : Tryd.prog.globalNamed "strconv.ErrRange" = some 2 := by kernel_rfl
theorem gTabType : (Tryd.prog.globals[3]?).map (·.type) = some 135 := by kernel_rfl
theorem gSynType : (Tryd.prog.globals[1]?).map (·.type) = some 78 := by kernel_rfl
theorem gRngType : (Tryd.prog.globals[2]?).map (·.type) = some 78 := by kernel_rfl
set_option maxRecDepth 100000 in
theorem iface_cell {W : World} {n : String} {g : Nat} {t : TypeId} {m} {d : DataW Unit} (hg : Tryd.prog.globalNamed n = some g) (ht : (Tryd.prog.globals[g]?).map (·.type) = some t) (hu : Tryd.prog.underlying t = some (.interface m)) (h : Lib.VarReads Tryd.prog W n d) : ErrCell W g := by
  obtain ⟨g', t', cs, fuel, p, hg', ht', hv, hd⟩ := h
  obtain rfl := Option.some.inj (hg.symm.trans hg')
  obtain rfl := Option.some.inj (ht.symm.trans ht')
  cases fuel with
  | zero => cases hd
  | succ fuel =>
    have hc := World.var?_cell hg hv 0
    simp only [DataW.trod, hu] at hd
    split at hd
    all_goals first
      | (cases hd; done)
      | (rename_i e1 e2; cases e1; done)
      | (rename_i e2; cases e2; done)
      | (exfalso; rename_i e1 e2 e3; first | (cases e1; done) | (cases e2; done) | (cases e3; done))
      | skip
    all_goals
      rw [← Array.getElem?_toList, ‹cs.toList = [_]›] at hc
      first
        | exact ⟨_, hc, .inl rfl⟩
        | exact ⟨_, hc, .inr ⟨_, _, rfl⟩⟩
/-- What the listing gives, and the world's shape. -/
theorem rtab_of {W : World} {laid : List (String × DataW Unit)} (hp : (laid.all fun x => x.2.handleName?.isNone) = true) (h : laidMetH Tryd.prog laid W) (hs : W.ShapedOpen Tryd.prog)
    (h1 : laid.filter (fun x => x.1.length == 28) = [("internal/strconv.uint64pow10", Rows.laid_internal_strconv_uint64pow10)])
    (h2 : ("strconv.ErrSyntax", Rows.laid_strconv_ErrSyntax) ∈ laid) (h3 : ("strconv.ErrRange", Rows.laid_strconv_ErrRange) ∈ laid) : RTab W := by
  rw [MakeChecks.laidMetH_plain _ _ _ hp] at h
  have e := h.filter (fun x => x.1.length == 28)
  rw [h1] at e
  exact ⟨Lib.tabIs_of_head (rest := []) gTab gTabType Tryd.underlying135 Tryd.underlying82 (by kernel_rfl) (by kernel_rfl) e,
    iface_cell gSyn gSynType Tryd.underlying78 (Lib.laidMet.reads h h2), iface_cell gRng gRngType Tryd.underlying78 (Lib.laidMet.reads h h3),
    Go.Proofs.cell_of_shapedOpen_int (zero := #[.int .i64 0]) (t := 3) (k := .i64) hs (of_decide_eq_true (by kernel_rfl)) (by kernel_rfl) rfl (by kernel_rfl) (by kernel_rfl) Tryd.underlying3⟩
end Go.Proofs.YtfiiaegfikocoaaDoor
