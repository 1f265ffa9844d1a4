/- An area as text and read back: the walks. -/
import Derived.Test.YtccbcjopmkmipaaDoorRArea
import Derived.Test.YtccbcjopmkmipaaDoorGrow
namespace Go.Proofs.YtccbcjopmkmipaaDoor
open Go.RowKit
set_option maxRecDepth 100000 in
set_option maxHeartbeats 2000000 in
theorem implAreaText (x : Area) (w : World) (hs0 : x.id.size ≤ 2000000) (ht : Tab w) :
    Gives Tryd.prog 15 #[.agg #[.string x.id, .int .i64 x.chance, .int .i64 x.minutes]] w (.string (areaS x)) := by
  unfold Gives
  have HT := Lib.hid ht
  clear ht
  cases h : areaB x
  · have hv : Hid ((⟨#[]⟩ : ByteArray) = areaS x) := by show _ = _; unfold areaS; rw [h]; rfl
    go_enter Tryd.func15, Tryd.ntmps15
    go_wp2_with (go_at_call 30; refine (Area_valid x _ (by omega)).mono ?_; rintro e w' ⟨rfl, y, rfl⟩; rw [h])
    go_ret
    exact ⟨by rw [← hv.out]; rfl, (by repeat (first | exact Ext.refl _ | refine Ext.lift ?_ _ | refine Ext.alloc ?_ _))⟩
  · obtain ⟨b0, ⟨b1, b2⟩, ⟨b3, b4⟩, -⟩ := areaB_bd h
    have d1 := decS_size x.chance (by omega) (by omega)
    have d2 := decS_size x.minutes (by omega) (by omega)
    have e32 : (⟨#[32]⟩ : ByteArray).size = 1 := rfl
    have e47 : (⟨#[47]⟩ : ByteArray).size = 1 := rfl
    have d3 : (x.id ++ ⟨#[32]⟩ : ByteArray).size ≤ 11 := by rw [ByteArray.size_append]; omega
    have d4 : (x.id ++ ⟨#[32]⟩ ++ decS x.chance : ByteArray).size ≤ 40 := by rw [ByteArray.size_append]; omega
    have d5 : (x.id ++ ⟨#[32]⟩ ++ decS x.chance ++ ⟨#[47]⟩ : ByteArray).size ≤ 41 := by rw [ByteArray.size_append]; omega
    have hv : Hid (x.id ++ ⟨#[32]⟩ ++ decS x.chance ++ ⟨#[47]⟩ ++ decS x.minutes = areaS x) := by show _ = _; unfold areaS; rw [if_pos h]
    go_enter Tryd.func15, Tryd.ntmps15
    go_wp2_with (go_at_call 30; refine (Area_valid x _ (by omega)).mono ?_; rintro e w' ⟨rfl, y, rfl⟩; rw [h])
    refine region_quiet (by kernel_rfl) (by kernel_rfl) ?_
    repeat (any_goals (first | go_big_quiet_step ((exact Gives.quiet (Decimal_any _ _ (by omega) (by omega) (HT.out.ext (by repeat (first | exact Ext.refl _ | refine Ext.lift ?_ _ | refine Ext.alloc ?_ _)))))) | quiet_step ((exact Gives.quiet (Decimal_any _ _ (by omega) (by omega) (HT.out.ext (by repeat (first | exact Ext.refl _ | refine Ext.lift ?_ _ | refine Ext.alloc ?_ _))))))))
    refine wpQuiet_nil ?_
    intro _ hw'
    obtain ⟨y, hw''⟩ := hw'
    subst hw''
    go_wp2_with fail
    go_ret
    exact ⟨by rw [hv.out]; rfl, (by repeat (first | exact Ext.refl _ | refine Ext.lift ?_ _ | refine Ext.alloc ?_ _))⟩
set_option maxRecDepth 100000 in
set_option maxHeartbeats 4000000 in
theorem implReadArea_any (s : ByteArray) (w : World) (hs : s.size ≤ 1048576) (ht : RTab w) :
    Gives Tryd.prog 14 #[.string s] w (.tuple #[.agg #[.string (resArea s).id, .int .i64 (resArea s).chance, .int .i64 (resArea s).minutes], .bool (okArea s)]) := by
  unfold Gives
  have HT := Lib.hid ht
  have s1 := restC_size 32 s
  have s2 := restC_size 47 (restC 32 s)
  have s3 := headC_size 47 (restC 32 s)
  have s4 := headC_size 32 s
  have H1 := Lib.hid fun (W : World) (he : Ext w W) => Cut_any s 32 W hs (HT.out.ext he)
  have H2 := Lib.hid fun (W : World) (he : Ext w W) => Cut_any (restC 32 s) 47 W (by omega) (HT.out.ext he)
  have H3 := Lib.hid fun (W : World) (he : Ext w W) => ReadDecimal_any (headC 47 (restC 32 s)) W (by omega) (HT.out.ext he)
  have H4 := Lib.hid fun (W : World) (he : Ext w W) => ReadDecimal_any (restC 47 (restC 32 s)) W (by omega) (HT.out.ext he)
  have hp := Lib.hid (readArea_p s)
  obtain ⟨x, hx⟩ : ∃ x, x = areaI s := ⟨_, rfl⟩
  rw [← hx] at hp
  have hx0 : Hid (headC 32 s = x.id) := by show _ = _; rw [hx]; rfl
  have hx1 : Hid (numV (headC 47 (restC 32 s)) = x.chance) := by show _ = _; rw [hx]; rfl
  have hx2 : Hid (numV (restC 47 (restC 32 s)) = x.minutes) := by show _ = _; rw [hx]; rfl
  have hxs : x.id.size ≤ 1048576 := by rw [← hx0.out]; omega
  have HX := Lib.hid fun (W : World) (he : Ext w W) => implAreaText x W (by omega) (HT.out.tab.ext he)
  rw [show mkB (Lib.cut s.data.toList [32]).1 = x.id from hx0.out, show mkB (Lib.cut s.data.toList [32]).2.1 = restC 32 s from rfl] at H1
  rw [show mkB (Lib.cut (restC 32 s).data.toList [47]).1 = headC 47 (restC 32 s) from rfl, show mkB (Lib.cut (restC 32 s).data.toList [47]).2.1 = restC 47 (restC 32 s) from rfl] at H2
  rw [hx1.out] at H3
  rw [hx2.out] at H4
  generalize (Lib.cut s.data.toList [32]).2.2 = k1 at H1
  generalize (Lib.cut (restC 32 s).data.toList [47]).2.2 = k2 at H2
  clear hx hx0 hx1 hx2 ht s1 s2 s3 s4
  generalize headC 47 (restC 32 s) = pc at *
  generalize restC 47 (restC 32 s) = pm at *
  generalize restC 32 s = pr at *
  go_enter Tryd.func14, Tryd.ntmps14
  go_wp2_with fail
  refine (H1.out _ (by repeat (first | exact Ext.refl _ | refine Ext.lift ?_ _ | refine Ext.alloc ?_ _))).mono ?_
  rintro e W1 ⟨rfl, y1, rfl⟩
  clear H1
  go_wp2_with fail
  refine (H2.out _ (by repeat (first | exact Ext.refl _ | refine Ext.lift ?_ _ | refine Ext.alloc ?_ _))).mono ?_
  rintro e W2 ⟨rfl, y2, rfl⟩
  clear H2
  cases h3 : numB pc
  · have hv := Lib.hid (readArea_none (s := s) (by rw [hp.out, if_neg (by rw [h3]; rintro ⟨h, -⟩; cases h)]))
    rw [h3] at H3
    go_wp2_with fail
    refine (H3.out _ (by repeat (first | exact Ext.refl _ | refine Ext.lift ?_ _ | refine Ext.alloc ?_ _))).mono ?_
    rintro e W3 ⟨rfl, y3, rfl⟩
    clear H3
    go_wp2_with fail
    refine (H4.out _ (by repeat (first | exact Ext.refl _ | refine Ext.lift ?_ _ | refine Ext.alloc ?_ _))).mono ?_
    rintro e W4 ⟨rfl, y4, rfl⟩
    clear H4
    go_wp2_with fail
    exact bodyPost_ret (v := .tuple #[.agg #[.string ⟨#[]⟩, .int .i64 0, .int .i64 0], .bool false]) (by simp [results, Tryd.results14, go_sem]) rfl ⟨by rw [hv.out.1, hv.out.2], (by repeat (first | with_reducible exact Ext.refl _ | with_reducible refine Ext.lift ?_ _ | with_reducible refine Ext.alloc ?_ _ | with_reducible refine Ext.setCell ?_ (by first | (simp; done) | (simp; omega) | omega) _ | with_reducible refine ext_setCells (by first | (simp; done) | (simp; omega) | omega) _ _ _ ?_))⟩
  cases h4 : numB pm
  · have hv := Lib.hid (readArea_none (s := s) (by rw [hp.out, if_neg (by rw [h4]; rintro ⟨-, h, -⟩; cases h)]))
    rw [h3] at H3
    rw [h4] at H4
    go_wp2_with fail
    refine (H3.out _ (by repeat (first | exact Ext.refl _ | refine Ext.lift ?_ _ | refine Ext.alloc ?_ _))).mono ?_
    rintro e W3 ⟨rfl, y3, rfl⟩
    clear H3
    go_wp2_with fail
    refine (H4.out _ (by repeat (first | exact Ext.refl _ | refine Ext.lift ?_ _ | refine Ext.alloc ?_ _))).mono ?_
    rintro e W4 ⟨rfl, y4, rfl⟩
    clear H4
    go_wp2_with fail
    exact bodyPost_ret (v := .tuple #[.agg #[.string ⟨#[]⟩, .int .i64 0, .int .i64 0], .bool false]) (by simp [results, Tryd.results14, go_sem]) rfl ⟨by rw [hv.out.1, hv.out.2], (by repeat (first | with_reducible exact Ext.refl _ | with_reducible refine Ext.lift ?_ _ | with_reducible refine Ext.alloc ?_ _ | with_reducible refine Ext.setCell ?_ (by first | (simp; done) | (simp; omega) | omega) _ | with_reducible refine ext_setCells (by first | (simp; done) | (simp; omega) | omega) _ _ _ ?_))⟩
  rw [h3] at H3
  rw [h4] at H4
  cases h5 : sEq (areaS x) s
  · have hv := Lib.hid (readArea_none (s := s) (by rw [hp.out, if_neg (by rintro ⟨-, -, h⟩; exact sEq_not.1 h5 h)]))
    clear hp
    generalize areaS x = tx at *
    go_wp2_with fail
    refine (H3.out _ (by repeat (first | exact Ext.refl _ | refine Ext.lift ?_ _ | refine Ext.alloc ?_ _))).mono ?_
    rintro e W3 ⟨rfl, y3, rfl⟩
    clear H3
    go_wp2_with fail
    refine (H4.out _ (by repeat (first | exact Ext.refl _ | refine Ext.lift ?_ _ | refine Ext.alloc ?_ _))).mono ?_
    rintro e W4 ⟨rfl, y4, rfl⟩
    clear H4
    go_wp2_with (go_at_call 15; refine (HX.out _ (by repeat (first | with_reducible exact Ext.refl _ | with_reducible refine Ext.lift ?_ _ | with_reducible refine Ext.alloc ?_ _ | with_reducible refine Ext.setCell ?_ (by first | (simp; done) | (simp; omega) | omega) _ | with_reducible refine ext_setCells (by first | (simp; done) | (simp; omega) | omega) _ _ _ ?_))).mono ?_; rintro e w' ⟨rfl, z, rfl⟩)
    exact bodyPost_ret (v := .tuple #[.agg #[.string ⟨#[]⟩, .int .i64 0, .int .i64 0], .bool false]) (by simp [results, Tryd.results14, go_sem]) rfl ⟨by rw [hv.out.1, hv.out.2], (by repeat (first | with_reducible exact Ext.refl _ | with_reducible refine Ext.lift ?_ _ | with_reducible refine Ext.alloc ?_ _ | with_reducible refine Ext.setCell ?_ (by first | (simp; done) | (simp; omega) | omega) _ | with_reducible refine ext_setCells (by first | (simp; done) | (simp; omega) | omega) _ _ _ ?_))⟩
  · have hv := Lib.hid (readArea_some (s := s) (x := x) (by rw [hp.out, if_pos ⟨h3, h4, sEq_iff.1 h5⟩]))
    clear hp
    generalize areaS x = tx at *
    go_wp2_with fail
    refine (H3.out _ (by repeat (first | exact Ext.refl _ | refine Ext.lift ?_ _ | refine Ext.alloc ?_ _))).mono ?_
    rintro e W3 ⟨rfl, y3, rfl⟩
    clear H3
    go_wp2_with fail
    refine (H4.out _ (by repeat (first | exact Ext.refl _ | refine Ext.lift ?_ _ | refine Ext.alloc ?_ _))).mono ?_
    rintro e W4 ⟨rfl, y4, rfl⟩
    clear H4
    go_wp2_with (go_at_call 15; refine (HX.out _ (by repeat (first | with_reducible exact Ext.refl _ | with_reducible refine Ext.lift ?_ _ | with_reducible refine Ext.alloc ?_ _ | with_reducible refine Ext.setCell ?_ (by first | (simp; done) | (simp; omega) | omega) _ | with_reducible refine ext_setCells (by first | (simp; done) | (simp; omega) | omega) _ _ _ ?_))).mono ?_; rintro e w' ⟨rfl, z, rfl⟩)
    exact bodyPost_ret (v := .tuple #[.agg #[.string (x).id, .int .i64 (x).chance, .int .i64 (x).minutes], .bool true]) (by simp [results, Tryd.results14, go_sem]) rfl ⟨by rw [hv.out.1, hv.out.2], (by repeat (first | with_reducible exact Ext.refl _ | with_reducible refine Ext.lift ?_ _ | with_reducible refine Ext.alloc ?_ _ | with_reducible refine Ext.setCell ?_ (by first | (simp; done) | (simp; omega) | omega) _ | with_reducible refine ext_setCells (by first | (simp; done) | (simp; omega) | omega) _ _ _ ?_))⟩
end Go.Proofs.YtccbcjopmkmipaaDoor
