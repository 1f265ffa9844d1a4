/- An area as text and read back: the walks. -/
import Derived.Test.YtfiiaegfikocoaaDoorRArea
import Derived.Test.YtfiiaegfikocoaaDoorGrow
namespace Go.Proofs.YtfiiaegfikocoaaDoor
open Go.RowKit
set_option maxRecDepth 100000 in
set_option maxHeartbeats 2000000 in
theorem implAreaText (x : Area) (w : World) (hs0 : x.id.size ≤ 2000000) (ht : Tab w) :
    Gives Tryd.prog 23 #[.agg #[.string x.id, .int .i64 x.chance, .int .i64 x.minutes]] w (.string (areaS x)) := by
  unfold Gives
  have HT := Lib.hid ht
  clear ht
  cases h : areaB x
  · have hv : Hid ((⟨#[]⟩ : ByteArray) = areaS x) := by show _ = _; unfold areaS; rw [h]; rfl
    go_enter Tryd.func23, Tryd.ntmps23
    go_wp2_with (go_at_call 47; refine (Area_valid x _ (by omega)).mono ?_; rintro e w' ⟨rfl, y, rfl⟩; rw [h])
    go_ret
    exact ⟨by rw [← hv.out]; rfl, (by repeat (first | exact Ext.refl _ | refine Ext.lift ?_ _ | refine Ext.alloc ?_ _))⟩
  · obtain ⟨b0, ⟨b1, b2⟩, ⟨b3, b4⟩, -⟩ := areaB_bd h
    have d1 := decS_size x.chance (by omega) (by omega)
    have d2 := decS_size x.minutes (by omega) (by omega)
    have e32 : (⟨#[32]⟩ : ByteArray).size = 1 := rfl
    have e47 : (⟨#[47]⟩ : ByteArray).size = 1 := rfl
    have d3 : (x.id ++ ⟨#[32]⟩ : ByteArray).size ≤ 11 := by rw [ByteArray.size_append]; omega
    have d4 : (x.id ++ ⟨#[32]⟩ ++ decS x.chance : ByteArray).size ≤ 40 := by rw [ByteArray.size_append]; omega
    have d5 : (x.id ++ ⟨#[32]⟩ ++ decS x.chance ++ ⟨#[47]⟩ : ByteArray).size ≤ 41 := by rw [ByteArray.size_append]; omega
    have hv : Hid (x.id ++ ⟨#[32]⟩ ++ decS x.chance ++ ⟨#[47]⟩ ++ decS x.minutes = areaS x) := by show _ = _; unfold areaS; rw [if_pos h]
    go_enter Tryd.func23, Tryd.ntmps23
    go_wp2_with (go_at_call 47; refine (Area_valid x _ (by omega)).mono ?_; rintro e w' ⟨rfl, y, rfl⟩; rw [h])
    refine region_quiet (by kernel_rfl) (by kernel_rfl) ?_
    repeat (any_goals (first | go_big_quiet_step ((exact Gives.quiet (Decimal_any _ _ (by omega) (by omega) (HT.out.ext (by repeat (first | exact Ext.refl _ | refine Ext.lift ?_ _ | refine Ext.alloc ?_ _)))))) | quiet_step ((exact Gives.quiet (Decimal_any _ _ (by omega) (by omega) (HT.out.ext (by repeat (first | exact Ext.refl _ | refine Ext.lift ?_ _ | refine Ext.alloc ?_ _))))))))
    refine wpQuiet_nil ?_
    intro _ hw'
    obtain ⟨y, hw''⟩ := hw'
    subst hw''
    go_wp2_with fail
    go_ret
    exact ⟨by rw [hv.out]; rfl, (by repeat (first | exact Ext.refl _ | refine Ext.lift ?_ _ | refine Ext.alloc ?_ _))⟩
set_option maxRecDepth 100000 in
set_option maxHeartbeats 2000000 in
theorem l23Two_any (s : ByteArray) (w : World) (hs : s.size ≤ 1048576) :
    Calls Tryd.prog 19 #[.string s, .int .u8 47] w fun e w' => ∃ a cap L, e = .returned (.tuple #[.slice a (L : List Int).length cap, .bool (pairB s)]) ∧ IntAt w' a L ∧ (pairB s = true → L = pairL s) ∧ ∃ y, w' = lift w y := by
  have HS := Lib.hid fun (W : World) => l01Split_any s 47 47 W rfl hs
  have hp : Hid (pairB s = (decide ((cutsB 47 s).length = 2) && numB (nth (cutsB 47 s) 0) && numB (nth (cutsB 47 s) 1))) := rfl
  have hl : Hid (pairL s = [numV (nth (cutsB 47 s) 0), numV (nth (cutsB 47 s) 1)]) := rfl
  obtain ⟨Q, hQ⟩ : ∃ Q, Q = cutsB 47 s := ⟨_, rfl⟩
  have hQp : Hid (∀ k, k < Q.length → (nth Q k).size ≤ 1048576) := fun k hk => by have := piece_size (c := 47) (s := s) (p := nth Q k) (by rw [← hQ]; exact nth_mem hk); omega
  rw [← hQ] at HS hp hl
  clear hQ
  go_enter Tryd.func19, Tryd.ntmps19
  go_wp2_with fail
  refine (HS.out _).mono ?_
  rintro e W ⟨a, cap, rfl, -, -, R, y0, rfl⟩
  have R0 := Lib.hid R
  clear R HS
  by_cases h2 : Q.length = 2
  case neg =>
    have hv : Hid (pairB s = false) := by show _ = _; rw [hp.out, decide_eq_false h2]; rfl
    have h2' : ((Q.length : Int) != 2) = true := by rw [bne_iff_ne]; omega
    clear h2
    go_wp2_with fail
    go_ret2
    rw [hv.out]
    exact ⟨none, 0, [], rfl, fun k hk => absurd hk (Nat.not_lt_zero _), fun h => Bool.noConfusion h, _, rfl⟩
  have h2' : ((Q.length : Int) != 2) = false := by rw [h2]; rfl
  have hq : 1 < Q.length := by omega
  have hq0 : 0 < Q.length := by omega
  have h2h := Lib.hid h2
  have hz0 := hQp.out 0 (by omega)
  have hz1 := hQp.out 1 (by omega)
  clear h2
  obtain ⟨b, off, rfl⟩ := R0.out.base hq
  obtain ⟨hb, c1⟩ := StrAt.at R0.out 1 hq
  obtain ⟨-, c0⟩ := StrAt.at R0.out 0 (by omega)
  rw [Nat.add_zero] at c0
  have H0 := Lib.hid fun W' => l01Number_any (nth Q 0) W' hz0
  have H1 := Lib.hid fun W' => l01Number_any (nth Q 1) W' hz1
  have hp2 : Hid (pairB s = (numB (nth Q 0) && numB (nth Q 1))) := by show _ = _; rw [hp.out, h2h.out]; simp
  cases hn : numB (nth Q 0)
  all_goals
    rw [hn] at H0 hp2
    go_wp2_with fail
    refine (H0.out _).mono ?_
    rintro e w' ⟨rfl, rfl⟩
    go_wp2_with fail
    refine (H1.out _).mono ?_
    rintro e w' ⟨rfl, rfl⟩
    go_wp2_with fail
    go_ret2
    rw [hp2.out, hl.out]
    exact ⟨_, 2, [numV (nth Q 0), numV (nth Q 1)], rfl, intAt_new' (lift w y0) [numV (nth Q 0), numV (nth Q 1)] #[.int .i64 (numV (nth Q 0)), .int .i64 (numV (nth Q 1))] _ (by intro q hq; simp at hq; rcases (show q = 0 ∨ q = 1 by omega) with rfl | rfl <;> rfl) (by simp only [lift_size]), fun _ => rfl, Ext.alloc (Ext.lift (Ext.refl _) _) _⟩
set_option maxRecDepth 100000 in
set_option maxHeartbeats 4000000 in
theorem specReadArea_any (s : ByteArray) (w : World) (hs : s.size ≤ 1048576) :
    Gives Tryd.prog 5 #[.string s] w (.tuple #[.agg #[.string (resArea s).id, .int .i64 (resArea s).chance, .int .i64 (resArea s).minutes], .bool (okArea s)]) := by
  unfold Gives
  have HS := Lib.hid fun (W : World) => l01Split_any s 32 32 W rfl hs
  obtain ⟨Q, hQ⟩ : ∃ Q, Q = cutsB 32 s := ⟨_, rfl⟩
  have hQp : Hid (∀ k, k < Q.length → (nth Q k).size ≤ 1048576) := fun k hk => by have := piece_size (c := 32) (s := s) (p := nth Q k) (by rw [← hQ]; exact nth_mem hk); omega
  obtain ⟨x, hx⟩ : ∃ x, x = areaQ s := ⟨_, rfl⟩
  have hno : Hid ((Q.length ≠ 2 ∨ pairB (nth Q 1) = false ∨ areaB x = false) → resArea s = ⟨⟨#[]⟩, 0, 0⟩ ∧ okArea s = false) := fun h => readArea_none (by
    unfold readArea
    rw [if_neg]
    rintro ⟨h1, h2, h3⟩
    rw [← hQ] at h1 h2
    rw [← hx] at h3
    rcases h with h | h | h
    · exact h h1
    · rw [h2] at h; cases h
    · rw [h3] at h; cases h)
  have hyes : Hid (Q.length = 2 → pairB (nth Q 1) = true → areaB x = true → resArea s = x ∧ okArea s = true) := fun h1 h2 h3 => readArea_some (by
    unfold readArea
    rw [if_pos ⟨by rw [← hQ]; exact h1, by rw [← hQ]; exact h2, by rw [← hx]; exact h3⟩, ← hx])
  have hx0 : Hid (nth Q 0 = x.id) := by show _ = _; rw [hx, hQ]; rfl
  have hx1 : Hid (pairL (nth Q 1) = [x.chance, x.minutes]) := by show _ = _; rw [hx, hQ]; rfl
  rw [← hQ] at HS
  clear hQ hx
  go_enter Tryd.func5, Tryd.ntmps5
  go_wp2_with fail
  refine (HS.out _).mono ?_
  rintro e W ⟨a, cap, rfl, -, -, R, y0, rfl⟩
  have R0 := Lib.hid R
  clear R HS
  by_cases h2 : Q.length = 2
  case neg =>
    have hv := Lib.hid (hno.out (.inl h2))
    have h2' : ((Q.length : Int) != 2) = true := by rw [bne_iff_ne]; omega
    clear h2
    go_wp2_with fail
    exact bodyPost_ret (v := .tuple #[.agg #[.string ⟨#[]⟩, .int .i64 0, .int .i64 0], .bool false]) (by simp [results, Tryd.results5, go_sem]) rfl ⟨by rw [hv.out.1, hv.out.2], (by repeat (first | with_reducible exact Ext.refl _ | with_reducible refine Ext.lift ?_ _ | with_reducible refine Ext.alloc ?_ _ | with_reducible refine Ext.setCell ?_ (by first | (simp; done) | (simp; omega) | omega) _ | with_reducible refine ext_setCells (by first | (simp; done) | (simp; omega) | omega) _ _ _ ?_))⟩
  have h2' : ((Q.length : Int) != 2) = false := by rw [h2]; rfl
  have hq : 1 < Q.length := by omega
  have hq0 : 0 < Q.length := by omega
  have h2h := Lib.hid h2
  have hz0 := hQp.out 0 (by omega)
  have hz1 := hQp.out 1 (by omega)
  clear h2
  obtain ⟨b, off, rfl⟩ := R0.out.base hq
  obtain ⟨hb, c1⟩ := StrAt.at R0.out 1 hq
  obtain ⟨-, c0⟩ := StrAt.at R0.out 0 (by omega)
  rw [Nat.add_zero, hx0.out] at c0
  rw [hx0.out] at hz0
  simp at hb
  have HL := Lib.hid fun W' => l23Two_any (nth Q 1) W' hz1
  cases h1 : pairB (nth Q 1)
  · have hv := Lib.hid (hno.out (.inr (.inl h1)))
    rw [h1] at HL
    go_wp2_with fail
    refine (HL.out _).mono ?_
    rintro e W2 ⟨a2, cap2, L, rfl, -, -, y2, rfl⟩
    go_wp2_with fail
    exact bodyPost_ret (v := .tuple #[.agg #[.string ⟨#[]⟩, .int .i64 0, .int .i64 0], .bool false]) (by simp [results, Tryd.results5, go_sem]) rfl ⟨by rw [hv.out.1, hv.out.2], (by repeat (first | with_reducible exact Ext.refl _ | with_reducible refine Ext.lift ?_ _ | with_reducible refine Ext.alloc ?_ _ | with_reducible refine Ext.setCell ?_ (by first | (simp; done) | (simp; omega) | omega) _ | with_reducible refine ext_setCells (by first | (simp; done) | (simp; omega) | omega) _ _ _ ?_))⟩
  rw [h1] at HL
  go_wp2_with fail
  refine (HL.out _).mono ?_
  rintro e W2 ⟨a2, cap2, L, rfl, R2, hL, y2, rfl⟩
  obtain rfl := (hL (by trivial)).trans hx1.out
  have R3 := Lib.hid R2
  clear R2 HL c1 hL
  have hl0 : 0 < ([x.chance, x.minutes] : List Int).length := by simp
  obtain ⟨b2, off2, rfl⟩ := R3.out.base hl0
  obtain ⟨hb2, d0⟩ := IntAt.at (R3.out) 0 (by simp)
  obtain ⟨-, d1⟩ := IntAt.at (R3.out) 1 (by simp)
  rw [Nat.add_zero] at d0
  change _ = some (Value.int .i64 x.chance) at d0
  change _ = some (Value.int .i64 x.minutes) at d1
  rw [show ([x.chance, x.minutes] : List Int).length = 2 from rfl]
  simp at hb2
  clear hl0
  go_wp2_with fail
  refine Grow.region_tail 11 [0, 1, 2, 3, 4, 5, 6, 7, 8, 9] [(false, 10)] (by kernel_rfl) (by kernel_rfl) ?_
  simp only [Grow.pick, Grow.pickB, List.getElem?_cons_succ, List.getElem?_cons_zero, List.drop_succ_cons, List.drop_zero]
  repeat
    refine Grow.heads_step (fun K' hK => ⟨rfl, ?_⟩)
    apply Exists.intro
    apply And.intro
    · intro w' hw'
      obtain ⟨x', rfl⟩ := hw'
      go_simp
      first | done | rfl | (rw [if_neg (by omega)]; done) | (rw [if_neg (by omega)]; rfl) | (rw [if_pos (by omega)]; done) | (rw [if_pos (by omega)]; rfl)
    go_simp
    refine hK _ ?_
    clear hK K'
  refine Grow.heads_nil ?_
  intro w5 e5
  obtain ⟨y5, rfl⟩ := e5
  refine Grow.seq_step (fun K' hK => ⟨rfl, ?_⟩)
  go_simp
  try rw [if_neg (by omega)]
  simp only [Grow.upon]
  refine ⟨(Ext.refl _).alloc _, fun w6 e6 => hK _ _ ?_⟩
  clear hK K'
  obtain ⟨y6, rfl⟩ := e6
  refine Grow.seq_nil ?_
  clear c0 d0 d1 hb2 hb
  cases h : areaB x
  · have hv := Lib.hid (hno.out (.inr (.inr h)))
    go_wp2_with (go_at_call 20; refine (l25One_any _ _ x _ (by omega) (by go_simp) (by go_simp) (by go_simp)).mono ?_; rintro e w' ⟨rfl, rfl⟩; rw [h])
    exact bodyPost_ret (v := .tuple #[.agg #[.string ⟨#[]⟩, .int .i64 0, .int .i64 0], .bool false]) (by simp [results, Tryd.results5, go_sem]) rfl ⟨by rw [hv.out.1, hv.out.2], (by repeat (first | with_reducible exact Ext.refl _ | with_reducible refine Ext.lift ?_ _ | with_reducible refine Ext.alloc ?_ _ | with_reducible refine Ext.setCell ?_ (by first | (simp; done) | (simp; omega) | omega) _ | with_reducible refine ext_setCells (by first | (simp; done) | (simp; omega) | omega) _ _ _ ?_))⟩
  · have hv := Lib.hid (hyes.out h2h.out h1 h)
    go_wp2_with (go_at_call 20; refine (l25One_any _ _ x _ (by omega) (by go_simp) (by go_simp) (by go_simp)).mono ?_; rintro e w' ⟨rfl, rfl⟩; rw [h])
    exact bodyPost_ret (v := .tuple #[.agg #[.string (x).id, .int .i64 (x).chance, .int .i64 (x).minutes], .bool true]) (by simp [results, Tryd.results5, go_sem]) rfl ⟨by rw [hv.out.1, hv.out.2], (by repeat (first | with_reducible exact Ext.refl _ | with_reducible refine Ext.lift ?_ _ | with_reducible refine Ext.alloc ?_ _ | with_reducible refine Ext.setCell ?_ (by first | (simp; done) | (simp; omega) | omega) _ | with_reducible refine ext_setCells (by first | (simp; done) | (simp; omega) | omega) _ _ _ ?_))⟩
set_option maxRecDepth 100000 in
set_option maxHeartbeats 4000000 in
theorem implReadArea_any (s : ByteArray) (w : World) (hs : s.size ≤ 1048576) (ht : RTab w) :
    Gives Tryd.prog 6 #[.string s] w (.tuple #[.agg #[.string (resArea s).id, .int .i64 (resArea s).chance, .int .i64 (resArea s).minutes], .bool (okArea s)]) := by
  unfold Gives
  have HT := Lib.hid ht
  have s1 := restC_size 32 s
  have s2 := restC_size 47 (restC 32 s)
  have s3 := headC_size 47 (restC 32 s)
  have s4 := headC_size 32 s
  have H1 := Lib.hid fun (W : World) (he : Ext w W) => Cut_any s 32 W hs (HT.out.ext he)
  have H2 := Lib.hid fun (W : World) (he : Ext w W) => Cut_any (restC 32 s) 47 W (by omega) (HT.out.ext he)
  have H3 := Lib.hid fun (W : World) (he : Ext w W) => ReadDecimal_any (headC 47 (restC 32 s)) W (by omega) (HT.out.ext he)
  have H4 := Lib.hid fun (W : World) (he : Ext w W) => ReadDecimal_any (restC 47 (restC 32 s)) W (by omega) (HT.out.ext he)
  have hp := Lib.hid (readArea_p s)
  obtain ⟨x, hx⟩ : ∃ x, x = areaI s := ⟨_, rfl⟩
  rw [← hx] at hp
  have hx0 : Hid (headC 32 s = x.id) := by show _ = _; rw [hx]; rfl
  have hx1 : Hid (numV (headC 47 (restC 32 s)) = x.chance) := by show _ = _; rw [hx]; rfl
  have hx2 : Hid (numV (restC 47 (restC 32 s)) = x.minutes) := by show _ = _; rw [hx]; rfl
  have hxs : x.id.size ≤ 1048576 := by rw [← hx0.out]; omega
  have HX := Lib.hid fun (W : World) (he : Ext w W) => implAreaText x W (by omega) (HT.out.tab.ext he)
  rw [show mkB (Lib.cut s.data.toList [32]).1 = x.id from hx0.out, show mkB (Lib.cut s.data.toList [32]).2.1 = restC 32 s from rfl] at H1
  rw [show mkB (Lib.cut (restC 32 s).data.toList [47]).1 = headC 47 (restC 32 s) from rfl, show mkB (Lib.cut (restC 32 s).data.toList [47]).2.1 = restC 47 (restC 32 s) from rfl] at H2
  rw [hx1.out] at H3
  rw [hx2.out] at H4
  generalize (Lib.cut s.data.toList [32]).2.2 = k1 at H1
  generalize (Lib.cut (restC 32 s).data.toList [47]).2.2 = k2 at H2
  clear hx hx0 hx1 hx2 ht s1 s2 s3 s4
  generalize headC 47 (restC 32 s) = pc at *
  generalize restC 47 (restC 32 s) = pm at *
  generalize restC 32 s = pr at *
  go_enter Tryd.func6, Tryd.ntmps6
  go_wp2_with fail
  refine (H1.out _ (by repeat (first | exact Ext.refl _ | refine Ext.lift ?_ _ | refine Ext.alloc ?_ _))).mono ?_
  rintro e W1 ⟨rfl, y1, rfl⟩
  clear H1
  go_wp2_with fail
  refine (H2.out _ (by repeat (first | exact Ext.refl _ | refine Ext.lift ?_ _ | refine Ext.alloc ?_ _))).mono ?_
  rintro e W2 ⟨rfl, y2, rfl⟩
  clear H2
  cases h3 : numB pc
  · have hv := Lib.hid (readArea_none (s := s) (by rw [hp.out, if_neg (by rw [h3]; rintro ⟨h, -⟩; cases h)]))
    rw [h3] at H3
    go_wp2_with fail
    refine (H3.out _ (by repeat (first | exact Ext.refl _ | refine Ext.lift ?_ _ | refine Ext.alloc ?_ _))).mono ?_
    rintro e W3 ⟨rfl, y3, rfl⟩
    clear H3
    go_wp2_with fail
    refine (H4.out _ (by repeat (first | exact Ext.refl _ | refine Ext.lift ?_ _ | refine Ext.alloc ?_ _))).mono ?_
    rintro e W4 ⟨rfl, y4, rfl⟩
    clear H4
    go_wp2_with fail
    exact bodyPost_ret (v := .tuple #[.agg #[.string ⟨#[]⟩, .int .i64 0, .int .i64 0], .bool false]) (by simp [results, Tryd.results6, go_sem]) rfl ⟨by rw [hv.out.1, hv.out.2], (by repeat (first | with_reducible exact Ext.refl _ | with_reducible refine Ext.lift ?_ _ | with_reducible refine Ext.alloc ?_ _ | with_reducible refine Ext.setCell ?_ (by first | (simp; done) | (simp; omega) | omega) _ | with_reducible refine ext_setCells (by first | (simp; done) | (simp; omega) | omega) _ _ _ ?_))⟩
  cases h4 : numB pm
  · have hv := Lib.hid (readArea_none (s := s) (by rw [hp.out, if_neg (by rw [h4]; rintro ⟨-, h, -⟩; cases h)]))
    rw [h3] at H3
    rw [h4] at H4
    go_wp2_with fail
    refine (H3.out _ (by repeat (first | exact Ext.refl _ | refine Ext.lift ?_ _ | refine Ext.alloc ?_ _))).mono ?_
    rintro e W3 ⟨rfl, y3, rfl⟩
    clear H3
    go_wp2_with fail
    refine (H4.out _ (by repeat (first | exact Ext.refl _ | refine Ext.lift ?_ _ | refine Ext.alloc ?_ _))).mono ?_
    rintro e W4 ⟨rfl, y4, rfl⟩
    clear H4
    go_wp2_with fail
    exact bodyPost_ret (v := .tuple #[.agg #[.string ⟨#[]⟩, .int .i64 0, .int .i64 0], .bool false]) (by simp [results, Tryd.results6, go_sem]) rfl ⟨by rw [hv.out.1, hv.out.2], (by repeat (first | with_reducible exact Ext.refl _ | with_reducible refine Ext.lift ?_ _ | with_reducible refine Ext.alloc ?_ _ | with_reducible refine Ext.setCell ?_ (by first | (simp; done) | (simp; omega) | omega) _ | with_reducible refine ext_setCells (by first | (simp; done) | (simp; omega) | omega) _ _ _ ?_))⟩
  rw [h3] at H3
  rw [h4] at H4
  cases h5 : sEq (areaS x) s
  · have hv := Lib.hid (readArea_none (s := s) (by rw [hp.out, if_neg (by rintro ⟨-, -, h⟩; exact sEq_not.1 h5 h)]))
    clear hp
    generalize areaS x = tx at *
    go_wp2_with fail
    refine (H3.out _ (by repeat (first | exact Ext.refl _ | refine Ext.lift ?_ _ | refine Ext.alloc ?_ _))).mono ?_
    rintro e W3 ⟨rfl, y3, rfl⟩
    clear H3
    go_wp2_with fail
    refine (H4.out _ (by repeat (first | exact Ext.refl _ | refine Ext.lift ?_ _ | refine Ext.alloc ?_ _))).mono ?_
    rintro e W4 ⟨rfl, y4, rfl⟩
    clear H4
    go_wp2_with (go_at_call 23; refine (HX.out _ (by repeat (first | with_reducible exact Ext.refl _ | with_reducible refine Ext.lift ?_ _ | with_reducible refine Ext.alloc ?_ _ | with_reducible refine Ext.setCell ?_ (by first | (simp; done) | (simp; omega) | omega) _ | with_reducible refine ext_setCells (by first | (simp; done) | (simp; omega) | omega) _ _ _ ?_))).mono ?_; rintro e w' ⟨rfl, z, rfl⟩)
    exact bodyPost_ret (v := .tuple #[.agg #[.string ⟨#[]⟩, .int .i64 0, .int .i64 0], .bool false]) (by simp [results, Tryd.results6, go_sem]) rfl ⟨by rw [hv.out.1, hv.out.2], (by repeat (first | with_reducible exact Ext.refl _ | with_reducible refine Ext.lift ?_ _ | with_reducible refine Ext.alloc ?_ _ | with_reducible refine Ext.setCell ?_ (by first | (simp; done) | (simp; omega) | omega) _ | with_reducible refine ext_setCells (by first | (simp; done) | (simp; omega) | omega) _ _ _ ?_))⟩
  · have hv := Lib.hid (readArea_some (s := s) (x := x) (by rw [hp.out, if_pos ⟨h3, h4, sEq_iff.1 h5⟩]))
    clear hp
    generalize areaS x = tx at *
    go_wp2_with fail
    refine (H3.out _ (by repeat (first | exact Ext.refl _ | refine Ext.lift ?_ _ | refine Ext.alloc ?_ _))).mono ?_
    rintro e W3 ⟨rfl, y3, rfl⟩
    clear H3
    go_wp2_with fail
    refine (H4.out _ (by repeat (first | exact Ext.refl _ | refine Ext.lift ?_ _ | refine Ext.alloc ?_ _))).mono ?_
    rintro e W4 ⟨rfl, y4, rfl⟩
    clear H4
    go_wp2_with (go_at_call 23; refine (HX.out _ (by repeat (first | with_reducible exact Ext.refl _ | with_reducible refine Ext.lift ?_ _ | with_reducible refine Ext.alloc ?_ _ | with_reducible refine Ext.setCell ?_ (by first | (simp; done) | (simp; omega) | omega) _ | with_reducible refine ext_setCells (by first | (simp; done) | (simp; omega) | omega) _ _ _ ?_))).mono ?_; rintro e w' ⟨rfl, z, rfl⟩)
    exact bodyPost_ret (v := .tuple #[.agg #[.string (x).id, .int .i64 (x).chance, .int .i64 (x).minutes], .bool true]) (by simp [results, Tryd.results6, go_sem]) rfl ⟨by rw [hv.out.1, hv.out.2], (by repeat (first | with_reducible exact Ext.refl _ | with_reducible refine Ext.lift ?_ _ | with_reducible refine Ext.alloc ?_ _ | with_reducible refine Ext.setCell ?_ (by first | (simp; done) | (simp; omega) | omega) _ | with_reducible refine ext_setCells (by first | (simp; done) | (simp; omega) | omega) _ _ _ ?_))⟩
end Go.Proofs.YtfiiaegfikocoaaDoor
