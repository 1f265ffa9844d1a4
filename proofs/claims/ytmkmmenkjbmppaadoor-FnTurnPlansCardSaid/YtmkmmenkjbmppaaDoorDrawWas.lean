/- The watches that the reference draws, and the hours. -/
import Derived.Test.YtmkmmenkjbmppaaDoorLst
import Derived.Test.YtmkmmenkjbmppaaDoorAddWat
import Derived.Test.YtmkmmenkjbmppaaDoorDr
import Derived.Test.YtmkmmenkjbmppaaDoorAmong
import Derived.Test.YtmkmmenkjbmppaaDoorWatch
import Derived.Test.YtmkmmenkjbmppaaDoorSrch
import Derived.Deep.RegionLaw
import Derived.Deep.CutRange
import Derived.Test.YtmkmmenkjbmppaaDoorLift
import Derived.Test.YtmkmmenkjbmppaaDoorSrc
namespace Go.Proofs.YtmkmmenkjbmppaaDoor
open Go.RowKit
theorem Lst.low {α : Type} {T n b0 b1 : Nat} {cell : α → Nat → Value} {w : World} {v : Value} {l : List α} (h : Lst T n cell w b1 v l) (hb : b0 ≤ b1) : Lst T n cell w b0 v l := by
  refine ⟨h.1, ?_⟩
  rcases h.2 with h2 | ⟨g, cap, cur, hv, hg, r⟩
  · exact .inl h2
  · exact .inr ⟨g, cap, cur, hv, Nat.le_trans hb hg, r⟩
/-- A list in a block of the call's own, told by its elements. -/
theorem Lst.of_rows {α : Type} [Inhabited α] {T n base g cap : Nat} {cell : α → Nat → Value} {w : World} {l : List α} (hB : Blk w g T (cap * n)) (hb : base ≤ g) (hR : RowsAt n cell w (some ⟨g, 0, none⟩) l) (hc : l.length ≤ cap) (hm : cap ≤ maxLen) : Lst T n cell w base (.slice (some ⟨g, 0, none⟩) l.length cap) l := by
  obtain ⟨cur, hh, hs⟩ := hB
  refine ⟨flat_length l, .inr ⟨g, cap, cur, rfl, hb, hh, hc, hm, hs, ?_⟩⟩
  have hle : l.length * n ≤ cur.toList.length := by
    have h1 : l.length * n ≤ cap * n := Nat.mul_le_mul_right n hc
    have h2 : cur.toList.length = cap * n := by rw [← hs]; exact Array.length_toList
    omega
  apply List.ext_getElem?
  intro i
  by_cases hi : i < l.length * n
  · obtain ⟨k, j, hk, hj, rfl⟩ := split_index hi
    rw [List.getElem?_take, if_pos hi, flat_get l k hk j hj, Array.getElem?_toList]
    obtain ⟨b, off, e, _, hcell⟩ := hR k hk
    simp only [Option.some.injEq, Addr.mk.injEq, and_true] at e
    obtain ⟨rfl, rfl⟩ := e
    have := hcell j hj
    unfold World.cell? at this
    rw [hh] at this
    simpa using this
  · rw [List.getElem?_eq_none (show (cur.toList.take (l.length * n)).length ≤ i by rw [List.length_take]; omega), List.getElem?_eq_none (show (flat n cell l).length ≤ i by rw [flat_length]; omega)]
/-- The parts of a list that is not empty. -/
theorem Lst.parts {α : Type} [Inhabited α] {T n base : Nat} {cell : α → Nat → Value} {w : World} {v : Value} {l : List α} (h : Lst T n cell w base v l) (hl : 0 < l.length) : ∃ g cap, v = .slice (some ⟨g, 0, none⟩) l.length cap ∧ base ≤ g ∧ Blk w g T (cap * n) ∧ RowsAt n cell w (some ⟨g, 0, none⟩) l ∧ l.length ≤ cap ∧ cap ≤ maxLen := by
  have hsh := h.shape
  rcases h.2 with ⟨hv, hx⟩ | ⟨g, cap, cur, hv, hg, hh, hc, hm, hs, ht⟩
  · have : l.length = 0 := hx
    omega
  · refine ⟨g, cap, hv, hg, ⟨cur, hh, hs⟩, ?_, hc, hm⟩
    obtain ⟨a, cap', e, -, -, hR, -⟩ := hsh
    rw [hv] at e
    simp only [Value.slice.injEq] at e
    rw [e.1]; exact hR
/-- An element of the list is written. -/
theorem Lst.put {α : Type} [Inhabited α] {T n base : Nat} {cell : α → Nat → Value} {w : World} {g cap : Nat} {l : List α} (hg : base ≤ g) (hB : Blk w g T (cap * n)) (hR : RowsAt n cell w (some ⟨g, 0, none⟩) l) (hc : l.length ≤ cap) (hm : cap ≤ maxLen) {k : Nat} (hk : k < l.length) (y : α) (vs : List Value) (hl : vs.length = n) (hv : ∀ j, j < n → vs[j]? = some (cell y j)) :
    Lst T n cell (w.setCells g (k * n) vs) base (.slice (some ⟨g, 0, none⟩) (l.set k y).length cap) (l.set k y) :=
  Lst.of_rows (hB.setCells g vs _ w) hg (RowsAt.set hR hB (Nat.mul_le_mul_right n hc) hk vs hl hv) (by rw [List.length_set]; exact hc) hm
/-- A list cut to its first elements. -/
theorem Lst.cutTo {α : Type} [Inhabited α] {T n base : Nat} {cell : α → Nat → Value} {w : World} {g cap : Nat} {l : List α} (hg : base ≤ g) (hB : Blk w g T (cap * n)) (hR : RowsAt n cell w (some ⟨g, 0, none⟩) l) (hc : l.length ≤ cap) (hm : cap ≤ maxLen) {k : Nat} (hk : k ≤ l.length) : Lst T n cell w base (.slice (some ⟨g, 0, none⟩) k cap) (l.take k) := by
  have := Lst.of_rows (T := T) (base := base) hB hg (hR.take k) (by rw [List.length_take]; omega) hm
  rwa [List.length_take, Nat.min_eq_left hk] at this
/-- A cell of another block is written. -/
theorem Lst.setN {α : Type} {T n base b o : Nat} {cell : α → Nat → Value} {w : World} {v : Value} {l : List α} (h : Lst T n cell w base v l) (hb : ∀ g, v.ownBlock = some g → g ≠ b) (u : Value) : Lst T n cell (w.setCell ⟨b, o, none⟩ u) base v l := by
  refine ⟨h.1, ?_⟩
  rcases h.2 with h2 | ⟨g, cap, cur, hv, hg, hh, r⟩
  · exact .inl h2
  · exact .inr ⟨g, cap, cur, hv, hg, by rw [heap_setCell_other w ⟨b, o, none⟩ g u (by show g ≠ b; exact hb g (by rw [hv]; rfl))]; exact hh, r⟩
end Go.Proofs.YtmkmmenkjbmppaaDoor
namespace Go.Proofs.YtmkmmenkjbmppaaDoor
open Go.RowKit
set_option maxRecDepth 100000 in
set_option maxHeartbeats 8000000 in
theorem specAddWatch_lst (w : World) (a : Option Addr) (cap : Nat) (l : List Watch) (H : WatchAt w a l) (hsz : ∀ k, k < l.length → (nth l k).Small) (hn : l.length ≤ 1048576) (hcap : l.length ≤ cap) (x : Watch) (hx : x.Small) :
    Calls Tryd.prog 42 #[.slice a l.length cap, .agg #[.string x.person, .int .i64 x.start, .int .i64 x.hours, .bool x.call]] w fun e w' => ∃ v, e = .returned (.tuple #[v, .int .i64 (addWatC l x)]) ∧ Lst 65 4 Watch.cell w' w.heap.size v (addWat l x) ∧ Ext w w' := by
  have HA := Lib.hid H
  have HV := Lib.hid fun (w' : World) (he : Ext w w') => l26Ok_any a cap l w' (H.ext he) hsz hn
  obtain ⟨C, hC⟩ : ∃ C, C = addWatC l x := ⟨_, rfl⟩
  obtain ⟨VR, hVR⟩ : ∃ VR, VR = addWat l x := ⟨_, rfl⟩
  obtain ⟨V, hV⟩ : ∃ V, V = addWl l x := ⟨_, rfl⟩
  have hS2 : Hid (∀ j, j < V.length → (nth V j).Small) := by rw [hV]; exact addL_all (p := Watch.Small) hsz hx
  have hVl : V.length ≤ l.length + 1 := by rw [hV]; exact addWl_len l x
  have hv : Hid (V = l.take (lowB (watC x) l) ++ x :: l.drop (lowB (watC x) l)) := hV
  rw [← hC, ← hVR]
  have hCh := Lib.hid hC
  have hVh := Lib.hid hVR
  clear H hsz hC hVR
  cases h1 : watList l
  · have hc := Lib.hid (addW_1 (x := x) h1)
    rw [h1] at HV
    clear h1 hV
    go_enter Tryd.func42, Tryd.ntmps42
    go_wp2_with (go_at_call 31; refine (HV.out _ (by repeat (first | exact Ext.refl _ | refine Ext.lift ?_ _ | refine Ext.alloc ?_ _))).mono ?_; rintro e w' ⟨rfl, y, rfl⟩)
    go_ret2
    rw [hCh.out, hVh.out, hc.out.1, hc.out.2]
    exact ⟨_, rfl, Lst.nil _ _, (by repeat (first | exact Ext.refl _ | refine Ext.lift ?_ _ | refine Ext.alloc ?_ _))⟩
  rw [h1] at HV
  cases h2 : watchB x
  · have hc := Lib.hid (addW_2 h1 h2)
    clear h1 hV
    go_enter Tryd.func42, Tryd.ntmps42
    go_wp2_with (first | (go_at_call 31; refine (HV.out _ (by repeat (first | exact Ext.refl _ | refine Ext.lift ?_ _ | refine Ext.alloc ?_ _))).mono ?_; rintro e w' ⟨rfl, y, rfl⟩) | (go_at_call 49; refine (l26One_anyS _ _ x _ hx (by go_simp) (by go_simp) (by go_simp) (by go_simp)).mono ?_; rintro e w' ⟨rfl, z, rfl⟩; rw [h2]))
    go_ret2
    rw [hCh.out, hVh.out, hc.out.1, hc.out.2]
    exact ⟨_, rfl, Lst.nil _ _, (by repeat (first | exact Ext.refl _ | refine Ext.lift ?_ _ | refine Ext.alloc ?_ _))⟩
  by_cases h48 : l.length = 32
  · have hc := Lib.hid (addW_5 h1 h2 h48)
    have h48' : ((l.length : Int) == 32) = true := by rw [h48]; rfl
    clear h48 h1 hV
    go_enter Tryd.func42, Tryd.ntmps42
    go_wp2_with (first | (go_at_call 31; refine (HV.out _ (by repeat (first | exact Ext.refl _ | refine Ext.lift ?_ _ | refine Ext.alloc ?_ _))).mono ?_; rintro e w' ⟨rfl, y, rfl⟩) | (go_at_call 49; refine (l26One_anyS _ _ x _ hx (by go_simp) (by go_simp) (by go_simp) (by go_simp)).mono ?_; rintro e w' ⟨rfl, z, rfl⟩; rw [h2]))
    go_ret2
    rw [hCh.out, hVh.out, hc.out.1, hc.out.2]
    exact ⟨_, rfl, Lst.nil _ _, (by repeat (first | exact Ext.refl _ | refine Ext.lift ?_ _ | refine Ext.alloc ?_ _))⟩
  have hc6 : Hid (watList V = false → addWatC l x = 6 ∧ addWat l x = []) := fun h => addW_6 h1 h2 h48 (by rw [← hV]; exact h)
  have hc0 : Hid (watList V = true → addWatC l x = 0 ∧ addWat l x = V) := fun h => by rw [hV]; exact addW_0 h1 h2 h48 (by rw [← hV]; exact h)
  have h48' : ((l.length : Int) == 32) = false := by rw [beq_eq_false_iff_ne]; omega
  have hl32 : l.length ≤ 32 := vAll_len_le (show vAll watchB watOrd 32 l = true from h1)
  clear h1 h48 hV
  have HO := Lib.hid fun (W : World) (n : Nat) (hn : n = W.heap.size) => (show Lst 65 4 Watch.cell (W.alloc (.cells #[] 65)) n (.slice (some ⟨n, 0, none⟩) 0 0) [] by subst hn; exact Lst.new W W.heap.size (Nat.le_refl _))
  have HX1 := Lib.hid fun (W : World) (n : Nat) (hn : n = W.heap.size) => (show RowsAt 4 Watch.cell (W.alloc (.cells #[.string x.person, .int .i64 x.start, .int .i64 x.hours, .bool x.call] 65)) (some ⟨n, 0, none⟩) [x] by subst hn; exact rows_new W #[.string x.person, .int .i64 x.start, .int .i64 x.hours, .bool x.call] x (fun j hj => by rcases (show j = 0 ∨ j = 1 ∨ j = 2 ∨ j = 3 by omega) with rfl | rfl | rfl | rfl <;> rfl))
  go_enter Tryd.func42, Tryd.ntmps42
  go_wp2_with (first | (go_at_call 31; refine (HV.out _ (by repeat (first | exact Ext.refl _ | refine Ext.lift ?_ _ | refine Ext.alloc ?_ _))).mono ?_; rintro e w' ⟨rfl, y, rfl⟩) | (go_at_call 49; refine (l26One_anyS _ _ x _ hx (by go_simp) (by go_simp) (by go_simp) (by go_simp)).mono ?_; rintro e w' ⟨rfl, z, rfl⟩; rw [h2]))
  clear HV h2 h48'
  go_loopw [6] (fun i wr => ∃ k : Nat, k ≤ l.length ∧ i = .int .i64 k ∧ Hid (∀ t, t < k → watC x (nth l t) < 0) ∧ Ext (w.alloc (.cells #[.string x.person, .int .i64 x.start, .int .i64 x.hours, .bool x.call] 65)) wr) (fun i _ => l.length - (intOf i).toNat)
  case atStart => exact ⟨0, Nat.zero_le _, rfl, upto_zero, (by repeat (first | exact Ext.refl _ | refine Ext.lift ?_ _ | refine Ext.alloc ?_ _))⟩
  case round =>
    obtain ⟨k, hk, rfl, hall, he0⟩ := hrel
    obtain ⟨yk, rfl⟩ := he0
    rcases Nat.lt_or_ge k l.length with hlt | hge
    · obtain ⟨b, off, rfl⟩ := HA.out.base hlt
      obtain ⟨hb, c0, c1, c2, c3⟩ := Watch.at (HA.out.ext (show Ext w (lift (w.alloc (.cells #[.string x.person, .int .i64 x.start, .int .i64 x.hours, .bool x.call] 65)) yk) from (by repeat (first | exact Ext.refl _ | refine Ext.lift ?_ _ | refine Ext.alloc ?_ _)))) k hlt
      simp at hb
      have hd : decide (k < l.length) = true := decide_eq_true hlt
      rcases wat_lt_cases (nth l k) x with ⟨q0, q1⟩ | ⟨q0, q1, q2, q3⟩ | ⟨q0, q1, q2, q3⟩ | ⟨q0, q1, q2⟩
      iterate 2
        · have hn2 : Hid (watC x (nth l k) < 0) := watK_lt.2 q0
          go_wp2_with fail
          refine region_quiet (by kernel_rfl) (by kernel_rfl) ?_
          repeat (any_goals (first | go_big_quiet_step ((fail)) | quiet_step ((fail))))
          refine wpQuiet_nil ?_
          intro _ hw'
          obtain ⟨y, hw''⟩ := hw'
          subst hw''
          go_wp2
          go_roundw
          case rel => exact ⟨k + 1, by omega, by go_num, upto_succ hall.out hn2.out, (by repeat (first | exact Ext.refl _ | refine Ext.lift ?_ _ | refine Ext.alloc ?_ _))⟩
          case measure => simp [intOf]; omega
      all_goals
        have hlow : Hid (k = lowB (watC x) l) := posOf_eq hk (fun t ht => decide_eq_true (hall.out t ht)) (fun _ => decide_eq_false (fun h => by rw [watK_lt.1 h] at q0; cases q0))
        have HR1 := Lib.hid fun (W : World) (he : Ext w W) => (HA.out.ext he).take k
        have HR2 := Lib.hid fun (W : World) (he : Ext w W) (_ : Unit) => (HA.out.ext he).drop k
        have hci : ¬ (cap = k) := by omega
        go_wp2_with fail
        refine region_quiet (by kernel_rfl) (by kernel_rfl) ?_
        repeat (any_goals (first | go_big_quiet_step ((fail)) | quiet_step ((fail))))
        refine wpQuiet_nil ?_
        intro _ hw'
        obtain ⟨y, hw''⟩ := hw'
        subst hw''
        clear hd q0 q1
        have HC1 : Hid (([] : List Watch).length + k ≤ 9223372036854775807) := by show _ ≤ _; rw [List.length_nil]; omega
        have HC2 : Hid ((([] : List Watch).length + k) * 40 ≤ 140737488355328) := by show _ ≤ _; rw [List.length_nil]; omega
        have htl : (([] : List Watch) ++ l.take k).length = k := by rw [List.nil_append, List.length_take]; omega
        have htl3 : (([] : List Watch) ++ l.take k ++ [x]).length = k + 1 := by rw [List.length_append, htl]; rfl
        have HK : Hid ((l.take k).length = k) := by show _ = _; rw [List.length_take]; omega
        have HD1 : Hid ((([] : List Watch) ++ l.take k).length + 1 ≤ 9223372036854775807) := by show _ ≤ _; rw [htl]; omega
        have HD2 : Hid (((([] : List Watch) ++ l.take k).length + 1) * 40 ≤ 140737488355328) := by show _ ≤ _; rw [htl]; omega
        have HE1 : Hid ((([] : List Watch) ++ l.take k ++ [x]).length + (l.length - k) ≤ 9223372036854775807) := by show _ ≤ _; rw [htl3]; omega
        have HE2 : Hid (((([] : List Watch) ++ l.take k ++ [x]).length + (l.length - k)) * 40 ≤ 140737488355328) := by show _ ≤ _; rw [htl3]; omega
        have HKD : Hid ((l.drop k).length = l.length - k) := by show _ = _; rw [List.length_drop]
        have hfin : Hid ((([] : List Watch) ++ l.take k ++ [x]) ++ l.drop k = V) := by show _ = _; rw [hv.out, ← hlow.out]; simp
        clear htl htl3
        try dsimp only
        repeat (first | (at_builtin; refine Hid.out ?_) | go_values | go_skip | go_guarded | go_step | go_upon | go_back)
        refine Lib.hid ?_
        refine wpList_pushL elWatch oneWatch rfl _ _ rfl _ _ [] rfl (HO.out _ _ (by first | (simp; done) | (simp; omega))) _ k _ (l.take k) HK.out rfl (HR1.out _ (by repeat (first | with_reducible exact Ext.refl _ | with_reducible refine Ext.lift ?_ _ | with_reducible refine Ext.alloc ?_ _ | with_reducible refine Ext.setCell ?_ (by first | (simp; done) | (simp; omega) | omega) _ | with_reducible refine ext_setCells (by first | (simp; done) | (simp; omega) | omega) _ _ _ ?_))) HC1.out HC2.out (by first | (simp; done) | (simp; omega)) ?_
        intro v1 w1 L1 s1 g1
        obtain ⟨base, G1, K0, K1, E1⟩ : ∃ base, Lst 65 4 Watch.cell w1 base v1 ([] ++ l.take k) ∧ (w.alloc (.cells #[.string x.person, .int .i64 x.start, .int .i64 x.hours, .bool x.call] 65)).heap.size ≤ base ∧ base ≤ w1.heap.size ∧ Ext (w.alloc (.cells #[.string x.person, .int .i64 x.start, .int .i64 x.hours, .bool x.call] 65)) w1 :=
          ⟨_, L1, (by first | (simp; done) | (simp; omega)), Nat.le_trans (by first | (simp; done) | (simp; omega)) g1.size, s1 _ (by repeat (first | with_reducible exact Ext.refl _ | with_reducible refine Ext.lift ?_ _ | with_reducible refine Ext.alloc ?_ _ | with_reducible refine Ext.setCell ?_ (by first | (simp; done) | (simp; omega) | omega) _ | with_reducible refine ext_setCells (by first | (simp; done) | (simp; omega) | omega) _ _ _ ?_)) (by first | (simp; done) | (simp; omega))⟩
        obtain ⟨y1, rfl⟩ := E1
        have L1h := Lib.hid G1
        have K1h := Lib.hid K1
        have K0h := Lib.hid K0
        clear L1 s1 g1 G1 K1 K0 HO
        try dsimp only
        repeat (first | (at_builtin; refine Hid.out ?_) | go_values | go_skip | go_guarded | go_step | go_upon | go_back)
        refine Lib.hid ?_
        refine wpList_pushL elWatch oneWatch rfl _ _ rfl base _ ([] ++ l.take k) rfl (L1h.out.ext ((Ext.refl _).alloc _)) _ 1 1 [x] rfl rfl (HX1.out _ _ (by first | (simp; done) | (simp; omega))) HD1.out HD2.out (Nat.le_trans K1h.out (size_le _ _)) ?_
        intro v2 w2 L2 s2 g2
        obtain ⟨L2h, K2h, E2⟩ : Hid (Lst 65 4 Watch.cell w2 base v2 (([] ++ l.take k) ++ [x])) ∧ Hid (base ≤ w2.heap.size) ∧ Ext (w.alloc (.cells #[.string x.person, .int .i64 x.start, .int .i64 x.hours, .bool x.call] 65)) w2 :=
          ⟨L2, Nat.le_trans (Nat.le_trans K1h.out (size_le _ _)) g2.size, s2 _ (by repeat (first | with_reducible exact Ext.refl _ | with_reducible refine Ext.lift ?_ _ | with_reducible refine Ext.alloc ?_ _ | with_reducible refine Ext.setCell ?_ (by first | (simp; done) | (simp; omega) | omega) _ | with_reducible refine ext_setCells (by first | (simp; done) | (simp; omega) | omega) _ _ _ ?_)) K0h.out⟩
        obtain ⟨y2, rfl⟩ := E2
        clear L2 s2 g2 L1h K1h
        try dsimp only
        repeat (first | (at_builtin; refine Hid.out ?_) | go_values | go_skip | go_guarded | go_step | go_upon | go_back)
        refine Lib.hid ?_
        refine wpList_pushL elWatch oneWatch rfl _ _ rfl base _ (([] ++ l.take k) ++ [x]) rfl L2h.out _ _ _ (l.drop k) (by first | exact HKD.out | (rw [HKD.out, Nat.sub_self])) rfl (HR2.out _ (by repeat (first | with_reducible exact Ext.refl _ | with_reducible refine Ext.lift ?_ _ | with_reducible refine Ext.alloc ?_ _ | with_reducible refine Ext.setCell ?_ (by first | (simp; done) | (simp; omega) | omega) _ | with_reducible refine ext_setCells (by first | (simp; done) | (simp; omega) | omega) _ _ _ ?_)) ()) (by have := HE1.out; omega) (by have := HE2.out; omega) K2h.out ?_
        intro v3 w3 L3 s3 _
        have L3h := Lib.hid L3
        have hE3 := Lib.hid (s3 w (by repeat (first | with_reducible exact Ext.refl _ | with_reducible refine Ext.lift ?_ _ | with_reducible refine Ext.alloc ?_ _ | with_reducible refine Ext.setCell ?_ (by first | (simp; done) | (simp; omega) | omega) _ | with_reducible refine ext_setCells (by first | (simp; done) | (simp; omega) | omega) _ _ _ ?_)) (Nat.le_trans (size_le _ _) K0h.out))
        clear L3 s3
        have L4 : Hid (Lst 65 4 Watch.cell w3 base v3 V) := by show Lst _ _ _ _ _ _ _; rw [← hfin.out]; exact L3h.out
        clear L3h
        have L5 := Lib.hid (L4.out.low (Nat.le_trans (size_le _ _) K0h.out))
        obtain ⟨aa, cc, rfl, hcc, -, RR, -⟩ := L4.out.shape
        have HV2 := Lib.hid (l26Ok_any aa cc V w3 RR hS2.out (by omega))
        have RRh := Lib.hid RR
        clear RR L4
        cases h6 : watList V
        · rw [h6] at HV2
          have hc := Lib.hid (hc6.out h6)
          go_wp2_with fail
          refine HV2.out.mono ?_
          rintro e w' ⟨rfl, y6, rfl⟩
          go_wp2_with fail
          go_ret2
          rw [hCh.out, hVh.out, hc.out.1, hc.out.2]
          exact ⟨_, rfl, Lst.nil _ _, hE3.out.lift _⟩
        · rw [h6] at HV2
          have hc := Lib.hid (hc0.out h6)
          go_wp2_with fail
          refine HV2.out.mono ?_
          rintro e w' ⟨rfl, y6, rfl⟩
          go_wp2_with fail
          go_ret2
          rw [hCh.out, hVh.out, hc.out.1, hc.out.2]
          exact ⟨_, rfl, L5.out.ext ((Ext.refl _).lift _), hE3.out.lift _⟩
    · obtain rfl : k = l.length := by omega
      have hlow : Hid (l.length = lowB (watC x) l) := posOf_eq (Nat.le_refl _) (fun t ht => decide_eq_true (hall.out t ht)) (fun h => absurd h (Nat.lt_irrefl _))
      cases a with
      | none =>
        have h0 : l = [] := by
          cases l with
          | nil => rfl
          | cons z r => obtain ⟨b, off, h⟩ := HA.out.base (show 0 < (z :: r).length by simp); cases h
        subst h0
        go_wp2_with fail
        refine region_quiet (by kernel_rfl) (by kernel_rfl) ?_
        repeat (any_goals (first | go_big_quiet_step ((fail)) | quiet_step ((fail))))
        refine wpQuiet_nil ?_
        intro _ hw'
        obtain ⟨y, hw''⟩ := hw'
        subst hw''
        have HD1 : Hid ((([] : List Watch)).length + 1 ≤ 9223372036854775807) := by show _ ≤ _; rw [List.length_nil]; omega
        have HD2 : Hid (((([] : List Watch)).length + 1) * 40 ≤ 140737488355328) := by show _ ≤ _; rw [List.length_nil]; omega
        have hfin : Hid (([] : List Watch) ++ [x] = V) := by show _ = _; rw [hv.out]; simp
        try dsimp only
        repeat (first | (at_builtin; refine Hid.out ?_) | go_values | go_skip | go_guarded | go_step | go_upon | go_back)
        refine Lib.hid ?_
        refine wpList_push_none elWatch rfl _ _ rfl _ _ [] rfl (HO.out _ _ (by first | (simp; done) | (simp; omega))) _ rfl ?_
        try dsimp only
        repeat (first | (at_builtin; refine Hid.out ?_) | go_values | go_skip | go_guarded | go_step | go_upon | go_back)
        refine Lib.hid ?_
        refine wpList_pushL elWatch oneWatch rfl _ _ rfl _ _ [] rfl ((HO.out _ _ (by first | (simp; done) | (simp; omega))).ext ((Ext.refl _).alloc _)) _ 1 1 [x] rfl rfl (HX1.out _ _ (by first | (simp; done) | (simp; omega))) HD1.out HD2.out (by first | exact Nat.le_trans (size_le _ _) (size_le _ _) | (simp; done) | (simp; omega)) ?_
        intro v3 w3 L3 s3 g3
        have hE3 := Lib.hid (s3 w (by repeat (first | with_reducible exact Ext.refl _ | with_reducible refine Ext.lift ?_ _ | with_reducible refine Ext.alloc ?_ _ | with_reducible refine Ext.setCell ?_ (by first | (simp; done) | (simp; omega) | omega) _ | with_reducible refine ext_setCells (by first | (simp; done) | (simp; omega) | omega) _ _ _ ?_)) (by first | omega | (simp; done) | (simp; omega)))
        obtain ⟨base, hbase, L3g⟩ : ∃ base, w.heap.size ≤ base ∧ Lst 65 4 Watch.cell w3 base v3 ([] ++ [x]) := ⟨_, (by first | exact Nat.le_refl _ | exact size_le _ _ | exact Nat.le_trans (size_le _ _) (size_le _ _) | exact Nat.le_trans (size_le _ _) (Nat.le_of_eq (by simp)) | exact Ext.size (by repeat (first | exact Ext.refl _ | refine Ext.lift ?_ _ | refine Ext.alloc ?_ _)) | omega | (simp; omega)), L3⟩
        have L3h := Lib.hid L3g
        clear L3 L3g s3 g3
        try dsimp only
        repeat (first | (at_builtin; refine Hid.out ?_) | go_values | go_skip | go_guarded | go_step | go_upon | go_back)
        refine Lib.hid ?_
        refine wpList_push_none elWatch rfl _ _ rfl _ _ _ rfl L3h.out _ rfl ?_
        have L4 : Hid (Lst 65 4 Watch.cell w3 base v3 V) := by show Lst _ _ _ _ _ _ _; rw [← hfin.out]; exact L3h.out
        clear L3h
        have L5 := Lib.hid (L4.out.low (hbase))
        obtain ⟨aa, cc, rfl, hcc, -, RR, -⟩ := L4.out.shape
        have HV2 := Lib.hid (l26Ok_any aa cc V w3 RR hS2.out (by omega))
        have RRh := Lib.hid RR
        clear RR L4
        cases h6 : watList V
        · rw [h6] at HV2
          have hc := Lib.hid (hc6.out h6)
          go_wp2_with fail
          refine HV2.out.mono ?_
          rintro e w' ⟨rfl, y6, rfl⟩
          go_wp2_with fail
          go_ret2
          rw [hCh.out, hVh.out, hc.out.1, hc.out.2]
          exact ⟨_, rfl, Lst.nil _ _, hE3.out.lift _⟩
        · rw [h6] at HV2
          have hc := Lib.hid (hc0.out h6)
          go_wp2_with fail
          refine HV2.out.mono ?_
          rintro e w' ⟨rfl, y6, rfl⟩
          go_wp2_with fail
          go_ret2
          rw [hCh.out, hVh.out, hc.out.1, hc.out.2]
          exact ⟨_, rfl, L5.out.ext ((Ext.refl _).lift _), hE3.out.lift _⟩
      | some ad =>
        obtain ⟨b, off, sp⟩ := ad
        have HR1 := Lib.hid fun (W : World) (he : Ext w W) => (HA.out.ext he).take l.length
        have HR2 := Lib.hid fun (W : World) (_ : Ext w W) (a' : Option Addr) => (show RowsAt 4 Watch.cell W a' (l.drop l.length) by rw [List.drop_length]; exact RowsAt.nil)
        by_cases hci : cap = l.length
        all_goals
          go_wp2_with fail
          refine region_quiet (by kernel_rfl) (by kernel_rfl) ?_
          repeat (any_goals (first | go_big_quiet_step ((fail)) | quiet_step ((fail))))
          refine wpQuiet_nil ?_
          intro _ hw'
          obtain ⟨y, hw''⟩ := hw'
          subst hw''
          have HC1 : Hid (([] : List Watch).length + l.length ≤ 9223372036854775807) := by show _ ≤ _; rw [List.length_nil]; omega
          have HC2 : Hid ((([] : List Watch).length + l.length) * 40 ≤ 140737488355328) := by show _ ≤ _; rw [List.length_nil]; omega
          have htl : (([] : List Watch) ++ l.take l.length).length = l.length := by rw [List.nil_append, List.length_take]; omega
          have htl3 : (([] : List Watch) ++ l.take l.length ++ [x]).length = l.length + 1 := by rw [List.length_append, htl]; rfl
          have HK : Hid ((l.take l.length).length = l.length) := by show _ = _; rw [List.length_take]; omega
          have HD1 : Hid ((([] : List Watch) ++ l.take l.length).length + 1 ≤ 9223372036854775807) := by show _ ≤ _; rw [htl]; omega
          have HD2 : Hid (((([] : List Watch) ++ l.take l.length).length + 1) * 40 ≤ 140737488355328) := by show _ ≤ _; rw [htl]; omega
          have HE1 : Hid ((([] : List Watch) ++ l.take l.length ++ [x]).length + (l.length - l.length) ≤ 9223372036854775807) := by show _ ≤ _; rw [htl3]; omega
          have HE2 : Hid (((([] : List Watch) ++ l.take l.length ++ [x]).length + (l.length - l.length)) * 40 ≤ 140737488355328) := by show _ ≤ _; rw [htl3]; omega
          have HKD : Hid ((l.drop l.length).length = l.length - l.length) := by show _ = _; rw [List.length_drop]
          have hfin : Hid ((([] : List Watch) ++ l.take l.length ++ [x]) ++ l.drop l.length = V) := by show _ = _; rw [hv.out, ← hlow.out]; simp
          clear htl htl3
          try dsimp only
          repeat (first | (at_builtin; refine Hid.out ?_) | go_values | go_skip | go_guarded | go_step | go_upon | go_back)
          refine Lib.hid ?_
          refine wpList_pushL elWatch oneWatch rfl _ _ rfl _ _ [] rfl (HO.out _ _ (by first | (simp; done) | (simp; omega))) _ l.length _ (l.take l.length) HK.out rfl (HR1.out _ (by repeat (first | with_reducible exact Ext.refl _ | with_reducible refine Ext.lift ?_ _ | with_reducible refine Ext.alloc ?_ _ | with_reducible refine Ext.setCell ?_ (by first | (simp; done) | (simp; omega) | omega) _ | with_reducible refine ext_setCells (by first | (simp; done) | (simp; omega) | omega) _ _ _ ?_))) HC1.out HC2.out (by first | (simp; done) | (simp; omega)) ?_
          intro v1 w1 L1 s1 g1
          obtain ⟨base, G1, K0, K1, E1⟩ : ∃ base, Lst 65 4 Watch.cell w1 base v1 ([] ++ l.take l.length) ∧ (w.alloc (.cells #[.string x.person, .int .i64 x.start, .int .i64 x.hours, .bool x.call] 65)).heap.size ≤ base ∧ base ≤ w1.heap.size ∧ Ext (w.alloc (.cells #[.string x.person, .int .i64 x.start, .int .i64 x.hours, .bool x.call] 65)) w1 :=
            ⟨_, L1, (by first | (simp; done) | (simp; omega)), Nat.le_trans (by first | (simp; done) | (simp; omega)) g1.size, s1 _ (by repeat (first | with_reducible exact Ext.refl _ | with_reducible refine Ext.lift ?_ _ | with_reducible refine Ext.alloc ?_ _ | with_reducible refine Ext.setCell ?_ (by first | (simp; done) | (simp; omega) | omega) _ | with_reducible refine ext_setCells (by first | (simp; done) | (simp; omega) | omega) _ _ _ ?_)) (by first | (simp; done) | (simp; omega))⟩
          obtain ⟨y1, rfl⟩ := E1
          have L1h := Lib.hid G1
          have K1h := Lib.hid K1
          have K0h := Lib.hid K0
          clear L1 s1 g1 G1 K1 K0 HO
          try dsimp only
          repeat (first | (at_builtin; refine Hid.out ?_) | go_values | go_skip | go_guarded | go_step | go_upon | go_back)
          refine Lib.hid ?_
          refine wpList_pushL elWatch oneWatch rfl _ _ rfl base _ ([] ++ l.take l.length) rfl (L1h.out.ext ((Ext.refl _).alloc _)) _ 1 1 [x] rfl rfl (HX1.out _ _ (by first | (simp; done) | (simp; omega))) HD1.out HD2.out (Nat.le_trans K1h.out (size_le _ _)) ?_
          intro v2 w2 L2 s2 g2
          obtain ⟨L2h, K2h, E2⟩ : Hid (Lst 65 4 Watch.cell w2 base v2 (([] ++ l.take l.length) ++ [x])) ∧ Hid (base ≤ w2.heap.size) ∧ Ext (w.alloc (.cells #[.string x.person, .int .i64 x.start, .int .i64 x.hours, .bool x.call] 65)) w2 :=
            ⟨L2, Nat.le_trans (Nat.le_trans K1h.out (size_le _ _)) g2.size, s2 _ (by repeat (first | with_reducible exact Ext.refl _ | with_reducible refine Ext.lift ?_ _ | with_reducible refine Ext.alloc ?_ _ | with_reducible refine Ext.setCell ?_ (by first | (simp; done) | (simp; omega) | omega) _ | with_reducible refine ext_setCells (by first | (simp; done) | (simp; omega) | omega) _ _ _ ?_)) K0h.out⟩
          obtain ⟨y2, rfl⟩ := E2
          clear L2 s2 g2 L1h K1h
          try dsimp only
          repeat (first | (at_builtin; refine Hid.out ?_) | go_values | go_skip | go_guarded | go_step | go_upon | go_back)
          refine Lib.hid ?_
          refine wpList_pushL elWatch oneWatch rfl _ _ rfl base _ (([] ++ l.take l.length) ++ [x]) rfl L2h.out _ _ _ (l.drop l.length) (by first | exact HKD.out | (rw [HKD.out, Nat.sub_self])) rfl (HR2.out _ (by repeat (first | with_reducible exact Ext.refl _ | with_reducible refine Ext.lift ?_ _ | with_reducible refine Ext.alloc ?_ _ | with_reducible refine Ext.setCell ?_ (by first | (simp; done) | (simp; omega) | omega) _ | with_reducible refine ext_setCells (by first | (simp; done) | (simp; omega) | omega) _ _ _ ?_)) _) (by have := HE1.out; omega) (by have := HE2.out; omega) K2h.out ?_
          intro v3 w3 L3 s3 _
          have L3h := Lib.hid L3
          have hE3 := Lib.hid (s3 w (by repeat (first | with_reducible exact Ext.refl _ | with_reducible refine Ext.lift ?_ _ | with_reducible refine Ext.alloc ?_ _ | with_reducible refine Ext.setCell ?_ (by first | (simp; done) | (simp; omega) | omega) _ | with_reducible refine ext_setCells (by first | (simp; done) | (simp; omega) | omega) _ _ _ ?_)) (Nat.le_trans (size_le _ _) K0h.out))
          clear L3 s3
          have L4 : Hid (Lst 65 4 Watch.cell w3 base v3 V) := by show Lst _ _ _ _ _ _ _; rw [← hfin.out]; exact L3h.out
          clear L3h
          have L5 := Lib.hid (L4.out.low (Nat.le_trans (size_le _ _) K0h.out))
          obtain ⟨aa, cc, rfl, hcc, -, RR, -⟩ := L4.out.shape
          have HV2 := Lib.hid (l26Ok_any aa cc V w3 RR hS2.out (by omega))
          have RRh := Lib.hid RR
          clear RR L4
          cases h6 : watList V
          · rw [h6] at HV2
            have hc := Lib.hid (hc6.out h6)
            go_wp2_with fail
            refine HV2.out.mono ?_
            rintro e w' ⟨rfl, y6, rfl⟩
            go_wp2_with fail
            go_ret2
            rw [hCh.out, hVh.out, hc.out.1, hc.out.2]
            exact ⟨_, rfl, Lst.nil _ _, hE3.out.lift _⟩
          · rw [h6] at HV2
            have hc := Lib.hid (hc0.out h6)
            go_wp2_with fail
            refine HV2.out.mono ?_
            rintro e w' ⟨rfl, y6, rfl⟩
            go_wp2_with fail
            go_ret2
            rw [hCh.out, hVh.out, hc.out.1, hc.out.2]
            exact ⟨_, rfl, L5.out.ext ((Ext.refl _).lift _), hE3.out.lift _⟩
end Go.Proofs.YtmkmmenkjbmppaaDoor
namespace Go.Proofs.YtmkmmenkjbmppaaDoor
open Go.RowKit
theorem four {j : Nat} (h : j < 4) : j = 0 ∨ j = 1 ∨ j = 2 ∨ j = 3 := by omega
/-- A watch near to a valid one. -/
structure WatN (x : Watch) : Prop where
  ps : x.person.size ≤ 100
  st : -20000 ≤ x.start ∧ x.start ≤ 20000
  ho : -20000 ≤ x.hours ∧ x.hours ≤ 20000
theorem WatN.small {x : Watch} (h : WatN x) : x.Small := by have := h.ps; unfold Watch.Small; omega
/-- A watch in a block of its own. -/
structure Wabox (w : World) (b : Nat) (x : Watch) : Prop where
  blk : Blk w b 65 4
  cell : ∀ j, j < 4 → w.cell? ⟨b, j, none⟩ = some (x.cell j)
theorem Wabox.new (w : World) (x : Watch) : Wabox (w.alloc (.cells #[.string x.person, .int .i64 x.start, .int .i64 x.hours, .bool x.call] 65)) w.heap.size x :=
  ⟨Blk.new w _ _, fun j hj => by rw [cell_new]; rcases four hj with rfl | rfl | rfl | rfl <;> rfl⟩
theorem Wabox.ext {w w' : World} {b : Nat} {x : Watch} (h : Wabox w b x) (he : Ext w w') : Wabox w' b x := ⟨h.blk.ext he, fun j hj => he.cell (h.cell j hj)⟩
theorem Wabox.moved {sb : Nat} {w w' : World} {b : Nat} {x : Watch} (h : Wabox w b x) (hm : Moved sb w w') (hne : b ≠ sb) : Wabox w' b x :=
  ⟨hm.blk hne h.blk, fun j hj => hm.cell (by show b ≠ sb; exact hne) (h.cell j hj)⟩
theorem Wabox.at1 {w : World} {b : Nat} {x : Watch} (h : Wabox w b x) (y : Watch) (j0 : Nat) (hj0 : j0 < 4) (v : Value) (hv : y.cell j0 = v) (hne : ∀ j, j < 4 → j ≠ j0 → y.cell j = x.cell j) : Wabox (w.setCell ⟨b, j0, none⟩ v) b y :=
  ⟨h.blk.set _ _ _, fun j hj => by
    by_cases h3 : j = j0
    · subst h3; rw [h.blk.same hj0, hv]
    · rw [cell_other _ (by omega), h.cell j hj, hne j hj h3]⟩
theorem Wabox.all {w : World} {b : Nat} {x : Watch} (h : Wabox w b x) : b < w.heap.size ∧ w.cell? ⟨b, 0, none⟩ = some (.string x.person) ∧ w.cell? ⟨b, 1, none⟩ = some (.int .i64 x.start) ∧ w.cell? ⟨b, 2, none⟩ = some (.int .i64 x.hours) ∧ w.cell? ⟨b, 3, none⟩ = some (.bool x.call) :=
  ⟨h.blk.lt, h.cell 0 (by decide), h.cell 1 (by decide), h.cell 2 (by decide), h.cell 3 (by decide)⟩
set_option maxRecDepth 100000 in
set_option maxHeartbeats 4000000 in
theorem l26DrawPerson_any (w : World) (sb : Nat) (a : Option Addr) (cap : Nat) (code : List Int) (n : Nat) (H : Src w sb a cap code n) (hn : n ≤ 800000000) :
    Calls Tryd.prog 56 #[.pointer (some ⟨sb, 0, none⟩)] w fun e w' => ∃ (s : ByteArray) (k : Nat), e = .returned (.string s) ∧ s.size ≤ 100 ∧ k ≤ 4 ∧ Src w' sb a cap code (n + k) ∧ Moved sb w w' := by
  have HD := Lib.hid (Dr.start H)
  clear H
  go_enter Tryd.func56, Tryd.ntmps56
  go_wp2_with fail
  have HT := rows_lit (cell := cellS) (T := 9) w #[.string ⟨#[105, 100, 97]⟩, .string ⟨#[106, 97, 110]⟩, .string ⟨#[107, 105, 109]⟩] [⟨#[105, 100, 97]⟩, ⟨#[106, 97, 110]⟩, ⟨#[107, 105, 109]⟩] (fun k hk => by rcases (show k = 0 ∨ k = 1 ∨ k = 2 by simp at hk; omega) with rfl | rfl | rfl <;> rfl) rfl
  have hx := (Ext.refl w).alloc (.cells #[.string ⟨#[105, 100, 97]⟩, .string ⟨#[106, 97, 110]⟩, .string ⟨#[107, 105, 109]⟩] 9)
  refine (text_any _ sb a cap code (n) (HD.out.src.ext hx) (by omega) (some ⟨w.heap.size, 0, none⟩) 3 _ HT (by simp) (by simp) (fun p e => by cases e; have := HD.out.src.lt; show w.heap.size ≠ sb; omega)).mono ?_
  rintro e W9 ⟨s1, q2, rfl, hs1, hqq2, S2, M2⟩
  have hss1 := (show ∀ x ∈ ([⟨#[105, 100, 97]⟩, ⟨#[106, 97, 110]⟩, ⟨#[107, 105, 109]⟩] : List ByteArray), x.size ≤ 100 by decide) s1 hs1
  replace HD := Lib.hid ((HD.out.ext hx).step S2 M2)
  clear S2 M2 HT hx hs1
  go_wp2_with fail
  go_ret
  exact ⟨s1, q2, rfl, hss1, by omega, HD.out.src, HD.out.mv⟩
set_option maxRecDepth 100000 in
set_option maxHeartbeats 8000000 in
theorem l26DrawOne_any (w : World) (sb : Nat) (a : Option Addr) (cap : Nat) (code : List Int) (n : Nat) (H : Src w sb a cap code n) (hn : n ≤ 700000000) :
    Calls Tryd.prog 43 #[.pointer (some ⟨sb, 0, none⟩)] w fun e w' => ∃ (x : Watch) (k : Nat), e = .returned (.agg #[.string x.person, .int .i64 x.start, .int .i64 x.hours, .bool x.call]) ∧ WatN x ∧ k ≤ 14 ∧ Src w' sb a cap code (n + k) ∧ Moved sb w w' := by
  have HD := Lib.hid (Dr.start H)
  have hsl := H.lt
  clear H
  have HB := Lib.hid (Blk.new w #[.string ⟨#[]⟩, .int .i64 0, .int .i64 0, .bool false] 65)
  go_enter Tryd.func43, Tryd.ntmps43
  go_wp2_with fail
  replace HD := Lib.hid (HD.out.ext ((Ext.refl w).alloc (.cells #[.string ⟨#[]⟩, .int .i64 0, .int .i64 0, .bool false] 65)))
  refine (l26DrawPerson_any _ sb a cap code n HD.out.src (by omega)).mono ?_
  rintro e W1 ⟨s1, q1, rfl, hps, hq1, S1, M1⟩
  replace HB := Lib.hid (M1.blk (g := w.heap.size) (by omega) HB.out)
  replace HD := Lib.hid (HD.out.step S1 M1)
  clear S1 M1
  obtain ⟨rb, hrb, hrw⟩ : ∃ rb, rb = w.heap.size ∧ w.heap.size ≤ rb := ⟨_, rfl, Nat.le_refl _⟩
  rw [← hrb] at HB ⊢
  clear hrb
  have hrs : rb ≠ sb := by omega
  go_wp2_with fail
  refine (pick_any W1 sb a cap code (n + q1) HD.out.src (by omega) 60 (by omega)).mono ?_
  rintro e W2 ⟨r2, q2, rfl, p2, p3, hq2, S2, M2⟩
  replace p3 := p3 (by omega)
  replace HB := Lib.hid (M2.blk (g := rb) hrs HB.out)
  replace HD := Lib.hid (HD.out.step S2 M2)
  clear S2 M2
  have hxr : W2.heap.size ≠ rb := by have := HB.out.lt; omega
  have hz := HD.out.size
  have HI := Lib.hid (Wabox.new W2 ⟨s1, r2, 0, false⟩)
  have hx := (Ext.refl W2).alloc (.cells #[.string s1, .int .i64 r2, .int .i64 0, .bool false] 65)
  replace HB := Lib.hid (HB.out.ext hx)
  replace HD := Lib.hid (HD.out.ext hx)
  obtain ⟨xb, hxb⟩ : ∃ xb, xb = W2.heap.size := ⟨_, rfl⟩
  have hxw : w.heap.size ≤ xb := by omega
  have hxs : xb ≠ sb := by omega
  rw [← hxb] at HI hxr
  have hrx : rb ≠ xb := Ne.symm hxr
  have ew : W2.heap.size + 1 = (W2.alloc (.cells #[.string s1, .int .i64 r2, .int .i64 0, .bool false] 65)).heap.size := by rw [size_new]
  obtain ⟨W3, hW3⟩ : ∃ W3, W3 = W2.alloc (.cells #[.string s1, .int .i64 r2, .int .i64 0, .bool false] 65) := ⟨_, rfl⟩
  rw [← hW3] at HI HB HD ew
  replace hW3 := Lib.hid hW3
  replace hxb := Lib.hid hxb
  replace ew := Lib.hid ew
  clear hx
  go_wp2_with fail
  first | rw [ew.out] | skip
  rw [← hW3.out]
  first | rw [← hxb.out] | skip
  clear hW3 ew hz
  have HT := rows_lit (cell := cellJ) (T := 2) W3 #[.int .i64 4, .int .i64 8, .int .i64 12, .int .i64 8, .int .i64 24] [4, 8, 12, 8, 24] (fun k hk => by rcases (show k = 0 ∨ k = 1 ∨ k = 2 ∨ k = 3 ∨ k = 4 by simp at hk; omega) with rfl | rfl | rfl | rfl | rfl <;> rfl) rfl
  have hx := (Ext.refl W3).alloc (.cells #[.int .i64 4, .int .i64 8, .int .i64 12, .int .i64 8, .int .i64 24] 2)
  refine (among_any _ sb a cap code (n + q1 + q2) (HD.out.src.ext hx) (by omega) (some ⟨W3.heap.size, 0, none⟩) 5 _ HT (by simp) (by simp) (fun p e => by cases e; have := HD.out.src.lt; show W3.heap.size ≠ sb; omega)).mono ?_
  rintro e W4 ⟨s3, q3, rfl, hs1, hqq3, S2, M2⟩
  have hss3 : -20000 ≤ s3 ∧ s3 ≤ 20000 := by simp only [List.mem_cons, List.not_mem_nil, or_false] at hs1; omega
  first | rw [← hxb.out] | skip
  replace HB := Lib.hid (M2.blk (g := rb) hrs (HB.out.ext hx))
  replace HI := Lib.hid ((HI.out.ext hx).moved M2 hxs)
  replace HD := Lib.hid ((HD.out.ext hx).step S2 M2)
  clear S2 M2 HT hx hs1
  obtain ⟨gl, g0, g1, g2, g3⟩ := HI.out.all
  have gk := HI.out.blk.frozen 2
  replace HI := Lib.hid (HI.out.at1 ⟨s1, r2, s3, false⟩ 2 (by decide) (.int .i64 s3) rfl (fun j hj hne => by rcases four hj with rfl | rfl | rfl | rfl <;> first | rfl | exact absurd rfl hne))
  replace HB := Lib.hid (HB.out.set xb 2 (.int .i64 s3))
  replace HD := Lib.hid (HD.out.set (o := 2) hxw (.int .i64 s3))
  obtain ⟨W5, hW5⟩ : ∃ W5, W5 = W4.setCell ⟨xb, 2, none⟩ (.int .i64 s3) := ⟨_, rfl⟩
  rw [← hW5] at HI HB HD
  go_wp2_with fail
  first | rw [← hxb.out] | skip
  rw [← hW5]
  clear hW5 hxb gl g0 g1 g2 g3 gk
  refine (one_any W5 sb a cap code (n + q1 + q2 + q3) HD.out.src (by omega) 3 (by omega)).mono ?_
  rintro e W6 ⟨b4, q4, rfl, hq4, S2, M2⟩
  replace HB := Lib.hid (M2.blk (g := rb) hrs HB.out)
  replace HI := Lib.hid (HI.out.moved M2 hxs)
  replace HD := Lib.hid (HD.out.step S2 M2)
  clear S2 M2
  have HB0 := HB.out
  obtain ⟨gl, g0, g1, g2, g3⟩ := HI.out.all
  have gk := HI.out.blk.frozen 3
  replace HI := Lib.hid (HI.out.at1 ⟨s1, r2, s3, b4⟩ 3 (by decide) (.bool b4) rfl (fun j hj hne => by rcases four hj with rfl | rfl | rfl | rfl <;> first | rfl | exact absurd rfl hne))
  replace HB := Lib.hid (HB.out.set xb 3 (.bool b4))
  replace HD := Lib.hid (HD.out.set (o := 3) hxw (.bool b4))
  obtain ⟨Wb, hWb⟩ : ∃ Wb, Wb = W6.setCell ⟨xb, 3, none⟩ (.bool b4) := ⟨_, rfl⟩
  rw [← hWb] at HI HB HD
  have HX : Hid (WatN ⟨s1, r2, s3, b4⟩) := ⟨hps, by dsimp only; omega, by dsimp only; omega⟩
  have rl0 := HB0.lt
  obtain ⟨u0, o0⟩ := HB0.cell (o := 0) (by decide)
  obtain ⟨u1, o1⟩ := HB0.cell (o := 1) (by decide)
  obtain ⟨u2, o2⟩ := HB0.cell (o := 2) (by decide)
  obtain ⟨u3, o3⟩ := HB0.cell (o := 3) (by decide)
  have n0 := HB0.frozen 0
  have n1 := HB0.frozen 1
  have n2 := HB0.frozen 2
  have n3 := HB0.frozen 3
  clear HB0
  have HQ := Lib.hid (Dr.set (o := 3) (Dr.set (o := 2) (Dr.set (o := 1) (Dr.set (o := 0) HD.out hrw (.string ((⟨s1, r2, s3, b4⟩ : Watch)).person)) hrw (.int .i64 ((⟨s1, r2, s3, b4⟩ : Watch)).start)) hrw (.int .i64 ((⟨s1, r2, s3, b4⟩ : Watch)).hours)) hrw (.bool ((⟨s1, r2, s3, b4⟩ : Watch)).call))
  first | rw [hWb] at HQ | skip
  first | clear hWb | skip
  clear HD HI HB
  go_wp2_with fail
  refine bodyPost_ret (v := .agg #[.string ((⟨s1, r2, s3, b4⟩ : Watch)).person, .int .i64 ((⟨s1, r2, s3, b4⟩ : Watch)).start, .int .i64 ((⟨s1, r2, s3, b4⟩ : Watch)).hours, .bool ((⟨s1, r2, s3, b4⟩ : Watch)).call]) (by simp [results, Tryd.results43, go_sem, o0, o1, o2, o3]) rfl ?_
  refine ⟨(⟨s1, r2, s3, b4⟩ : Watch), q1 + q2 + q3 + q4, rfl, HX.out, by omega, ?_, HQ.out.mv⟩
  rw [show n + (q1 + q2 + q3 + q4) = n + q1 + q2 + q3 + q4 by omega]
  exact HQ.out.src
set_option maxRecDepth 100000 in
set_option maxHeartbeats 8000000 in
theorem l26Bend_any (w : World) (sb : Nat) (a : Option Addr) (cap : Nat) (code : List Int) (n : Nat) (H : Src w sb a cap code n) (hn : n ≤ 800000000) (x : Watch) (hxi : WatN x) :
    Calls Tryd.prog 44 #[.pointer (some ⟨sb, 0, none⟩), .agg #[.string x.person, .int .i64 x.start, .int .i64 x.hours, .bool x.call]] w fun e w' => ∃ (x : Watch) (k : Nat), e = .returned (.agg #[.string x.person, .int .i64 x.start, .int .i64 x.hours, .bool x.call]) ∧ WatN x ∧ k ≤ 12 ∧ Src w' sb a cap code (n + k) ∧ Moved sb w w' := by
  have HD := Lib.hid (Dr.start H)
  have hsl := H.lt
  have hxn := Lib.hid hxi
  clear H hxi
  have hx1 := (Ext.refl w).alloc (.cells #[.string x.person, .int .i64 x.start, .int .i64 x.hours, .bool x.call] 65)
  have HB := Blk.new (w.alloc (.cells #[.string x.person, .int .i64 x.start, .int .i64 x.hours, .bool x.call] 65)) #[.string ⟨#[]⟩, .int .i64 0, .int .i64 0, .bool false] 65
  have hx2 := (Ext.refl (w.alloc (.cells #[.string x.person, .int .i64 x.start, .int .i64 x.hours, .bool x.call] 65))).alloc (.cells #[.string ⟨#[]⟩, .int .i64 0, .int .i64 0, .bool false] 65)
  have HI := Lib.hid ((Wabox.new w x).ext hx2)
  rw [size_new] at HB
  replace HB := Lib.hid HB
  replace HD := Lib.hid ((HD.out.ext hx1).ext hx2)
  clear hx1 hx2
  go_enter Tryd.func44, Tryd.ntmps44
  go_wp2_with fail
  refine (pick_any _ sb a cap code n HD.out.src (by omega) 18 (by omega)).mono ?_
  rintro e W1 ⟨r1, q1, rfl, p0, p1, hq1, S1, M1⟩
  replace p1 := p1 (by omega)
  replace HB := Lib.hid (M1.blk (g := w.heap.size + 1) (by omega) HB.out)
  replace HI := Lib.hid (HI.out.moved M1 (by omega))
  replace HD := Lib.hid (HD.out.step S1 M1)
  clear S1 M1
  obtain ⟨rb, hrb⟩ : ∃ rb, rb = w.heap.size + 1 := ⟨_, rfl⟩
  rw [← hrb] at HB ⊢
  obtain ⟨xb, hxb⟩ : ∃ xb, xb = w.heap.size := ⟨_, rfl⟩
  rw [← hxb] at HI ⊢
  have hrw : w.heap.size ≤ rb := by omega
  have hxw : w.heap.size ≤ xb := by omega
  have hrs : rb ≠ sb := by omega
  have hxs : xb ≠ sb := by omega
  have hxr : xb ≠ rb := by omega
  have hrx : rb ≠ xb := Ne.symm hxr
  clear hrb hxb
  rcases (show r1 = 0 ∨ r1 = 1 ∨ r1 = 2 ∨ 3 ≤ r1 by omega) with hr | hr | hr | hr
  · subst hr
    go_wp2_with fail
    have HT := rows_lit (cell := cellJ) (T := 2) W1 #[.int .i64 (-1), .int .i64 10000, .int .i64 10001] [(-1), 10000, 10001] (fun k hk => by rcases (show k = 0 ∨ k = 1 ∨ k = 2 by simp at hk; omega) with rfl | rfl | rfl <;> rfl) rfl
    have hx := (Ext.refl W1).alloc (.cells #[.int .i64 (-1), .int .i64 10000, .int .i64 10001] 2)
    refine (among_any _ sb a cap code (n + q1) (HD.out.src.ext hx) (by omega) (some ⟨W1.heap.size, 0, none⟩) 3 _ HT (by simp) (by simp) (fun p e => by cases e; have := HD.out.src.lt; show W1.heap.size ≠ sb; omega)).mono ?_
    rintro e W2 ⟨s1, q2, rfl, hs1, hqq2, S2, M2⟩
    have hss1 : -20000 ≤ s1 ∧ s1 ≤ 20000 := by simp only [List.mem_cons, List.not_mem_nil, or_false] at hs1; omega
    replace HB := Lib.hid (M2.blk (g := rb) hrs (HB.out.ext hx))
    replace HI := Lib.hid ((HI.out.ext hx).moved M2 hxs)
    replace HD := Lib.hid ((HD.out.ext hx).step S2 M2)
    clear S2 M2 HT hx hs1
    have HB0 := HB.out
    obtain ⟨gl, g0, g1, g2, g3⟩ := HI.out.all
    have gk := HI.out.blk.frozen 1
    replace HI := Lib.hid (HI.out.at1 ⟨x.person, s1, x.hours, x.call⟩ 1 (by decide) (.int .i64 s1) rfl (fun j hj hne => by rcases four hj with rfl | rfl | rfl | rfl <;> first | rfl | exact absurd rfl hne))
    replace HB := Lib.hid (HB.out.set xb 1 (.int .i64 s1))
    replace HD := Lib.hid (HD.out.set (o := 1) hxw (.int .i64 s1))
    obtain ⟨Wb, hWb⟩ : ∃ Wb, Wb = W2.setCell ⟨xb, 1, none⟩ (.int .i64 s1) := ⟨_, rfl⟩
    rw [← hWb] at HI HB HD
    have HX : Hid (WatN ⟨x.person, s1, x.hours, x.call⟩) := ⟨hxn.out.ps, hss1, hxn.out.ho⟩
    have rl0 := HB0.lt
    obtain ⟨u0, o0⟩ := HB0.cell (o := 0) (by decide)
    obtain ⟨u1, o1⟩ := HB0.cell (o := 1) (by decide)
    obtain ⟨u2, o2⟩ := HB0.cell (o := 2) (by decide)
    obtain ⟨u3, o3⟩ := HB0.cell (o := 3) (by decide)
    have n0 := HB0.frozen 0
    have n1 := HB0.frozen 1
    have n2 := HB0.frozen 2
    have n3 := HB0.frozen 3
    clear HB0
    have HQ := Lib.hid (Dr.set (o := 3) (Dr.set (o := 2) (Dr.set (o := 1) (Dr.set (o := 0) HD.out hrw (.string ((⟨x.person, s1, x.hours, x.call⟩ : Watch)).person)) hrw (.int .i64 ((⟨x.person, s1, x.hours, x.call⟩ : Watch)).start)) hrw (.int .i64 ((⟨x.person, s1, x.hours, x.call⟩ : Watch)).hours)) hrw (.bool ((⟨x.person, s1, x.hours, x.call⟩ : Watch)).call))
    first | rw [hWb] at HQ | skip
    first | clear hWb | skip
    clear HD HI HB
    go_wp2_with fail
    refine bodyPost_ret (v := .agg #[.string ((⟨x.person, s1, x.hours, x.call⟩ : Watch)).person, .int .i64 ((⟨x.person, s1, x.hours, x.call⟩ : Watch)).start, .int .i64 ((⟨x.person, s1, x.hours, x.call⟩ : Watch)).hours, .bool ((⟨x.person, s1, x.hours, x.call⟩ : Watch)).call]) (by simp [results, Tryd.results44, go_sem, o0, o1, o2, o3]) rfl ?_
    refine ⟨(⟨x.person, s1, x.hours, x.call⟩ : Watch), q1 + q2, rfl, HX.out, by omega, ?_, HQ.out.mv⟩
    rw [show n + (q1 + q2) = n + q1 + q2 by omega]
    exact HQ.out.src
  · subst hr
    go_wp2_with fail
    have HT := rows_lit (cell := cellJ) (T := 2) W1 #[.int .i64 0, .int .i64 48, .int .i64 49] [0, 48, 49] (fun k hk => by rcases (show k = 0 ∨ k = 1 ∨ k = 2 by simp at hk; omega) with rfl | rfl | rfl <;> rfl) rfl
    have hx := (Ext.refl W1).alloc (.cells #[.int .i64 0, .int .i64 48, .int .i64 49] 2)
    refine (among_any _ sb a cap code (n + q1) (HD.out.src.ext hx) (by omega) (some ⟨W1.heap.size, 0, none⟩) 3 _ HT (by simp) (by simp) (fun p e => by cases e; have := HD.out.src.lt; show W1.heap.size ≠ sb; omega)).mono ?_
    rintro e W2 ⟨s1, q2, rfl, hs1, hqq2, S2, M2⟩
    have hss1 : -20000 ≤ s1 ∧ s1 ≤ 20000 := by simp only [List.mem_cons, List.not_mem_nil, or_false] at hs1; omega
    replace HB := Lib.hid (M2.blk (g := rb) hrs (HB.out.ext hx))
    replace HI := Lib.hid ((HI.out.ext hx).moved M2 hxs)
    replace HD := Lib.hid ((HD.out.ext hx).step S2 M2)
    clear S2 M2 HT hx hs1
    have HB0 := HB.out
    obtain ⟨gl, g0, g1, g2, g3⟩ := HI.out.all
    have gk := HI.out.blk.frozen 2
    replace HI := Lib.hid (HI.out.at1 ⟨x.person, x.start, s1, x.call⟩ 2 (by decide) (.int .i64 s1) rfl (fun j hj hne => by rcases four hj with rfl | rfl | rfl | rfl <;> first | rfl | exact absurd rfl hne))
    replace HB := Lib.hid (HB.out.set xb 2 (.int .i64 s1))
    replace HD := Lib.hid (HD.out.set (o := 2) hxw (.int .i64 s1))
    obtain ⟨Wb, hWb⟩ : ∃ Wb, Wb = W2.setCell ⟨xb, 2, none⟩ (.int .i64 s1) := ⟨_, rfl⟩
    rw [← hWb] at HI HB HD
    have HX : Hid (WatN ⟨x.person, x.start, s1, x.call⟩) := ⟨hxn.out.ps, hxn.out.st, hss1⟩
    have rl0 := HB0.lt
    obtain ⟨u0, o0⟩ := HB0.cell (o := 0) (by decide)
    obtain ⟨u1, o1⟩ := HB0.cell (o := 1) (by decide)
    obtain ⟨u2, o2⟩ := HB0.cell (o := 2) (by decide)
    obtain ⟨u3, o3⟩ := HB0.cell (o := 3) (by decide)
    have n0 := HB0.frozen 0
    have n1 := HB0.frozen 1
    have n2 := HB0.frozen 2
    have n3 := HB0.frozen 3
    clear HB0
    have HQ := Lib.hid (Dr.set (o := 3) (Dr.set (o := 2) (Dr.set (o := 1) (Dr.set (o := 0) HD.out hrw (.string ((⟨x.person, x.start, s1, x.call⟩ : Watch)).person)) hrw (.int .i64 ((⟨x.person, x.start, s1, x.call⟩ : Watch)).start)) hrw (.int .i64 ((⟨x.person, x.start, s1, x.call⟩ : Watch)).hours)) hrw (.bool ((⟨x.person, x.start, s1, x.call⟩ : Watch)).call))
    first | rw [hWb] at HQ | skip
    first | clear hWb | skip
    clear HD HI HB
    go_wp2_with fail
    refine bodyPost_ret (v := .agg #[.string ((⟨x.person, x.start, s1, x.call⟩ : Watch)).person, .int .i64 ((⟨x.person, x.start, s1, x.call⟩ : Watch)).start, .int .i64 ((⟨x.person, x.start, s1, x.call⟩ : Watch)).hours, .bool ((⟨x.person, x.start, s1, x.call⟩ : Watch)).call]) (by simp [results, Tryd.results44, go_sem, o0, o1, o2, o3]) rfl ?_
    refine ⟨(⟨x.person, x.start, s1, x.call⟩ : Watch), q1 + q2, rfl, HX.out, by omega, ?_, HQ.out.mv⟩
    rw [show n + (q1 + q2) = n + q1 + q2 by omega]
    exact HQ.out.src
  · subst hr
    go_wp2_with fail
    have HT := rows_lit (cell := cellS) (T := 9) W1 #[.string ⟨#[]⟩, .string ⟨#[80]⟩] [⟨#[]⟩, ⟨#[80]⟩] (fun k hk => by rcases (show k = 0 ∨ k = 1 by simp at hk; omega) with rfl | rfl <;> rfl) rfl
    have hx := (Ext.refl W1).alloc (.cells #[.string ⟨#[]⟩, .string ⟨#[80]⟩] 9)
    refine (text_any _ sb a cap code (n + q1) (HD.out.src.ext hx) (by omega) (some ⟨W1.heap.size, 0, none⟩) 2 _ HT (by simp) (by simp) (fun p e => by cases e; have := HD.out.src.lt; show W1.heap.size ≠ sb; omega)).mono ?_
    rintro e W2 ⟨s1, q2, rfl, hs1, hqq2, S2, M2⟩
    have hss1 := (show ∀ x ∈ ([⟨#[]⟩, ⟨#[80]⟩] : List ByteArray), x.size ≤ 100 by decide) s1 hs1
    replace HB := Lib.hid (M2.blk (g := rb) hrs (HB.out.ext hx))
    replace HI := Lib.hid ((HI.out.ext hx).moved M2 hxs)
    replace HD := Lib.hid ((HD.out.ext hx).step S2 M2)
    clear S2 M2 HT hx hs1
    have HB0 := HB.out
    obtain ⟨gl, g0, g1, g2, g3⟩ := HI.out.all
    have gk := HI.out.blk.frozen 0
    replace HI := Lib.hid (HI.out.at1 ⟨s1, x.start, x.hours, x.call⟩ 0 (by decide) (.string s1) rfl (fun j hj hne => by rcases four hj with rfl | rfl | rfl | rfl <;> first | rfl | exact absurd rfl hne))
    replace HB := Lib.hid (HB.out.set xb 0 (.string s1))
    replace HD := Lib.hid (HD.out.set (o := 0) hxw (.string s1))
    obtain ⟨Wb, hWb⟩ : ∃ Wb, Wb = W2.setCell ⟨xb, 0, none⟩ (.string s1) := ⟨_, rfl⟩
    rw [← hWb] at HI HB HD
    have HX : Hid (WatN ⟨s1, x.start, x.hours, x.call⟩) := ⟨hss1, hxn.out.st, hxn.out.ho⟩
    have rl0 := HB0.lt
    obtain ⟨u0, o0⟩ := HB0.cell (o := 0) (by decide)
    obtain ⟨u1, o1⟩ := HB0.cell (o := 1) (by decide)
    obtain ⟨u2, o2⟩ := HB0.cell (o := 2) (by decide)
    obtain ⟨u3, o3⟩ := HB0.cell (o := 3) (by decide)
    have n0 := HB0.frozen 0
    have n1 := HB0.frozen 1
    have n2 := HB0.frozen 2
    have n3 := HB0.frozen 3
    clear HB0
    have HQ := Lib.hid (Dr.set (o := 3) (Dr.set (o := 2) (Dr.set (o := 1) (Dr.set (o := 0) HD.out hrw (.string ((⟨s1, x.start, x.hours, x.call⟩ : Watch)).person)) hrw (.int .i64 ((⟨s1, x.start, x.hours, x.call⟩ : Watch)).start)) hrw (.int .i64 ((⟨s1, x.start, x.hours, x.call⟩ : Watch)).hours)) hrw (.bool ((⟨s1, x.start, x.hours, x.call⟩ : Watch)).call))
    first | rw [hWb] at HQ | skip
    first | clear hWb | skip
    clear HD HI HB
    go_wp2_with fail
    refine bodyPost_ret (v := .agg #[.string ((⟨s1, x.start, x.hours, x.call⟩ : Watch)).person, .int .i64 ((⟨s1, x.start, x.hours, x.call⟩ : Watch)).start, .int .i64 ((⟨s1, x.start, x.hours, x.call⟩ : Watch)).hours, .bool ((⟨s1, x.start, x.hours, x.call⟩ : Watch)).call]) (by simp [results, Tryd.results44, go_sem, o0, o1, o2, o3]) rfl ?_
    refine ⟨(⟨s1, x.start, x.hours, x.call⟩ : Watch), q1 + q2, rfl, HX.out, by omega, ?_, HQ.out.mv⟩
    rw [show n + (q1 + q2) = n + q1 + q2 by omega]
    exact HQ.out.src
  · have HB0 := HB.out
    have hr0 : (r1 == 0) = false := beq_eq_false_iff_ne.2 (by omega)
    have hr1 : (r1 == 1) = false := beq_eq_false_iff_ne.2 (by omega)
    have hr2 : (r1 == 2) = false := beq_eq_false_iff_ne.2 (by omega)
    obtain ⟨gl, g0, g1, g2, g3⟩ := HI.out.all
    have HX := hxn
    have rl0 := HB0.lt
    obtain ⟨u0, o0⟩ := HB0.cell (o := 0) (by decide)
    obtain ⟨u1, o1⟩ := HB0.cell (o := 1) (by decide)
    obtain ⟨u2, o2⟩ := HB0.cell (o := 2) (by decide)
    obtain ⟨u3, o3⟩ := HB0.cell (o := 3) (by decide)
    have n0 := HB0.frozen 0
    have n1 := HB0.frozen 1
    have n2 := HB0.frozen 2
    have n3 := HB0.frozen 3
    clear HB0
    have HQ := Lib.hid (Dr.set (o := 3) (Dr.set (o := 2) (Dr.set (o := 1) (Dr.set (o := 0) HD.out hrw (.string (x).person)) hrw (.int .i64 (x).start)) hrw (.int .i64 (x).hours)) hrw (.bool (x).call))
    first | rw [hW1] at HQ | skip
    first | clear hW1 | skip
    clear HD HI HB
    go_wp2_with fail
    refine bodyPost_ret (v := .agg #[.string (x).person, .int .i64 (x).start, .int .i64 (x).hours, .bool (x).call]) (by simp [results, Tryd.results44, go_sem, o0, o1, o2, o3]) rfl ?_
    refine ⟨x, q1, rfl, HX.out, by omega, ?_, HQ.out.mv⟩
    rw [show n + (q1) = n + q1 by omega]
    exact HQ.out.src
end Go.Proofs.YtmkmmenkjbmppaaDoor
namespace Go.Proofs.YtmkmmenkjbmppaaDoor
open Go.ChangeShapes Go.WideShapes Go.ChangeAt Go.RowKit
theorem byte_el {H : Type} {enc : TypeId × Value → H} {W : World} {base : Nat} {spare : Nat → Bool} {held : Bool} {n : Nat} {cs : List Value} {x : DataW H × List MemPlace} (h : DataW.trod enc Tryd.prog W base spare held n 5 cs = some x) :
    ∃ y : UInt8, True ∧ ∀ j, j < 1 → cs[j]? = some ((fun (x : UInt8) (_ : Nat) => Value.int .u8 x.toNat) y j) := by
  obtain ⟨v, e, _, z⟩ := DataW.trod_int Tryd.underlying5 h
  subst e
  have hb : 0 ≤ v ∧ v ≤ 255 := by simpa [Lit.wf, IntKind.min, IntKind.max, IntKind.signed, IntKind.bits] using z
  refine ⟨UInt8.ofNat v.toNat, trivial, fun j hj => ?_⟩
  obtain rfl : j = 0 := by omega
  have e : ((UInt8.ofNat v.toNat).toNat : Int) = v := by
    rw [UInt8.toNat_ofNat']; omega
  show some (Value.int .u8 v) = some (Value.int .u8 ((UInt8.ofNat v.toNat).toNat : Int))
  rw [e]
end Go.Proofs.YtmkmmenkjbmppaaDoor
namespace Go.Proofs.YtmkmmenkjbmppaaDoor
open Go.RowKit
theorem Lst.beside {α : Type} {T n : Nat} {cell : α → Nat → Value} {base : Nat} {w w' : World} {v : Value} {l : List α} {row : Option Nat} (h : Lst T n cell w base v l) (hg : w.grownBy w' row) (hne : ∀ g, v.ownBlock = some g → row ≠ some g) : Lst T n cell w' base v l := by
  refine ⟨h.1, ?_⟩
  rcases h.2 with h2 | ⟨g, cap, cur, hv, hgb, hh, r⟩
  · exact .inl h2
  · have hlt : g < w.heap.size := by
      rcases Nat.lt_or_ge g w.heap.size with h1 | h1
      · exact h1
      · rw [Array.getElem?_eq_none h1] at hh; cases hh
    exact .inr ⟨g, cap, cur, hv, hgb, by rw [hg.block g hlt (fun e => hne g (by rw [hv]; rfl) e.symm)]; exact hh, r⟩
theorem ByteAt.of8 {w : World} {a : Option Addr} {l : List UInt8} (h : RowsAt 1 (fun (x : UInt8) (_ : Nat) => Value.int .u8 x.toNat) w a l) : ByteAt w a (l.map fun x => (x.toNat : Int)) := fun k hk => by
  rw [List.length_map] at hk
  obtain ⟨b, o, e, hb, hc⟩ := h k hk
  refine ⟨b, o, e, hb, fun j hj => ?_⟩
  have := hc j hj
  rw [this, nth_eq (l.map fun x => (x.toNat : Int)) k (by simpa using hk), List.getElem_map, nth_eq l k hk]
theorem byte_range (l : List UInt8) : ∀ k, k < (l.map fun x => (x.toNat : Int)).length → 0 ≤ nth (l.map fun x => (x.toNat : Int)) k ∧ nth (l.map fun x => (x.toNat : Int)) k ≤ 255 := fun k hk => by
  rw [nth_eq _ k hk, List.getElem_map]
  have := (l[k]'(by simpa using hk)).toNat_lt
  omega
end Go.Proofs.YtmkmmenkjbmppaaDoor
namespace Go.Proofs.YtmkmmenkjbmppaaDoor
open Go.RowKit
def AllW (l : List Watch) : Prop := ∀ y, y ∈ l → WatN y
theorem AllW.nil : AllW [] := fun _ h => absurd h List.not_mem_nil
theorem AllW.at {l : List Watch} (h : AllW l) (k : Nat) (hk : k < l.length) : WatN (nth l k) := h _ (nth_mem hk)
theorem AllW.small {l : List Watch} (h : AllW l) : ∀ k, k < l.length → (nth l k).Small := fun k hk => (h.at k hk).small
theorem AllW.push {l : List Watch} (h : AllW l) {x : Watch} (hx : WatN x) : AllW (l ++ [x]) := fun y hy => by
  rcases List.mem_append.1 hy with h1 | h1
  · exact h y h1
  · rw [List.mem_singleton.1 h1]; exact hx
theorem AllW.add {l : List Watch} (h : AllW l) {x : Watch} (hx : WatN x) : AllW (addWat l x) := fun y hy => by
  unfold addWat addWl at hy
  split at hy
  · rcases List.mem_append.1 hy with h1 | h1
    · exact h y (List.mem_of_mem_take h1)
    · rcases List.mem_cons.1 h1 with h2 | h2
      · rw [h2]; exact hx
      · exact h y (List.mem_of_mem_drop h2)
  · exact absurd hy List.not_mem_nil
set_option maxRecDepth 100000 in
set_option maxHeartbeats 8000000 in
theorem l26Draw_any (w : World) (sb : Nat) (a : Option Addr) (cap : Nat) (code : List Int) (n : Nat) (H : Src w sb a cap code n) (hn : n ≤ 1000000) :
    Calls Tryd.prog 24 #[.pointer (some ⟨sb, 0, none⟩)] w fun e w' => ∃ (v : Value) (l : List Watch) (k : Nat), e = .returned v ∧ k ≤ 500 ∧ l.length ≤ 33 ∧ AllW l ∧ Lst 65 4 Watch.cell w' w.heap.size v l ∧ Src w' sb a cap code (n + k) ∧ Moved sb w w' := by
  have hsl := H.lt
  have hO := Lib.hid (Lst.new (T := 65) (n := 4) (cell := Watch.cell) (α := Watch) w w.heap.size (Nat.le_refl _))
  have HD := Lib.hid ((Dr.start H).ext ((Ext.refl w).alloc (.cells #[] 65)))
  clear H
  go_enter Tryd.func24, Tryd.ntmps24
  go_wp2_with fail
  refine (pick_any _ sb a cap code n HD.out.src (by omega) 9 (by omega)).mono ?_
  rintro e W1 ⟨r1, q1, rfl, p0, p1, hq1, S1, M1⟩
  replace p1 := p1 (by omega)
  obtain ⟨j0, rfl⟩ := Int.eq_ofNat_of_zero_le p0
  replace hO := Lib.hid (hO.out.moved M1 (by omega))
  replace HD := Lib.hid (HD.out.step S1 M1)
  clear S1 M1
  go_wp2_with fail
  go_loopw [3, 4] (fun o i wr => ∃ (j q : Nat) (L : List Watch), j ≤ 8 ∧ i = .int .i64 j ∧ q ≤ 2 + 20 * (8 - j) ∧ L.length + j ≤ 8 ∧ Hid (AllW L) ∧ Hid (Lst 65 4 Watch.cell wr w.heap.size o L) ∧ Hid (Dr w wr sb a cap code (n + q))) (fun _ i _ => (intOf i).toNat)
  case atStart => exact ⟨j0, q1, [], by omega, rfl, by omega, by simp; omega, AllW.nil, hO.out, HD.out⟩
  case round =>
    clear hO HD
    obtain ⟨j, q, L, hj, rfl, hq, hLj, hA, hO, HD⟩ := hrel
    rcases Nat.eq_zero_or_pos j with h0 | h0
    · subst h0
      go_wp2_with fail
      refine (pick_any _ sb a cap code (n + q) HD.out.src (by omega) 20 (by omega)).mono ?_
      rintro e W1 ⟨r1, q1, rfl, p0, p1, hq1, S1, M1⟩
      replace p1 := p1 (by omega)
      replace hO := Lib.hid (hO.out.moved M1 (by omega))
      replace HD := Lib.hid (HD.out.step S1 M1)
      clear S1 M1
      rcases (show r1 = 0 ∨ r1 = 1 ∨ 2 ≤ r1 by omega) with hr | hr | hr
      · subst hr
        go_wp2_with fail
        refine (l26DrawOne_any W1 sb a cap code (n + q + q1) HD.out.src (by omega)).mono ?_
        rintro e W2 ⟨x, q2, rfl, hx, hq2, S2, M2⟩
        replace hO := Lib.hid (hO.out.moved M2 (by omega))
        replace HD := Lib.hid (HD.out.step S2 M2)
        clear S2 M2
        have hx := Lib.hid hx
        go_wp2_with fail
        refine (l26Bend_any W2 sb a cap code (n + q + q1 + q2) HD.out.src (by omega) x hx.out).mono ?_
        rintro e W3 ⟨y, q3, rfl, hy, hq3, S2, M2⟩
        replace hO := Lib.hid (hO.out.moved M2 (by omega))
        replace HD := Lib.hid (HD.out.step S2 M2)
        have hzs := HD.out.size
        have hy := Lib.hid hy
        clear S2 M2 hx
        have hx := Lib.hid ((Ext.refl W3).alloc (.cells #[.string y.person, .int .i64 y.start, .int .i64 y.hours, .bool y.call] 65))
        replace hO := Lib.hid (hO.out.ext hx.out)
        replace HD := Lib.hid (HD.out.ext hx.out)
        have HR2 : Hid (WatchAt (W3.alloc (.cells #[.string y.person, .int .i64 y.start, .int .i64 y.hours, .bool y.call] 65)) (some ⟨W3.heap.size, 0, none⟩) [y]) := rows_new (n := 4) (cell := Watch.cell) (T := 65) W3 #[.string y.person, .int .i64 y.start, .int .i64 y.hours, .bool y.call] y (fun j hj => by rcases four hj with rfl | rfl | rfl | rfl <;> rfl)
        try dsimp only
        repeat (first | (at_builtin; refine Hid.out ?_) | go_values | go_skip | go_guarded | go_step | go_upon | go_back)
        refine Lib.hid ?_
        refine wpList_pushL elWatch oneWatch rfl _ _ rfl w.heap.size _ L (by rfl) hO.out _ 1 1 [y] rfl (by rfl) HR2.out (by omega) (by omega) (by rw [size_new]; omega) ?_
        intro v2 w4 L4 _ g4
        have hrow : ∀ g, u3.ownBlock = some g → w.heap.size ≤ g := fun g e => ownBlock_le hO.out g e
        replace HD := Lib.hid (HD.out.grown g4 hrow)
        have hA2 := Lib.hid (hA.out.push hy.out)
        have L4 := Lib.hid L4
        clear hO g4 hrow HR2 hx
        go_wp2_with fail
        go_ret
        refine ⟨_, L ++ [y], q + q1 + q2 + q3, rfl, by omega, by rw [List.length_append]; simp; omega, hA2.out, L4.out, ?_, HD.out.mv⟩
        rw [show n + (q + q1 + q2 + q3) = n + q + q1 + q2 + q3 by omega]
        exact HD.out.src
      · subst hr
        go_wp2_with fail
        have HT := rows_lit (cell := cellJ) (T := 2) W1 #[.int .i64 32, .int .i64 33] [32, 33] (fun k hk => by rcases (show k = 0 ∨ k = 1 by simp at hk; omega) with rfl | rfl <;> rfl) rfl
        have hx := (Ext.refl W1).alloc (.cells #[.int .i64 32, .int .i64 33] 2)
        refine (among_any _ sb a cap code (n + q + q1) (HD.out.src.ext hx) (by omega) (some ⟨W1.heap.size, 0, none⟩) 2 _ HT (by simp) (by simp) (fun p e => by cases e; have := HD.out.src.lt; show W1.heap.size ≠ sb; omega)).mono ?_
        rintro e W2 ⟨m, q2, rfl, hs1, hq2, S2, M2⟩
        have hm : 32 ≤ m ∧ m ≤ 33 := by simp only [List.mem_cons, List.not_mem_nil, or_false] at hs1; omega
        replace HD := Lib.hid ((HD.out.ext hx).step S2 M2)
        clear S2 M2 HT hx hs1 hO
        have hzs := HD.out.size
        have hO := Lib.hid (Lst.new (T := 65) (n := 4) (cell := Watch.cell) (α := Watch) W2 w.heap.size hzs)
        replace HD := Lib.hid (HD.out.ext ((Ext.refl W2).alloc (.cells #[] 65)))
        clear hA
        go_wp2_with fail
        obtain ⟨N, hN⟩ : ∃ N, N = n + q + q1 + q2 := ⟨_, rfl⟩
        rw [← hN] at HD
        replace hN := Lib.hid hN
        go_loopw [3, 8] (fun o i wr => ∃ (k : Nat) (L : List Watch), (k : Int) ≤ m ∧ i = .int .i64 k ∧ L.length ≤ k ∧ Hid (AllW L) ∧ Hid (Lst 65 4 Watch.cell wr w.heap.size o L) ∧ Hid (Dr w wr sb a cap code N)) (fun _ i _ => 33 - (intOf i).toNat)
        case atStart => exact ⟨0, [], by omega, rfl, Nat.le_refl _, AllW.nil, hO.out, HD.out⟩
        case round =>
          clear hO HD
          obtain ⟨k, L, hk, rfl, hL, hA, hO, HD⟩ := hrel
          have hzs := HD.out.size
          by_cases hlt : (k : Int) < m
          · have hd : decide ((k : Int) < m) = true := decide_eq_true hlt
            have hk33 : k < 33 := by omega
            obtain ⟨y, hy⟩ : ∃ y : Watch, y = ⟨⟨#[105, 100, 97]⟩, 10 * (k : Int), 5, false⟩ := ⟨_, rfl⟩
            have hyn : Hid (WatN y) := by
              rw [hy]
              exact ⟨(show (⟨#[105, 100, 97]⟩ : ByteArray).size ≤ 100 by decide), by dsimp only; omega, by dsimp only; omega⟩
            have hx := Lib.hid ((Ext.refl wr).alloc (.cells #[.string ⟨#[105, 100, 97]⟩, .int .i64 (10 * (k : Int)), .int .i64 5, .bool false] 65))
            replace hO := Lib.hid (hO.out.ext hx.out)
            replace HD := Lib.hid (HD.out.ext hx.out)
            have HR2 : Hid (WatchAt (wr.alloc (.cells #[.string ⟨#[105, 100, 97]⟩, .int .i64 (10 * (k : Int)), .int .i64 5, .bool false] 65)) (some ⟨wr.heap.size, 0, none⟩) [y]) := by
              rw [hy]
              exact rows_new (n := 4) (cell := Watch.cell) (T := 65) wr #[.string ⟨#[105, 100, 97]⟩, .int .i64 (10 * (k : Int)), .int .i64 5, .bool false] ⟨⟨#[105, 100, 97]⟩, 10 * (k : Int), 5, false⟩ (fun j hj => by rcases four hj with rfl | rfl | rfl | rfl <;> rfl)
            clear hy hx
            try dsimp only
            repeat (first | (at_builtin; refine Hid.out ?_) | go_values | go_skip | go_guarded | go_step | go_upon | go_back)
            refine Lib.hid ?_
            refine wpList_pushL elWatch oneWatch rfl _ _ rfl w.heap.size _ L (by rfl) hO.out _ 1 1 [y] rfl (by rfl) HR2.out (by omega) (by omega) (by rw [size_new]; omega) ?_
            intro v2 w4 L4 _ g4
            have hrow : ∀ g, u3.ownBlock = some g → w.heap.size ≤ g := fun g e => ownBlock_le hO.out g e
            replace HD := Lib.hid (HD.out.grown g4 hrow)
            have hA2 := Lib.hid (hA.out.push hyn.out)
            have L4 := Lib.hid L4
            have hL2 : (L ++ [y]).length ≤ k + 1 := by rw [List.length_append]; simp; omega
            clear hO g4 hrow HR2
            go_wp2_with fail
            go_roundw
            case rel => exact ⟨k + 1, L ++ [y], by omega, by go_num, hL2, hA2.out, L4.out, HD.out⟩
            case measure => simp [intOf]; omega
          · have hd : decide ((k : Int) < m) = false := decide_eq_false hlt
            go_wp2_with fail
            go_ret
            first
              | refine ⟨_, rfl, L, q + q1 + q2, by omega, by omega, hA.out, hO.out, ?_, HD.out.mv⟩
              | refine ⟨_, L, q + q1 + q2, rfl, by omega, by omega, hA.out, hO.out, ?_, HD.out.mv⟩
            rw [show n + (q + q1 + q2) = N by rw [hN.out]; omega]
            exact HD.out.src
      · have hr0 : (r1 == 0) = false := beq_eq_false_iff_ne.2 (by omega)
        have hr1 : (r1 == 1) = false := beq_eq_false_iff_ne.2 (by omega)
        go_wp2_with fail
        go_ret
        refine ⟨_, L, q + q1, rfl, by omega, by omega, hA.out, hO.out, ?_, HD.out.mv⟩
        rw [show n + (q + q1) = n + q + q1 by omega]
        exact HD.out.src
    · obtain ⟨oa, oc, rfl, hoc, hom, hR, -⟩ := hO.out.shape
      clear hR
      go_wp2_with fail
      refine (l26DrawOne_any wr sb a cap code (n + q) HD.out.src (by omega)).mono ?_
      rintro e W2 ⟨x, q2, rfl, hx, hq2, S2, M2⟩
      have hx := Lib.hid hx
      replace hO := Lib.hid (hO.out.moved M2 (by omega))
      replace HD := Lib.hid (HD.out.step S2 M2)
      obtain ⟨oa', oc', e', hoc', -, hR, -⟩ := hO.out.shape
      obtain ⟨rfl, -, rfl⟩ : oa = oa' ∧ L.length = L.length ∧ oc = oc' := by simpa using e'
      clear e' S2 M2
      have hc := specAddWatch_lst W2 oa oc L hR hA.out.small (by omega) hoc' x hx.out.small
      have hL2 := addWat_len L x
      have hA2 := Lib.hid (hA.out.add hx.out)
      obtain ⟨C, hC⟩ : ∃ C, C = addWatC L x := ⟨_, rfl⟩
      obtain ⟨L2, hL⟩ : ∃ L2, L2 = addWat L x := ⟨_, rfl⟩
      rw [← hC, ← hL] at hc
      rw [← hL] at hL2 hA2
      clear hC hL hR
      replace hc := Lib.hid hc
      go_wp2_with fail
      refine hc.out.mono ?_
      rintro e W3 ⟨v, rfl, hv, hE⟩
      have hz := HD.out.size
      replace hO := Lib.hid (hO.out.ext hE)
      replace hv := Lib.hid (hv.low hz)
      replace HD := Lib.hid (HD.out.ext hE)
      clear hc hE hz
      by_cases h2 : C = 0
      · subst h2
        go_wp2_with fail
        go_roundw
        case rel => exact ⟨j - 1, q + q2, L2, by omega, by go_num, by omega, by omega, hA2, hv, by rw [← Nat.add_assoc]; exact HD⟩
        case measure => simp [intOf]; omega
      · have h2' : (C == 0) = false := beq_eq_false_iff_ne.2 h2
        clear h2
        go_wp2_with fail
        go_roundw
        case rel => exact ⟨j - 1, q + q2, L, by omega, by go_num, by omega, by omega, hA, hO, by rw [← Nat.add_assoc]; exact HD⟩
        case measure => simp [intOf]; omega
set_option maxRecDepth 100000 in
set_option maxHeartbeats 4000000 in
theorem l26DrawHour_any (w : World) (sb : Nat) (a : Option Addr) (cap : Nat) (code : List Int) (n : Nat) (H : Src w sb a cap code n) (hn : n ≤ 10000000) :
    Calls Tryd.prog 27 #[.pointer (some ⟨sb, 0, none⟩)] w fun e w' => ∃ (d : Int) (k : Nat), e = .returned (.int .i64 d) ∧ -1 ≤ d ∧ d ≤ 10101 ∧ k ≤ 6 ∧ Src w' sb a cap code (n + k) ∧ Moved sb w w' := by
  have HD := Lib.hid (Dr.start H)
  clear H
  go_enter Tryd.func27, Tryd.ntmps27
  go_wp2_with fail
  refine (one_any w sb a cap code n HD.out.src (by omega) 9 (by omega)).mono ?_
  rintro e W1 ⟨b, q1, rfl, hq1, S1, M1⟩
  replace HD := Lib.hid (HD.out.step S1 M1)
  clear S1 M1
  cases b
  · go_wp2_with fail
    refine (pick_any W1 sb a cap code (n + q1) HD.out.src (by omega) 90 (by omega)).mono ?_
    rintro e W2 ⟨r, q2, rfl, p0, p1, hq2, S1, M1⟩
    replace p1 := p1 (by omega)
    replace HD := Lib.hid (HD.out.step S1 M1)
    clear S1 M1
    go_wp2_with fail
    go_ret
    refine ⟨_, q1 + q2, rfl, by omega, by omega, by omega, ?_, HD.out.mv⟩
    rw [← Nat.add_assoc]; exact HD.out.src
  · go_wp2_with fail
    have HT := rows_lit (cell := cellJ) (T := 2) W1 #[.int .i64 (-1), .int .i64 0, .int .i64 10100, .int .i64 10101] [(-1), 0, 10100, 10101] (fun k hk => by rcases (show k = 0 ∨ k = 1 ∨ k = 2 ∨ k = 3 by simp at hk; omega) with rfl | rfl | rfl | rfl <;> rfl) rfl
    have hx := (Ext.refl W1).alloc (.cells #[.int .i64 (-1), .int .i64 0, .int .i64 10100, .int .i64 10101] 2)
    refine (among_any _ sb a cap code (n + q1) (HD.out.src.ext hx) (by omega) (some ⟨W1.heap.size, 0, none⟩) 4 _ HT (by simp) (by simp) (fun p e => by cases e; have := HD.out.src.lt; show W1.heap.size ≠ sb; omega)).mono ?_
    rintro e W2 ⟨r, q2, rfl, hs1, hq2, S2, M2⟩
    have hm : -1 ≤ r ∧ r ≤ 10101 := by simp only [List.mem_cons, List.not_mem_nil, or_false] at hs1; omega
    replace HD := Lib.hid ((HD.out.ext hx).step S2 M2)
    clear S2 M2 HT hx hs1
    go_wp2_with fail
    go_ret
    refine ⟨_, q1 + q2, rfl, by omega, by omega, by omega, ?_, HD.out.mv⟩
    rw [← Nat.add_assoc]; exact HD.out.src
set_option maxRecDepth 100000 in
set_option maxHeartbeats 4000000 in
theorem DrawUnwatchedHours_any (w : World) (a : Option Addr) (cap : Nat) (code : List Int) (H : ByteAt w a code) (hr : ∀ k, k < code.length → 0 ≤ nth code k ∧ nth code k ≤ 255) (hf : code.length ≤ 1048576) :
    Calls Tryd.prog 10 #[.slice a code.length cap] w fun e w' => ∃ (ta : Option Addr) (tc : Nat) (l : List Watch) (d u : Int), e = .returned (.tuple #[.slice ta l.length tc, .int .i64 d, .int .i64 u]) ∧ l.length ≤ tc ∧ l.length ≤ 33 ∧ AllW l ∧ WatchAt w' ta l ∧ (0 ≤ d ∧ d ≤ 69) ∧ (-1 ≤ u ∧ u ≤ 10101) ∧ Ext w w' := by
  have HF := Lib.hid (l00From_any w a cap code H hr hf)
  clear H hr
  go_enter Tryd.func10, Tryd.ntmps10
  go_wp2_with fail
  refine HF.out.mono ?_
  rintro e W0 ⟨sb, rfl, hsb, S0, E0⟩
  have HD := Lib.hid (Dr.start S0)
  have hsl := S0.lt
  have E0 := Lib.hid E0
  clear HF S0
  go_wp2_with fail
  refine (l26Draw_any W0 sb a cap code 0 HD.out.src (by omega)).mono ?_
  rintro e W1 ⟨v, l, q1, rfl, hq1, hl, hA, hL, S1, M1⟩
  have hA := Lib.hid hA
  replace HD := Lib.hid (HD.out.step S1 M1)
  have hL := Lib.hid hL
  clear S1 M1
  go_wp2_with fail
  refine (pick_any W1 sb a cap code (0 + q1) HD.out.src (by omega) 70 (by omega)).mono ?_
  rintro e W2 ⟨d, q2, rfl, d0, d1, hq2, S1, M1⟩
  replace d1 := d1 (by omega)
  replace HD := Lib.hid (HD.out.step S1 M1)
  replace hL := Lib.hid (hL.out.moved M1 (by omega))
  clear S1 M1
  go_wp2_with fail
  refine (one_any W2 sb a cap code (0 + q1 + q2) HD.out.src (by omega) 9 (by omega)).mono ?_
  rintro e W3 ⟨b, q3, rfl, hq3, S1, M1⟩
  replace HD := Lib.hid (HD.out.step S1 M1)
  replace hL := Lib.hid (hL.out.moved M1 (by omega))
  clear S1 M1
  cases b
  · go_wp2_with fail
    refine (pick_any W3 sb a cap code (0 + q1 + q2 + q3) HD.out.src (by omega) 70 (by omega)).mono ?_
    rintro e W4 ⟨u, q4, rfl, u0, u1, hq4, S1, M1⟩
    replace u1 := u1 (by omega)
    replace HD := Lib.hid (HD.out.step S1 M1)
    replace hL := Lib.hid (hL.out.moved M1 (by omega))
    clear S1 M1
    obtain ⟨ta, tc, rfl, htc, -, hR, -⟩ := hL.out.shape
    replace hR := Lib.hid hR
    clear hL
    go_wp2_with fail
    go_ret3
    exact ⟨ta, tc, l, d, d + u, rfl, htc, hl, hA.out, hR.out, by omega, by omega, HD.out.mv.ext w hsb E0.out⟩
  · go_wp2_with fail
    refine (l26DrawHour_any W3 sb a cap code (0 + q1 + q2 + q3) HD.out.src (by omega)).mono ?_
    rintro e W4 ⟨u, q4, rfl, u0, u1, hq4, S1, M1⟩
    replace HD := Lib.hid (HD.out.step S1 M1)
    replace hL := Lib.hid (hL.out.moved M1 (by omega))
    clear S1 M1
    obtain ⟨ta, tc, rfl, htc, -, hR, -⟩ := hL.out.shape
    replace hR := Lib.hid hR
    clear hL
    go_wp2_with fail
    go_ret3
    exact ⟨ta, tc, l, d, u, rfl, htc, hl, hA.out, hR.out, by omega, by omega, HD.out.mv.ext w hsb E0.out⟩
end Go.Proofs.YtmkmmenkjbmppaaDoor
