/- A watch more: what AddWatch of the reference hands back. -/
import Derived.Test.YtmkmmenkjbmppaaDoorWatL
import Derived.Test.YtmkmmenkjbmppaaDoorOut
import Derived.Laws.AppendOwnNone
import Derived.Deep.RegionHeld3
namespace Go.Proofs.YtmkmmenkjbmppaaDoor
open Go.RowKit
def addWl (l : List Watch) (x : Watch) : List Watch := l.take (lowB (watC x) l) ++ x :: l.drop (lowB (watC x) l)
def addWatC (l : List Watch) (x : Watch) : Int := if watList l = true then (if watchB x = true then (if l.length = 32 then 5 else if watList (addWl l x) = true then 0 else 6) else 2) else 1
def addWat (l : List Watch) (x : Watch) : List Watch := if addWatC l x = 0 then addWl l x else []
section
variable {l : List Watch} {x : Watch}
theorem addW_1 (h : watList l = false) : addWatC l x = 1 ∧ addWat l x = [] := by
  have e : addWatC l x = 1 := by unfold addWatC; rw [h]; rfl
  exact ⟨e, if_neg (by rw [e]; decide)⟩
theorem addW_2 (h : watList l = true) (h2 : watchB x = false) : addWatC l x = 2 ∧ addWat l x = [] := by
  have e : addWatC l x = 2 := by unfold addWatC; rw [h, h2]; rfl
  exact ⟨e, if_neg (by rw [e]; decide)⟩
theorem addW_5 (h : watList l = true) (h2 : watchB x = true) (h3 : l.length = 32) : addWatC l x = 5 ∧ addWat l x = [] := by
  have e : addWatC l x = 5 := by unfold addWatC; rw [h, h2, if_pos h3]; rfl
  exact ⟨e, if_neg (by rw [e]; decide)⟩
theorem addW_6 (h : watList l = true) (h2 : watchB x = true) (h3 : l.length ≠ 32) (h4 : watList (addWl l x) = false) : addWatC l x = 6 ∧ addWat l x = [] := by
  have e : addWatC l x = 6 := by unfold addWatC; rw [h, h2, if_neg h3, h4]; rfl
  exact ⟨e, if_neg (by rw [e]; decide)⟩
theorem addW_0 (h : watList l = true) (h2 : watchB x = true) (h3 : l.length ≠ 32) (h4 : watList (addWl l x) = true) : addWatC l x = 0 ∧ addWat l x = addWl l x := by
  have e : addWatC l x = 0 := by unfold addWatC; rw [h, h2, if_neg h3, h4]; rfl
  exact ⟨e, if_pos e⟩
end
theorem addWl_len (l : List Watch) (x : Watch) : (addWl l x).length ≤ l.length + 1 := by
  unfold addWl; rw [List.length_append, List.length_cons, List.length_take, List.length_drop]; have := posOf_le (fun y => decide (watC x y < 0)) l; unfold lowB; omega
theorem addWat_len (l : List Watch) (x : Watch) : (addWat l x).length ≤ l.length + 1 := by
  unfold addWat; split
  · exact addWl_len l x
  · simp
theorem wat_lt_cases (y x : Watch) : (watB y x = true ∧ sLt y.person x.person = true) ∨ (watB y x = true ∧ sLt y.person x.person = false ∧ sEq y.person x.person = true ∧ decide (y.start < x.start) = true) ∨
    (watB y x = false ∧ sLt y.person x.person = false ∧ sEq y.person x.person = true ∧ decide (y.start < x.start) = false) ∨ (watB y x = false ∧ sLt y.person x.person = false ∧ sEq y.person x.person = false) := by
  unfold watB
  by_cases h : y.person = x.person
  · have e2 : sLt y.person x.person = false := by rw [h]; exact sLt_irrefl _
    rw [if_pos h, e2, sEq_iff.2 h]
    cases h2 : decide (y.start < x.start)
    · exact .inr (.inr (.inl ⟨rfl, rfl, rfl, rfl⟩))
    · exact .inr (.inl ⟨rfl, rfl, rfl, rfl⟩)
  · rw [if_neg h, sEq_not.2 h]
    cases h2 : sLt y.person x.person
    · exact .inr (.inr (.inr ⟨rfl, rfl, rfl⟩))
    · exact .inl ⟨rfl, rfl⟩
set_option maxRecDepth 100000 in
set_option maxHeartbeats 8000000 in
theorem specAddWatch_any (w : World) (a : Option Addr) (cap : Nat) (l : List Watch) (H : WatchAt w a l) (hsz : ∀ k, k < l.length → (nth l k).Small) (hn : l.length ≤ 1048576) (hcap : l.length ≤ cap) (x : Watch) (hx : x.Small) :
    Calls Tryd.prog 42 #[.slice a l.length cap, .agg #[.string x.person, .int .i64 x.start, .int .i64 x.hours, .bool x.call]] w (OutR 4 Watch.cell w (addWat l x) [.int .i64 (addWatC l x)]) := by
  have HA := Lib.hid H
  have HV := Lib.hid fun (w' : World) (he : Ext w w') => l26Ok_any a cap l w' (H.ext he) hsz hn
  obtain ⟨C, hC⟩ : ∃ C, C = addWatC l x := ⟨_, rfl⟩
  obtain ⟨VR, hVR⟩ : ∃ VR, VR = addWat l x := ⟨_, rfl⟩
  obtain ⟨V, hV⟩ : ∃ V, V = addWl l x := ⟨_, rfl⟩
  have hS2 : Hid (∀ j, j < V.length → (nth V j).Small) := by rw [hV]; exact addL_all (p := Watch.Small) hsz hx
  have hVl : V.length ≤ l.length + 1 := by rw [hV]; exact addWl_len l x
  have hv : Hid (V = l.take (lowB (watC x) l) ++ x :: l.drop (lowB (watC x) l)) := hV
  rw [← hC, ← hVR]
  have hCh := Lib.hid hC
  have hVh := Lib.hid hVR
  clear H hsz hC hVR
  cases h1 : watList l
  · have hc := Lib.hid (addW_1 (x := x) h1)
    rw [h1] at HV
    clear h1 hV
    go_enter Tryd.func42, Tryd.ntmps42
    go_wp2_with (go_at_call 31; refine (HV.out _ (by repeat (first | exact Ext.refl _ | refine Ext.lift ?_ _ | refine Ext.alloc ?_ _))).mono ?_; rintro e w' ⟨rfl, y, rfl⟩)
    go_ret2
    rw [hCh.out, hVh.out, hc.out.1, hc.out.2]
    exact (OutS.nil (T := 65) none 0 rfl (by repeat (first | exact Ext.refl _ | refine Ext.lift ?_ _ | refine Ext.alloc ?_ _))).read
  rw [h1] at HV
  cases h2 : watchB x
  · have hc := Lib.hid (addW_2 h1 h2)
    clear h1 hV
    go_enter Tryd.func42, Tryd.ntmps42
    go_wp2_with (first | (go_at_call 31; refine (HV.out _ (by repeat (first | exact Ext.refl _ | refine Ext.lift ?_ _ | refine Ext.alloc ?_ _))).mono ?_; rintro e w' ⟨rfl, y, rfl⟩) | (go_at_call 49; refine (l26One_anyS _ _ x _ hx (by go_simp) (by go_simp) (by go_simp) (by go_simp)).mono ?_; rintro e w' ⟨rfl, z, rfl⟩; rw [h2]))
    go_ret2
    rw [hCh.out, hVh.out, hc.out.1, hc.out.2]
    exact (OutS.nil (T := 65) none 0 rfl (by repeat (first | exact Ext.refl _ | refine Ext.lift ?_ _ | refine Ext.alloc ?_ _))).read
  by_cases h48 : l.length = 32
  · have hc := Lib.hid (addW_5 h1 h2 h48)
    have h48' : ((l.length : Int) == 32) = true := by rw [h48]; rfl
    clear h48 h1 hV
    go_enter Tryd.func42, Tryd.ntmps42
    go_wp2_with (first | (go_at_call 31; refine (HV.out _ (by repeat (first | exact Ext.refl _ | refine Ext.lift ?_ _ | refine Ext.alloc ?_ _))).mono ?_; rintro e w' ⟨rfl, y, rfl⟩) | (go_at_call 49; refine (l26One_anyS _ _ x _ hx (by go_simp) (by go_simp) (by go_simp) (by go_simp)).mono ?_; rintro e w' ⟨rfl, z, rfl⟩; rw [h2]))
    go_ret2
    rw [hCh.out, hVh.out, hc.out.1, hc.out.2]
    exact (OutS.nil (T := 65) none 0 rfl (by repeat (first | exact Ext.refl _ | refine Ext.lift ?_ _ | refine Ext.alloc ?_ _))).read
  have hc6 : Hid (watList V = false → addWatC l x = 6 ∧ addWat l x = []) := fun h => addW_6 h1 h2 h48 (by rw [← hV]; exact h)
  have hc0 : Hid (watList V = true → addWatC l x = 0 ∧ addWat l x = V) := fun h => by rw [hV]; exact addW_0 h1 h2 h48 (by rw [← hV]; exact h)
  have h48' : ((l.length : Int) == 32) = false := by rw [beq_eq_false_iff_ne]; omega
  have hl32 : l.length ≤ 32 := vAll_len_le (show vAll watchB watOrd 32 l = true from h1)
  clear h1 h48 hV
  have HO := Lib.hid fun (W : World) (n : Nat) (hn : n = W.heap.size) => (show Lst 65 4 Watch.cell (W.alloc (.cells #[] 65)) n (.slice (some ⟨n, 0, none⟩) 0 0) [] by subst hn; exact Lst.new W W.heap.size (Nat.le_refl _))
  have HX1 := Lib.hid fun (W : World) (n : Nat) (hn : n = W.heap.size) => (show RowsAt 4 Watch.cell (W.alloc (.cells #[.string x.person, .int .i64 x.start, .int .i64 x.hours, .bool x.call] 65)) (some ⟨n, 0, none⟩) [x] by subst hn; exact rows_new W #[.string x.person, .int .i64 x.start, .int .i64 x.hours, .bool x.call] x (fun j hj => by rcases (show j = 0 ∨ j = 1 ∨ j = 2 ∨ j = 3 by omega) with rfl | rfl | rfl | rfl <;> rfl))
  go_enter Tryd.func42, Tryd.ntmps42
  go_wp2_with (first | (go_at_call 31; refine (HV.out _ (by repeat (first | exact Ext.refl _ | refine Ext.lift ?_ _ | refine Ext.alloc ?_ _))).mono ?_; rintro e w' ⟨rfl, y, rfl⟩) | (go_at_call 49; refine (l26One_anyS _ _ x _ hx (by go_simp) (by go_simp) (by go_simp) (by go_simp)).mono ?_; rintro e w' ⟨rfl, z, rfl⟩; rw [h2]))
  clear HV h2 h48'
  go_loopw [6] (fun i wr => ∃ k : Nat, k ≤ l.length ∧ i = .int .i64 k ∧ Hid (∀ t, t < k → watC x (nth l t) < 0) ∧ Ext (w.alloc (.cells #[.string x.person, .int .i64 x.start, .int .i64 x.hours, .bool x.call] 65)) wr) (fun i _ => l.length - (intOf i).toNat)
  case atStart => exact ⟨0, Nat.zero_le _, rfl, upto_zero, (by repeat (first | exact Ext.refl _ | refine Ext.lift ?_ _ | refine Ext.alloc ?_ _))⟩
  case round =>
    obtain ⟨k, hk, rfl, hall, he0⟩ := hrel
    obtain ⟨yk, rfl⟩ := he0
    rcases Nat.lt_or_ge k l.length with hlt | hge
    · obtain ⟨b, off, rfl⟩ := HA.out.base hlt
      obtain ⟨hb, c0, c1, c2, c3⟩ := Watch.at (HA.out.ext (show Ext w (lift (w.alloc (.cells #[.string x.person, .int .i64 x.start, .int .i64 x.hours, .bool x.call] 65)) yk) from (by repeat (first | exact Ext.refl _ | refine Ext.lift ?_ _ | refine Ext.alloc ?_ _)))) k hlt
      simp at hb
      have hd : decide (k < l.length) = true := decide_eq_true hlt
      rcases wat_lt_cases (nth l k) x with ⟨q0, q1⟩ | ⟨q0, q1, q2, q3⟩ | ⟨q0, q1, q2, q3⟩ | ⟨q0, q1, q2⟩
      iterate 2
        · have hn2 : Hid (watC x (nth l k) < 0) := watK_lt.2 q0
          go_wp2_with fail
          refine region_quiet (by kernel_rfl) (by kernel_rfl) ?_
          repeat (any_goals (first | go_big_quiet_step ((fail)) | quiet_step ((fail))))
          refine wpQuiet_nil ?_
          intro _ hw'
          obtain ⟨y, hw''⟩ := hw'
          subst hw''
          go_wp2
          go_roundw
          case rel => exact ⟨k + 1, by omega, by go_num, upto_succ hall.out hn2.out, (by repeat (first | exact Ext.refl _ | refine Ext.lift ?_ _ | refine Ext.alloc ?_ _))⟩
          case measure => simp [intOf]; omega
      all_goals
        have hlow : Hid (k = lowB (watC x) l) := posOf_eq hk (fun t ht => decide_eq_true (hall.out t ht)) (fun _ => decide_eq_false (fun h => by rw [watK_lt.1 h] at q0; cases q0))
        have HR1 := Lib.hid fun (W : World) (he : Ext w W) => (HA.out.ext he).take k
        have HR2 := Lib.hid fun (W : World) (he : Ext w W) (_ : Unit) => (HA.out.ext he).drop k
        have hci : ¬ (cap = k) := by omega
        go_wp2_with fail
        refine region_quiet (by kernel_rfl) (by kernel_rfl) ?_
        repeat (any_goals (first | go_big_quiet_step ((fail)) | quiet_step ((fail))))
        refine wpQuiet_nil ?_
        intro _ hw'
        obtain ⟨y, hw''⟩ := hw'
        subst hw''
        clear hd q0 q1
        have HC1 : Hid (([] : List Watch).length + k ≤ 9223372036854775807) := by show _ ≤ _; rw [List.length_nil]; omega
        have HC2 : Hid ((([] : List Watch).length + k) * 40 ≤ 140737488355328) := by show _ ≤ _; rw [List.length_nil]; omega
        have htl : (([] : List Watch) ++ l.take k).length = k := by rw [List.nil_append, List.length_take]; omega
        have htl3 : (([] : List Watch) ++ l.take k ++ [x]).length = k + 1 := by rw [List.length_append, htl]; rfl
        have HK : Hid ((l.take k).length = k) := by show _ = _; rw [List.length_take]; omega
        have HD1 : Hid ((([] : List Watch) ++ l.take k).length + 1 ≤ 9223372036854775807) := by show _ ≤ _; rw [htl]; omega
        have HD2 : Hid (((([] : List Watch) ++ l.take k).length + 1) * 40 ≤ 140737488355328) := by show _ ≤ _; rw [htl]; omega
        have HE1 : Hid ((([] : List Watch) ++ l.take k ++ [x]).length + (l.length - k) ≤ 9223372036854775807) := by show _ ≤ _; rw [htl3]; omega
        have HE2 : Hid (((([] : List Watch) ++ l.take k ++ [x]).length + (l.length - k)) * 40 ≤ 140737488355328) := by show _ ≤ _; rw [htl3]; omega
        have HKD : Hid ((l.drop k).length = l.length - k) := by show _ = _; rw [List.length_drop]
        have hfin : Hid ((([] : List Watch) ++ l.take k ++ [x]) ++ l.drop k = V) := by show _ = _; rw [hv.out, ← hlow.out]; simp
        clear htl htl3
        try dsimp only
        repeat (first | (at_builtin; refine Hid.out ?_) | go_values | go_skip | go_guarded | go_step | go_upon | go_back)
        refine Lib.hid ?_
        refine wpList_pushL elWatch oneWatch rfl _ _ rfl _ _ [] rfl (HO.out _ _ (by first | (simp; done) | (simp; omega))) _ k _ (l.take k) HK.out rfl (HR1.out _ (by repeat (first | with_reducible exact Ext.refl _ | with_reducible refine Ext.lift ?_ _ | with_reducible refine Ext.alloc ?_ _ | with_reducible refine Ext.setCell ?_ (by first | (simp; done) | (simp; omega) | omega) _ | with_reducible refine ext_setCells (by first | (simp; done) | (simp; omega) | omega) _ _ _ ?_))) HC1.out HC2.out (by first | (simp; done) | (simp; omega)) ?_
        intro v1 w1 L1 s1 g1
        obtain ⟨base, G1, K0, K1, E1⟩ : ∃ base, Lst 65 4 Watch.cell w1 base v1 ([] ++ l.take k) ∧ (w.alloc (.cells #[.string x.person, .int .i64 x.start, .int .i64 x.hours, .bool x.call] 65)).heap.size ≤ base ∧ base ≤ w1.heap.size ∧ Ext (w.alloc (.cells #[.string x.person, .int .i64 x.start, .int .i64 x.hours, .bool x.call] 65)) w1 :=
          ⟨_, L1, (by first | (simp; done) | (simp; omega)), Nat.le_trans (by first | (simp; done) | (simp; omega)) g1.size, s1 _ (by repeat (first | with_reducible exact Ext.refl _ | with_reducible refine Ext.lift ?_ _ | with_reducible refine Ext.alloc ?_ _ | with_reducible refine Ext.setCell ?_ (by first | (simp; done) | (simp; omega) | omega) _ | with_reducible refine ext_setCells (by first | (simp; done) | (simp; omega) | omega) _ _ _ ?_)) (by first | (simp; done) | (simp; omega))⟩
        obtain ⟨y1, rfl⟩ := E1
        have L1h := Lib.hid G1
        have K1h := Lib.hid K1
        have K0h := Lib.hid K0
        clear L1 s1 g1 G1 K1 K0 HO
        try dsimp only
        repeat (first | (at_builtin; refine Hid.out ?_) | go_values | go_skip | go_guarded | go_step | go_upon | go_back)
        refine Lib.hid ?_
        refine wpList_pushL elWatch oneWatch rfl _ _ rfl base _ ([] ++ l.take k) rfl (L1h.out.ext ((Ext.refl _).alloc _)) _ 1 1 [x] rfl rfl (HX1.out _ _ (by first | (simp; done) | (simp; omega))) HD1.out HD2.out (Nat.le_trans K1h.out (size_le _ _)) ?_
        intro v2 w2 L2 s2 g2
        obtain ⟨L2h, K2h, E2⟩ : Hid (Lst 65 4 Watch.cell w2 base v2 (([] ++ l.take k) ++ [x])) ∧ Hid (base ≤ w2.heap.size) ∧ Ext (w.alloc (.cells #[.string x.person, .int .i64 x.start, .int .i64 x.hours, .bool x.call] 65)) w2 :=
          ⟨L2, Nat.le_trans (Nat.le_trans K1h.out (size_le _ _)) g2.size, s2 _ (by repeat (first | with_reducible exact Ext.refl _ | with_reducible refine Ext.lift ?_ _ | with_reducible refine Ext.alloc ?_ _ | with_reducible refine Ext.setCell ?_ (by first | (simp; done) | (simp; omega) | omega) _ | with_reducible refine ext_setCells (by first | (simp; done) | (simp; omega) | omega) _ _ _ ?_)) K0h.out⟩
        obtain ⟨y2, rfl⟩ := E2
        clear L2 s2 g2 L1h K1h
        try dsimp only
        repeat (first | (at_builtin; refine Hid.out ?_) | go_values | go_skip | go_guarded | go_step | go_upon | go_back)
        refine Lib.hid ?_
        refine wpList_pushL elWatch oneWatch rfl _ _ rfl base _ (([] ++ l.take k) ++ [x]) rfl L2h.out _ _ _ (l.drop k) (by first | exact HKD.out | (rw [HKD.out, Nat.sub_self])) rfl (HR2.out _ (by repeat (first | with_reducible exact Ext.refl _ | with_reducible refine Ext.lift ?_ _ | with_reducible refine Ext.alloc ?_ _ | with_reducible refine Ext.setCell ?_ (by first | (simp; done) | (simp; omega) | omega) _ | with_reducible refine ext_setCells (by first | (simp; done) | (simp; omega) | omega) _ _ _ ?_)) ()) (by have := HE1.out; omega) (by have := HE2.out; omega) K2h.out ?_
        intro v3 w3 L3 s3 _
        have L3h := Lib.hid L3
        have hE3 := Lib.hid (s3 w (by repeat (first | with_reducible exact Ext.refl _ | with_reducible refine Ext.lift ?_ _ | with_reducible refine Ext.alloc ?_ _ | with_reducible refine Ext.setCell ?_ (by first | (simp; done) | (simp; omega) | omega) _ | with_reducible refine ext_setCells (by first | (simp; done) | (simp; omega) | omega) _ _ _ ?_)) (Nat.le_trans (size_le _ _) K0h.out))
        clear L3 s3
        have L4 : Hid (Lst 65 4 Watch.cell w3 base v3 V) := by show Lst _ _ _ _ _ _ _; rw [← hfin.out]; exact L3h.out
        clear L3h
        obtain ⟨aa, cc, rfl, hcc, -, RR, -⟩ := L4.out.shape
        have HV2 := Lib.hid (l26Ok_any aa cc V w3 RR hS2.out (by omega))
        have RRh := Lib.hid RR
        clear RR L4
        cases h6 : watList V
        · rw [h6] at HV2
          have hc := Lib.hid (hc6.out h6)
          go_wp2_with fail
          refine HV2.out.mono ?_
          rintro e w' ⟨rfl, y6, rfl⟩
          go_wp2_with fail
          go_ret2
          rw [hCh.out, hVh.out, hc.out.1, hc.out.2]
          exact (OutS.nil (T := 65) none 0 rfl (hE3.out.lift _)).read
        · rw [h6] at HV2
          have hc := Lib.hid (hc0.out h6)
          go_wp2_with fail
          refine HV2.out.mono ?_
          rintro e w' ⟨rfl, y6, rfl⟩
          go_wp2_with fail
          go_ret2
          rw [hCh.out, hVh.out, hc.out.1, hc.out.2]
          exact ⟨aa, cc, rfl, hcc, RRh.out.ext ((Ext.refl _).lift _), hE3.out.lift _⟩
    · obtain rfl : k = l.length := by omega
      have hlow : Hid (l.length = lowB (watC x) l) := posOf_eq (Nat.le_refl _) (fun t ht => decide_eq_true (hall.out t ht)) (fun h => absurd h (Nat.lt_irrefl _))
      cases a with
      | none =>
        have h0 : l = [] := by
          cases l with
          | nil => rfl
          | cons z r => obtain ⟨b, off, h⟩ := HA.out.base (show 0 < (z :: r).length by simp); cases h
        subst h0
        go_wp2_with fail
        refine region_quiet (by kernel_rfl) (by kernel_rfl) ?_
        repeat (any_goals (first | go_big_quiet_step ((fail)) | quiet_step ((fail))))
        refine wpQuiet_nil ?_
        intro _ hw'
        obtain ⟨y, hw''⟩ := hw'
        subst hw''
        have HD1 : Hid ((([] : List Watch)).length + 1 ≤ 9223372036854775807) := by show _ ≤ _; rw [List.length_nil]; omega
        have HD2 : Hid (((([] : List Watch)).length + 1) * 40 ≤ 140737488355328) := by show _ ≤ _; rw [List.length_nil]; omega
        have hfin : Hid (([] : List Watch) ++ [x] = V) := by show _ = _; rw [hv.out]; simp
        try dsimp only
        repeat (first | (at_builtin; refine Hid.out ?_) | go_values | go_skip | go_guarded | go_step | go_upon | go_back)
        refine Lib.hid ?_
        refine wpList_push_none elWatch rfl _ _ rfl _ _ [] rfl (HO.out _ _ (by first | (simp; done) | (simp; omega))) _ rfl ?_
        try dsimp only
        repeat (first | (at_builtin; refine Hid.out ?_) | go_values | go_skip | go_guarded | go_step | go_upon | go_back)
        refine Lib.hid ?_
        refine wpList_pushL elWatch oneWatch rfl _ _ rfl _ _ [] rfl ((HO.out _ _ (by first | (simp; done) | (simp; omega))).ext ((Ext.refl _).alloc _)) _ 1 1 [x] rfl rfl (HX1.out _ _ (by first | (simp; done) | (simp; omega))) HD1.out HD2.out (by first | exact Nat.le_trans (size_le _ _) (size_le _ _) | (simp; done) | (simp; omega)) ?_
        intro v3 w3 L3 s3 g3
        have hE3 := Lib.hid (s3 w (by repeat (first | with_reducible exact Ext.refl _ | with_reducible refine Ext.lift ?_ _ | with_reducible refine Ext.alloc ?_ _ | with_reducible refine Ext.setCell ?_ (by first | (simp; done) | (simp; omega) | omega) _ | with_reducible refine ext_setCells (by first | (simp; done) | (simp; omega) | omega) _ _ _ ?_)) (by first | omega | (simp; done) | (simp; omega)))
        obtain ⟨base, L3g⟩ : ∃ base, Lst 65 4 Watch.cell w3 base v3 ([] ++ [x]) := ⟨_, L3⟩
        have L3h := Lib.hid L3g
        clear L3 L3g s3 g3
        try dsimp only
        repeat (first | (at_builtin; refine Hid.out ?_) | go_values | go_skip | go_guarded | go_step | go_upon | go_back)
        refine Lib.hid ?_
        refine wpList_push_none elWatch rfl _ _ rfl _ _ _ rfl L3h.out _ rfl ?_
        have L4 : Hid (Lst 65 4 Watch.cell w3 base v3 V) := by show Lst _ _ _ _ _ _ _; rw [← hfin.out]; exact L3h.out
        clear L3h
        obtain ⟨aa, cc, rfl, hcc, -, RR, -⟩ := L4.out.shape
        have HV2 := Lib.hid (l26Ok_any aa cc V w3 RR hS2.out (by omega))
        have RRh := Lib.hid RR
        clear RR L4
        cases h6 : watList V
        · rw [h6] at HV2
          have hc := Lib.hid (hc6.out h6)
          go_wp2_with fail
          refine HV2.out.mono ?_
          rintro e w' ⟨rfl, y6, rfl⟩
          go_wp2_with fail
          go_ret2
          rw [hCh.out, hVh.out, hc.out.1, hc.out.2]
          exact (OutS.nil (T := 65) none 0 rfl (hE3.out.lift _)).read
        · rw [h6] at HV2
          have hc := Lib.hid (hc0.out h6)
          go_wp2_with fail
          refine HV2.out.mono ?_
          rintro e w' ⟨rfl, y6, rfl⟩
          go_wp2_with fail
          go_ret2
          rw [hCh.out, hVh.out, hc.out.1, hc.out.2]
          exact ⟨aa, cc, rfl, hcc, RRh.out.ext ((Ext.refl _).lift _), hE3.out.lift _⟩
      | some ad =>
        obtain ⟨b, off, sp⟩ := ad
        have HR1 := Lib.hid fun (W : World) (he : Ext w W) => (HA.out.ext he).take l.length
        have HR2 := Lib.hid fun (W : World) (_ : Ext w W) (a' : Option Addr) => (show RowsAt 4 Watch.cell W a' (l.drop l.length) by rw [List.drop_length]; exact RowsAt.nil)
        by_cases hci : cap = l.length
        all_goals
          go_wp2_with fail
          refine region_quiet (by kernel_rfl) (by kernel_rfl) ?_
          repeat (any_goals (first | go_big_quiet_step ((fail)) | quiet_step ((fail))))
          refine wpQuiet_nil ?_
          intro _ hw'
          obtain ⟨y, hw''⟩ := hw'
          subst hw''
          have HC1 : Hid (([] : List Watch).length + l.length ≤ 9223372036854775807) := by show _ ≤ _; rw [List.length_nil]; omega
          have HC2 : Hid ((([] : List Watch).length + l.length) * 40 ≤ 140737488355328) := by show _ ≤ _; rw [List.length_nil]; omega
          have htl : (([] : List Watch) ++ l.take l.length).length = l.length := by rw [List.nil_append, List.length_take]; omega
          have htl3 : (([] : List Watch) ++ l.take l.length ++ [x]).length = l.length + 1 := by rw [List.length_append, htl]; rfl
          have HK : Hid ((l.take l.length).length = l.length) := by show _ = _; rw [List.length_take]; omega
          have HD1 : Hid ((([] : List Watch) ++ l.take l.length).length + 1 ≤ 9223372036854775807) := by show _ ≤ _; rw [htl]; omega
          have HD2 : Hid (((([] : List Watch) ++ l.take l.length).length + 1) * 40 ≤ 140737488355328) := by show _ ≤ _; rw [htl]; omega
          have HE1 : Hid ((([] : List Watch) ++ l.take l.length ++ [x]).length + (l.length - l.length) ≤ 9223372036854775807) := by show _ ≤ _; rw [htl3]; omega
          have HE2 : Hid (((([] : List Watch) ++ l.take l.length ++ [x]).length + (l.length - l.length)) * 40 ≤ 140737488355328) := by show _ ≤ _; rw [htl3]; omega
          have HKD : Hid ((l.drop l.length).length = l.length - l.length) := by show _ = _; rw [List.length_drop]
          have hfin : Hid ((([] : List Watch) ++ l.take l.length ++ [x]) ++ l.drop l.length = V) := by show _ = _; rw [hv.out, ← hlow.out]; simp
          clear htl htl3
          try dsimp only
          repeat (first | (at_builtin; refine Hid.out ?_) | go_values | go_skip | go_guarded | go_step | go_upon | go_back)
          refine Lib.hid ?_
          refine wpList_pushL elWatch oneWatch rfl _ _ rfl _ _ [] rfl (HO.out _ _ (by first | (simp; done) | (simp; omega))) _ l.length _ (l.take l.length) HK.out rfl (HR1.out _ (by repeat (first | with_reducible exact Ext.refl _ | with_reducible refine Ext.lift ?_ _ | with_reducible refine Ext.alloc ?_ _ | with_reducible refine Ext.setCell ?_ (by first | (simp; done) | (simp; omega) | omega) _ | with_reducible refine ext_setCells (by first | (simp; done) | (simp; omega) | omega) _ _ _ ?_))) HC1.out HC2.out (by first | (simp; done) | (simp; omega)) ?_
          intro v1 w1 L1 s1 g1
          obtain ⟨base, G1, K0, K1, E1⟩ : ∃ base, Lst 65 4 Watch.cell w1 base v1 ([] ++ l.take l.length) ∧ (w.alloc (.cells #[.string x.person, .int .i64 x.start, .int .i64 x.hours, .bool x.call] 65)).heap.size ≤ base ∧ base ≤ w1.heap.size ∧ Ext (w.alloc (.cells #[.string x.person, .int .i64 x.start, .int .i64 x.hours, .bool x.call] 65)) w1 :=
            ⟨_, L1, (by first | (simp; done) | (simp; omega)), Nat.le_trans (by first | (simp; done) | (simp; omega)) g1.size, s1 _ (by repeat (first | with_reducible exact Ext.refl _ | with_reducible refine Ext.lift ?_ _ | with_reducible refine Ext.alloc ?_ _ | with_reducible refine Ext.setCell ?_ (by first | (simp; done) | (simp; omega) | omega) _ | with_reducible refine ext_setCells (by first | (simp; done) | (simp; omega) | omega) _ _ _ ?_)) (by first | (simp; done) | (simp; omega))⟩
          obtain ⟨y1, rfl⟩ := E1
          have L1h := Lib.hid G1
          have K1h := Lib.hid K1
          have K0h := Lib.hid K0
          clear L1 s1 g1 G1 K1 K0 HO
          try dsimp only
          repeat (first | (at_builtin; refine Hid.out ?_) | go_values | go_skip | go_guarded | go_step | go_upon | go_back)
          refine Lib.hid ?_
          refine wpList_pushL elWatch oneWatch rfl _ _ rfl base _ ([] ++ l.take l.length) rfl (L1h.out.ext ((Ext.refl _).alloc _)) _ 1 1 [x] rfl rfl (HX1.out _ _ (by first | (simp; done) | (simp; omega))) HD1.out HD2.out (Nat.le_trans K1h.out (size_le _ _)) ?_
          intro v2 w2 L2 s2 g2
          obtain ⟨L2h, K2h, E2⟩ : Hid (Lst 65 4 Watch.cell w2 base v2 (([] ++ l.take l.length) ++ [x])) ∧ Hid (base ≤ w2.heap.size) ∧ Ext (w.alloc (.cells #[.string x.person, .int .i64 x.start, .int .i64 x.hours, .bool x.call] 65)) w2 :=
            ⟨L2, Nat.le_trans (Nat.le_trans K1h.out (size_le _ _)) g2.size, s2 _ (by repeat (first | with_reducible exact Ext.refl _ | with_reducible refine Ext.lift ?_ _ | with_reducible refine Ext.alloc ?_ _ | with_reducible refine Ext.setCell ?_ (by first | (simp; done) | (simp; omega) | omega) _ | with_reducible refine ext_setCells (by first | (simp; done) | (simp; omega) | omega) _ _ _ ?_)) K0h.out⟩
          obtain ⟨y2, rfl⟩ := E2
          clear L2 s2 g2 L1h K1h
          try dsimp only
          repeat (first | (at_builtin; refine Hid.out ?_) | go_values | go_skip | go_guarded | go_step | go_upon | go_back)
          refine Lib.hid ?_
          refine wpList_pushL elWatch oneWatch rfl _ _ rfl base _ (([] ++ l.take l.length) ++ [x]) rfl L2h.out _ _ _ (l.drop l.length) (by first | exact HKD.out | (rw [HKD.out, Nat.sub_self])) rfl (HR2.out _ (by repeat (first | with_reducible exact Ext.refl _ | with_reducible refine Ext.lift ?_ _ | with_reducible refine Ext.alloc ?_ _ | with_reducible refine Ext.setCell ?_ (by first | (simp; done) | (simp; omega) | omega) _ | with_reducible refine ext_setCells (by first | (simp; done) | (simp; omega) | omega) _ _ _ ?_)) _) (by have := HE1.out; omega) (by have := HE2.out; omega) K2h.out ?_
          intro v3 w3 L3 s3 _
          have L3h := Lib.hid L3
          have hE3 := Lib.hid (s3 w (by repeat (first | with_reducible exact Ext.refl _ | with_reducible refine Ext.lift ?_ _ | with_reducible refine Ext.alloc ?_ _ | with_reducible refine Ext.setCell ?_ (by first | (simp; done) | (simp; omega) | omega) _ | with_reducible refine ext_setCells (by first | (simp; done) | (simp; omega) | omega) _ _ _ ?_)) (Nat.le_trans (size_le _ _) K0h.out))
          clear L3 s3
          have L4 : Hid (Lst 65 4 Watch.cell w3 base v3 V) := by show Lst _ _ _ _ _ _ _; rw [← hfin.out]; exact L3h.out
          clear L3h
          obtain ⟨aa, cc, rfl, hcc, -, RR, -⟩ := L4.out.shape
          have HV2 := Lib.hid (l26Ok_any aa cc V w3 RR hS2.out (by omega))
          have RRh := Lib.hid RR
          clear RR L4
          cases h6 : watList V
          · rw [h6] at HV2
            have hc := Lib.hid (hc6.out h6)
            go_wp2_with fail
            refine HV2.out.mono ?_
            rintro e w' ⟨rfl, y6, rfl⟩
            go_wp2_with fail
            go_ret2
            rw [hCh.out, hVh.out, hc.out.1, hc.out.2]
            exact (OutS.nil (T := 65) none 0 rfl (hE3.out.lift _)).read
          · rw [h6] at HV2
            have hc := Lib.hid (hc0.out h6)
            go_wp2_with fail
            refine HV2.out.mono ?_
            rintro e w' ⟨rfl, y6, rfl⟩
            go_wp2_with fail
            go_ret2
            rw [hCh.out, hVh.out, hc.out.1, hc.out.2]
            exact ⟨aa, cc, rfl, hcc, RRh.out.ext ((Ext.refl _).lift _), hE3.out.lift _⟩
end Go.Proofs.YtmkmmenkjbmppaaDoor
