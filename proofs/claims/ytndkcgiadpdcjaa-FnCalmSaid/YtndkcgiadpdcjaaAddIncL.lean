/- An incident more: AddIncident of the reference hands back a list in memory of its own. -/
import Derived.Test.YtndkcgiadpdcjaaIncL
import Derived.Test.YtndkcgiadpdcjaaAddInc
import Derived.Test.YtndkcgiadpdcjaaLstP
import Derived.Laws.AppendOwnNone
import Derived.Deep.RegionHeld3
namespace Go.Proofs.Ytndkcgiadpdcjaa
open Go.RowKit
set_option maxRecDepth 100000 in
set_option maxHeartbeats 8000000 in
theorem specAddIncident_lst (w : World) (a : Option Addr) (cap : Nat) (l : List Incident) (H : IncidentAt w a l) (hsz : ∀ k, k < l.length → (nth l k).Small) (hn : l.length ≤ 1048576) (hcap : l.length ≤ cap) (x : Incident) (hx : x.Small) :
    Calls Try.prog 54 #[.slice a l.length cap, .agg #[.int .i64 x.day, .string x.place, .string x.cause, .int .i64 x.level, .int .i64 x.caught, .int .i64 x.buried]] w fun e w' => ∃ v, e = .returned (.tuple #[v, .int .i64 (addIncC l x)]) ∧ Lst 44 6 Incident.cell w' w.heap.size v (addInc l x) ∧ Ext w w' := by
  have HA := Lib.hid H
  have HV := Lib.hid fun (w' : World) (he : Ext w w') => l28Ok_any a cap l w' (H.ext he) hsz hn
  have hne : Hid (addIncC l x ≠ 0 → addInc l x = []) := fun h => addV_no h
  have hyes : Hid (addIncC l x = 0 → addInc l x = l.take (lowB (incC x) l) ++ x :: l.drop (lowB (incC x) l)) := fun h => addV_yes h
  obtain ⟨C, hC⟩ : ∃ C, C = addIncC l x := ⟨_, rfl⟩
  obtain ⟨V, hV⟩ : ∃ V, V = addInc l x := ⟨_, rfl⟩
  rw [← hC, ← hV]
  have hCh := Lib.hid hC
  have hVh := Lib.hid hV
  clear H hsz hC hV
  cases h1 : incidentList l
  · have hc : Hid (C = 1) := hCh.out.trans (addC_1 h1)
    have hv : Hid (V = []) := hVh.out.trans (hne.out (by rw [← hCh.out, hc.out]; decide))
    rw [h1] at HV
    clear h1
    go_enter Try.func54, Try.ntmps54
    go_wp2_with (go_at_call 29; refine (HV.out _ (by repeat (first | exact Ext.refl _ | refine Ext.lift ?_ _ | refine Ext.alloc ?_ _))).mono ?_; rintro e w' ⟨rfl, y, rfl⟩)
    go_ret2
    rw [hc.out, hv.out]
    exact ⟨.slice none 0 0, rfl, Lst.nil _ _, (by repeat (first | exact Ext.refl _ | refine Ext.lift ?_ _ | refine Ext.alloc ?_ _))⟩
  rw [h1] at HV
  cases h2 : incidentB x
  · have hc : Hid (C = 2) := hCh.out.trans (addC_2 h1 h2)
    have hv : Hid (V = []) := hVh.out.trans (hne.out (by rw [← hCh.out, hc.out]; decide))
    clear h1
    go_enter Try.func54, Try.ntmps54
    go_wp2_with (first | (go_at_call 29; refine (HV.out _ (by repeat (first | exact Ext.refl _ | refine Ext.lift ?_ _ | refine Ext.alloc ?_ _))).mono ?_; rintro e w' ⟨rfl, y, rfl⟩) | (go_at_call 48; refine (l28One_anyS _ _ x _ hx (by go_simp) (by go_simp) (by go_simp) (by go_simp) (by go_simp) (by go_simp)).mono ?_; rintro e w' ⟨rfl, z, rfl⟩; rw [h2]))
    go_ret2
    rw [hc.out, hv.out]
    exact ⟨.slice none 0 0, rfl, Lst.nil _ _, (by repeat (first | exact Ext.refl _ | refine Ext.lift ?_ _ | refine Ext.alloc ?_ _))⟩
  have hso := Lib.hid (inc_sorted h1)
  have HS := Lib.hid h1
  have HX := Lib.hid h2
  clear h1
  have HO := Lib.hid fun (W : World) (n : Nat) (hn : n = W.heap.size) => (show Lst 44 6 Incident.cell (W.alloc (.cells #[] 44)) n (.slice (some ⟨n, 0, none⟩) 0 0) [] by subst hn; exact Lst.new W W.heap.size (Nat.le_refl _))
  have HX1 := Lib.hid fun (W : World) (n : Nat) (hn : n = W.heap.size) => (show RowsAt 6 Incident.cell (W.alloc (.cells #[.int .i64 x.day, .string x.place, .string x.cause, .int .i64 x.level, .int .i64 x.caught, .int .i64 x.buried] 44)) (some ⟨n, 0, none⟩) [x] by subst hn; exact rows_new W #[.int .i64 x.day, .string x.place, .string x.cause, .int .i64 x.level, .int .i64 x.caught, .int .i64 x.buried] x (fun j hj => by rcases (show j = 0 ∨ j = 1 ∨ j = 2 ∨ j = 3 ∨ j = 4 ∨ j = 5 by omega) with rfl | rfl | rfl | rfl | rfl | rfl <;> rfl))
  go_enter Try.func54, Try.ntmps54
  go_wp2_with (first | (go_at_call 29; refine (HV.out _ (by repeat (first | exact Ext.refl _ | refine Ext.lift ?_ _ | refine Ext.alloc ?_ _))).mono ?_; rintro e w' ⟨rfl, y, rfl⟩) | (go_at_call 48; refine (l28One_anyS _ _ x _ hx (by go_simp) (by go_simp) (by go_simp) (by go_simp) (by go_simp) (by go_simp)).mono ?_; rintro e w' ⟨rfl, z, rfl⟩; rw [h2]))
  clear HV h2
  go_loopw [6] (fun i wr => ∃ k : Nat, k ≤ l.length ∧ i = .int .i64 k ∧ Hid (∀ t, t < k → incC x (nth l t) < 0) ∧ Ext (w.alloc (.cells #[.int .i64 x.day, .string x.place, .string x.cause, .int .i64 x.level, .int .i64 x.caught, .int .i64 x.buried] 44)) wr) (fun i _ => l.length - (intOf i).toNat)
  case atStart => exact ⟨0, Nat.zero_le _, rfl, upto_zero, (by repeat (first | exact Ext.refl _ | refine Ext.lift ?_ _ | refine Ext.alloc ?_ _))⟩
  case round =>
    obtain ⟨k, hk, rfl, hall, he0⟩ := hrel
    obtain ⟨yk, rfl⟩ := he0
    rcases Nat.lt_or_ge k l.length with hlt | hge
    · obtain ⟨b, off, rfl⟩ := HA.out.base hlt
      obtain ⟨hb, c0, c1, c2, c3, c4, c5⟩ := Incident.at (HA.out.ext (show Ext w (lift (w.alloc (.cells #[.int .i64 x.day, .string x.place, .string x.cause, .int .i64 x.level, .int .i64 x.caught, .int .i64 x.buried] 44)) yk) from (by repeat (first | exact Ext.refl _ | refine Ext.lift ?_ _ | refine Ext.alloc ?_ _)))) k hlt
      simp at hb
      have hd : decide (k < l.length) = true := decide_eq_true hlt
      rcases (show incB (nth l k) x = true ∨ incB (nth l k) x = false by cases incB (nth l k) x <;> simp) with hq | hq
      · have hn2 : Hid (incC x (nth l k) < 0) := incK_lt.2 hq
        go_wp2_with fail
        refine (l28Before_any b (off + k * 6) _ _ (nth l k) x _ (by go_simp) (by go_simp) (by go_simp) (by go_simp) (by go_simp) (by go_simp)).mono ?_
        rintro e w' ⟨rfl, y9, rfl⟩
        rw [hq]
        go_wp2_with fail
        go_roundw
        case rel => exact ⟨k + 1, by omega, by go_num, upto_succ hall.out hn2.out, (by repeat (first | exact Ext.refl _ | refine Ext.lift ?_ _ | refine Ext.alloc ?_ _))⟩
        case measure => simp [intOf]; omega
      · have hlow : Hid (k = lowB (incC x) l) := posOf_eq hk (fun t ht => decide_eq_true (hall.out t ht)) (fun _ => decide_eq_false (fun h => by rw [incK_lt.1 h] at hq; cases hq))
        rcases (show incB x (nth l k) = true ∨ incB x (nth l k) = false by cases incB x (nth l k) <;> simp) with he2 | he2
        · have hh : Hid (hitB (incC x) l = false) := (hitB_at hlow.out hlt (show (incK _ _ == 0) = false by rw [incK_eq hq, he2]; rfl)).symm
          by_cases h48 : l.length = 48
          · have hc : Hid (C = 5) := hCh.out.trans (addC_5 HS.out HX.out hh.out h48)
            have hv : Hid (V = []) := hVh.out.trans (hne.out (by rw [← hCh.out, hc.out]; decide))
            have h48' : ((l.length : Int) == 48) = true := by rw [h48]; rfl
            clear h48
            go_wp2_with fail
            refine (l28Before_any b (off + k * 6) _ _ (nth l k) x _ (by go_simp) (by go_simp) (by go_simp) (by go_simp) (by go_simp) (by go_simp)).mono ?_
            rintro e w' ⟨rfl, y9, rfl⟩
            rw [hq]
            go_wp2_with fail
            refine (l28Before_any _ _ b (off + k * 6) x (nth l k) _ (by go_simp) (by go_simp) (by go_simp) (by go_simp) (by go_simp) (by go_simp)).mono ?_
            rintro e w' ⟨rfl, y8, rfl⟩
            rw [he2]
            go_wp2_with fail
            go_ret2
            rw [hc.out, hv.out]
            exact ⟨.slice none 0 0, rfl, Lst.nil _ _, (by repeat (first | exact Ext.refl _ | refine Ext.lift ?_ _ | refine Ext.alloc ?_ _))⟩
          · have hc : Hid (C = 0) := hCh.out.trans (addC_0 HS.out HX.out hh.out h48)
            have hv := Lib.hid (hVh.out.trans (hyes.out (by rw [← hCh.out, hc.out])))
            have h48' : ((l.length : Int) == 48) = false := by rw [beq_eq_false_iff_ne]; omega
            clear h48
            have HR1 := Lib.hid fun (W : World) (he : Ext w W) => (HA.out.ext he).take k
            have HR2 := Lib.hid fun (W : World) (he : Ext w W) (_ : Unit) => (HA.out.ext he).drop k
            have hci : ¬ (cap = k) := by omega
            go_wp2_with fail
            refine (l28Before_any b (off + k * 6) _ _ (nth l k) x _ (by go_simp) (by go_simp) (by go_simp) (by go_simp) (by go_simp) (by go_simp)).mono ?_
            rintro e w' ⟨rfl, y9, rfl⟩
            rw [hq]
            go_wp2_with fail
            refine (l28Before_any _ _ b (off + k * 6) x (nth l k) _ (by go_simp) (by go_simp) (by go_simp) (by go_simp) (by go_simp) (by go_simp)).mono ?_
            rintro e w' ⟨rfl, y8, rfl⟩
            rw [he2]
            try dsimp only
            repeat (first | (at_builtin; refine Hid.out ?_) | go_values | go_skip | go_guarded | go_step | go_upon | go_back)
            refine Lib.hid ?_
            clear hd hq he2
            have HC1 : Hid (([] : List Incident).length + k ≤ 9223372036854775807) := by show _ ≤ _; rw [List.length_nil]; omega
            have HC2 : Hid ((([] : List Incident).length + k) * 64 ≤ 140737488355328) := by show _ ≤ _; rw [List.length_nil]; omega
            have htl : (([] : List Incident) ++ l.take k).length = k := by rw [List.nil_append, List.length_take]; omega
            have htl3 : (([] : List Incident) ++ l.take k ++ [x]).length = k + 1 := by rw [List.length_append, htl]; rfl
            have HK : Hid ((l.take k).length = k) := by show _ = _; rw [List.length_take]; omega
            have HD1 : Hid ((([] : List Incident) ++ l.take k).length + 1 ≤ 9223372036854775807) := by show _ ≤ _; rw [htl]; omega
            have HD2 : Hid (((([] : List Incident) ++ l.take k).length + 1) * 64 ≤ 140737488355328) := by show _ ≤ _; rw [htl]; omega
            have HE1 : Hid ((([] : List Incident) ++ l.take k ++ [x]).length + (l.length - k) ≤ 9223372036854775807) := by show _ ≤ _; rw [htl3]; omega
            have HE2 : Hid (((([] : List Incident) ++ l.take k ++ [x]).length + (l.length - k)) * 64 ≤ 140737488355328) := by show _ ≤ _; rw [htl3]; omega
            have HKD : Hid ((l.drop k).length = l.length - k) := by show _ = _; rw [List.length_drop]
            have hfin : Hid ((([] : List Incident) ++ l.take k ++ [x]) ++ l.drop k = V) := by show _ = _; rw [hv.out, ← hlow.out]; simp
            clear htl htl3
            try dsimp only
            repeat (first | (at_builtin; refine Hid.out ?_) | go_values | go_skip | go_guarded | go_step | go_upon | go_back)
            refine Lib.hid ?_
            refine wpList_pushL elIncident oneIncident rfl _ _ rfl _ _ [] rfl (HO.out _ _ (by first | (simp; done) | (simp; omega))) _ k _ (l.take k) HK.out rfl (HR1.out _ (by repeat (first | with_reducible exact Ext.refl _ | with_reducible refine Ext.lift ?_ _ | with_reducible refine Ext.alloc ?_ _ | with_reducible refine Ext.setCell ?_ (by first | (simp; done) | (simp; omega) | omega) _ | with_reducible refine ext_setCells (by first | (simp; done) | (simp; omega) | omega) _ _ _ ?_))) HC1.out HC2.out (by first | (simp; done) | (simp; omega)) ?_
            intro v1 w1 L1 s1 g1
            obtain ⟨base, G1, K0, K1, E1⟩ : ∃ base, Lst 44 6 Incident.cell w1 base v1 ([] ++ l.take k) ∧ (w.alloc (.cells #[.int .i64 x.day, .string x.place, .string x.cause, .int .i64 x.level, .int .i64 x.caught, .int .i64 x.buried] 44)).heap.size ≤ base ∧ base ≤ w1.heap.size ∧ Ext (w.alloc (.cells #[.int .i64 x.day, .string x.place, .string x.cause, .int .i64 x.level, .int .i64 x.caught, .int .i64 x.buried] 44)) w1 :=
              ⟨_, L1, (by first | (simp; done) | (simp; omega)), Nat.le_trans (by first | (simp; done) | (simp; omega)) g1.size, s1 _ (by repeat (first | with_reducible exact Ext.refl _ | with_reducible refine Ext.lift ?_ _ | with_reducible refine Ext.alloc ?_ _ | with_reducible refine Ext.setCell ?_ (by first | (simp; done) | (simp; omega) | omega) _ | with_reducible refine ext_setCells (by first | (simp; done) | (simp; omega) | omega) _ _ _ ?_)) (by first | (simp; done) | (simp; omega))⟩
            obtain ⟨y1, rfl⟩ := E1
            have L1h := Lib.hid G1
            have K1h := Lib.hid K1
            have K0h := Lib.hid K0
            clear L1 s1 g1 G1 K1 K0 HO
            try dsimp only
            repeat (first | (at_builtin; refine Hid.out ?_) | go_values | go_skip | go_guarded | go_step | go_upon | go_back)
            refine Lib.hid ?_
            refine wpList_pushL elIncident oneIncident rfl _ _ rfl base _ ([] ++ l.take k) rfl (L1h.out.ext ((Ext.refl _).alloc _)) _ 1 1 [x] rfl rfl (HX1.out _ _ (by first | (simp; done) | (simp; omega))) HD1.out HD2.out (Nat.le_trans K1h.out (size_le _ _)) ?_
            intro v2 w2 L2 s2 g2
            obtain ⟨L2h, K2h, E2⟩ : Hid (Lst 44 6 Incident.cell w2 base v2 (([] ++ l.take k) ++ [x])) ∧ Hid (base ≤ w2.heap.size) ∧ Ext (w.alloc (.cells #[.int .i64 x.day, .string x.place, .string x.cause, .int .i64 x.level, .int .i64 x.caught, .int .i64 x.buried] 44)) w2 :=
              ⟨L2, Nat.le_trans (Nat.le_trans K1h.out (size_le _ _)) g2.size, s2 _ (by repeat (first | with_reducible exact Ext.refl _ | with_reducible refine Ext.lift ?_ _ | with_reducible refine Ext.alloc ?_ _ | with_reducible refine Ext.setCell ?_ (by first | (simp; done) | (simp; omega) | omega) _ | with_reducible refine ext_setCells (by first | (simp; done) | (simp; omega) | omega) _ _ _ ?_)) K0h.out⟩
            obtain ⟨y2, rfl⟩ := E2
            clear L2 s2 g2 L1h K1h
            try dsimp only
            repeat (first | (at_builtin; refine Hid.out ?_) | go_values | go_skip | go_guarded | go_step | go_upon | go_back)
            refine Lib.hid ?_
            refine wpList_pushL elIncident oneIncident rfl _ _ rfl base _ (([] ++ l.take k) ++ [x]) rfl L2h.out _ _ _ (l.drop k) (by first | exact HKD.out | (rw [HKD.out, Nat.sub_self])) rfl (HR2.out _ (by repeat (first | with_reducible exact Ext.refl _ | with_reducible refine Ext.lift ?_ _ | with_reducible refine Ext.alloc ?_ _ | with_reducible refine Ext.setCell ?_ (by first | (simp; done) | (simp; omega) | omega) _ | with_reducible refine ext_setCells (by first | (simp; done) | (simp; omega) | omega) _ _ _ ?_)) ()) (by have := HE1.out; omega) (by have := HE2.out; omega) K2h.out ?_
            intro v3 w3 L3 s3 _
            have L3h := Lib.hid L3
            have hE3 := Lib.hid (s3 w (by repeat (first | with_reducible exact Ext.refl _ | with_reducible refine Ext.lift ?_ _ | with_reducible refine Ext.alloc ?_ _ | with_reducible refine Ext.setCell ?_ (by first | (simp; done) | (simp; omega) | omega) _ | with_reducible refine ext_setCells (by first | (simp; done) | (simp; omega) | omega) _ _ _ ?_)) (Nat.le_trans (size_le _ _) K0h.out))
            clear L3 s3
            go_wp2_with fail
            go_ret2
            rw [hc.out]
            rw [← hfin.out]
            exact ⟨_, rfl, L3h.out.low (Nat.le_trans (size_le _ _) K0h.out), hE3.out⟩
        · have hc : Hid (C = 4) := hCh.out.trans (addC_4 HS.out HX.out (hitB_at hlow.out hlt (show (incK _ _ == 0) = true by rw [incK_eq hq, he2]; rfl)).symm)
          have hv : Hid (V = []) := hVh.out.trans (hne.out (by rw [← hCh.out, hc.out]; decide))
          go_wp2_with fail
          refine (l28Before_any b (off + k * 6) _ _ (nth l k) x _ (by go_simp) (by go_simp) (by go_simp) (by go_simp) (by go_simp) (by go_simp)).mono ?_
          rintro e w' ⟨rfl, y9, rfl⟩
          rw [hq]
          go_wp2_with fail
          refine (l28Before_any _ _ b (off + k * 6) x (nth l k) _ (by go_simp) (by go_simp) (by go_simp) (by go_simp) (by go_simp) (by go_simp)).mono ?_
          rintro e w' ⟨rfl, y8, rfl⟩
          rw [he2]
          go_wp2_with fail
          go_ret2
          rw [hc.out, hv.out]
          exact ⟨.slice none 0 0, rfl, Lst.nil _ _, (by repeat (first | exact Ext.refl _ | refine Ext.lift ?_ _ | refine Ext.alloc ?_ _))⟩
    · obtain rfl : k = l.length := by omega
      have hlow : Hid (l.length = lowB (incC x) l) := posOf_eq (Nat.le_refl _) (fun t ht => decide_eq_true (hall.out t ht)) (fun h => absurd h (Nat.lt_irrefl _))
      have hh : Hid (hitB (incC x) l = false) := (hitB_end hlow.out (Nat.lt_irrefl _)).symm
      by_cases h48 : l.length = 48
      · have hc : Hid (C = 5) := hCh.out.trans (addC_5 HS.out HX.out hh.out h48)
        have hv : Hid (V = []) := hVh.out.trans (hne.out (by rw [← hCh.out, hc.out]; decide))
        have h48' : ((l.length : Int) == 48) = true := by rw [h48]; rfl
        clear h48
        go_wp2_with fail
        go_ret2
        rw [hc.out, hv.out]
        exact ⟨.slice none 0 0, rfl, Lst.nil _ _, (by repeat (first | exact Ext.refl _ | refine Ext.lift ?_ _ | refine Ext.alloc ?_ _))⟩
      · have hc : Hid (C = 0) := hCh.out.trans (addC_0 HS.out HX.out hh.out h48)
        have hv := Lib.hid (hVh.out.trans (hyes.out (by rw [← hCh.out, hc.out])))
        have h48' : ((l.length : Int) == 48) = false := by rw [beq_eq_false_iff_ne]; omega
        clear h48
        cases a with
        | none =>
          have h0 : l = [] := by
            cases l with
            | nil => rfl
            | cons z r => obtain ⟨b, off, h⟩ := HA.out.base (show 0 < (z :: r).length by simp); cases h
          subst h0
          try dsimp only
          repeat (first | (at_builtin; refine Hid.out ?_) | go_values | go_skip | go_guarded | go_step | go_upon | go_back)
          refine Lib.hid ?_
          have HD1 : Hid ((([] : List Incident)).length + 1 ≤ 9223372036854775807) := by show _ ≤ _; rw [List.length_nil]; omega
          have HD2 : Hid (((([] : List Incident)).length + 1) * 64 ≤ 140737488355328) := by show _ ≤ _; rw [List.length_nil]; omega
          have hfin : Hid (([] : List Incident) ++ [x] = V) := by show _ = _; rw [hv.out]; simp
          try dsimp only
          repeat (first | (at_builtin; refine Hid.out ?_) | go_values | go_skip | go_guarded | go_step | go_upon | go_back)
          refine Lib.hid ?_
          refine wpList_push_none elIncident rfl _ _ rfl _ _ [] rfl (HO.out _ _ (by first | (simp; done) | (simp; omega))) _ rfl ?_
          try dsimp only
          repeat (first | (at_builtin; refine Hid.out ?_) | go_values | go_skip | go_guarded | go_step | go_upon | go_back)
          refine Lib.hid ?_
          refine wpList_pushL elIncident oneIncident rfl _ _ rfl _ _ [] rfl ((HO.out _ _ (by first | (simp; done) | (simp; omega))).ext ((Ext.refl _).alloc _)) _ 1 1 [x] rfl rfl (HX1.out _ _ (by first | (simp; done) | (simp; omega))) HD1.out HD2.out (by first | exact Nat.le_trans (size_le _ _) (size_le _ _) | (simp; done) | (simp; omega)) ?_
          intro v2 w2 L2 s2 g2
          have hE2 := Lib.hid (s2 w (by repeat (first | with_reducible exact Ext.refl _ | with_reducible refine Ext.lift ?_ _ | with_reducible refine Ext.alloc ?_ _ | with_reducible refine Ext.setCell ?_ (by first | (simp; done) | (simp; omega) | omega) _ | with_reducible refine ext_setCells (by first | (simp; done) | (simp; omega) | omega) _ _ _ ?_)) (by first | omega | (simp; done) | (simp; omega) | omega))
          have L2h := Lib.hid L2
          clear L2 s2 g2
          try dsimp only
          repeat (first | (at_builtin; refine Hid.out ?_) | go_values | go_skip | go_guarded | go_step | go_upon | go_back)
          refine Lib.hid ?_
          refine wpList_push_none elIncident rfl _ _ rfl _ _ _ rfl L2h.out _ rfl ?_
          go_wp2_with fail
          go_ret2
          rw [hc.out]
          rw [← hfin.out]
          exact ⟨_, rfl, L2h.out.low (by first | exact Nat.le_refl _ | exact size_le _ _ | exact Nat.le_trans (size_le _ _) (size_le _ _) | exact Nat.le_trans (size_le _ _) (Nat.le_of_eq (by simp)) | exact Ext.size (by repeat (first | exact Ext.refl _ | refine Ext.lift ?_ _ | refine Ext.alloc ?_ _)) | omega | (trace_state; done) | (simp; omega)), hE2.out⟩
        | some ad =>
          obtain ⟨b, off, sp⟩ := ad
          have HR1 := Lib.hid fun (W : World) (he : Ext w W) => (HA.out.ext he).take l.length
          have HR2 := Lib.hid fun (W : World) (_ : Ext w W) (a' : Option Addr) => (show RowsAt 6 Incident.cell W a' (l.drop l.length) by rw [List.drop_length]; exact RowsAt.nil)
          by_cases hci : cap = l.length
          all_goals
            try dsimp only
            repeat (first | (at_builtin; refine Hid.out ?_) | go_values | go_skip | go_guarded | go_step | go_upon | go_back)
            refine Lib.hid ?_
            have HC1 : Hid (([] : List Incident).length + l.length ≤ 9223372036854775807) := by show _ ≤ _; rw [List.length_nil]; omega
            have HC2 : Hid ((([] : List Incident).length + l.length) * 64 ≤ 140737488355328) := by show _ ≤ _; rw [List.length_nil]; omega
            have htl : (([] : List Incident) ++ l.take l.length).length = l.length := by rw [List.nil_append, List.length_take]; omega
            have htl3 : (([] : List Incident) ++ l.take l.length ++ [x]).length = l.length + 1 := by rw [List.length_append, htl]; rfl
            have HK : Hid ((l.take l.length).length = l.length) := by show _ = _; rw [List.length_take]; omega
            have HD1 : Hid ((([] : List Incident) ++ l.take l.length).length + 1 ≤ 9223372036854775807) := by show _ ≤ _; rw [htl]; omega
            have HD2 : Hid (((([] : List Incident) ++ l.take l.length).length + 1) * 64 ≤ 140737488355328) := by show _ ≤ _; rw [htl]; omega
            have HE1 : Hid ((([] : List Incident) ++ l.take l.length ++ [x]).length + (l.length - l.length) ≤ 9223372036854775807) := by show _ ≤ _; rw [htl3]; omega
            have HE2 : Hid (((([] : List Incident) ++ l.take l.length ++ [x]).length + (l.length - l.length)) * 64 ≤ 140737488355328) := by show _ ≤ _; rw [htl3]; omega
            have HKD : Hid ((l.drop l.length).length = l.length - l.length) := by show _ = _; rw [List.length_drop]
            have hfin : Hid ((([] : List Incident) ++ l.take l.length ++ [x]) ++ l.drop l.length = V) := by show _ = _; rw [hv.out, ← hlow.out]; simp
            clear htl htl3
            try dsimp only
            repeat (first | (at_builtin; refine Hid.out ?_) | go_values | go_skip | go_guarded | go_step | go_upon | go_back)
            refine Lib.hid ?_
            refine wpList_pushL elIncident oneIncident rfl _ _ rfl _ _ [] rfl (HO.out _ _ (by first | (simp; done) | (simp; omega))) _ l.length _ (l.take l.length) HK.out rfl (HR1.out _ (by repeat (first | with_reducible exact Ext.refl _ | with_reducible refine Ext.lift ?_ _ | with_reducible refine Ext.alloc ?_ _ | with_reducible refine Ext.setCell ?_ (by first | (simp; done) | (simp; omega) | omega) _ | with_reducible refine ext_setCells (by first | (simp; done) | (simp; omega) | omega) _ _ _ ?_))) HC1.out HC2.out (by first | (simp; done) | (simp; omega)) ?_
            intro v1 w1 L1 s1 g1
            obtain ⟨base, G1, K0, K1, E1⟩ : ∃ base, Lst 44 6 Incident.cell w1 base v1 ([] ++ l.take l.length) ∧ (w.alloc (.cells #[.int .i64 x.day, .string x.place, .string x.cause, .int .i64 x.level, .int .i64 x.caught, .int .i64 x.buried] 44)).heap.size ≤ base ∧ base ≤ w1.heap.size ∧ Ext (w.alloc (.cells #[.int .i64 x.day, .string x.place, .string x.cause, .int .i64 x.level, .int .i64 x.caught, .int .i64 x.buried] 44)) w1 :=
              ⟨_, L1, (by first | (simp; done) | (simp; omega)), Nat.le_trans (by first | (simp; done) | (simp; omega)) g1.size, s1 _ (by repeat (first | with_reducible exact Ext.refl _ | with_reducible refine Ext.lift ?_ _ | with_reducible refine Ext.alloc ?_ _ | with_reducible refine Ext.setCell ?_ (by first | (simp; done) | (simp; omega) | omega) _ | with_reducible refine ext_setCells (by first | (simp; done) | (simp; omega) | omega) _ _ _ ?_)) (by first | (simp; done) | (simp; omega))⟩
            obtain ⟨y1, rfl⟩ := E1
            have L1h := Lib.hid G1
            have K1h := Lib.hid K1
            have K0h := Lib.hid K0
            clear L1 s1 g1 G1 K1 K0 HO
            try dsimp only
            repeat (first | (at_builtin; refine Hid.out ?_) | go_values | go_skip | go_guarded | go_step | go_upon | go_back)
            refine Lib.hid ?_
            refine wpList_pushL elIncident oneIncident rfl _ _ rfl base _ ([] ++ l.take l.length) rfl (L1h.out.ext ((Ext.refl _).alloc _)) _ 1 1 [x] rfl rfl (HX1.out _ _ (by first | (simp; done) | (simp; omega))) HD1.out HD2.out (Nat.le_trans K1h.out (size_le _ _)) ?_
            intro v2 w2 L2 s2 g2
            obtain ⟨L2h, K2h, E2⟩ : Hid (Lst 44 6 Incident.cell w2 base v2 (([] ++ l.take l.length) ++ [x])) ∧ Hid (base ≤ w2.heap.size) ∧ Ext (w.alloc (.cells #[.int .i64 x.day, .string x.place, .string x.cause, .int .i64 x.level, .int .i64 x.caught, .int .i64 x.buried] 44)) w2 :=
              ⟨L2, Nat.le_trans (Nat.le_trans K1h.out (size_le _ _)) g2.size, s2 _ (by repeat (first | with_reducible exact Ext.refl _ | with_reducible refine Ext.lift ?_ _ | with_reducible refine Ext.alloc ?_ _ | with_reducible refine Ext.setCell ?_ (by first | (simp; done) | (simp; omega) | omega) _ | with_reducible refine ext_setCells (by first | (simp; done) | (simp; omega) | omega) _ _ _ ?_)) K0h.out⟩
            obtain ⟨y2, rfl⟩ := E2
            clear L2 s2 g2 L1h K1h
            try dsimp only
            repeat (first | (at_builtin; refine Hid.out ?_) | go_values | go_skip | go_guarded | go_step | go_upon | go_back)
            refine Lib.hid ?_
            refine wpList_pushL elIncident oneIncident rfl _ _ rfl base _ (([] ++ l.take l.length) ++ [x]) rfl L2h.out _ _ _ (l.drop l.length) (by first | exact HKD.out | (rw [HKD.out, Nat.sub_self])) rfl (HR2.out _ (by repeat (first | with_reducible exact Ext.refl _ | with_reducible refine Ext.lift ?_ _ | with_reducible refine Ext.alloc ?_ _ | with_reducible refine Ext.setCell ?_ (by first | (simp; done) | (simp; omega) | omega) _ | with_reducible refine ext_setCells (by first | (simp; done) | (simp; omega) | omega) _ _ _ ?_)) _) (by have := HE1.out; omega) (by have := HE2.out; omega) K2h.out ?_
            intro v3 w3 L3 s3 _
            have L3h := Lib.hid L3
            have hE3 := Lib.hid (s3 w (by repeat (first | with_reducible exact Ext.refl _ | with_reducible refine Ext.lift ?_ _ | with_reducible refine Ext.alloc ?_ _ | with_reducible refine Ext.setCell ?_ (by first | (simp; done) | (simp; omega) | omega) _ | with_reducible refine ext_setCells (by first | (simp; done) | (simp; omega) | omega) _ _ _ ?_)) (Nat.le_trans (size_le _ _) K0h.out))
            clear L3 s3
            go_wp2_with fail
            go_ret2
            rw [hc.out]
            rw [← hfin.out]
            exact ⟨_, rfl, L3h.out.low (Nat.le_trans (size_le _ _) K0h.out), hE3.out⟩
end Go.Proofs.Ytndkcgiadpdcjaa
