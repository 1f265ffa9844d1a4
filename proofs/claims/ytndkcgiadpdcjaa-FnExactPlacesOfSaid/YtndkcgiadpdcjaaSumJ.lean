/- Chapter 28: sumsBy of the program, CausesBy, PlacesOf. -/
import Derived.Test.YtndkcgiadpdcjaaSumI
namespace Go.Proofs.Ytndkcgiadpdcjaa
open Go.RowKit Go.Maps
set_option maxRecDepth 100000 in
set_option maxHeartbeats 8000000 in
theorem sumsByCausesBy_any (w : World) (a : Option Addr) (cap : Nat) (l : List Incident) (H : IncidentAt w a l) (hsz : ∀ k, k < l.length → (nth l k).Small) (hn : l.length ≤ 1048576) :
    Calls Try.prog 32 #[.slice a l.length cap, .func (.func 33) #[] #[]] w (SumOut causeF l w) := by
  have HA := Lib.hid H
  have HV := Lib.hid fun (w' : World) (he : Ext w w') => ValidIncidents_any a cap l w' (H.ext he) hsz hn
  unfold SumOut
  clear hsz
  cases h1 : incidentList l
  · have hs := Lib.hid (sum_1 (f := causeF) h1)
    rw [h1] at HV
    clear h1
    go_enter Try.func32, Try.ntmps32
    go_wp2_with (go_at_call 41; refine (HV.out _ (by repeat (first | exact Ext.refl _ | refine Ext.lift ?_ _ | refine Ext.alloc ?_ _))).mono ?_; rintro e w' ⟨rfl, y, rfl⟩)
    go_ret3
    exact ⟨.slice none 0 0, .slice none 0 0, by rw [hs.out.1]; rfl, by rw [hs.out.2.1]; exact Lst.nil _ _, by rw [hs.out.2.2]; exact Lst.nil _ _, fun b e => (by cases e), (by repeat (first | exact Ext.refl _ | refine Ext.lift ?_ _ | refine Ext.alloc ?_ _))⟩
  · have hs := Lib.hid (sum_0 (f := causeF) h1)
    have hbd := Lib.hid (kv_bd cause_bd h1)
    have h48 := incident_len h1
    have hkv := Lib.hid fun k (hk : k < l.length) => kvTo_succ causeF hk
    have hkl := Lib.hid fun k (hk : k ≤ l.length) => kvTo_len causeF hk
    have hx := Lib.hid fun k (hk : k < l.length) => cause_bd _ (vAll_one (show vAll incidentB incB 48 l = true from h1) k hk)
    have hsn := Lib.hid fun k (hk : k < l.length) => incidentB_bd (vAll_one (show vAll incidentB incB 48 l = true from h1) k hk)
    have hmm := @run_makeMap Try.prog
    rw [h1] at HV
    clear h1
    go_enter Try.func32, Try.ntmps32
    go_wp2_with (go_at_call 41; refine (HV.out _ (by repeat (first | exact Ext.refl _ | refine Ext.lift ?_ _ | refine Ext.alloc ?_ _))).mono ?_; rintro e w' ⟨rfl, y, rfl⟩)
    have hm0 : ((lift w y).alloc (.map #[] 0)).ownsMap Try.prog 9 (plainElem (H := Unit) Try.prog 2) (w.heap.size + y.blocks.size) 0 (.map []) := by
      have := World.ownsMap_made (lift w y) Try.prog 9 (plainElem (H := Unit) Try.prog 2)
      rw [show (lift w y).heap.size = w.heap.size + y.blocks.size by simp] at this
      exact this
    have hm0 := Lib.hid hm0
    have hE0 := Lib.hid (((Ext.refl w).lift y).alloc (.map #[] 0))
    go_loopw [22] (fun i wr => ∃ (k : Nat) (D : DataW Unit), k ≤ l.length ∧ i = .int .i64 k ∧ Hid (wr.ownsMap Try.prog 9 (plainElem Try.prog 2) (w.heap.size + y.blocks.size) k D) ∧ Hid (Dk (kvTo causeF l k) D) ∧ Hid (Ext w wr)) (fun i _ => l.length - (intOf i).toNat)
    case atStart => exact ⟨0, _, Nat.zero_le _, rfl, hm0.out, Dk.nil, hE0.out⟩
    case round =>
      obtain ⟨k, D, hk, rfl, hown, hD, hE⟩ := hrel
      by_cases hlt : k < l.length
      · obtain ⟨b, off, rfl⟩ := HA.out.base hlt
        obtain ⟨hb, c0, c1, c2, c3, c4, c5⟩ := Incident.at (HA.out.ext hE.out) k hlt
        have hkv1 := Lib.hid (hkv.out k hlt)
        obtain ⟨v0, v1⟩ := hx.out k hlt
        have hbn := hsn.out k hlt
        have hkey : Hid (keyOf Try.prog 9 (.string (causeF (nth l k)).1) = some (.string (causeF (nth l k)).1.data.toList)) := Go.WideMaps.keyOf_string_mk Try.underlying9 (by show (nth l k).cause.size ≤ maxLen; unfold maxLen; omega)
        obtain ⟨t, ht⟩ : ∃ t, t = totF (kvTo causeF l k) (causeF (nth l k)).1 := ⟨_, rfl⟩
        have htb := totF_bd (m := 20) (by omega) (hbd.out k) (causeF (nth l k)).1
        rw [← ht, hkl.out k hk] at htb
        obtain ⟨t0, t1⟩ := htb
        have hval := Lib.hid (hD.out.val (causeF (nth l k)).1)
        have hD2 : Hid (Dk (kvTo causeF l (k + 1)) (D.put (.string (causeF (nth l k)).1.data.toList) (.lit (.int .i64 (totF (kvTo causeF l k) (causeF (nth l k)).1 + (causeF (nth l k)).2))))) := by
          rw [hkv1.out]; exact hD.out.add (causeF (nth l k)).1 (causeF (nth l k)).2
        rw [← ht] at hval hD2
        have hkm : k < maxLen := by unfold maxLen; omega
        have hwf : Hid ((Lit.int .i64 (t + (causeF (nth l k)).2)).wf = true) := by
          have h9 := wrap64_wf (t + (causeF (nth l k)).2)
          rw [show wrap64 (t + (causeF (nth l k)).2) = t + (causeF (nth l k)).2 by unfold wrap64; omega] at h9
          exact h9
        have HC := Lib.hid fun W => causeClo_any W (nth l k)
        clear hm0 hE0 hbd hkv hkl hx hsn hbn ht
        clear hkv1
        generalize (causeF (nth l k)).1 = kn at *
        generalize (causeF (nth l k)).2 = kc at *
        go_wp2_with (first
          | (go_at_call 33; refine (HC.out _).mono ?_; rintro e w2 ⟨rfl, hE2⟩; have hown2 := Lib.hid (ownsMap_ext hown.out (((Ext.refl wr).alloc _).trans hE2)); have hE3 := Lib.hid (hE.out.trans (((Ext.refl wr).alloc _).trans hE2)); clear hE2)
          | (at_lookup; refine wpList_lookup_own_int _ rfl _ _ 79 rfl 9 2 .i64 (string_keyed Try.underlying9) Try.underlying79 Try.underlying2 (Try.zeroValue2 _) (w.heap.size + y.blocks.size) k D rfl hown2.out _ _ rfl hkey.out ?_; intro c hat _; rw [hval.out] at hat; obtain rfl : t = c := (by injection hat with h7; injection h7); clear hat)
          | (at_mapUpdate; refine wpList_mapUpdate_own _ rfl _ _ _ 79 rfl 9 2 (string_keyed Try.underlying9) Try.underlying79 _ (w.heap.size + y.blocks.size) k D rfl hown2.out hkm _ _ _ rfl rfl hkey.out (.lit (.int .i64 (t + kc))) [] (plainElem_int Try.underlying2 hwf.out) ?_; intro w3 hown3 hgrow3; have hown4 := Lib.hid hown3; have hE4 := Lib.hid (hE3.out.grown hgrow3 (fun q e => by simp only [Option.some.injEq] at e; omega)); clear hown3 hgrow3))
        go_roundw
        case rel => exact ⟨k + 1, _, by omega, by go_num, hown4.out, hD2.out, hE4.out⟩
        case measure => simp [intOf]; omega
      · obtain rfl : k = l.length := by omega
        have HK := Lib.hid (mapKeys_any (some (w.heap.size + y.blocks.size)) wr)
        have HS := Lib.hid (sortedKeys_any (kvTo causeF l l.length) (w.heap.size + y.blocks.size) l.length D wr hD.out hown.out h48)
        have hNl := namesF_len (kvTo causeF l l.length)
        rw [hkl.out _ (Nat.le_refl _)] at hNl
        have hNz : Hid (∀ j, j < (namesF (kvTo causeF l l.length)).length → (nth (namesF (kvTo causeF l l.length)) j).size ≤ maxLen) := fun j hj => by
          have h1 := namesF_mem.1 (nth_mem hj)
          unfold kvTo at h1
          rw [List.map_map, List.mem_map] at h1
          obtain ⟨x, hx1, hx2⟩ := h1
          obtain ⟨q, hq, rfl⟩ := mem_nth (List.mem_of_mem_take hx1)
          have h2 := hsn.out q hq
          rw [show nth (namesF (kvTo causeF l l.length)) j = (nth l q).cause from hx2.symm]
          unfold maxLen; omega
        have hvS : Hid (∀ j, j < (namesF (kvTo causeF l l.length)).length → D.atKey (.string (nth (namesF (kvTo causeF l l.length)) j).data.toList) (.lit (.int .i64 0)) = .lit (.int .i64 (nth (sumsF (kvTo causeF l l.length)) j))) := fun j hj => by
          rw [hD.out.val]
          have h9 : j < (sumsF (kvTo causeF l l.length)).length := by rw [sumsF_len]; exact hj
          rw [nth_eq _ _ h9, nth_eq _ _ hj]
          simp only [sumsF, List.getElem_map]
        have hSl := Lib.hid (sumsF_len (kvTo causeF l l.length))
        clear hm0 hE0 hbd hkv hkl hx hsn hmm hD HA HV
        generalize namesF (kvTo causeF l l.length) = N at *
        generalize sumsF (kvTo causeF l l.length) = S at *
        go_wp2_with (first
          | (go_at_call 52; refine HK.out.mono ?_; rintro e w2 ⟨rfl, rfl⟩)
          | (go_at_call 51; refine HS.out.mono ?_; rintro e w3 ⟨v, rfl, hL3, hE3⟩; obtain ⟨na, nc, rfl, hnc, -, hRn, -⟩ := hL3.shape; have hRn := Lib.hid hRn; have L3 := Lib.hid hL3; have E3 := Lib.hid (hE.out.trans (((Ext.refl wr).alloc _).trans hE3)); have hown3 := Lib.hid (ownsMap_ext hown.out (((Ext.refl wr).alloc _).trans hE3)); have hsz3 : Hid (wr.heap.size + 1 ≤ w3.heap.size) := (by show _ ≤ _; have := hE3.size; rw [size_new] at this; exact this); clear hE3 hL3 HK HS))
        have hszr := hE.out.size
        go_loopw [13, 43] (fun o i wq => ∃ j : Nat, j ≤ N.length ∧ i = .int .i64 j ∧ Hid (Lst 2 1 celI wq w3.heap.size o (S.take j)) ∧ Hid (Ext w3 wq)) (fun _ i _ => N.length - (intOf i).toNat)
        case atStart => exact ⟨0, Nat.zero_le _, rfl, Lst.nil _ _, Ext.refl _⟩
        case round =>
          obtain ⟨j, hj, rfl, hLo, hEq⟩ := hrel
          by_cases hjt : j < N.length
          · obtain ⟨nb, no, rfl⟩ := hRn.out.base hjt
            obtain ⟨hnb, d0⟩ := StrAt.at (RowsAt.ext hRn.out hEq.out) j hjt
            have hjs : j < S.length := by have := hSl.out; omega
            have hownq := Lib.hid (ownsMap_ext hown3.out hEq.out)
            have hkey : Hid (keyOf Try.prog 9 (.string (nth N j)) = some (.string (nth N j).data.toList)) := Go.WideMaps.keyOf_string_mk Try.underlying9 (hNz.out j hjt)
            have hval := Lib.hid (hvS.out j hjt)
            have htk : Hid (S.take (j + 1) = S.take j ++ [nth S j]) := take_nth S j hjs
            have htl : Hid ((S.take j).length = j) := by show _ = _; rw [List.length_take]; omega
            have hHR := Lib.hid fun (t : Int) => rows_int (T := 2) wr t rfl
            have hLa := Lib.hid fun (t : Int) => hLo.out.ext ((Ext.refl wr).alloc (.cells #[.int .i64 t] 2))
            have hEa := Lib.hid fun (t : Int) => hEq.out.alloc (.cells #[.int .i64 t] 2)
            clear hown hown3 hvS hNz L3 E3
            generalize nth N j = nj at *
            generalize nth S j = t at *
            go_wp2_with (first
              | (at_lookup; refine wpList_lookup_own_int _ rfl _ _ 79 rfl 9 2 .i64 (string_keyed Try.underlying9) Try.underlying79 Try.underlying2 (Try.zeroValue2 _) (w.heap.size + y.blocks.size) l.length D rfl hownq.out _ _ rfl hkey.out ?_; intro c hat _; rw [hval.out] at hat; obtain rfl : t = c := (by injection hat with h7; injection h7); clear hat)
              | (at_builtin; refine wpList_pushQ elI oneI rfl _ _ rfl w3.heap.size _ (S.take j) (by rfl) (hLa.out t) _ 1 1 [t] rfl (by rfl) (hHR.out t) (by rw [htl.out]; omega) (by rw [htl.out]; omega) (hEa.out t).size ?_; intro v5 w5 hL5 hs5; have L5 := Lib.hid hL5; have E5 := Lib.hid (hs5 w3 (hEa.out t) (Nat.le_refl _)); clear hL5 hs5))
            go_roundw
            case rel => exact ⟨j + 1, by omega, by go_num, by rw [htk.out]; exact L5.out, E5.out⟩
            case measure => simp [intOf]; omega
          · obtain rfl : j = N.length := by omega
            obtain ⟨oa, om, oc, rfl⟩ := hLo.out.sl
            go_wp2_with fail
            go_ret3
            refine ⟨.slice na N.length nc, .slice oa om oc, by rw [hs.out.1]; rfl, by rw [hs.out.2.1]; exact (L3.out.low (by omega)).ext hEq.out, ?_, fun b e e2 => ?_, E3.out.trans hEq.out⟩
            · rw [hs.out.2.2]
              have h9 := hLo.out
              rw [← hSl.out, List.take_length] at h9
              exact h9.low (by have := hsz3.out; omega)
            · have h1 := hLo.out.ge b e
              have h2 := L3.out.lt b e2
              omega
set_option maxHeartbeats 1000000 in
theorem implCausesBy_any (w : World) (a : Option Addr) (cap : Nat) (l : List Incident) (H : IncidentAt w a l) (hsz : ∀ k, k < l.length → (nth l k).Small) (hn : l.length ≤ 1048576) :
    Calls Try.prog 9 #[.slice a l.length cap] w (SumOut causeF l w) := by
  have HC := Lib.hid (sumsByCausesBy_any w a cap l H hsz hn)
  clear H hsz
  go_enter Try.func9, Try.ntmps9
  go_wp2_with (go_at_call 32; refine HC.out.mono ?_; rintro e w2 ⟨vn, vs, rfl, r1, r2, r3, r4⟩; have r1 := Lib.hid r1; have r2 := Lib.hid r2; have r3 := Lib.hid r3; have r4 := Lib.hid r4)
  go_ret3
  exact ⟨vn, vs, rfl, r1.out, r2.out, r3.out, r4.out⟩
set_option maxRecDepth 100000 in
set_option maxHeartbeats 8000000 in
theorem sumsByPlacesOf_any (w : World) (a : Option Addr) (cap : Nat) (l : List Incident) (H : IncidentAt w a l) (hsz : ∀ k, k < l.length → (nth l k).Small) (hn : l.length ≤ 1048576) :
    Calls Try.prog 32 #[.slice a l.length cap, .func (.func 36) #[] #[]] w (SumOut placeF l w) := by
  have HA := Lib.hid H
  have HV := Lib.hid fun (w' : World) (he : Ext w w') => ValidIncidents_any a cap l w' (H.ext he) hsz hn
  unfold SumOut
  clear hsz
  cases h1 : incidentList l
  · have hs := Lib.hid (sum_1 (f := placeF) h1)
    rw [h1] at HV
    clear h1
    go_enter Try.func32, Try.ntmps32
    go_wp2_with (go_at_call 41; refine (HV.out _ (by repeat (first | exact Ext.refl _ | refine Ext.lift ?_ _ | refine Ext.alloc ?_ _))).mono ?_; rintro e w' ⟨rfl, y, rfl⟩)
    go_ret3
    exact ⟨.slice none 0 0, .slice none 0 0, by rw [hs.out.1]; rfl, by rw [hs.out.2.1]; exact Lst.nil _ _, by rw [hs.out.2.2]; exact Lst.nil _ _, fun b e => (by cases e), (by repeat (first | exact Ext.refl _ | refine Ext.lift ?_ _ | refine Ext.alloc ?_ _))⟩
  · have hs := Lib.hid (sum_0 (f := placeF) h1)
    have hbd := Lib.hid (kv_bd place_bd h1)
    have h48 := incident_len h1
    have hkv := Lib.hid fun k (hk : k < l.length) => kvTo_succ placeF hk
    have hkl := Lib.hid fun k (hk : k ≤ l.length) => kvTo_len placeF hk
    have hx := Lib.hid fun k (hk : k < l.length) => place_bd _ (vAll_one (show vAll incidentB incB 48 l = true from h1) k hk)
    have hsn := Lib.hid fun k (hk : k < l.length) => incidentB_bd (vAll_one (show vAll incidentB incB 48 l = true from h1) k hk)
    have hmm := @run_makeMap Try.prog
    rw [h1] at HV
    clear h1
    go_enter Try.func32, Try.ntmps32
    go_wp2_with (go_at_call 41; refine (HV.out _ (by repeat (first | exact Ext.refl _ | refine Ext.lift ?_ _ | refine Ext.alloc ?_ _))).mono ?_; rintro e w' ⟨rfl, y, rfl⟩)
    have hm0 : ((lift w y).alloc (.map #[] 0)).ownsMap Try.prog 9 (plainElem (H := Unit) Try.prog 2) (w.heap.size + y.blocks.size) 0 (.map []) := by
      have := World.ownsMap_made (lift w y) Try.prog 9 (plainElem (H := Unit) Try.prog 2)
      rw [show (lift w y).heap.size = w.heap.size + y.blocks.size by simp] at this
      exact this
    have hm0 := Lib.hid hm0
    have hE0 := Lib.hid (((Ext.refl w).lift y).alloc (.map #[] 0))
    go_loopw [22] (fun i wr => ∃ (k : Nat) (D : DataW Unit), k ≤ l.length ∧ i = .int .i64 k ∧ Hid (wr.ownsMap Try.prog 9 (plainElem Try.prog 2) (w.heap.size + y.blocks.size) k D) ∧ Hid (Dk (kvTo placeF l k) D) ∧ Hid (Ext w wr)) (fun i _ => l.length - (intOf i).toNat)
    case atStart => exact ⟨0, _, Nat.zero_le _, rfl, hm0.out, Dk.nil, hE0.out⟩
    case round =>
      obtain ⟨k, D, hk, rfl, hown, hD, hE⟩ := hrel
      by_cases hlt : k < l.length
      · obtain ⟨b, off, rfl⟩ := HA.out.base hlt
        obtain ⟨hb, c0, c1, c2, c3, c4, c5⟩ := Incident.at (HA.out.ext hE.out) k hlt
        have hkv1 := Lib.hid (hkv.out k hlt)
        obtain ⟨v0, v1⟩ := hx.out k hlt
        have hbn := hsn.out k hlt
        have hkey : Hid (keyOf Try.prog 9 (.string (placeF (nth l k)).1) = some (.string (placeF (nth l k)).1.data.toList)) := Go.WideMaps.keyOf_string_mk Try.underlying9 (by show (nth l k).place.size ≤ maxLen; unfold maxLen; omega)
        obtain ⟨t, ht⟩ : ∃ t, t = totF (kvTo placeF l k) (placeF (nth l k)).1 := ⟨_, rfl⟩
        have htb := totF_bd (m := 20) (by omega) (hbd.out k) (placeF (nth l k)).1
        rw [← ht, hkl.out k hk] at htb
        obtain ⟨t0, t1⟩ := htb
        have hval := Lib.hid (hD.out.val (placeF (nth l k)).1)
        have hD2 : Hid (Dk (kvTo placeF l (k + 1)) (D.put (.string (placeF (nth l k)).1.data.toList) (.lit (.int .i64 (totF (kvTo placeF l k) (placeF (nth l k)).1 + (placeF (nth l k)).2))))) := by
          rw [hkv1.out]; exact hD.out.add (placeF (nth l k)).1 (placeF (nth l k)).2
        rw [← ht] at hval hD2
        have hkm : k < maxLen := by unfold maxLen; omega
        have hwf : Hid ((Lit.int .i64 (t + (placeF (nth l k)).2)).wf = true) := by
          have h9 := wrap64_wf (t + (placeF (nth l k)).2)
          rw [show wrap64 (t + (placeF (nth l k)).2) = t + (placeF (nth l k)).2 by unfold wrap64; omega] at h9
          exact h9
        have HC := Lib.hid fun W => placeClo_any W (nth l k)
        clear hm0 hE0 hbd hkv hkl hx hsn hbn ht
        clear hkv1
        generalize (placeF (nth l k)).1 = kn at *
        generalize (placeF (nth l k)).2 = kc at *
        go_wp2_with (first
          | (go_at_call 36; refine (HC.out _).mono ?_; rintro e w2 ⟨rfl, hE2⟩; have hown2 := Lib.hid (ownsMap_ext hown.out (((Ext.refl wr).alloc _).trans hE2)); have hE3 := Lib.hid (hE.out.trans (((Ext.refl wr).alloc _).trans hE2)); clear hE2)
          | (at_lookup; refine wpList_lookup_own_int _ rfl _ _ 79 rfl 9 2 .i64 (string_keyed Try.underlying9) Try.underlying79 Try.underlying2 (Try.zeroValue2 _) (w.heap.size + y.blocks.size) k D rfl hown2.out _ _ rfl hkey.out ?_; intro c hat _; rw [hval.out] at hat; obtain rfl : t = c := (by injection hat with h7; injection h7); clear hat)
          | (at_mapUpdate; refine wpList_mapUpdate_own _ rfl _ _ _ 79 rfl 9 2 (string_keyed Try.underlying9) Try.underlying79 _ (w.heap.size + y.blocks.size) k D rfl hown2.out hkm _ _ _ rfl rfl hkey.out (.lit (.int .i64 (t + kc))) [] (plainElem_int Try.underlying2 hwf.out) ?_; intro w3 hown3 hgrow3; have hown4 := Lib.hid hown3; have hE4 := Lib.hid (hE3.out.grown hgrow3 (fun q e => by simp only [Option.some.injEq] at e; omega)); clear hown3 hgrow3))
        go_roundw
        case rel => exact ⟨k + 1, _, by omega, by go_num, hown4.out, hD2.out, hE4.out⟩
        case measure => simp [intOf]; omega
      · obtain rfl : k = l.length := by omega
        have HK := Lib.hid (mapKeys_any (some (w.heap.size + y.blocks.size)) wr)
        have HS := Lib.hid (sortedKeys_any (kvTo placeF l l.length) (w.heap.size + y.blocks.size) l.length D wr hD.out hown.out h48)
        have hNl := namesF_len (kvTo placeF l l.length)
        rw [hkl.out _ (Nat.le_refl _)] at hNl
        have hNz : Hid (∀ j, j < (namesF (kvTo placeF l l.length)).length → (nth (namesF (kvTo placeF l l.length)) j).size ≤ maxLen) := fun j hj => by
          have h1 := namesF_mem.1 (nth_mem hj)
          unfold kvTo at h1
          rw [List.map_map, List.mem_map] at h1
          obtain ⟨x, hx1, hx2⟩ := h1
          obtain ⟨q, hq, rfl⟩ := mem_nth (List.mem_of_mem_take hx1)
          have h2 := hsn.out q hq
          rw [show nth (namesF (kvTo placeF l l.length)) j = (nth l q).place from hx2.symm]
          unfold maxLen; omega
        have hvS : Hid (∀ j, j < (namesF (kvTo placeF l l.length)).length → D.atKey (.string (nth (namesF (kvTo placeF l l.length)) j).data.toList) (.lit (.int .i64 0)) = .lit (.int .i64 (nth (sumsF (kvTo placeF l l.length)) j))) := fun j hj => by
          rw [hD.out.val]
          have h9 : j < (sumsF (kvTo placeF l l.length)).length := by rw [sumsF_len]; exact hj
          rw [nth_eq _ _ h9, nth_eq _ _ hj]
          simp only [sumsF, List.getElem_map]
        have hSl := Lib.hid (sumsF_len (kvTo placeF l l.length))
        clear hm0 hE0 hbd hkv hkl hx hsn hmm hD HA HV
        generalize namesF (kvTo placeF l l.length) = N at *
        generalize sumsF (kvTo placeF l l.length) = S at *
        go_wp2_with (first
          | (go_at_call 52; refine HK.out.mono ?_; rintro e w2 ⟨rfl, rfl⟩)
          | (go_at_call 51; refine HS.out.mono ?_; rintro e w3 ⟨v, rfl, hL3, hE3⟩; obtain ⟨na, nc, rfl, hnc, -, hRn, -⟩ := hL3.shape; have hRn := Lib.hid hRn; have L3 := Lib.hid hL3; have E3 := Lib.hid (hE.out.trans (((Ext.refl wr).alloc _).trans hE3)); have hown3 := Lib.hid (ownsMap_ext hown.out (((Ext.refl wr).alloc _).trans hE3)); have hsz3 : Hid (wr.heap.size + 1 ≤ w3.heap.size) := (by show _ ≤ _; have := hE3.size; rw [size_new] at this; exact this); clear hE3 hL3 HK HS))
        have hszr := hE.out.size
        go_loopw [13, 43] (fun o i wq => ∃ j : Nat, j ≤ N.length ∧ i = .int .i64 j ∧ Hid (Lst 2 1 celI wq w3.heap.size o (S.take j)) ∧ Hid (Ext w3 wq)) (fun _ i _ => N.length - (intOf i).toNat)
        case atStart => exact ⟨0, Nat.zero_le _, rfl, Lst.nil _ _, Ext.refl _⟩
        case round =>
          obtain ⟨j, hj, rfl, hLo, hEq⟩ := hrel
          by_cases hjt : j < N.length
          · obtain ⟨nb, no, rfl⟩ := hRn.out.base hjt
            obtain ⟨hnb, d0⟩ := StrAt.at (RowsAt.ext hRn.out hEq.out) j hjt
            have hjs : j < S.length := by have := hSl.out; omega
            have hownq := Lib.hid (ownsMap_ext hown3.out hEq.out)
            have hkey : Hid (keyOf Try.prog 9 (.string (nth N j)) = some (.string (nth N j).data.toList)) := Go.WideMaps.keyOf_string_mk Try.underlying9 (hNz.out j hjt)
            have hval := Lib.hid (hvS.out j hjt)
            have htk : Hid (S.take (j + 1) = S.take j ++ [nth S j]) := take_nth S j hjs
            have htl : Hid ((S.take j).length = j) := by show _ = _; rw [List.length_take]; omega
            have hHR := Lib.hid fun (t : Int) => rows_int (T := 2) wr t rfl
            have hLa := Lib.hid fun (t : Int) => hLo.out.ext ((Ext.refl wr).alloc (.cells #[.int .i64 t] 2))
            have hEa := Lib.hid fun (t : Int) => hEq.out.alloc (.cells #[.int .i64 t] 2)
            clear hown hown3 hvS hNz L3 E3
            generalize nth N j = nj at *
            generalize nth S j = t at *
            go_wp2_with (first
              | (at_lookup; refine wpList_lookup_own_int _ rfl _ _ 79 rfl 9 2 .i64 (string_keyed Try.underlying9) Try.underlying79 Try.underlying2 (Try.zeroValue2 _) (w.heap.size + y.blocks.size) l.length D rfl hownq.out _ _ rfl hkey.out ?_; intro c hat _; rw [hval.out] at hat; obtain rfl : t = c := (by injection hat with h7; injection h7); clear hat)
              | (at_builtin; refine wpList_pushQ elI oneI rfl _ _ rfl w3.heap.size _ (S.take j) (by rfl) (hLa.out t) _ 1 1 [t] rfl (by rfl) (hHR.out t) (by rw [htl.out]; omega) (by rw [htl.out]; omega) (hEa.out t).size ?_; intro v5 w5 hL5 hs5; have L5 := Lib.hid hL5; have E5 := Lib.hid (hs5 w3 (hEa.out t) (Nat.le_refl _)); clear hL5 hs5))
            go_roundw
            case rel => exact ⟨j + 1, by omega, by go_num, by rw [htk.out]; exact L5.out, E5.out⟩
            case measure => simp [intOf]; omega
          · obtain rfl : j = N.length := by omega
            obtain ⟨oa, om, oc, rfl⟩ := hLo.out.sl
            go_wp2_with fail
            go_ret3
            refine ⟨.slice na N.length nc, .slice oa om oc, by rw [hs.out.1]; rfl, by rw [hs.out.2.1]; exact (L3.out.low (by omega)).ext hEq.out, ?_, fun b e e2 => ?_, E3.out.trans hEq.out⟩
            · rw [hs.out.2.2]
              have h9 := hLo.out
              rw [← hSl.out, List.take_length] at h9
              exact h9.low (by have := hsz3.out; omega)
            · have h1 := hLo.out.ge b e
              have h2 := L3.out.lt b e2
              omega
set_option maxHeartbeats 1000000 in
theorem implPlacesOf_any (w : World) (a : Option Addr) (cap : Nat) (l : List Incident) (H : IncidentAt w a l) (hsz : ∀ k, k < l.length → (nth l k).Small) (hn : l.length ≤ 1048576) :
    Calls Try.prog 19 #[.slice a l.length cap] w (SumOut placeF l w) := by
  have HC := Lib.hid (sumsByPlacesOf_any w a cap l H hsz hn)
  clear H hsz
  go_enter Try.func19, Try.ntmps19
  go_wp2_with (go_at_call 32; refine HC.out.mono ?_; rintro e w2 ⟨vn, vs, rfl, r1, r2, r3, r4⟩; have r1 := Lib.hid r1; have r2 := Lib.hid r2; have r3 := Lib.hid r3; have r4 := Lib.hid r4)
  go_ret3
  exact ⟨vn, vs, rfl, r1.out, r2.out, r3.out, r4.out⟩
end Go.Proofs.Ytndkcgiadpdcjaa
