/- Chapter 28: CausesBy and PlacesOf of the reference. -/
import Derived.Test.YtndkcgiadpdcjaaSumS
namespace Go.Proofs.Ytndkcgiadpdcjaa
open Go.RowKit
theorem kv_bd {f : Incident → ByteArray × Int} {l : List Incident} (hf : ∀ x, incidentB x = true → 0 ≤ (f x).2 ∧ (f x).2 ≤ 20) (h : incidentList l = true) (k : Nat) : ∀ p ∈ kvTo f l k, 0 ≤ p.2 ∧ p.2 ≤ 20 := by
  intro p hp
  unfold kvTo at hp
  obtain ⟨x, hx, rfl⟩ := List.mem_map.1 hp
  obtain ⟨j, hj, rfl⟩ := mem_nth (List.mem_of_mem_take hx)
  exact hf _ (vAll_one (show vAll incidentB incB 48 l = true from h) j hj)
theorem cause_bd : ∀ x, incidentB x = true → 0 ≤ (causeF x).2 ∧ (causeF x).2 ≤ 20 := fun x h => (incidentB_bd h).2.2.2.2.1
theorem place_bd : ∀ x, incidentB x = true → 0 ≤ (placeF x).2 ∧ (placeF x).2 ≤ 20 := fun _ _ => by show (0 : Int) ≤ 1 ∧ (1 : Int) ≤ 20; omega
/-- What the sums by names hand back: two lists in memory of their own. -/
def SumOut (f : Incident → ByteArray × Int) (l : List Incident) (w : World) (e : Ending) (w' : World) : Prop :=
  ∃ vn vs, e = .returned (.tuple #[vn, vs, .int .i64 (sumC l)]) ∧ Lst 9 1 cellS w' w.heap.size vn (sumN f l) ∧ Lst 2 1 celI w' w.heap.size vs (sumV f l) ∧ (∀ b, vs.ownBlock = some b → vn.ownBlock ≠ some b) ∧ Ext w w'
theorem CQ.start (w0 W : World) (he : Ext w0 W) : CQ w0 (W.alloc (.cells #[.slice none 0 0, .slice none 0 0] 59)) W.heap.size (.slice none 0 0) (.slice none 0 0) [] [] where
  ext := he.alloc _
  low := he.size
  obj := ⟨Blk.new W #[.slice none 0 0, .slice none 0 0] 59, fun j hj => by
    rw [cell_new]
    rcases (show j = 0 ∨ j = 1 by omega) with rfl | rfl <;> rfl⟩
  nam := Lst.nil _ _
  sum := Lst.nil _ _
  far := fun b e => by cases e
  nil := fun _ => ⟨rfl, rfl⟩
  len := rfl
set_option maxRecDepth 100000 in
set_option maxHeartbeats 8000000 in
theorem specCausesBy_any (w : World) (a : Option Addr) (cap : Nat) (l : List Incident) (H : IncidentAt w a l) (hsz : ∀ k, k < l.length → (nth l k).Small) (hn : l.length ≤ 1048576) :
    Calls Try.prog 7 #[.slice a l.length cap] w (SumOut causeF l w) := by
  have HA := Lib.hid H
  have HV := Lib.hid fun (w' : World) (he : Ext w w') => l28Ok_any a cap l w' (H.ext he) hsz hn
  unfold SumOut
  clear hsz
  cases h1 : incidentList l
  · have hs := Lib.hid (sum_1 (f := causeF) h1)
    rw [h1] at HV
    clear h1
    go_enter Try.func7, Try.ntmps7
    go_wp2_with (go_at_call 29; refine (HV.out _ (by repeat (first | exact Ext.refl _ | refine Ext.lift ?_ _ | refine Ext.alloc ?_ _))).mono ?_; rintro e w' ⟨rfl, y, rfl⟩)
    go_ret3
    exact ⟨.slice none 0 0, .slice none 0 0, by rw [hs.out.1]; rfl, by rw [hs.out.2.1]; exact Lst.nil _ _, by rw [hs.out.2.2]; exact Lst.nil _ _, fun b e => (by cases e), (by repeat (first | exact Ext.refl _ | refine Ext.lift ?_ _ | refine Ext.alloc ?_ _))⟩
  · have hs := Lib.hid (sum_0 (f := causeF) h1)
    have hbd := Lib.hid (kv_bd cause_bd h1)
    have h48 := incident_len h1
    have hkv := Lib.hid fun k (hk : k < l.length) => kvTo_succ causeF hk
    have hkl := Lib.hid fun k (hk : k ≤ l.length) => kvTo_len causeF hk
    have hx := Lib.hid fun k (hk : k < l.length) => cause_bd _ (vAll_one (show vAll incidentB incB 48 l = true from h1) k hk)
    rw [h1] at HV
    clear h1
    go_enter Try.func7, Try.ntmps7
    go_wp2_with (go_at_call 29; refine (HV.out _ (by repeat (first | exact Ext.refl _ | refine Ext.lift ?_ _ | refine Ext.alloc ?_ _))).mono ?_; rintro e w' ⟨rfl, y, rfl⟩)
    have hE0 := Lib.hid ((Ext.refl w).lift y)
    have hsy : (lift w y).heap.size = w.heap.size + y.blocks.size := by simp
    have hC0 := CQ.start w (lift w y) hE0.out
    rw [hsy] at hC0
    have hC0 := Lib.hid hC0
    clear hsy hE0
    go_loopw [6] (fun i wr => ∃ (k : Nat) (vn vs : Value), k ≤ l.length ∧ i = .int .i64 k ∧ Hid (CQ w wr (w.heap.size + y.blocks.size) vn vs (namesF (kvTo causeF l k)) (sumsF (kvTo causeF l k)))) (fun i _ => l.length - (intOf i).toNat)
    case atStart => exact ⟨0, _, _, Nat.zero_le _, rfl, hC0.out⟩
    case round =>
      obtain ⟨k, vn, vs, hk, rfl, hC⟩ := hrel
      by_cases hlt : k < l.length
      · obtain ⟨b, off, rfl⟩ := HA.out.base hlt
        obtain ⟨hb, c0, c1, c2, c3, c4, c5⟩ := Incident.at (HA.out.ext hC.out.ext) k hlt
        have HQ := Lib.hid fun (W : World) (he : Ext wr W) => addQ_any w W (w.heap.size + y.blocks.size) vn vs (kvTo causeF l k) (by rw [hkl.out k hk]; omega) (hbd.out k) (causeF (nth l k)).1 (causeF (nth l k)).2 (hx.out k hlt).1 (hx.out k hlt).2 (hC.out.grow he)
        have hkv1 := Lib.hid (hkv.out k hlt)
        clear hC0 hbd hkv hkl hx
        go_wp2_with fail
        refine Grow.region_tail 11 [0, 1, 2, 3, 4, 5, 6, 7, 8, 9, 10] [] (by kernel_rfl) (by kernel_rfl) ?_
        simp only [Grow.pick, Grow.pickB, List.getElem?_cons_succ, List.getElem?_cons_zero, List.drop_succ_cons, List.drop_zero]
        repeat
          refine Grow.heads_step (fun K' hK => ⟨rfl, ?_⟩)
          apply Exists.intro
          apply And.intro
          · intro w' hw'
            obtain ⟨x', rfl⟩ := hw'
            go_simp
            first | done | rfl | (rw [if_neg (by omega)]; done) | (rw [if_neg (by omega)]; rfl) | (rw [if_pos (by omega)]; done) | (rw [if_pos (by omega)]; rfl)
          go_simp
          refine hK _ ?_
          clear hK K'
        refine Grow.heads_nil ?_
        intro w20 e20
        refine Grow.seq_nil ?_
        go_wp2_with fail
        refine (HQ.out _ (by first | assumption | exact Ext.refl _)).mono ?_
        rintro e w2 ⟨rfl, vn2, vs2, hC2⟩
        have C2 := Lib.hid hC2
        clear hC2 HQ hC c0 c1 c2 c3 c4 c5 hb
        go_wp2_with fail
        go_roundw
        case rel => exact ⟨k + 1, vn2, vs2, by omega, by go_num, by rw [hkv1.out]; exact C2.out⟩
        case measure => simp [intOf]; omega
      · obtain rfl : k = l.length := by omega
        obtain ⟨an, mn, cn, rfl⟩ := hC.out.nam.sl
        obtain ⟨az, ms, cs, rfl⟩ := hC.out.sum.sl
        have hgl := hC.out.obj.blk.lt
        have c0 : wr.cell? ⟨w.heap.size + y.blocks.size, 0, none⟩ = some (.slice an mn cn) := hC.out.obj.cell 0 (by decide)
        have c1 : wr.cell? ⟨w.heap.size + y.blocks.size, 1, none⟩ = some (.slice az ms cs) := hC.out.obj.cell 1 (by decide)
        have hsz : w.heap.size ≤ (w.heap.size + y.blocks.size) + 1 := by omega
        clear hC0 hbd hkv hkl hx
        go_wp2_with fail
        refine region_quiet (by kernel_rfl) (by kernel_rfl) ?_
        repeat (any_goals (first | go_big_quiet_step (fail) | quiet_step (fail)))
        refine wpQuiet_nil ?_
        intro _ hw'
        obtain ⟨y, hw''⟩ := hw'
        subst hw''
        go_wp2_with fail
        go_ret3
        exact ⟨.slice an mn cn, .slice az ms cs, by rw [hs.out.1]; rfl, by rw [hs.out.2.1]; exact (hC.out.nam.low hsz).ext ((Ext.refl _).lift _), by rw [hs.out.2.2]; exact (hC.out.sum.low hsz).ext ((Ext.refl _).lift _), hC.out.far, (hC.out.ext).lift _⟩
set_option maxRecDepth 100000 in
set_option maxHeartbeats 8000000 in
theorem specPlacesOf_any (w : World) (a : Option Addr) (cap : Nat) (l : List Incident) (H : IncidentAt w a l) (hsz : ∀ k, k < l.length → (nth l k).Small) (hn : l.length ≤ 1048576) :
    Calls Try.prog 18 #[.slice a l.length cap] w (SumOut placeF l w) := by
  have HA := Lib.hid H
  have HV := Lib.hid fun (w' : World) (he : Ext w w') => l28Ok_any a cap l w' (H.ext he) hsz hn
  unfold SumOut
  clear hsz
  cases h1 : incidentList l
  · have hs := Lib.hid (sum_1 (f := placeF) h1)
    rw [h1] at HV
    clear h1
    go_enter Try.func18, Try.ntmps18
    go_wp2_with (go_at_call 29; refine (HV.out _ (by repeat (first | exact Ext.refl _ | refine Ext.lift ?_ _ | refine Ext.alloc ?_ _))).mono ?_; rintro e w' ⟨rfl, y, rfl⟩)
    go_ret3
    exact ⟨.slice none 0 0, .slice none 0 0, by rw [hs.out.1]; rfl, by rw [hs.out.2.1]; exact Lst.nil _ _, by rw [hs.out.2.2]; exact Lst.nil _ _, fun b e => (by cases e), (by repeat (first | exact Ext.refl _ | refine Ext.lift ?_ _ | refine Ext.alloc ?_ _))⟩
  · have hs := Lib.hid (sum_0 (f := placeF) h1)
    have hbd := Lib.hid (kv_bd place_bd h1)
    have h48 := incident_len h1
    have hkv := Lib.hid fun k (hk : k < l.length) => kvTo_succ placeF hk
    have hkl := Lib.hid fun k (hk : k ≤ l.length) => kvTo_len placeF hk
    have hx := Lib.hid fun k (hk : k < l.length) => place_bd _ (vAll_one (show vAll incidentB incB 48 l = true from h1) k hk)
    rw [h1] at HV
    clear h1
    go_enter Try.func18, Try.ntmps18
    go_wp2_with (go_at_call 29; refine (HV.out _ (by repeat (first | exact Ext.refl _ | refine Ext.lift ?_ _ | refine Ext.alloc ?_ _))).mono ?_; rintro e w' ⟨rfl, y, rfl⟩)
    have hE0 := Lib.hid ((Ext.refl w).lift y)
    have hsy : (lift w y).heap.size = w.heap.size + y.blocks.size := by simp
    have hC0 := CQ.start w (lift w y) hE0.out
    rw [hsy] at hC0
    have hC0 := Lib.hid hC0
    clear hsy hE0
    go_loopw [6] (fun i wr => ∃ (k : Nat) (vn vs : Value), k ≤ l.length ∧ i = .int .i64 k ∧ Hid (CQ w wr (w.heap.size + y.blocks.size) vn vs (namesF (kvTo placeF l k)) (sumsF (kvTo placeF l k)))) (fun i _ => l.length - (intOf i).toNat)
    case atStart => exact ⟨0, _, _, Nat.zero_le _, rfl, hC0.out⟩
    case round =>
      obtain ⟨k, vn, vs, hk, rfl, hC⟩ := hrel
      by_cases hlt : k < l.length
      · obtain ⟨b, off, rfl⟩ := HA.out.base hlt
        obtain ⟨hb, c0, c1, c2, c3, c4, c5⟩ := Incident.at (HA.out.ext hC.out.ext) k hlt
        have HQ := Lib.hid fun (W : World) (he : Ext wr W) => addQ_any w W (w.heap.size + y.blocks.size) vn vs (kvTo placeF l k) (by rw [hkl.out k hk]; omega) (hbd.out k) (placeF (nth l k)).1 (placeF (nth l k)).2 (hx.out k hlt).1 (hx.out k hlt).2 (hC.out.grow he)
        have hkv1 := Lib.hid (hkv.out k hlt)
        clear hC0 hbd hkv hkl hx
        go_wp2_with fail
        refine (HQ.out _ (by first | assumption | exact Ext.refl _)).mono ?_
        rintro e w2 ⟨rfl, vn2, vs2, hC2⟩
        have C2 := Lib.hid hC2
        clear hC2 HQ hC c0 c1 c2 c3 c4 c5 hb
        go_wp2_with fail
        go_roundw
        case rel => exact ⟨k + 1, vn2, vs2, by omega, by go_num, by rw [hkv1.out]; exact C2.out⟩
        case measure => simp [intOf]; omega
      · obtain rfl : k = l.length := by omega
        obtain ⟨an, mn, cn, rfl⟩ := hC.out.nam.sl
        obtain ⟨az, ms, cs, rfl⟩ := hC.out.sum.sl
        have hgl := hC.out.obj.blk.lt
        have c0 : wr.cell? ⟨w.heap.size + y.blocks.size, 0, none⟩ = some (.slice an mn cn) := hC.out.obj.cell 0 (by decide)
        have c1 : wr.cell? ⟨w.heap.size + y.blocks.size, 1, none⟩ = some (.slice az ms cs) := hC.out.obj.cell 1 (by decide)
        have hsz : w.heap.size ≤ (w.heap.size + y.blocks.size) + 1 := by omega
        clear hC0 hbd hkv hkl hx
        go_wp2_with fail
        refine region_quiet (by kernel_rfl) (by kernel_rfl) ?_
        repeat (any_goals (first | go_big_quiet_step (fail) | quiet_step (fail)))
        refine wpQuiet_nil ?_
        intro _ hw'
        obtain ⟨y, hw''⟩ := hw'
        subst hw''
        go_wp2_with fail
        go_ret3
        exact ⟨.slice an mn cn, .slice az ms cs, by rw [hs.out.1]; rfl, by rw [hs.out.2.1]; exact (hC.out.nam.low hsz).ext ((Ext.refl _).lift _), by rw [hs.out.2.2]; exact (hC.out.sum.low hsz).ext ((Ext.refl _).lift _), hC.out.far, (hC.out.ext).lift _⟩
end Go.Proofs.Ytndkcgiadpdcjaa
