/- Go's slices.SortFunc at a list of works of the call's own, by their beginnings. -/
import Derived.Test.YtpmbaemfpkcjnaaBlkP
import Derived.Test.YtpmbaemfpkcjnaaAdd
import Derived.Test.YtpmbaemfpkcjnaaShelf
import Derived.Sort.OwnSortedInts
namespace Go.Proofs.Ytpmbaemfpkcjnaa
open Go.RowKit
open Go.Sort (grow putRow putCells mapBlock onCells Holds PermIn SortedIn SWO flatK size_flatK get_flatK HoldsK)
open Go.Lib
theorem heap_rowV {w : World} {g n : Nat} {os : Array Obj} {cur : Array Value} {e : TypeId} {fr : Nat × Nat} (d : Array Value) (hb : w.heap[g]? = some (.cells cur e fr)) :
    (grow (putRow id (Sort.ahead w n) g 0 d) os).heap[g]? = some (.cells (putCells id 0 d cur) e fr) := by
  have hg : g < w.heap.size := (Array.getElem?_eq_some_iff.1 hb).1
  rw [Go.Sort.heap_grow_old _ _ (by simpa [putRow, mapBlock, Sort.ahead] using hg)]
  simp [putRow, mapBlock, Sort.ahead, Array.getElem?_modify, hb, onCells]
theorem grownBy_rowV {w : World} {g n : Nat} {os : Array Obj} (d : Array Value) : w.grownBy (grow (putRow id (Sort.ahead w n) g 0 d) os) (some g) := by
  refine ⟨rfl, rfl, rfl, by simp [grow, putRow, mapBlock, Sort.ahead], fun k hk hne => ?_⟩
  rw [Go.Sort.heap_grow_old _ _ (by simpa [putRow, mapBlock, Sort.ahead] using hk)]
  have : g ≠ k := fun e => hne (by rw [e])
  simp [putRow, mapBlock, Sort.ahead, Array.getElem?_modify, this]
theorem take_rowV (cur : Array Value) (ts : List Value) (h : ts.length ≤ cur.size) : (putCells id 0 ts.toArray cur).toList.take ts.length = ts := by
  apply List.ext_getElem?
  intro j
  by_cases hj : j < ts.length
  · rw [List.getElem?_take_of_lt hj, Array.getElem?_toList]
    simp [putCells, hj, show j < cur.size by omega]
  · rw [List.getElem?_take_eq_none (by omega), List.getElem?_eq_none (by omega)]
def encW (x : Work) : List Value := [.int .i64 x.beg, .int .i64 x.fin]
theorem flatK_list (l : List Work) : flatK encW 2 l.toArray = (flat 2 Work.cell l).toArray := by
  apply Array.ext
  · rw [size_flatK]; simp [flat_length]
  · intro t h1 h2
    have ht : t < l.length * 2 := by rw [size_flatK] at h1; simpa using h1
    obtain ⟨i, j, hi, hj, rfl⟩ := split_index ht
    have e1 := get_flatK encW 2 l.toArray (i * 2 + j) (by simpa using ht)
    rw [getElem!_pos (flatK encW 2 l.toArray) (i * 2 + j) h1] at e1
    have e2 := flat_get (cell := Work.cell) l i hi j hj
    rw [e1, List.getElem_toArray]
    have e3 : (flat 2 Work.cell l)[i * 2 + j]'(by rw [flat_length]; exact ht) = Work.cell (nth l i) j := by
      rw [List.getElem?_eq_getElem (by rw [flat_length]; exact ht)] at e2
      exact Option.some.inj e2
    rw [e3, show (i * 2 + j) / 2 = i by omega, show (i * 2 + j) % 2 = j by omega, getElem!_pos l.toArray i (by simpa using hi), List.getElem_toArray, nth_eq l i hi]
    rcases (show j = 0 ∨ j = 1 by omega) with rfl | rfl <;> rfl
def cfW (x y : Work) : Int := cmpI x.beg y.beg
theorem swoW : SWO (ltOf cfW) := by
  have e : ∀ x y, ltOf cfW x y = decide (x.beg < y.beg) := fun x y => by
    unfold ltOf cfW; rw [decide_eq_decide]; exact cmpI_lt
  refine ⟨fun x => ?_, fun x y z h k => ?_, fun x y z h k => ?_⟩
  · rw [e]; simp
  · rw [e] at *; simp only [decide_eq_true_eq] at *; omega
  · rw [e] at *; simp only [decide_eq_false_iff_not] at *; omega
set_option maxHeartbeats 400000 in
theorem Blocked_1 (x y : Work) (w : World) : Calls Try.prog 24 #[.agg (encW x).toArray, .agg (encW y).toArray] w fun e w' => e = .returned (.int .i64 (cfW x y)) ∧ w' = (w.alloc (.cells #[.int .i64 x.beg, .int .i64 x.fin] 53)).alloc (.cells #[.int .i64 y.beg, .int .i64 y.fin] 53) := by
  show Calls Try.prog 24 #[.agg #[.int .i64 x.beg, .int .i64 x.fin], .agg #[.int .i64 y.beg, .int .i64 y.fin]] w _
  go_enter Try.func24, Try.ntmps24
  go_wp2_with (go_at_call 25; refine (Compare_any _ _ _).mono ?_; rintro e w' ⟨rfl, rfl⟩)
  go_ret
  exact ⟨rfl, rfl⟩
set_option maxHeartbeats 2000000 in
theorem insW_none (p : Option Addr) (cap : Nat) (fv : Value) (w : World) :
    Calls Try.prog 56 #[.slice p 0 cap, .int .i64 0, .int .i64 0, fv] w fun e w' => e = .returned (.tuple #[]) ∧ w' = w := by
  go_enter Try.func56, Try.ntmps56
  go_wp2_with fail
  refine wp_loop_rounds 1 ?_
  rw [rounds_succ]
  go_wp2_with fail
  go_end0
  exact ⟨rfl, rfl⟩
set_option maxHeartbeats 2000000 in
theorem pdqW_none (p : Option Addr) (cap : Nat) (lim : Int) (fv : Value) (w : World) :
    Calls Try.prog 39 #[.slice p 0 cap, .int .i64 0, .int .i64 0, .int .i64 lim, fv] w fun e w' => e = .returned (.tuple #[]) ∧ w' = w := by
  go_enter Try.func39, Try.ntmps39
  go_wp2_with fail
  refine wp_loop_rounds 1 ?_
  rw [rounds_succ]
  go_wp2_with (go_at_call 56; refine (insW_none _ _ _ _).mono ?_; rintro e w' ⟨rfl, hw⟩; subst hw)
  (try simp only [Exit.inBlock, Exit.then]); refine bodyPost_ret (results_none rfl _ _ _) rfl ?_
  exact ⟨rfl, rfl⟩
set_option maxHeartbeats 2000000 in
theorem SortW_none (p : Option Addr) (cap : Nat) (fv : Value) (w : World) :
    Calls Try.prog 23 #[.slice p 0 cap, fv] w fun e w' => e = .returned (.tuple #[]) ∧ w' = w := by
  have hl : ∀ W, Calls Try.prog 40 #[.int .u64 0] W fun e w' => e = .returned (.int .i64 (Lib.bitLen 0 : Nat)) ∧ w' = W := fun W => Try.bits_Len 0 W (by omega) (by omega)
  go_enter Try.func23, Try.ntmps23
  go_wp2_with (first | (go_at_call 40; refine (hl _).mono ?_; rintro e w' ⟨rfl, hw⟩; subst hw) | (go_at_call 39; refine (pdqW_none _ _ _ _ _).mono ?_; rintro e w' ⟨rfl, hw⟩; subst hw))
  go_end0
  exact ⟨rfl, rfl⟩
theorem SortW_any (w : World) (base : Nat) (a : Option Addr) (cap : Nat) (l : List Work) (hO : Own w base 53 2 a l.length) (hR : RowsAt 2 Work.cell w a l) (hl : l.length ≤ 4000000) :
    Calls Try.prog 23 #[.slice a l.length cap, .func (.func 24) #[] #[]] w fun e w' => e = .returned (.tuple #[]) ∧ ∃ S : List Work, S.Perm l ∧ S.Pairwise (fun a b => a.beg ≤ b.beg) ∧ RowsAt 2 Work.cell w' a S ∧ Since base w w' := by
  rcases Nat.eq_zero_or_pos l.length with hz | hpos
  · obtain rfl : l = [] := List.eq_nil_of_length_eq_zero hz
    refine (SortW_none a cap _ w).mono ?_
    rintro e w' ⟨rfl, rfl⟩
    exact ⟨rfl, [], List.Perm.refl _, List.Pairwise.nil, RowsAt.nil, Since.of_ext (Ext.refl _)⟩
  rcases hO with hz | ⟨g, N, rfl, hg, ⟨cur, hh, hcs⟩, hN⟩
  · omega
  have hlt : g < w.heap.size := by
    rcases Nat.lt_or_ge g w.heap.size with h1 | h1
    · exact h1
    · rw [Array.getElem?_eq_none h1] at hh; cases hh
  have hH : HoldsK encW 2 w g 0 l.toArray := fun t ht => by
    refine ⟨?_, by simp [World.frozen?, hh]⟩
    have ht' : t < l.length * 2 := by rw [size_flatK] at ht; simpa using ht
    rw [flatK_list]
    obtain ⟨i, j, hi, hj, rfl⟩ := split_index ht'
    have e2 := flat_get (cell := Work.cell) l i hi j hj
    have e3 := (RowsAt.at hR i hi).2 j hj
    rw [Nat.zero_add] at e3 ⊢
    rw [e3, getElem!_pos _ _ (by simp [flat_length]; omega), List.getElem_toArray]
    rw [List.getElem?_eq_getElem (by rw [flat_length]; exact ht')] at e2
    rw [Option.some.inj e2]; rfl
  have eg : Enters Try.prog 24 := enters_of Try.func24 (by kernel_rfl) rfl
  have hS := Try.slices_SortFunc (α := Work) 2 (fun w => by kernel_rfl) (fun w => by kernel_rfl) encW (fun _ => rfl) (fun x v hv => by
      simp only [encW, List.mem_cons, List.not_mem_nil, or_false] at hv
      rcases hv with rfl | rfl <;> rfl) cfW swoW 24 #[] g 0 cap l.toArray w eg (fun m os dk _ x y => by
      refine (Blocked_1 x y _).mono ?_
      rintro e w' ⟨rfl, rfl⟩
      refine ⟨rfl, 0, #[.cells #[.int .i64 x.beg, .int .i64 x.fin] 53 (0, 0), .cells #[.int .i64 y.beg, .int .i64 y.fin] 53 (0, 0)], ?_⟩
      rw [show ∀ u : World, u.drewN 0 = u from fun u => by cases u; rfl, Go.Sort.alloc_eq_grow, Go.Sort.alloc_eq_grow, Go.Sort.grow_grow]; rfl) hH hlt (by simp; omega)
  have e0 : l.toArray.size = l.length := by simp
  rw [e0] at hS
  refine hS.mono ?_
  rintro e w' ⟨rfl, d', n, os, hp, hsd, rfl⟩
  obtain ⟨hds, -, hperm⟩ := hp
  have hds' : d'.toList.length = l.length := by simpa using hds
  have hp2 : d'.toList.Perm l := by
    have := hperm
    rw [Array.toList_extract, Array.toList_extract] at this
    have e1 : List.take l.length d'.toList = d'.toList := List.take_of_length_le (by omega)
    have e2 : List.take l.length l = l := List.take_length
    simpa [List.extract, e1, e2] using this
  have hd : d' = d'.toList.toArray := by simp
  have hg2 : w.grownBy (sortWorldK encW 2 w g 0 n d' os) (some g) := grownBy_rowV (flatK encW 2 d')
  refine ⟨rfl, d'.toList, hp2, ?_, fun k hk => ⟨g, 0, rfl, Nat.lt_of_lt_of_le hlt hg2.size, fun j hj => ?_⟩, Since.of_grown hg2 (fun k hk => by simp only [Option.some.injEq] at hk; omega)⟩
  · rw [List.pairwise_iff_getElem]
    intro i j hi hj hij
    have := hsd i j (Nat.zero_le _) hij (by rw [hds'] at hj; exact hj)
    unfold ltOf cfW at this
    rw [getElem!_pos d' i (by simpa using hi), getElem!_pos d' j (by simpa using hj), decide_eq_false_iff_not, cmpI_lt] at this
    simp only [Array.getElem_toList]
    omega
  · have hk2 : k * 2 + j < d'.toList.length * 2 := by omega
    have hh2 := heap_rowV (n := n) (os := os) (flatK encW 2 d') hh
    have hflen : (flatK encW 2 d').size = d'.toList.length * 2 := by rw [size_flatK]; simp
    have e2 := flat_get (cell := Work.cell) d'.toList k hk j hj
    have e4 : (sortWorldK encW 2 w g 0 n d' os).cell? ⟨g, k * 2 + j, none⟩ = (putCells id 0 (flatK encW 2 d') cur)[k * 2 + j]? := by
      show (grow (putRow id (Sort.ahead w n) g 0 (flatK encW 2 d')) os).cell? ⟨g, k * 2 + j, none⟩ = _
      simp only [World.cell?, hh2]; simp
    rw [Nat.zero_add, e4]
    have hcur : k * 2 + j < cur.size := by rw [hcs]; omega
    unfold putCells
    rw [Array.getElem?_mapIdx, Array.getElem?_eq_getElem hcur, Option.map_some, if_pos ⟨Nat.zero_le _, by omega⟩, Nat.sub_zero, hd, flatK_list, getElem!_pos _ _ (by simp [flat_length]; omega), List.getElem_toArray]
    rw [List.getElem?_eq_getElem (by rw [flat_length]; exact hk2)] at e2
    rw [Option.some.inj e2]; rfl
end Go.Proofs.Ytpmbaemfpkcjnaa
