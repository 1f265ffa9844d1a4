/- Go's slices.SortStableFunc at the numbers of tests, by their depths. -/
import Derived.Test.YtdopffhekinbnaaDepP
import Derived.Deep.QuietTactic
import Derived.Sort.WalkA
namespace Go.Proofs.Ytdopffhekinbnaa
open Go.RowKit
open Go.Sort (grow putRow grow_empty Holds)
set_option maxRecDepth 100000 in
set_option maxHeartbeats 1000000 in
theorem Depth_1 (W : World) (bx lb lo n lc : Nat) (i j : Nat) (x y : Int) (hi : i < n) (hj : j < n) (hc : W.cell? ⟨bx, 0, none⟩ = some (.slice (some ⟨lb, lo, none⟩) n lc)) (c1 : W.cell? ⟨lb, lo + i * 5 + 3, none⟩ = some (.int .i64 x)) (c2 : W.cell? ⟨lb, lo + j * 5 + 3, none⟩ = some (.int .i64 y)) :
    Calls Try.prog 30 #[.int .i64 (i : Int), .int .i64 (j : Int), .pointer (some ⟨bx, 0, none⟩)] W fun e w' => e = .returned (.int .i64 (cmpI x y)) ∧ ∃ q, w' = W.drewN q := by
  have HC := Lib.hid fun (w : World) => Compare_any x y w
  have hb := block_lt hc
  have hl := block_lt c1
  go_enter Try.func30, Try.ntmps30
  go_wp2_with fail
  go_quiet (exact Calls.quiet_of_same (HC.out _))
  go_wp2_with fail
  go_ret
  exact ⟨rfl, nq, rfl⟩
section
variable {α : Type} [Inhabited α]
theorem sortWorld_block (enc : α → Value) (w : World) (blk off m : Nat) (dk : Array α) (os : Array Obj) {b : Nat} (hb : b < w.heap.size) (hne : b ≠ blk) : (sortWorld enc w blk off m dk os).heap[b]? = w.heap[b]? := by
  unfold sortWorld
  rw [Go.Sort.heap_grow_old _ _ (by simpa using hb)]
  simp [putRow, Go.Sort.mapBlock, Go.Sort.ahead, Array.getElem?_modify, Ne.symm hne]
theorem putRow_map (f : α → Int) (w : World) (g : Nat) (X : List α) : putRow (fun i => Value.int .i64 (f i)) w g 0 X.toArray = putRow (Value.int .i64) w g 0 (X.map f).toArray := by
  unfold putRow
  congr 1
  funext c
  unfold Go.Sort.putCells
  apply Array.ext
  · simp
  · intro k h1 h2
    simp only [Array.getElem_mapIdx, List.size_toArray, List.length_map, Nat.zero_le, true_and, Nat.zero_add, Nat.sub_zero]
    split
    · rename_i hk
      rw [nth_toArray _ _ hk, nth_toArray _ _ (by rw [List.length_map]; exact hk), nth_eq _ _ hk, nth_eq _ _ (by rw [List.length_map]; exact hk), List.getElem_map]
    · rfl
end
theorem ups_fin (m : Nat) : (List.finRange m).map (fun (i : Fin m) => (i.val : Int)) = ups m := by
  unfold ups
  apply List.ext_getElem
  · simp
  · intro k h1 h2
    simp
theorem finRange_nth {m k : Nat} (h : k < m + 1) : (nth (List.finRange (m + 1)) k).val = k := by
  rw [nth_eq _ _ (by simpa using h)]; simp
set_option maxRecDepth 100000 in
theorem insertion_none (a : Option Addr) (cap : Nat) (v : Value) (w : World) :
    Calls Try.prog 59 #[.slice a 0 cap, .int .i64 0, .int .i64 0, v] w fun e w' => e = .returned (.tuple #[]) ∧ w' = w := by
  go_enter Try.func59, Try.ntmps59
  go_wp2_with fail
  go_loop [8] (fun i => i = .int .i64 1) (fun _ => 0)
  case atStart => rfl
  case round =>
    subst hrel
    go_wp2_with fail
    first
      | (go_ret; exact ⟨rfl, rfl⟩)
      | ((try simp only [Exit.inBlock, Exit.then])
         first | refine bodyPost_ret (results_none rfl _ _ _) rfl ?_ | refine bodyPost_end (results_none rfl _ _ _) rfl ?_
         exact ⟨rfl, rfl⟩)
theorem insertion_fin (m : Nat) (l : List Test) (hl : l.length = m + 1) (hl16 : l.length ≤ 16) (w : World) (g cap bx lb lo lc : Nat) (cur : Array Value) (T : TypeId) (hh : w.heap[g]? = some (.cells cur T (0, 0))) (ht : cur.toList.take (m + 1) = (ups (m + 1)).map (Value.int .i64))
    (hc : w.cell? ⟨bx, 0, none⟩ = some (.slice (some ⟨lb, lo, none⟩) l.length lc)) (HA : TestAt w (some ⟨lb, lo, none⟩) l) (h1 : bx ≠ g) (h2 : lb ≠ g) :
    Calls Try.prog 59 #[.slice (some ⟨g, 0, none⟩) (m + 1) cap, .int .i64 0, .int .i64 ((m + 1 : Nat) : Int), .func (.func 30) #[] #[.pointer (some ⟨bx, 0, none⟩)]] w fun e w' => e = .returned (.tuple #[]) ∧ ∃ q, w' = putRow (Value.int .i64) (Go.Sort.ahead w q) g 0 (ordD l l.length).toArray := by
  have hsz : (List.finRange (m + 1)).toArray.size = m + 1 := by simp
  have eg : Enters Try.prog 30 := enters_of Try.func30 (by kernel_rfl) rfl
  have hH : Holds (fun (i : Fin (m + 1)) => Value.int .i64 (i.val : Int)) w g 0 (List.finRange (m + 1)).toArray := fun j hj => by
    rw [hsz] at hj
    have hH0 := holds_of_blockI (ss := ups (m + 1)) hh (by rw [ups_len]; exact ht) j (by simpa [ups_len] using hj)
    refine ⟨?_, hH0.2⟩
    rw [hH0.1, nth_toArray _ _ (by rw [ups_len]; exact hj), nth_toArray _ _ (by simpa using hj), ups_nth hj]
    show some (Value.int .i64 (j : Int)) = some (Value.int .i64 ((nth (List.finRange (m + 1)) j).val : Int))
    rw [finRange_nth hj]
  have hcmp : CmpReads Try.prog 30 #[.pointer (some ⟨bx, 0, none⟩)] (fun (i : Fin (m + 1)) => Value.int .i64 (i.val : Int)) (fun i j => cmpI (dep l (i.val : Int)) (dep l (j.val : Int))) g 0 (List.finRange (m + 1)).toArray.size w := fun k os dk _ x y => by
    have hx : x.val < l.length := by rw [hl]; exact x.isLt
    have hy : y.val < l.length := by rw [hl]; exact y.isLt
    obtain ⟨hb, cx⟩ := RowsAt.at HA x.val hx
    obtain ⟨-, cy⟩ := RowsAt.at HA y.val hy
    have f : ∀ {b o : Nat} {v : Value}, b ≠ g → w.cell? ⟨b, o, none⟩ = some v → (sortWorld (fun (i : Fin (m + 1)) => Value.int .i64 (i.val : Int)) w g 0 k dk os).cell? ⟨b, o, none⟩ = some v := fun hne hc => by
      rw [← hc]; exact World.cell?_of_block (w := w) (sortWorld_block _ w g 0 k dk os (block_lt hc) hne)
    exact Depth_1 _ bx lb lo l.length lc x.val y.val (nth l x.val).depth (nth l y.val).depth hx hy (f h1 hc) (f h2 (cx 3 (by decide))) (f h2 (cy 3 (by decide)))
  have := Try.insertionSortCmpFunc_one (fun (i : Fin (m + 1)) => Value.int .i64 (i.val : Int)) (fun _ => rfl) (fun i j => cmpI (dep l (i.val : Int)) (dep l (j.val : Int))) 30 #[.pointer (some ⟨bx, 0, none⟩)] g 0 cap 0 (m + 1) (List.finRange (m + 1)).toArray w eg hcmp hH (Nat.zero_le _) (by rw [hsz]; exact Nat.le_refl _) (by rw [hsz]; omega)
  rw [hsz] at this
  refine this.mono ?_
  rintro e w' ⟨rfl, q, rfl⟩
  refine ⟨rfl, q, ?_⟩
  have e1 : Sort.insertionSort (ltOf fun (i j : Fin (m + 1)) => cmpI (dep l (i.val : Int)) (dep l (j.val : Int))) (List.finRange (m + 1)).toArray 0 (m + 1) = (insAll (fun (i : Fin (m + 1)) => dep l (i.val : Int)) [] (List.finRange (m + 1))).toArray := by
    have h := insertionSort_all (fun (i : Fin (m + 1)) => dep l (i.val : Int)) (ltOf fun (i j : Fin (m + 1)) => cmpI (dep l (i.val : Int)) (dep l (j.val : Int))) (fun x y => by unfold ltOf; rw [decide_eq_decide]; exact cmpI_lt) (List.finRange (m + 1))
    rw [List.length_finRange] at h; exact h
  have e2 : ordD l l.length = (insAll (fun (i : Fin (m + 1)) => dep l (i.val : Int)) [] (List.finRange (m + 1))).map (fun (i : Fin (m + 1)) => (i.val : Int)) := by
    have h := insAll_map (fun (i : Fin (m + 1)) => (i.val : Int)) (dep l) (List.finRange (m + 1)) []
    rw [ups_fin] at h
    unfold ordD; rw [hl]; exact h
  rw [e1, putRow_map, ← e2]
  exact (by have := putRow_drewN (Value.int .i64) w 0 q g 0 (ordD l l.length).toArray; rw [Nat.zero_add] at this; exact this)
/-- The numbers of the tests, in a list of the call's own, are put in the order of their depths. -/
def Sorted (w : World) (base : Nat) (g : Option Addr) (cap : Nat) (l : List Test) (e : Ending) (w' : World) : Prop :=
  e = .returned (.tuple #[]) ∧ Lst 2 1 celI w' base (.slice g l.length cap) (ordD l l.length) ∧ w.grownBy w' (Value.slice g l.length cap).ownBlock ∧ Since base w w'
theorem insertion_any (l : List Test) (hl16 : l.length ≤ 16) (w : World) (base : Nat) (ga : Option Addr) (cap bx : Nat) (la : Option Addr) (lc : Nat) (h : Lst 2 1 celI w base (.slice ga l.length cap) (ups l.length))
    (hc : w.cell? ⟨bx, 0, none⟩ = some (.slice la l.length lc)) (HA : TestAt w la l) (h1 : bx < base) (h2 : ∀ b o, la = some ⟨b, o, none⟩ → 0 < l.length → b < base) :
    Calls Try.prog 59 #[.slice ga l.length cap, .int .i64 0, .int .i64 (l.length : Int), .func (.func 30) #[] #[.pointer (some ⟨bx, 0, none⟩)]] w (Sorted w base ga cap l) := by
  cases l with
  | nil =>
    refine (insertion_none ga cap _ w).mono ?_
    rintro e w' ⟨rfl, rfl⟩
    exact ⟨rfl, h, ⟨rfl, rfl, rfl, Nat.le_refl _, fun _ _ _ => rfl⟩, Since.of_ext (Ext.refl _)⟩
  | cons t r =>
    obtain ⟨m, hm⟩ : ∃ m, (t :: r).length = m + 1 := ⟨r.length, rfl⟩
    generalize (t :: r) = l at *
    rcases h.2 with ⟨hv, h0⟩ | ⟨g, cap', cur, hv, hg, hh, hcap, hmx, hs, ht⟩
    · rw [ups_len] at h0; omega
    simp only [Value.slice.injEq] at hv
    obtain ⟨rfl, -, rfl⟩ := hv
    rw [Nat.mul_one, flat_celI, ups_len] at ht
    rw [ups_len] at hcap
    obtain ⟨lb, lo, rfl⟩ := HA.base (show 0 < l.length by omega)
    have hlb := h2 lb lo rfl (by omega)
    have hI := insertion_fin m l hm hl16 w g cap bx lb lo lc cur _ hh (by rw [← hm]; exact ht) hc HA (by omega) (by omega)
    rw [← hm] at hI
    refine hI.mono ?_
    rintro e w' ⟨rfl, q, rfl⟩
    have hg2 := grownBy_sortedI (w := w) (g := g) (n := q) (os := #[]) (ordD l l.length).toArray
    rw [grow_empty] at hg2
    refine ⟨rfl, ?_, hg2, Since.of_grown hg2 (fun k hk => by simp only [Option.some.injEq] at hk; omega)⟩
    have := ownsRow_sortedI (w := w) (base := base) (g := g) (cap := cap) (n := q) (os := #[]) (ss := ups l.length) (ts := ordD l l.length) (by rw [ordD_len, ups_len]) hg hh (by rw [ups_len]; exact hcap) hmx hs
    rw [grow_empty, ups_len] at this
    unfold Lst
    rw [flat_celI, ordD_len]; exact this
set_option maxRecDepth 100000 in
theorem stable_any (l : List Test) (hl16 : l.length ≤ 16) (w : World) (base : Nat) (ga : Option Addr) (cap bx : Nat) (la : Option Addr) (lc : Nat) (h : Lst 2 1 celI w base (.slice ga l.length cap) (ups l.length))
    (hc : w.cell? ⟨bx, 0, none⟩ = some (.slice la l.length lc)) (HA : TestAt w la l) (h1 : bx < base) (h2 : ∀ b o, la = some ⟨b, o, none⟩ → 0 < l.length → b < base) :
    Calls Try.prog 47 #[.slice ga l.length cap, .int .i64 (l.length : Int), .func (.func 30) #[] #[.pointer (some ⟨bx, 0, none⟩)]] w (Sorted w base ga cap l) := by
  have HI := Lib.hid (insertion_any l hl16 w base ga cap bx la lc h hc HA h1 h2)
  clear h hc HA h1 h2
  go_enter Try.func47, Try.ntmps47
  go_wp2_with fail
  go_loop [7, 8] (fun a b => a = .int .i64 0 ∧ b = .int .i64 20) (fun _ _ => 0)
  case atStart => exact ⟨rfl, rfl⟩
  case round =>
    obtain ⟨rfl, rfl⟩ := hrel
    go_wp2_with fail
    refine HI.out.mono ?_
    rintro e w1 ⟨rfl, hS⟩
    have hS := Lib.hid hS
    clear HI
    go_wp2_with fail
    go_loop [6] (fun s => s = .int .i64 20) (fun _ => 0)
    case atStart => rfl
    case round =>
      subst hrel
      go_wp2_with fail
      (try simp only [Exit.inBlock, Exit.then])
      first | refine bodyPost_ret (results_none rfl _ _ _) rfl ?_ | refine bodyPost_end (results_none rfl _ _ _) rfl ?_
      exact ⟨rfl, hS.out⟩
set_option maxRecDepth 100000 in
theorem SortStable_any (l : List Test) (hl16 : l.length ≤ 16) (w : World) (base : Nat) (ga : Option Addr) (cap bx : Nat) (la : Option Addr) (lc : Nat) (h : Lst 2 1 celI w base (.slice ga l.length cap) (ups l.length))
    (hc : w.cell? ⟨bx, 0, none⟩ = some (.slice la l.length lc)) (HA : TestAt w la l) (h1 : bx < base) (h2 : ∀ b o, la = some ⟨b, o, none⟩ → 0 < l.length → b < base) :
    Calls Try.prog 29 #[.slice ga l.length cap, .func (.func 30) #[] #[.pointer (some ⟨bx, 0, none⟩)]] w (Sorted w base ga cap l) := by
  have HI := Lib.hid (stable_any l hl16 w base ga cap bx la lc h hc HA h1 h2)
  clear h hc HA h1 h2
  go_enter Try.func29, Try.ntmps29
  go_wp2_with fail
  refine HI.out.mono ?_
  rintro e w1 ⟨rfl, hS⟩
  have hS := Lib.hid hS
  clear HI
  go_wp2_with fail
  (try simp only [Exit.inBlock, Exit.then])
  first | refine bodyPost_ret (results_none rfl _ _ _) rfl ?_ | refine bodyPost_end (results_none rfl _ _ _) rfl ?_
  exact ⟨rfl, hS.out⟩
end Go.Proofs.Ytdopffhekinbnaa
