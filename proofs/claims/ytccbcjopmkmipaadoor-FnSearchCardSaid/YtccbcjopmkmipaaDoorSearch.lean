/- Chapter 25: searches. What the program's and the reference's functions on areas hand back. -/
import Derived.Test.YtccbcjopmkmipaaDoorBasics
namespace Go.Proofs.YtccbcjopmkmipaaDoor
open Go.RowKit

structure Area where
  id : ByteArray
  chance : Int
  minutes : Int
instance : Inhabited Area := ⟨⟨ByteArray.empty, 0, 0⟩⟩
def Area.cell (x : Area) : Nat → Value
  | 0 => .string x.id
  | 1 => .int .i64 x.chance
  | _ => .int .i64 x.minutes
def Area.val (x : Area) : Value := .agg #[.string x.id, .int .i64 x.chance, .int .i64 x.minutes]
/-- A slice of these begins at a, and its elements hold l. -/
abbrev AreaAt (w : World) (a : Option Addr) (l : List Area) : Prop := RowsAt 3 Area.cell w a l
theorem Area.at {w : World} {b off : Nat} {l : List Area} (h : AreaAt w (some ⟨b, off, none⟩) l) (k : Nat) (hk : k < l.length) :
    b < w.heap.size ∧ w.cell? ⟨b, off + k * 3, none⟩ = some (.string (nth l k).id) ∧ w.cell? ⟨b, off + k * 3 + 1, none⟩ = some (.int .i64 (nth l k).chance) ∧ w.cell? ⟨b, off + k * 3 + 2, none⟩ = some (.int .i64 (nth l k).minutes) :=
  let h' := RowsAt.at h k hk; ⟨h'.1, h'.2 0 (by decide), h'.2 1 (by decide), h'.2 2 (by decide)⟩
/-- The lengths of the strings that come in are those of strings that fit in memory. -/
def Area.Sz (x : Area) : Prop := x.id.size ≤ 9223372036854775807
def Area.Small (x : Area) : Prop := x.id.size ≤ 1048576
def Area.Wf (x : Area) : Prop := (-9223372036854775808 ≤ x.chance ∧ x.chance ≤ 9223372036854775807) ∧ (-9223372036854775808 ≤ x.minutes ∧ x.minutes ≤ 9223372036854775807)
def areaB (x : Area) : Bool := nameB x.id && inB x.chance 0 1000 && inB x.minutes 1 600

set_option maxHeartbeats 400000 in
theorem Area_valid (x : Area) (w : World) (hs : x.id.size ≤ 1000000000000) :
    Gives Tryd.prog 30 #[.agg #[.string x.id, .int .i64 x.chance, .int .i64 x.minutes]] w (.bool (areaB x)) := by
  have H : Hid (areaB x = (nameB x.id && inB x.chance 0 1000 && inB x.minutes 1 600)) := rfl
  unfold Gives
  cases h1 : nameB x.id <;> cases h2 : inB x.chance 0 1000
  all_goals
    go_enter Tryd.func30, Tryd.ntmps30
    go_wp2_with (first | (go_at_call 47; refine (IsName_any _ _ (by assumption)).mono ?_; rintro e w' ⟨rfl, rfl⟩) | (go_at_call 34; refine (within_any _ _ _ _).mono ?_; rintro e w' ⟨rfl, rfl⟩))
    go_ret
    refine ⟨ret_bool (by rw [H.out]; simp [*]), (Ext.refl _).alloc _⟩
set_option maxHeartbeats 400000 in
theorem l25One_any (b o : Nat) (x : Area) (w : World) (hs : x.id.size ≤ 1000000000000) (c0 : w.cell? ⟨b, o, none⟩ = some (.string x.id)) (c1 : w.cell? ⟨b, o + 1, none⟩ = some (.int .i64 x.chance)) (c2 : w.cell? ⟨b, o + 2, none⟩ = some (.int .i64 x.minutes)) :
    Calls Tryd.prog 51 #[.pointer (some ⟨b, o, none⟩)] w fun e w' => e = .returned (.bool (areaB x)) ∧ w' = w := by
  have H : Hid (areaB x = (nameB x.id && inB x.chance 0 1000 && inB x.minutes 1 600)) := rfl
  cases h1 : nameB x.id <;> cases h2 : inB x.chance 0 1000
  all_goals
    go_enter Tryd.func51, Tryd.ntmps51
    go_wp2_with (first | (go_at_call 66; refine (l01Name_any _ _ (by assumption)).mono ?_; rintro e w' ⟨rfl, rfl⟩) | (go_at_call 52; refine (l00In_any _ _ _ _).mono ?_; rintro e w' ⟨rfl, rfl⟩))
    go_ret
    refine ⟨ret_bool (by rw [H.out]; simp [*]), rfl⟩
def okAt (l : List Area) (k : Nat) : Bool := areaB (nth l k) && (decide (k = 0) || sLt (nth l (k - 1)).id (nth l k).id)
def sumTo (l : List Area) (k : Nat) : Int := ((l.take k).map (·.chance)).sum
def validAreas (l : List Area) : Bool := decide (l.length ≤ 8) && (List.range l.length).all (okAt l) && decide (sumTo l l.length ≤ 1000)
theorem sumTo_succ (l : List Area) (k : Nat) (h : k < l.length) : sumTo l (k + 1) = sumTo l k + (nth l k).chance := by
  unfold sumTo; rw [take_nth l k h]; simp
theorem areaB_parts {x : Area} (h : areaB x = true) : nameB x.id = true ∧ 0 ≤ x.chance ∧ x.chance ≤ 1000 ∧ 1 ≤ x.minutes ∧ x.minutes ≤ 600 := by
  unfold areaB at h; simp only [Bool.and_eq_true, inB_iff] at h; exact ⟨h.1.1, h.1.2.1, h.1.2.2, h.2.1, h.2.2⟩
theorem okAt_area {l : List Area} {k : Nat} (h : okAt l k = true) : areaB (nth l k) = true := by unfold okAt at h; simp only [Bool.and_eq_true] at h; exact h.1
theorem sumTo_bd {l : List Area} : ∀ {k : Nat}, k ≤ l.length → (∀ j, j < k → okAt l j = true) → 0 ≤ sumTo l k ∧ sumTo l k ≤ 1000 * k
  | 0, _, _ => by simp [sumTo]
  | k + 1, hk, h => by
    have := sumTo_bd (l := l) (k := k) (by omega) (fun j hj => h j (by omega))
    have := areaB_parts (okAt_area (h k (by omega)))
    rw [sumTo_succ l k (by omega)]; omega
theorem validAreas_bad {l : List Area} {k : Nat} (hk : k < l.length) (h : okAt l k = false) : false = validAreas l := by
  symm; unfold validAreas
  rw [show (List.range l.length).all (okAt l) = false by rw [List.all_eq_false]; exact ⟨k, by simpa using hk, by simp [h]⟩]
  simp
theorem validAreas_len {l : List Area} (h : 8 < l.length) : false = validAreas l := by
  unfold validAreas; rw [show decide (l.length ≤ 8) = false from decide_eq_false (by omega)]; rfl
theorem validAreas_end {l : List Area} (h : ∀ j, j < l.length → okAt l j = true) : validAreas l = (decide (l.length ≤ 8) && decide (sumTo l l.length ≤ 1000)) := by
  unfold validAreas
  rw [show (List.range l.length).all (okAt l) = true by rw [List.all_eq_true]; intro x hx; exact h x (by simpa using hx)]
  simp
theorem okAt_false1 {l : List Area} {k : Nat} (h : areaB (nth l k) = false) : okAt l k = false := by unfold okAt; rw [h]; rfl
theorem okAt_false2 {l : List Area} {k : Nat} (h : 0 < k) (h' : sLt (nth l (k - 1)).id (nth l k).id = false) : okAt l k = false := by
  unfold okAt; rw [h', show decide (k = 0) = false from decide_eq_false (by omega)]; simp
theorem okAt_true0 {l : List Area} {k : Nat} (h : areaB (nth l k) = true) (hk : k = 0) : okAt l k = true := by unfold okAt; rw [h, hk]; rfl
theorem okAt_true1 {l : List Area} {k : Nat} (h : areaB (nth l k) = true) (h' : sLt (nth l (k - 1)).id (nth l k).id = true) : okAt l k = true := by unfold okAt; rw [h, h']; simp
/-- The lengths of the strings that come in. -/
def AreaSz (l : List Area) : Prop := ∀ k, k < l.length → (nth l k).id.size ≤ 1000000000000

set_option maxHeartbeats 1000000 in
theorem l25Ok_any (a : Option Addr) (cap : Nat) (l : List Area) (w : World) (H : AreaAt w a l) (hsz : AreaSz l) (hlen : l.length ≤ 1000000000000) :
    Gives Tryd.prog 37 #[.slice a l.length cap] w (.bool (validAreas l)) := by
  unfold Gives
  go_enter Tryd.func37, Tryd.ntmps37
  go_wp2_with fail
  go_loopw [3, 4] (fun s i wr => ∃ k : Nat, k ≤ l.length ∧ i = .int .i64 k ∧ s = .int .i64 (sumTo l k) ∧ Hid (∀ j, j < k → okAt l j = true) ∧ Ext w wr) (fun _ i _ => l.length - (intOf i).toNat)
  case atStart => exact ⟨0, Nat.zero_le _, rfl, rfl, fun j h => absurd h (Nat.not_lt_zero _), Ext.refl w⟩
  case round =>
    obtain ⟨k, hk, rfl, rfl, hall, he⟩ := hrel
    obtain ⟨hb0, hb1⟩ := sumTo_bd hk hall.out
    have HE := Lib.hid (H.ext he)
    by_cases hlt : k < l.length
    · obtain ⟨b, off, rfl⟩ := H.base hlt
      obtain ⟨hb, c0, c1, c2⟩ := Area.at HE.out k hlt
      have hz := hsz k hlt
      cases h1 : areaB (nth l k)
      · have hv : Hid (false = validAreas l) := validAreas_bad hlt (okAt_false1 h1)
        clear hsz H HE
        go_wp2_with fail
        refine region_quiet (by kernel_rfl) (by kernel_rfl) ?_
        repeat (any_goals (first | go_big_quiet_step ((exact Gives.quiet (Gives.same (l25One_any _ _ (nth l k) _ hz (by simp only [lift_cell _ _ _ _ hb, c0]) (by simp only [lift_cell _ _ _ _ hb, c1]) (by simp only [lift_cell _ _ _ _ hb, c2]))))) | quiet_step ((exact Gives.quiet (Gives.same (l25One_any _ _ (nth l k) _ hz (by simp only [lift_cell _ _ _ _ hb, c0]) (by simp only [lift_cell _ _ _ _ hb, c1]) (by simp only [lift_cell _ _ _ _ hb, c2])))))))
        refine wpQuiet_nil ?_
        intro _ hw'
        obtain ⟨y, hw''⟩ := hw'
        subst hw''
        go_wp2
        go_ret
        exact ⟨ret_bool hv.out, he.lift y⟩
      · rcases Nat.eq_zero_or_pos k with hk0 | hk0
        · have hv : Hid (okAt l k = true) := okAt_true0 h1 hk0
          have hs : Hid (sumTo l (k + 1) = sumTo l k + (nth l k).chance) := sumTo_succ l k hlt
          have hp := areaB_parts h1
          have hd : decide (0 < k) = false := decide_eq_false (by omega)
          clear hsz H HE hk0
          obtain ⟨hn1, hn2, hn3, hn4, hn5⟩ := hp
          clear hn1
          go_wp2_with fail
          refine region_quiet (by kernel_rfl) (by kernel_rfl) ?_
          repeat (any_goals (first | go_big_quiet_step ((exact Gives.quiet (Gives.same (l25One_any _ _ (nth l k) _ hz (by simp only [lift_cell _ _ _ _ hb, c0]) (by simp only [lift_cell _ _ _ _ hb, c1]) (by simp only [lift_cell _ _ _ _ hb, c2]))))) | quiet_step ((exact Gives.quiet (Gives.same (l25One_any _ _ (nth l k) _ hz (by simp only [lift_cell _ _ _ _ hb, c0]) (by simp only [lift_cell _ _ _ _ hb, c1]) (by simp only [lift_cell _ _ _ _ hb, c2])))))))
          refine wpQuiet_nil ?_
          intro _ hw'
          obtain ⟨y, hw''⟩ := hw'
          subst hw''
          go_wp2
          go_roundw
          case rel => exact ⟨k + 1, by omega, by go_num, by rw [hs.out], fun j hj => by rcases Nat.lt_or_ge j k with h | h; exact hall.out j h; (obtain rfl : j = k := by omega); exact hv.out, he.lift y⟩
          case measure => simp [intOf]; omega
        · obtain ⟨-, p0, -, -⟩ := Area.at HE.out (k - 1) (by omega)
          have hd : decide (0 < k) = true := decide_eq_true hk0
          obtain ⟨-, hn2, hn3, -, -⟩ := areaB_parts h1
          have hs : Hid (sumTo l (k + 1) = sumTo l k + (nth l k).chance) := sumTo_succ l k hlt
          cases h2 : sLt (nth l (k - 1)).id (nth l k).id
          all_goals
            first
              | have hv : Hid (okAt l k = true) := okAt_true1 h1 h2
              | have hv : Hid (false = validAreas l) := validAreas_bad hlt (okAt_false2 hk0 h2)
            clear hsz H HE
            go_wp2_with fail
            refine region_quiet (by kernel_rfl) (by kernel_rfl) ?_
            repeat (any_goals (first | go_big_quiet_step ((exact Gives.quiet (Gives.same (l25One_any _ _ (nth l k) _ hz (by simp only [lift_cell _ _ _ _ hb, c0]) (by simp only [lift_cell _ _ _ _ hb, c1]) (by simp only [lift_cell _ _ _ _ hb, c2]))))) | quiet_step ((exact Gives.quiet (Gives.same (l25One_any _ _ (nth l k) _ hz (by simp only [lift_cell _ _ _ _ hb, c0]) (by simp only [lift_cell _ _ _ _ hb, c1]) (by simp only [lift_cell _ _ _ _ hb, c2])))))))
            refine wpQuiet_nil ?_
            intro _ hw'
            obtain ⟨y, hw''⟩ := hw'
            subst hw''
            go_wp2
            first
              | (go_ret; exact ⟨ret_bool hv.out, he.lift y⟩)
              | (go_roundw
                 case rel => exact ⟨k + 1, by omega, by go_num, by rw [hs.out], fun j hj => by rcases Nat.lt_or_ge j k with h | h; exact hall.out j h; (obtain rfl : j = k := by omega); exact hv.out, he.lift y⟩
                 case measure => simp [intOf]; omega)
    · have hv : Hid (validAreas l = (decide (l.length ≤ 8) && decide (sumTo l l.length ≤ 1000))) := validAreas_end fun j hj => hall.out j (by omega)
      obtain rfl : k = l.length := by omega
      clear hsz H HE hlt
      by_cases h1 : l.length ≤ 8 <;> by_cases h2 : sumTo l l.length ≤ 1000
      all_goals
        go_wp2
        go_ret
        exact ⟨ret_bool (by rw [hv.out]; simp [*]), he⟩
set_option maxHeartbeats 1000000 in
theorem ValidAreas_any (a : Option Addr) (cap : Nat) (l : List Area) (w : World) (H : AreaAt w a l) (hsz : AreaSz l) (hlen : l.length ≤ 1000000000000) :
    Gives Tryd.prog 18 #[.slice a l.length cap] w (.bool (validAreas l)) := by
  unfold Gives
  by_cases hl8 : 8 < l.length
  · have hv : Hid (false = validAreas l) := validAreas_len hl8
    go_enter Tryd.func18, Tryd.ntmps18
    go_wp2
    go_ret
    exact ⟨ret_bool hv.out, Ext.refl _⟩
  go_enter Tryd.func18, Tryd.ntmps18
  go_wp2_with fail
  go_loopw [3, 11] (fun s i wr => ∃ k : Nat, k ≤ l.length ∧ i = .int .i64 k ∧ s = .int .i64 (sumTo l k) ∧ Hid (∀ j, j < k → okAt l j = true) ∧ Ext w wr) (fun _ i _ => l.length - (intOf i).toNat)
  case atStart => exact ⟨0, Nat.zero_le _, rfl, rfl, upto_zero, Ext.refl w⟩
  case round =>
    obtain ⟨k, hk, rfl, rfl, hall, he⟩ := hrel
    obtain ⟨hb0, hb1⟩ := sumTo_bd hk hall.out
    have HE := Lib.hid (H.ext he)
    by_cases hlt : k < l.length
    · obtain ⟨b, off, rfl⟩ := H.base hlt
      obtain ⟨hb, c0, c1, c2⟩ := Area.at HE.out k hlt
      have hz := hsz k hlt
      have hs : Hid (sumTo l (k + 1) = sumTo l k + (nth l k).chance) := sumTo_succ l k hlt
      cases h1 : areaB (nth l k)
      · have hv : Hid (false = validAreas l) := validAreas_bad hlt (okAt_false1 h1)
        clear hsz H HE
        go_wp2_with fail
        refine region_quiet (by kernel_rfl) (by kernel_rfl) ?_
        repeat (any_goals (first | go_big_quiet_step ((exact Gives.quiet (Area_valid (nth l k) _ hz))) | quiet_step ((exact Gives.quiet (Area_valid (nth l k) _ hz)))))
        refine wpQuiet_nil ?_
        intro _ hw'
        obtain ⟨y, hw''⟩ := hw'
        subst hw''
        go_wp2
        go_ret
        exact ⟨ret_bool hv.out, (he.alloc _).lift y⟩
      · obtain ⟨-, hn2, hn3, -, -⟩ := areaB_parts h1
        rcases Nat.eq_zero_or_pos k with hk0 | hk0
        · have hv : Hid (okAt l k = true) := okAt_true0 h1 hk0
          have hd : decide (0 < k) = false := decide_eq_false (by omega)
          clear hsz H HE hk0
          go_wp2_with fail
          refine region_quiet (by kernel_rfl) (by kernel_rfl) ?_
          repeat (any_goals (first | go_big_quiet_step ((exact Gives.quiet (Area_valid (nth l k) _ hz))) | quiet_step ((exact Gives.quiet (Area_valid (nth l k) _ hz)))))
          refine wpQuiet_nil ?_
          intro _ hw'
          obtain ⟨y, hw''⟩ := hw'
          subst hw''
          go_wp2
          go_roundw
          case rel => exact ⟨k + 1, by omega, by go_num, by rw [hs.out], upto_succ hall.out hv.out, (he.alloc _).lift y⟩
          case measure => simp [intOf]; omega
        · obtain ⟨-, p0, -, -⟩ := Area.at HE.out (k - 1) (by omega)
          have hd : decide (0 < k) = true := decide_eq_true hk0
          cases h2 : sLt (nth l (k - 1)).id (nth l k).id
          all_goals
            first
              | have hv : Hid (okAt l k = true) := okAt_true1 h1 h2
              | have hv : Hid (false = validAreas l) := validAreas_bad hlt (okAt_false2 hk0 h2)
            clear hsz H HE
            go_wp2_with fail
            refine region_quiet (by kernel_rfl) (by kernel_rfl) ?_
            repeat (any_goals (first | go_big_quiet_step ((exact Gives.quiet (Area_valid (nth l k) _ hz))) | quiet_step ((exact Gives.quiet (Area_valid (nth l k) _ hz)))))
            refine wpQuiet_nil ?_
            intro _ hw'
            obtain ⟨y, hw''⟩ := hw'
            subst hw''
            go_wp2
            first
              | (go_ret; exact ⟨ret_bool hv.out, (he.alloc _).lift y⟩)
              | (go_roundw
                 case rel => exact ⟨k + 1, by omega, by go_num, by rw [hs.out], upto_succ hall.out hv.out, (he.alloc _).lift y⟩
                 case measure => simp [intOf]; omega)
    · have hv : Hid (validAreas l = (decide (l.length ≤ 8) && decide (sumTo l l.length ≤ 1000))) := validAreas_end fun j hj => hall.out j (by omega)
      obtain rfl : k = l.length := by omega
      have hl8' : decide (l.length ≤ 8) = true := decide_eq_true (by omega)
      clear hsz H HE hlt
      by_cases h2 : sumTo l l.length ≤ 1000
      all_goals
        go_wp2
        go_ret
        exact ⟨ret_bool (by rw [hv.out, hl8']; simp [h2]), he⟩
end Go.Proofs.YtccbcjopmkmipaaDoor
