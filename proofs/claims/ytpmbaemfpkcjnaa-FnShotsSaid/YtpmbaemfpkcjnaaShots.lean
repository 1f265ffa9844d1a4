/- Chapter 22: plans of shots. What the program's and the reference's functions on an order of shots hand back. -/
import Derived.Test.YtpmbaemfpkcjnaaShot
import Derived.Test.YtpmbaemfpkcjnaaValid
import Derived.Test.YtpmbaemfpkcjnaaOrder
import Derived.Test.YtpmbaemfpkcjnaaLst
import Derived.Laws.OwnMore
namespace Go.Proofs.Ytpmbaemfpkcjnaa
open Go.RowKit
theorem Shot.Small.sz {x : Shot} (h : x.Small) : x.id.size ≤ 2000000 := by unfold Shot.Small at h; omega
def shotOrd (x y : Shot) : Bool := sLt x.id y.id
/-- The list is valid. -/
def shotList (l : List Shot) : Bool := vAll shotB shotOrd 8 l
set_option maxRecDepth 100000 in
set_option maxHeartbeats 2000000 in
theorem ValidShots_any (a : Option Addr) (cap : Nat) (l : List Shot) (w : World) (H : ShotAt w a l) (hsz : ∀ k, k < l.length → (nth l k).Small) (hlen : l.length ≤ 1048576) :
    Gives Try.prog 20 #[.slice a l.length cap] w (.bool (shotList l)) := by
  unfold Gives
  by_cases hl8 : 8 < l.length
  · have hv : Hid (false = shotList l) := vAll_len hl8
    go_enter Try.func20, Try.ntmps20
    go_wp2
    go_ret
    exact ⟨ret_bool hv.out, Ext.refl _⟩
  go_enter Try.func20, Try.ntmps20
  go_wp2_with fail
  go_loopw [10] (fun i wr => ∃ k : Nat, k ≤ l.length ∧ i = .int .i64 k ∧ Hid (∀ j, j < k → vOk shotB shotOrd l j = true) ∧ Ext w wr) (fun i _ => l.length - (intOf i).toNat)
  case atStart => exact ⟨0, Nat.zero_le _, rfl, upto_zero, Ext.refl w⟩
  case round =>
    obtain ⟨k, hk, rfl, hall, he⟩ := hrel
    by_cases hlt : k < l.length
    · obtain ⟨b, off, rfl⟩ := H.base hlt
      obtain ⟨hb, c0, c1, c2, c3, c4⟩ := Shot.at (H.ext he) k hlt
      have hz := (hsz k hlt).sz
      cases h1 : shotB (nth l k)
      · have hv : Hid (false = shotList l) := vAll_bad hlt (vOk_false1 h1)
        clear hsz H
        go_wp2_with fail
        refine region_quiet (by kernel_rfl) (by kernel_rfl) ?_
        repeat (any_goals (first | go_big_quiet_step ((exact Gives.quiet (Shot_valid (nth l k) _ hz))) | quiet_step ((exact Gives.quiet (Shot_valid (nth l k) _ hz)))))
        refine wpQuiet_nil ?_
        intro _ hw'
        obtain ⟨y, hw''⟩ := hw'
        subst hw''
        go_wp2
        go_ret
        exact ⟨ret_bool hv.out, (he.alloc _).lift y⟩
      · rcases Nat.eq_zero_or_pos k with hk0 | hk0
        · have hv : Hid (vOk shotB shotOrd l k = true) := vOk_true0 h1 hk0
          have hd : decide (0 < k) = false := decide_eq_false (by omega)
          clear hsz H hk0
          go_wp2_with fail
          refine region_quiet (by kernel_rfl) (by kernel_rfl) ?_
          repeat (any_goals (first | go_big_quiet_step ((exact Gives.quiet (Shot_valid (nth l k) _ hz))) | quiet_step ((exact Gives.quiet (Shot_valid (nth l k) _ hz)))))
          refine wpQuiet_nil ?_
          intro _ hw'
          obtain ⟨y, hw''⟩ := hw'
          subst hw''
          go_wp2
          go_roundw
          case rel => exact ⟨k + 1, by omega, by go_num, upto_succ hall.out hv.out, (he.alloc _).lift y⟩
          case measure => simp [intOf]; omega
        · obtain ⟨-, p0, -, -, -, -⟩ := Shot.at (H.ext he) (k - 1) (by omega)
          have hd : decide (0 < k) = true := decide_eq_true hk0
          cases h2 : sLt (nth l (k - 1)).id (nth l k).id
          all_goals
            first
              | have hv : Hid (vOk shotB shotOrd l k = true) := vOk_true1 h1 h2
              | have hv : Hid (false = shotList l) := vAll_bad hlt (vOk_false2 hk0 h2)
            clear hsz H
            go_wp2_with fail
            refine region_quiet (by kernel_rfl) (by kernel_rfl) ?_
            repeat (any_goals (first | go_big_quiet_step ((exact Gives.quiet (Shot_valid (nth l k) _ hz))) | quiet_step ((exact Gives.quiet (Shot_valid (nth l k) _ hz)))))
            refine wpQuiet_nil ?_
            intro _ hw'
            obtain ⟨y, hw''⟩ := hw'
            subst hw''
            go_wp2
            first
              | (go_ret; exact ⟨ret_bool hv.out, (he.alloc _).lift y⟩)
              | (go_roundw
                 case rel => exact ⟨k + 1, by omega, by go_num, upto_succ hall.out hv.out, (he.alloc _).lift y⟩
                 case measure => simp [intOf]; omega)
    · have hv : Hid (shotList l = decide (l.length ≤ 8)) := vAll_end fun j hj => hall.out j (by omega)
      have hl8' : decide (l.length ≤ 8) = true := decide_eq_true (by omega)
      clear hsz H
      go_wp2
      go_ret
      exact ⟨ret_bool (by rw [hv.out, hl8']), he⟩
set_option maxRecDepth 100000 in
set_option maxHeartbeats 2000000 in
theorem l22Ok_any (a : Option Addr) (cap : Nat) (l : List Shot) (w : World) (H : ShotAt w a l) (hsz : ∀ k, k < l.length → (nth l k).Small) (hlen : l.length ≤ 1048576) :
    Gives Try.prog 66 #[.slice a l.length cap] w (.bool (shotList l)) := by
  unfold Gives
  go_enter Try.func66, Try.ntmps66
  go_wp2_with fail
  go_loopw [3] (fun i wr => ∃ k : Nat, k ≤ l.length ∧ i = .int .i64 k ∧ Hid (∀ j, j < k → vOk shotB shotOrd l j = true) ∧ Ext w wr) (fun i _ => l.length - (intOf i).toNat)
  case atStart => exact ⟨0, Nat.zero_le _, rfl, upto_zero, Ext.refl w⟩
  case round =>
    obtain ⟨k, hk, rfl, hall, he⟩ := hrel
    by_cases hlt : k < l.length
    · obtain ⟨b, off, rfl⟩ := H.base hlt
      obtain ⟨hb, c0, c1, c2, c3, c4⟩ := Shot.at (H.ext he) k hlt
      have hz := (hsz k hlt).sz
      cases h1 : shotB (nth l k)
      · have hv : Hid (false = shotList l) := vAll_bad hlt (vOk_false1 h1)
        clear hsz H
        go_wp2_with fail
        refine region_quiet (by kernel_rfl) (by kernel_rfl) ?_
        repeat (any_goals (first | go_big_quiet_step ((first | exact Gives.quiet (l22One_any _ _ (nth l k) _ hz (by simp only [lift_cell _ _ _ _ hb, c0]) (by simp only [lift_cell _ _ _ _ hb, c1]) (by simp only [lift_cell _ _ _ _ hb, c2]) (by simp only [lift_cell _ _ _ _ hb, c3]) (by simp only [lift_cell _ _ _ _ hb, c4])) | exact Gives.quiet (Gives.same (l22One_any _ _ (nth l k) _ hz (by simp only [lift_cell _ _ _ _ hb, c0]) (by simp only [lift_cell _ _ _ _ hb, c1]) (by simp only [lift_cell _ _ _ _ hb, c2]) (by simp only [lift_cell _ _ _ _ hb, c3]) (by simp only [lift_cell _ _ _ _ hb, c4]))))) | quiet_step ((first | exact Gives.quiet (l22One_any _ _ (nth l k) _ hz (by simp only [lift_cell _ _ _ _ hb, c0]) (by simp only [lift_cell _ _ _ _ hb, c1]) (by simp only [lift_cell _ _ _ _ hb, c2]) (by simp only [lift_cell _ _ _ _ hb, c3]) (by simp only [lift_cell _ _ _ _ hb, c4])) | exact Gives.quiet (Gives.same (l22One_any _ _ (nth l k) _ hz (by simp only [lift_cell _ _ _ _ hb, c0]) (by simp only [lift_cell _ _ _ _ hb, c1]) (by simp only [lift_cell _ _ _ _ hb, c2]) (by simp only [lift_cell _ _ _ _ hb, c3]) (by simp only [lift_cell _ _ _ _ hb, c4])))))))
        refine wpQuiet_nil ?_
        intro _ hw'
        obtain ⟨y, hw''⟩ := hw'
        subst hw''
        go_wp2
        go_ret
        exact ⟨ret_bool hv.out, he.lift y⟩
      · rcases Nat.eq_zero_or_pos k with hk0 | hk0
        · have hv : Hid (vOk shotB shotOrd l k = true) := vOk_true0 h1 hk0
          have hd : decide (0 < k) = false := decide_eq_false (by omega)
          clear hsz H hk0
          go_wp2_with fail
          refine region_quiet (by kernel_rfl) (by kernel_rfl) ?_
          repeat (any_goals (first | go_big_quiet_step ((first | exact Gives.quiet (l22One_any _ _ (nth l k) _ hz (by simp only [lift_cell _ _ _ _ hb, c0]) (by simp only [lift_cell _ _ _ _ hb, c1]) (by simp only [lift_cell _ _ _ _ hb, c2]) (by simp only [lift_cell _ _ _ _ hb, c3]) (by simp only [lift_cell _ _ _ _ hb, c4])) | exact Gives.quiet (Gives.same (l22One_any _ _ (nth l k) _ hz (by simp only [lift_cell _ _ _ _ hb, c0]) (by simp only [lift_cell _ _ _ _ hb, c1]) (by simp only [lift_cell _ _ _ _ hb, c2]) (by simp only [lift_cell _ _ _ _ hb, c3]) (by simp only [lift_cell _ _ _ _ hb, c4]))))) | quiet_step ((first | exact Gives.quiet (l22One_any _ _ (nth l k) _ hz (by simp only [lift_cell _ _ _ _ hb, c0]) (by simp only [lift_cell _ _ _ _ hb, c1]) (by simp only [lift_cell _ _ _ _ hb, c2]) (by simp only [lift_cell _ _ _ _ hb, c3]) (by simp only [lift_cell _ _ _ _ hb, c4])) | exact Gives.quiet (Gives.same (l22One_any _ _ (nth l k) _ hz (by simp only [lift_cell _ _ _ _ hb, c0]) (by simp only [lift_cell _ _ _ _ hb, c1]) (by simp only [lift_cell _ _ _ _ hb, c2]) (by simp only [lift_cell _ _ _ _ hb, c3]) (by simp only [lift_cell _ _ _ _ hb, c4])))))))
          refine wpQuiet_nil ?_
          intro _ hw'
          obtain ⟨y, hw''⟩ := hw'
          subst hw''
          go_wp2
          go_roundw
          case rel => exact ⟨k + 1, by omega, by go_num, upto_succ hall.out hv.out, he.lift y⟩
          case measure => simp [intOf]; omega
        · obtain ⟨-, p0, -, -, -, -⟩ := Shot.at (H.ext he) (k - 1) (by omega)
          have hd : decide (0 < k) = true := decide_eq_true hk0
          cases h2 : sLt (nth l (k - 1)).id (nth l k).id
          all_goals
            first
              | have hv : Hid (vOk shotB shotOrd l k = true) := vOk_true1 h1 h2
              | have hv : Hid (false = shotList l) := vAll_bad hlt (vOk_false2 hk0 h2)
            clear hsz H
            go_wp2_with fail
            refine region_quiet (by kernel_rfl) (by kernel_rfl) ?_
            repeat (any_goals (first | go_big_quiet_step ((first | exact Gives.quiet (l22One_any _ _ (nth l k) _ hz (by simp only [lift_cell _ _ _ _ hb, c0]) (by simp only [lift_cell _ _ _ _ hb, c1]) (by simp only [lift_cell _ _ _ _ hb, c2]) (by simp only [lift_cell _ _ _ _ hb, c3]) (by simp only [lift_cell _ _ _ _ hb, c4])) | exact Gives.quiet (Gives.same (l22One_any _ _ (nth l k) _ hz (by simp only [lift_cell _ _ _ _ hb, c0]) (by simp only [lift_cell _ _ _ _ hb, c1]) (by simp only [lift_cell _ _ _ _ hb, c2]) (by simp only [lift_cell _ _ _ _ hb, c3]) (by simp only [lift_cell _ _ _ _ hb, c4]))))) | quiet_step ((first | exact Gives.quiet (l22One_any _ _ (nth l k) _ hz (by simp only [lift_cell _ _ _ _ hb, c0]) (by simp only [lift_cell _ _ _ _ hb, c1]) (by simp only [lift_cell _ _ _ _ hb, c2]) (by simp only [lift_cell _ _ _ _ hb, c3]) (by simp only [lift_cell _ _ _ _ hb, c4])) | exact Gives.quiet (Gives.same (l22One_any _ _ (nth l k) _ hz (by simp only [lift_cell _ _ _ _ hb, c0]) (by simp only [lift_cell _ _ _ _ hb, c1]) (by simp only [lift_cell _ _ _ _ hb, c2]) (by simp only [lift_cell _ _ _ _ hb, c3]) (by simp only [lift_cell _ _ _ _ hb, c4])))))))
            refine wpQuiet_nil ?_
            intro _ hw'
            obtain ⟨y, hw''⟩ := hw'
            subst hw''
            go_wp2
            first
              | (go_ret; exact ⟨ret_bool hv.out, he.lift y⟩)
              | (go_roundw
                 case rel => exact ⟨k + 1, by omega, by go_num, upto_succ hall.out hv.out, he.lift y⟩
                 case measure => simp [intOf]; omega)
    · have hv : Hid (shotList l = decide (l.length ≤ 8)) := vAll_end fun j hj => hall.out j (by omega)
      clear hsz H
      go_wp2
      go_ret
      exact ⟨ret_bool (by rw [hv.out, Bool.eq_iff_iff, decide_eq_true_eq, decide_eq_true_eq]; omega), he⟩
theorem elInt : El Try.prog 25 2 1 8 := El.mk' Try.underlying25 (by kernel_rfl) (by decide)
theorem oneInt : ∀ (x : Int) (j : Nat), j < 1 → ((fun (x : Int) (_ : Nat) => Value.int .i64 x) x j).oneCell' = true := fun _ _ _ => rfl
set_option maxRecDepth 100000 in
set_option maxHeartbeats 1000000 in
theorem CloneInt_any (a : Option Addr) (cap : Nat) (l : List Int) (w : World) (H : IntAt w a l) (hlen : l.length ≤ 1048576) :
    Calls Try.prog 43 #[.slice a l.length cap] w (OutL 2 1 (fun (x : Int) (_ : Nat) => Value.int .i64 x) w l) := by
  cases a with
  | none =>
    have h0 : l.length = 0 := by
      rcases Nat.eq_zero_or_pos l.length with h | h
      · exact h
      · obtain ⟨b, off, h, _⟩ := H 0 h; cases h
    obtain rfl : l = [] := List.length_eq_zero_iff.1 h0
    have q0 : ∀ W, (binOp .eql 25 (.slice none 0 cap) (.slice none 0 0)).run Try.prog W = .ok (.bool true) W := fun W => Lib.run_eql_slice_nil W _ _ none 0 cap 0 0 Try.underlying25
    go_enter Try.func43, Try.ntmps43
    go_wp2_with fail
    go_ret
    exact ⟨none, 0, rfl, Nat.le_refl _, .inl rfl, RowsAt.nil, Ext.refl _⟩
  | some ad =>
    have HL : Hid (Lst 2 1 (fun (x : Int) (_ : Nat) => Value.int .i64 x) (w.alloc (.cells #[] 2)) w.heap.size (.slice (some ⟨w.heap.size, 0, none⟩) 0 0) ([] : List Int)) := Lst.new w _ (Nat.le_refl _)
    have hE := Lib.hid ((Ext.refl w).alloc (.cells #[] 2))
    have HR := Lib.hid (H.ext hE.out)
    have hb : Hid (w.heap.size ≤ (w.alloc (.cells #[] 2)).heap.size) := by show _ ≤ _; rw [size_new]; omega
    have C1 : Hid (([] : List Int).length + l.length ≤ 9223372036854775807) := by show _ ≤ _; simp; omega
    have C2 : Hid ((([] : List Int).length + l.length) * 8 ≤ 140737488355328) := by show _ ≤ _; simp; omega
    clear H
    have q0 : ∀ W, (binOp .eql 25 (.slice (some ad) l.length cap) (.slice none 0 0)).run Try.prog W = .ok (.bool false) W := fun W => Lib.run_eql_slice_nil W _ _ (some ad) l.length cap 0 0 Try.underlying25
    go_enter Try.func43, Try.ntmps43
    go_wp2_with (at_builtin; refine wpList_pushL elInt oneInt rfl _ _ rfl w.heap.size _ [] rfl HL.out ad l.length cap l rfl rfl HR.out C1.out C2.out hb.out ?_; intro v' w1 HL1 hs1 _)
    rw [List.nil_append] at HL1
    obtain ⟨a', cap', rfl, hc', hm', R1, O1⟩ := HL1.shape
    have hX : Hid (Ext w w1) := hs1.ext hE.out (Nat.le_refl _)
    have R2 := Lib.hid R1
    have O2 := Lib.hid O1
    clear HL1 hs1 R1 O1
    go_wp2_with fail
    go_ret
    exact ⟨a', cap', rfl, hc', O2.out, R2.out, hX.out⟩
/-- The place of the first least number among the first k + 1. -/
def argm (l : List Int) : Nat → Nat
  | 0 => 0
  | k + 1 => if nth l (k + 1) < nth l (argm l k) then k + 1 else argm l k
theorem argm_le (l : List Int) : ∀ k, argm l k ≤ k
  | 0 => Nat.le_refl _
  | k + 1 => by
    have := argm_le l k
    simp only [argm]; split <;> omega
theorem argm_least (l : List Int) : ∀ k j, j ≤ k → nth l (argm l k) ≤ nth l j
  | 0, j, h => by obtain rfl : j = 0 := by omega
                  exact Int.le_refl _
  | k + 1, j, h => by
    simp only [argm]
    rcases Nat.lt_or_ge j (k + 1) with h1 | h1
    · have := argm_least l k j (by omega)
      split <;> omega
    · obtain rfl : j = k + 1 := by omega
      split <;> omega
theorem argm_first (l : List Int) : ∀ k j, j < argm l k → nth l (argm l k) < nth l j
  | 0, j, h => absurd h (Nat.not_lt_zero _)
  | k + 1, j, h => by
    simp only [argm] at h ⊢
    split at h
    · rename_i hc
      rw [if_pos hc]
      have := argm_least l k j (by omega)
      omega
    · rename_i hc
      rw [if_neg hc]
      exact argm_first l k j h
def least (l : List Int) : Nat := argm l (l.length - 1)
theorem least_lt {l : List Int} (h : 0 < l.length) : least l < l.length := by have := argm_le l (l.length - 1); unfold least; omega
theorem idx_least {l : List Int} (h : 0 < l.length) : idxI l (fun x => nth l (least l) == x) = (least l : Int) :=
  (idxI_hit (p := fun x => nth l (least l) == x) (least_lt h) (by simp) (fun j hj => by
    have := argm_first l (l.length - 1) j hj
    exact beq_eq_false_iff_ne.2 (by unfold least; omega))).symm
set_option maxHeartbeats 1000000 in
theorem Min_any (a : Option Addr) (cap : Nat) (l : List Int) (w : World) (H : IntAt w a l) (h0 : 0 < l.length) (hlen : l.length ≤ 1000000000000) :
    Calls Try.prog 54 #[.slice a l.length cap] w fun e w' => e = .returned (.int .i64 (nth l (least l))) ∧ w' = w := by
  obtain ⟨b, off, rfl⟩ := H.base h0
  obtain ⟨hb, c0⟩ := IntAt.at H 0 h0
  rw [Nat.add_zero] at c0
  go_enter Try.func54, Try.ntmps54
  go_wp2
  go_loop [3, 4] (fun m i => ∃ k : Nat, k + 1 ≤ l.length ∧ i = .int .i64 ((k : Int) + 1) ∧ m = .int .i64 (nth l (argm l k))) (fun _ i => l.length - (intOf i).toNat)
  case atStart => exact ⟨0, h0, rfl, rfl⟩
  case round =>
    obtain ⟨k, hk, rfl, rfl⟩ := hrel
    by_cases hlt : k + 1 < l.length
    · obtain ⟨-, d0⟩ := IntAt.at H (k + 1) hlt
      clear H c0
      rcases Int.lt_or_le (nth l (k + 1)) (nth l (argm l k)) with hc | hc
      · have hn : Hid (argm l (k + 1) = k + 1) := by show _ = _; simp only [argm]; rw [if_pos hc]
        go_wp2
        go_round
        case rel => exact ⟨k + 1, by omega, by go_num, by rw [hn.out]⟩
        case measure => simp [intOf]; omega
      · have hn : Hid (argm l (k + 1) = argm l k) := by show _ = _; simp only [argm]; rw [if_neg (by omega)]
        go_wp2
        go_round
        case rel => exact ⟨k + 1, by omega, by go_num, by rw [hn.out]⟩
        case measure => simp [intOf]; omega
    · have hn : Hid (least l = argm l k) := by show _ = _; unfold least; rw [show l.length - 1 = k by omega]
      clear H c0
      go_wp2
      go_ret
      exact ⟨ret_int (by rw [hn.out]), rfl⟩
structure Work where
  beg : Int
  fin : Int
instance : Inhabited Work := ⟨⟨0, 0⟩⟩
def Work.cell (x : Work) : Nat → Value
  | 0 => .int .i64 x.beg
  | _ => .int .i64 x.fin
def Work.val (x : Work) : Value := .agg #[.int .i64 x.beg, .int .i64 x.fin]
/-- A slice of these begins at a, and its elements hold l. -/
abbrev WorkAt (w : World) (a : Option Addr) (l : List Work) : Prop := RowsAt 2 Work.cell w a l
theorem Work.at {w : World} {b off : Nat} {l : List Work} (h : WorkAt w (some ⟨b, off, none⟩) l) (k : Nat) (hk : k < l.length) :
    b < w.heap.size ∧ w.cell? ⟨b, off + k * 2, none⟩ = some (.int .i64 (nth l k).beg) ∧ w.cell? ⟨b, off + k * 2 + 1, none⟩ = some (.int .i64 (nth l k).fin) :=
  let h' := RowsAt.at h k hk; ⟨h'.1, h'.2 0 (by decide), h'.2 1 (by decide)⟩
/-- The lengths of the strings that come in are those of strings that fit in memory. -/
def Work.Sz (_x : Work) : Prop := True
def Work.Small (_x : Work) : Prop := True
def Work.Wf (x : Work) : Prop := (-9223372036854775808 ≤ x.beg ∧ x.beg ≤ 9223372036854775807) ∧ (-9223372036854775808 ≤ x.fin ∧ x.fin ≤ 9223372036854775807)
theorem elWork : El Try.prog 49 53 2 16 := El.mk' Try.underlying49 (by kernel_rfl) (by decide)
theorem oneWork : ∀ (x : Work) (j : Nat), j < 2 → (Work.cell x j).oneCell' = true := fun x j hj => by rcases (show j = 0 ∨ j = 1 by omega) with rfl | rfl <;> rfl
structure Plan where
  free : List Int
  works : List Work
/-- One shot more. -/
def stepP (x : Shot) (p : Plan) : Option Plan :=
  if max (nth p.free (least p.free)) x.frm + x.mins ≤ x.til then
    some ⟨p.free.set (least p.free) (max (nth p.free (least p.free)) x.frm + x.mins), p.works ++ [⟨max (nth p.free (least p.free)) x.frm, max (nth p.free (least p.free)) x.frm + x.mins⟩]⟩
  else none
def pickS (l : List Shot) (ord : List Int) (k : Nat) : Shot := nth l (nth ord k).toNat
def planS (l : List Shot) (ord : List Int) (crews : Nat) : Nat → Option Plan
  | 0 => some ⟨List.replicate crews 0, []⟩
  | k + 1 => (planS l ord crews k).bind (stepP (pickS l ord k))
theorem planS_none {l : List Shot} {ord : List Int} {crews k : Nat} (h : planS l ord crews k = none) : ∀ j, planS l ord crews (k + j) = none
  | 0 => h
  | j + 1 => by
    show (planS l ord crews (k + j)).bind _ = none
    rw [planS_none h j]; rfl
theorem planS_fail {l : List Shot} {ord : List Int} {crews k n : Nat} {p : Plan} (hk : k < n) (h : planS l ord crews k = some p) (h2 : stepP (pickS l ord k) p = none) : planS l ord crews n = none := by
  have h3 : planS l ord crews (k + 1) = none := by show (planS l ord crews k).bind _ = none; rw [h]; exact h2
  have := planS_none h3 (n - (k + 1))
  rwa [show k + 1 + (n - (k + 1)) = n by omega] at this
theorem planS_next {l : List Shot} {ord : List Int} {crews k : Nat} {p q : Plan} (h : planS l ord crews k = some p) (h2 : stepP (pickS l ord k) p = some q) : planS l ord crews (k + 1) = some q := by
  show (planS l ord crews k).bind _ = some q; rw [h]; exact h2
/-- The list is one of valid shots, the order names some of them. -/
structure ShotsOk (l : List Shot) (ord : List Int) : Prop where
  shot : ∀ k, k < l.length → shotB (nth l k) = true
  ord : ∀ k, k < ord.length → 0 ≤ nth ord k ∧ nth ord k < l.length
theorem ShotsOk.pick {l : List Shot} {ord : List Int} (h : ShotsOk l ord) {k : Nat} (hk : k < ord.length) : shotB (pickS l ord k) = true := h.shot _ (by have := h.ord k hk; omega)
theorem nth_replicate {n k : Nat} {x : Int} (h : k < n) : nth (List.replicate n x) k = x := by rw [nth_eq _ _ (by simpa using h)]; simp
structure PlanOk (crews k : Nat) (p : Plan) : Prop where
  len : p.free.length = crews
  wlen : p.works.length = k
  free : ∀ j, j < crews → 0 ≤ nth p.free j ∧ nth p.free j ≤ 1440
  works : ∀ j, j < k → 0 ≤ (nth p.works j).beg ∧ (nth p.works j).beg < (nth p.works j).fin ∧ (nth p.works j).fin ≤ 1440
theorem nth_append_left {α : Type} [Inhabited α] {l m : List α} {k : Nat} (h : k < l.length) : nth (l ++ m) k = nth l k := by
  rw [nth_eq _ _ (by rw [List.length_append]; omega), nth_eq _ _ h, List.getElem_append_left h]
theorem nth_append_last {α : Type} [Inhabited α] (l : List α) (x : α) : nth (l ++ [x]) l.length = x := by
  rw [nth_eq _ _ (by simp)]; simp
theorem stepP_some {x : Shot} {p q : Plan} (h : stepP x p = some q) : max (nth p.free (least p.free)) x.frm + x.mins ≤ x.til ∧ q = ⟨p.free.set (least p.free) (max (nth p.free (least p.free)) x.frm + x.mins), p.works ++ [⟨max (nth p.free (least p.free)) x.frm, max (nth p.free (least p.free)) x.frm + x.mins⟩]⟩ := by
  unfold stepP at h
  split at h
  · exact ⟨by assumption, (Option.some.inj h).symm⟩
  · cases h
theorem planS_ok {l : List Shot} {ord : List Int} {crews : Nat} (hc : 0 < crews) (h : ShotsOk l ord) : ∀ {k : Nat} {p : Plan}, k ≤ ord.length → planS l ord crews k = some p → PlanOk crews k p
  | 0, p, _, e => by
    simp only [planS, Option.some.injEq] at e
    subst e
    exact ⟨by simp, rfl, fun j hj => by rw [nth_replicate hj]; omega, upto_zero⟩
  | k + 1, q, hk, e => by
    have e' : (planS l ord crews k).bind (stepP (pickS l ord k)) = some q := e
    cases hp : planS l ord crews k with
    | none => rw [hp] at e'; cases e'
    | some p =>
      rw [hp] at e'
      obtain ⟨h1, rfl⟩ := stepP_some e'
      have ok := planS_ok hc h (k := k) (by omega) hp
      have hs := shotB_bd (h.pick (k := k) (by omega))
      have hl := least_lt (l := p.free) (by rw [ok.len]; exact hc)
      have hf := ok.free (least p.free) (by rw [← ok.len]; exact hl)
      refine ⟨by simp [ok.len], by simp [ok.wlen], fun j hj => ?_, fun j hj => ?_⟩
      · by_cases hjl : least p.free = j
        · rw [← hjl, nth_set_same _ _ _ hl]; omega
        · rw [nth_set_other _ _ _ _ hjl]; exact ok.free j hj
      · rcases Nat.lt_or_ge j k with h3 | h3
        · rw [nth_append_left (by rw [ok.wlen]; exact h3)]; exact ok.works j h3
        · obtain rfl : j = p.works.length := by rw [ok.wlen]; omega
          rw [nth_append_last]
          show 0 ≤ max _ _ ∧ max _ _ < max _ _ + _ ∧ max _ _ + _ ≤ 1440
          omega
def worksB (l : List Shot) (ord : List Int) (crews : Nat) : Bool := (planS l ord crews ord.length).isSome
def worksV (l : List Shot) (ord : List Int) (crews : Nat) : List Work := match planS l ord crews ord.length with | some p => p.works | none => []
theorem works_none {l : List Shot} {ord : List Int} {crews : Nat} (h : planS l ord crews ord.length = none) : worksB l ord crews = false ∧ worksV l ord crews = [] := by unfold worksB worksV; rw [h]; exact ⟨rfl, rfl⟩
theorem works_some {l : List Shot} {ord : List Int} {crews : Nat} {p : Plan} (h : planS l ord crews ord.length = some p) : worksB l ord crews = true ∧ worksV l ord crews = p.works := by unfold worksB worksV; rw [h]; exact ⟨rfl, rfl⟩
set_option maxRecDepth 100000 in
set_option maxHeartbeats 8000000 in
theorem worksOf_any (a : Option Addr) (cap : Nat) (l : List Shot) (a2 : Option Addr) (cap2 : Nat) (ord : List Int) (crews : Nat) (w : World) (H : ShotAt w a l) (H2 : IntAt w a2 ord) (hok : ShotsOk l ord) (hc0 : 0 < crews) (hc1 : crews ≤ 3) (hlen : ord.length ≤ 1048576) :
    Calls Try.prog 35 #[.slice a l.length cap, .slice a2 ord.length cap2, .int .i64 (crews : Int)] w (OutS 53 2 Work.cell w (worksV l ord crews) [.bool (worksB l ord crews)]) := by
  have HA := Lib.hid H
  have HI := Lib.hid H2
  have HK := Lib.hid hok
  clear H H2 hok
  have hmk := run_make_blk (P := Try.prog) (t := 25) Try.underlying25 (by kernel_rfl : (Try.prog.info? 2).map (fun i => (i.zero.map Value.cells, i.size, i.bytes)) = some (some #[.int .i64 0], 1, 8)) .i64 .i64 crews (by omega) (by omega) w
  have hB := Blk.new w (madeCells #[.int .i64 0] (crews * 1)) 2
  rw [size_madeCells] at hB
  rw [Nat.mul_one] at hmk hB
  have hR : IntAt (w.alloc (.cells (madeCells #[.int .i64 0] crews) 2)) (some ⟨w.heap.size, 0, none⟩) (List.replicate crews 0) :=
    IntAt.of (by rw [size_new]; omega) fun k hk => by
      rw [List.length_replicate] at hk
      rw [Nat.zero_add, cell_new, nth_replicate hk, ← Array.getElem?_toList, toList_madeCells_one]; simp [hk]
  have hE := (Ext.refl w).alloc (.cells (madeCells #[.int .i64 0] crews) 2)
  have hL : Lst 53 2 Work.cell (w.alloc (.cells (madeCells #[.int .i64 0] crews) 2)) (w.heap.size + 1) (.slice none 0 0) [] := Lst.nil _ _
  go_enter Try.func35, Try.ntmps35
  go_wp2_with fail
  clear hmk
  obtain ⟨g, hg⟩ : ∃ g, g = w.heap.size := ⟨_, rfl⟩
  have hg0 : w.heap.size ≤ g := by omega
  rw [← hg] at hB hR hL ⊢
  have hW0 : g < (w.alloc (.cells (madeCells #[.int .i64 0] crews) 2)).heap.size := hB.lt
  generalize w.alloc (.cells (madeCells #[.int .i64 0] crews) 2) = W at *
  have HG := Lib.hid hg
  clear hg
  have HB0 := Lib.hid hB
  have HR0 := Lib.hid hR
  have HL0 := Lib.hid hL
  clear hB hR hL
  go_loopw [9, 18] (fun o i wr => ∃ (k : Nat) (p : Plan), k ≤ ord.length ∧ i = .int .i64 k ∧ Hid (planS l ord crews k = some p) ∧ Hid (Lst 53 2 Work.cell wr (g + 1) o p.works) ∧ Hid (Blk wr g 2 crews) ∧ Hid (IntAt wr (some ⟨g, 0, none⟩) p.free) ∧ Ext w wr) (fun _ i _ => ord.length - (intOf i).toNat)
  case atStart => exact ⟨0, ⟨List.replicate crews 0, []⟩, Nat.zero_le _, rfl, rfl, HL0.out, HB0.out, HR0.out, hE⟩
  case round =>
    obtain ⟨k, p, hk, rfl, hp, HL, HB, HF, he⟩ := hrel
    clear HL0 HB0 HR0 hE
    have ok := planS_ok hc0 HK.out hk hp.out
    have hfl : Hid (p.free.length = crews) := ok.len
    have hwl : Hid (p.works.length = k) := ok.wlen
    by_cases hlt : k < ord.length
    · obtain ⟨b2, off2, rfl⟩ := HI.out.base hlt
      obtain ⟨hb2, d0⟩ := IntAt.at (HI.out.ext he) k hlt
      obtain ⟨i0, i1⟩ := HK.out.ord k hlt
      obtain ⟨m, hm⟩ := Int.eq_ofNat_of_zero_le i0
      have hml : m < l.length := by omega
      obtain ⟨b, off, rfl⟩ := HA.out.base hml
      have hpk : Hid (pickS l ord k = nth l m) := by show _ = _; unfold pickS; rw [hm]; rfl
      have hsb := shotB_bd (HK.out.shot m hml)
      obtain ⟨-, s1, s2, s3, s4, s5⟩ := hsb
      rw [hm] at d0
      have hl0 := least_lt (l := p.free) (by rw [hfl.out]; exact hc0)
      have hfb := ok.free (least p.free) (by rw [← hfl.out]; exact hl0)
      obtain ⟨G, hG⟩ : ∃ G, G = least p.free := ⟨_, rfl⟩
      have hGl : G < crews := by rw [hG, ← hfl.out]; exact hl0
      have f0 : wr.cell? ⟨g, G, none⟩ = some (.int .i64 (nth p.free G)) := by
        have := (IntAt.at HF.out G (by rw [hfl.out]; exact hGl)).2; rwa [Nat.zero_add] at this
      have hgl := HB.out.lt
      have fz := HB.out.frozen G
      rw [← hG] at hfb
      have hix : Hid (idxI p.free (fun x => nth p.free G == x) = (G : Int)) := by show _ = _; rw [hG]; exact idx_least (by rw [hfl.out]; exact hc0)
      have HM : Hid (Calls Try.prog 54 #[.slice (some ⟨g, 0, none⟩) crews crews] wr fun e w' => e = .returned (.int .i64 (nth p.free G)) ∧ w' = wr) := by
        have := Min_any (some ⟨g, 0, none⟩) crews p.free wr HF.out (by rw [hfl.out]; exact hc0) (by rw [hfl.out]; omega)
        rw [← hG, hfl.out] at this; exact this
      have HX : Hid (Calls Try.prog 53 #[.slice (some ⟨g, 0, none⟩) crews crews, .int .i64 (nth p.free G)] wr fun e w' => e = .returned (.int .i64 (G : Int)) ∧ w' = wr) := by
        have := Index_any (some ⟨g, 0, none⟩) crews p.free (nth p.free G) wr HF.out (by rw [hfl.out]; omega)
        rw [hix.out, hfl.out] at this; exact this
      have hGG := Lib.hid hG
      obtain ⟨hb, c0, c1, c2, c3, c4⟩ := Shot.at (HA.out.ext he) m hml
      obtain ⟨fb1, fb2⟩ := hfb
      clear ok i0 i1 hm hl0 hG
      obtain ⟨mx, hmx⟩ : ∃ mx, mx = max (nth p.free G) (nth l m).frm := ⟨_, rfl⟩
      have hmb : 0 ≤ mx ∧ mx ≤ 1440 := by omega
      obtain ⟨mx0, mx1⟩ := hmb
      have hstep : Hid (stepP (pickS l ord k) p = if mx + (nth l m).mins ≤ (nth l m).til then some ⟨p.free.set G (mx + (nth l m).mins), p.works ++ [⟨mx, mx + (nth l m).mins⟩]⟩ else none) := by
        show _ = _; rw [hpk.out, hmx, hGG.out]; rfl
      rcases Int.lt_or_le (nth p.free G) (nth l m).frm with hmax | hmax
      all_goals
        first
          | have hmv : Hid (mx = (nth l m).frm) := by show _ = _; rw [hmx]; exact Int.max_eq_right (by omega)
          | have hmv : Hid (mx = nth p.free G) := by show _ = _; rw [hmx]; exact Int.max_eq_left (by omega)
        clear hmx
        go_wp2_with (first | (go_at_call 54; refine HM.out.mono ?_; rintro e w' ⟨rfl, hw⟩; subst hw) | (go_at_call 53; refine HX.out.mono ?_; rintro e w' ⟨rfl, hw⟩; subst hw))
        refine region_quiet (by kernel_rfl) (by kernel_rfl) ?_
        repeat (any_goals (first | go_big_quiet_step (fail) | quiet_step (fail)))
        refine wpQuiet_nil ?_
        intro _ hw'
        obtain ⟨y, hw''⟩ := hw'
        subst hw''
        rw [← hmv.out]
        have T2 := Lib.hid ((he.lift y).setCell (p := ⟨g, G, none⟩) hg0 (.int .i64 (mx + (nth l m).mins)))
        have B1 := HB.out.ext ((Ext.refl _).lift y)
        have B2 := Lib.hid (B1.set g G (.int .i64 (mx + (nth l m).mins)))
        have F1 := HF.out.ext ((Ext.refl _).lift y)
        have F2 := Lib.hid (IntAt.set (mx + (nth l m).mins) F1 B1 (by rw [hfl.out]; exact Nat.le_refl _) (by rw [hfl.out]; exact hGl))
        have L2 := Lib.hid ((HL.out.ext ((Ext.refl _).lift y)).set (Nat.lt_succ_self g) (o := G) (.int .i64 (mx + (nth l m).mins)))
        clear HM HX B1 F1 HL HF HB
        go_wp2_with fail
        generalize (lift w' y).setCell ⟨g, G, none⟩ (.int .i64 (mx + (nth l m).mins)) = W2 at *
        clear c0 c1 c2 c3 c4 hb d0 hb2 f0 fz hgl he
        obtain ⟨hb, c0, c1, c2, c3, c4⟩ := Shot.at (HA.out.ext T2.out) m hml
        have f0 : W2.cell? ⟨g, G, none⟩ = some (.int .i64 (mx + (nth l m).mins)) := by
          have := (IntAt.at F2.out G (by rw [List.length_set, hfl.out]; exact hGl)).2
          rwa [Nat.zero_add, nth_set_same _ _ _ (by rw [hfl.out]; exact hGl)] at this
        have hgl := B2.out.lt
        by_cases hu : mx + (nth l m).mins ≤ (nth l m).til
        · have hnx : Hid (planS l ord crews (k + 1) = some ⟨p.free.set G (mx + (nth l m).mins), p.works ++ [⟨mx, mx + (nth l m).mins⟩]⟩) := planS_next hp.out (by rw [hstep.out, if_pos hu])
          clear hp hstep
          refine region_quiet (by kernel_rfl) (by kernel_rfl) ?_
          repeat (any_goals (first | go_big_quiet_step (fail) | quiet_step (fail)))
          refine wpQuiet_nil ?_
          intro _ hw'
          obtain ⟨y, hw''⟩ := hw'
          subst hw''
          have HRn : Hid (RowsAt 2 Work.cell ((lift W2 y).alloc (.cells #[.int .i64 mx, .int .i64 (mx + (nth l m).mins)] 53)) (some ⟨W2.heap.size + y.blocks.size, 0, none⟩) [⟨mx, mx + (nth l m).mins⟩]) := by
            show RowsAt _ _ _ _ _; rw [← lift_size]; exact rows_new _ _ _ (fun j hj => by rcases (show j = 0 ∨ j = 1 by omega) with rfl | rfl <;> rfl)
          have hE4 := (Ext.refl W2).lift y |>.alloc (.cells #[.int .i64 mx, .int .i64 (mx + (nth l m).mins)] 53)
          have L3 := Lib.hid (L2.out.ext hE4)
          have B3 := Lib.hid (B2.out.ext hE4)
          have F3 := Lib.hid (F2.out.ext hE4)
          have T3 := Lib.hid (T2.out.trans hE4)
          have hz4 := hE4.size
          have hne : Hid (∀ v, Lst 53 2 Work.cell W2 (g + 1) v p.works → v.ownBlock ≠ some g) := fun v hv => hv.row_ne (Nat.lt_succ_self g)
          have hne2 := Lib.hid (hne.out _ L2.out)
          clear hE4 hne L2 B2 F2 T2
          go_wp2_with (at_builtin; refine wpList_pushL elWork oneWork rfl _ _ rfl (g + 1) _ p.works (by rfl) L3.out _ 1 1 [⟨mx, mx + (nth l m).mins⟩] rfl (by rfl) HRn.out (by rw [hwl.out]; omega) (by rw [hwl.out]; omega) (by omega) ?_; intro v' w3 HL3 hs3 hg3)
          have HL4 := Lib.hid HL3
          have B4 := Lib.hid (B3.out.grown hg3 hne2.out)
          have F4 := Lib.hid (F3.out.grown hg3 hne2.out)
          have T4 := Lib.hid (hs3.ext T3.out (by omega))
          clear HL3 hs3 hg3 B3 F3 T3 L3
          go_wp2_with fail
          go_roundw
          case rel => exact ⟨k + 1, _, by omega, by go_num, hnx.out, HL4.out, B4.out, F4.out, T4.out⟩
          case measure => simp [intOf]; omega
        · have hv : Hid (worksB l ord crews = false ∧ worksV l ord crews = []) := works_none (planS_fail hlt hp.out (by rw [hstep.out, if_neg hu]))
          clear hp hstep
          refine region_quiet (by kernel_rfl) (by kernel_rfl) ?_
          repeat (any_goals (first | go_big_quiet_step (fail) | quiet_step (fail)))
          refine wpQuiet_nil ?_
          intro _ hw'
          obtain ⟨y, hw''⟩ := hw'
          subst hw''
          go_wp2_with fail
          go_ret2
          rw [hv.out.1, hv.out.2]
          exact OutS.nil none 0 rfl (T2.out.lift y)
    · obtain rfl : k = ord.length := by omega
      have hv := Lib.hid (works_some hp.out)
      obtain ⟨ao, co, rfl, hco, hcm, RO, OO⟩ := HL.out.shape
      go_wp2_with fail
      go_ret2
      rw [hv.out.1, hv.out.2]
      exact OutS.mk (a := ao) (cap := co) rfl hco (OO.mono (by omega)) RO he
end Go.Proofs.Ytpmbaemfpkcjnaa
