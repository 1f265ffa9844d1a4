/- Lists of lists of numbers: how they lie, and the law's own helpers on them. -/
import Derived.Test.YtdopffhekinbnaaMark
import Derived.Test.YtdopffhekinbnaaHelpInt
import Derived.Test.YtdopffhekinbnaaLst
namespace Go.Proofs.Ytdopffhekinbnaa
open Go.RowKit
/-- A slice: where it begins, how long it is, how long it may grow. -/
structure Sl where
  ad : Option Addr
  n : Nat
  c : Nat
instance : Inhabited Sl := ⟨⟨none, 0, 0⟩⟩
abbrev cellV : Sl → Nat → Value := fun s _ => .slice s.ad s.n s.c
theorem oneSl : ∀ (x : Sl) (j : Nat), j < 1 → (cellV x j).oneCell' = true := fun _ _ _ => rfl
/-- A list of lists: vs are its slices. -/
structure IIs (w : World) (a : Option Addr) (L : List (List Int)) (vs : List Sl) : Prop where
  len : vs.length = L.length
  row : RowsAt 1 cellV w a vs
  inn : ∀ k, k < L.length → ∃ ad cp, nth vs k = ⟨ad, (nth L k).length, cp⟩ ∧ (nth L k).length ≤ cp ∧ IntAt w ad (nth L k)
theorem IIs.ext {w w' : World} {a : Option Addr} {L : List (List Int)} {vs : List Sl} (h : IIs w a L vs) (he : Ext w w') : IIs w' a L vs :=
  ⟨h.len, h.row.ext he, fun k hk => by obtain ⟨ad, cp, e, hc, hi⟩ := h.inn k hk; exact ⟨ad, cp, e, hc, hi.ext he⟩⟩
theorem IIs.at {w : World} {b off : Nat} {L : List (List Int)} {vs : List Sl} (h : IIs w (some ⟨b, off, none⟩) L vs) {k : Nat} (hk : k < L.length) :
    b < w.heap.size ∧ ∃ ad cp, w.cell? ⟨b, off + k, none⟩ = some (.slice ad (nth L k).length cp) ∧ (nth L k).length ≤ cp ∧ IntAt w ad (nth L k) := by
  obtain ⟨h1, h2⟩ := RowsAt.at h.row k (by rw [h.len]; exact hk)
  obtain ⟨ad, cp, e, hc, hi⟩ := h.inn k hk
  have h3 := h2 0 (by decide)
  rw [Nat.mul_one, Nat.add_zero] at h3
  exact ⟨h1, ad, cp, by rw [h3]; show some (cellV (nth vs k) 0) = _; rw [e], hc, hi⟩
set_option maxRecDepth 100000 in
set_option maxHeartbeats 1000000 in
theorem eqInt64SS_same (a : Option Addr) (cap : Nat) (a2 : Option Addr) (cap2 : Nat) (L : List (List Int)) (vs vs2 : List Sl) (w : World) (H : IIs w a L vs) (H2 : IIs w a2 L vs2) (hlen : L.length ≤ 9223372036854775807) (hin : ∀ k, k < L.length → (nth L k).length ≤ 9223372036854775807) :
    Gives Try.prog 9 #[.slice a L.length cap, .slice a2 L.length cap2] w (.bool true) := by
  unfold Gives
  go_enter Try.func9, Try.ntmps9
  go_wp2_with fail
  go_loopw [5] (fun i wr => ∃ k : Nat, k ≤ L.length ∧ i = .int .i64 k ∧ Ext w wr) (fun i _ => L.length - (intOf i).toNat)
  case atStart => exact ⟨0, Nat.zero_le _, rfl, Ext.refl w⟩
  case round =>
    obtain ⟨k, hk, rfl, he⟩ := hrel
    by_cases hlt : k < L.length
    · obtain ⟨b, off, rfl⟩ := H.row.base (k := k) (by rw [H.len]; exact hlt)
      obtain ⟨b2, off2, rfl⟩ := H2.row.base (k := k) (by rw [H2.len]; exact hlt)
      obtain ⟨hb, ad, cp, c0, hc, hi⟩ := (H.ext he).at hlt
      obtain ⟨hb2, ad2, cp2, d0, hc2, hi2⟩ := (H2.ext he).at hlt
      have HE := Lib.hid fun x => eqInt64S_same ad cp ad2 cp2 (nth L k) (lift wr x) (hi.ext ((Ext.refl _).lift x)) (hi2.ext ((Ext.refl _).lift x)) (hin k hlt)
      clear H H2 hi hi2 hin
      go_wp2_with fail
      refine region_quiet (by kernel_rfl) (by kernel_rfl) ?_
      repeat (any_goals (first | go_big_quiet_step ((exact Gives.quiet (HE.out _))) | quiet_step ((exact Gives.quiet (HE.out _)))))
      refine wpQuiet_nil ?_
      intro _ hw'
      obtain ⟨y, hw''⟩ := hw'
      subst hw''
      go_wp2
      go_roundw
      case rel => exact ⟨k + 1, by omega, by go_num, he.lift y⟩
      case measure => simp [intOf]; omega
    · clear H H2 hin
      go_wp2_with fail
      go_ret
      exact ⟨rfl, he⟩
/-- How many numbers the first lists have. -/
def tot (L : List (List Int)) : Nat → Nat
  | 0 => 0
  | k + 1 => tot L k + (nth L k).length
theorem tot_mono {L : List (List Int)} {i : Nat} : ∀ {j : Nat}, i ≤ j → tot L i ≤ tot L j
  | 0, h => by obtain rfl : i = 0 := by omega
               exact Nat.le_refl _
  | j + 1, h => by
    rcases Nat.lt_or_ge i (j + 1) with h1 | h1
    · have := tot_mono (L := L) (i := i) (j := j) (by omega); show _ ≤ tot L j + _; omega
    · obtain rfl : i = j + 1 := by omega
      exact Nat.le_refl _
/-- The slices of a list of lists lie in blocks of their own, each in another one. -/
structure OII (w : World) (base : Nat) (a : Option Addr) (L : List (List Int)) (vs : List Sl) (gs : Nat → Nat) : Prop where
  len : vs.length = L.length
  row : RowsAt 1 cellV w a vs
  val : ∀ k, k < L.length → ∃ cp, nth vs k = ⟨some ⟨gs k, 0, none⟩, (nth L k).length, cp⟩ ∧ (nth L k).length ≤ cp
  low : ∀ k, k < L.length → base ≤ gs k
  blk : ∀ k, k < L.length → ∃ N, Blk w (gs k) 2 N ∧ (nth L k).length ≤ N
  far : ∀ k, k < L.length → ∀ b o s, a = some ⟨b, o, s⟩ → b ≠ gs k
  apart : ∀ i j, i < L.length → j < L.length → i ≠ j → gs i ≠ gs j
section
variable {w w' : World} {base : Nat} {a : Option Addr} {L : List (List Int)} {vs : List Sl} {gs : Nat → Nat}
theorem OII.ext (h : OII w base a L vs gs) (he : Ext w w') : OII w' base a L vs gs :=
  ⟨h.len, h.row.ext he, h.val, h.low, fun k hk => by obtain ⟨N, hB, hn⟩ := h.blk k hk; exact ⟨N, hB.ext he, hn⟩, h.far, h.apart⟩
theorem chg_blk {g b T n : Nat} (h : Chg (some ⟨g, 0, none⟩) w w') (hB : Blk w b T n) (hne : b ≠ g) : Blk w' b T n := by
  have hl := hB.lt
  obtain ⟨cs, h1, e⟩ := hB
  exact ⟨cs, by rw [h.block b hl (fun g' o s e => by simp only [Option.some.injEq, Addr.mk.injEq] at e; omega)]; exact h1, e⟩
theorem OII.own (h : OII w base a L vs gs) {k : Nat} (hk : k < L.length) : Own w base 2 1 (some ⟨gs k, 0, none⟩) (nth L k).length := by
  obtain ⟨N, hB, hn⟩ := h.blk k hk
  exact .inr ⟨gs k, N, rfl, h.low k hk, hB, by omega⟩
theorem ownA_chg {n g : Nat} (h : Chg (ownA n (some ⟨g, 0, none⟩)) w w') : Chg (some ⟨g, 0, none⟩) w w' := by
  rcases Nat.eq_zero_or_pos n with h0 | h0
  · subst h0
    exact ⟨h.os, h.tape, h.output, h.size, fun k hk _ => h.block k hk (fun g' o s e => by unfold ownA at e; simp at e)⟩
  · rw [ownA_pos h0] at h; exact h
/-- One of the lists has been written. -/
theorem OII.chg (h : OII w base a L vs gs) {k : Nat} (hk : k < L.length) (hc : Chg (some ⟨gs k, 0, none⟩) w w') (ho : Own w' base 2 1 (some ⟨gs k, 0, none⟩) (nth L k).length) (hp : 0 < (nth L k).length) : OII w' base a L vs gs :=
  ⟨h.len, h.row.chg hc (fun g o s g' o' s' e1 e2 => by
      simp only [Option.some.injEq, Addr.mk.injEq] at e1
      have := h.far k hk g' o' s' e2
      omega), h.val, h.low, fun i hi => by
      by_cases e : i = k
      · subst e
        rcases ho with h0 | ⟨g, N, e, -, hB, hn⟩
        · omega
        · simp only [Option.some.injEq, Addr.mk.injEq, and_true] at e
          exact ⟨N, by rw [e]; exact hB, by omega⟩
      · obtain ⟨N, hB, hn⟩ := h.blk i hi
        exact ⟨N, chg_blk hc hB (h.apart i k hi hk e), hn⟩, h.far, h.apart⟩
end
/-- The marks in the first lists. -/
def marksII (w : World) (L : List (List Int)) (gs : Nat → Nat) (k : Int) (m : Nat) : Prop :=
  ∀ i, i < m → RowsAt 1 (fun (q : Nat) _ => .int .i64 (k + (tot L i : Nat) + (q : Int))) w (some ⟨gs i, 0, none⟩) (List.range (nth L i).length)
set_option maxRecDepth 100000 in
set_option maxHeartbeats 1000000 in
theorem markInt64SS_any (a : Option Addr) (cap : Nat) (L : List (List Int)) (vs : List Sl) (gs : Nat → Nat) (k : Int) (base : Nat) (w : World) (H : OII w base a L vs gs) (hpos : ∀ i, i < L.length → 0 < (nth L i).length) (hn : tot L L.length ≤ 1000000000) (hl : L.length ≤ 1000000000) (h0 : 0 ≤ k) (h1 : k ≤ 1000000000) :
    Calls Try.prog 12 #[.slice a L.length cap, .int .i64 k] w fun e w' => e = .returned (.int .i64 (k + (tot L L.length : Nat))) ∧ Since base w w' ∧ OII w' base a L vs gs ∧ marksII w' L gs k L.length := by
  have HO := Lib.hid H
  have HP := Lib.hid hpos
  clear H hpos
  go_enter Try.func12, Try.ntmps12
  go_wp2_with fail
  go_loopw [1, 5] (fun kk i wr => ∃ j : Nat, j ≤ L.length ∧ i = .int .i64 j ∧ kk = .int .i64 (k + (tot L j : Nat)) ∧ Hid (OII wr base a L vs gs) ∧ Hid (marksII wr L gs k j) ∧ Hid (Since base w wr)) (fun _ i _ => L.length - (intOf i).toNat)
  case atStart => exact ⟨0, Nat.zero_le _, rfl, by simp [tot], HO.out, fun i hi => absurd hi (Nat.not_lt_zero _), fun _ he _ => he⟩
  case round =>
    clear HO
    obtain ⟨j, hj, rfl, rfl, HO, HM, HS⟩ := hrel
    have ht := tot_mono (L := L) hj
    by_cases hlt : j < L.length
    · have htn : tot L (j + 1) = tot L j + (nth L j).length := rfl
      have ht2 := tot_mono (L := L) (show j + 1 ≤ L.length from hlt)
      obtain ⟨cp, hval, hcp⟩ := HO.out.val j hlt
      obtain ⟨b, off, rfl⟩ := HO.out.row.base (k := j) (by rw [HO.out.len]; exact hlt)
      obtain ⟨hb, hc⟩ := RowsAt.at HO.out.row j (by rw [HO.out.len]; exact hlt)
      have c0 := hc 0 (by decide)
      rw [Nat.mul_one, Nat.add_zero] at c0
      rw [hval] at c0
      change wr.cell? _ = some (.slice (some ⟨gs j, 0, none⟩) (nth L j).length cp) at c0
      have HK := Lib.hid (markInt64S_any (some ⟨gs j, 0, none⟩) (nth L j).length cp (k + (tot L j : Nat)) base wr (HO.out.own hlt) (by omega) (by omega) (by omega))
      have hnh := Lib.hid htn
      clear hc hval htn
      go_wp2_with fail
      refine HK.out.mono ?_
      rintro e w' ⟨rfl, hC, hO, hM⟩
      have hC2 := ownA_chg hC
      have HO2 := Lib.hid (HO.out.chg hlt hC2 hO (HP.out j hlt))
      have HM2 : Hid (marksII w' L gs k (j + 1)) := fun i hi => by
        rcases Nat.lt_or_ge i j with h9 | h9
        · exact (HM.out i h9).chg hC2 (fun g o s g' o' s' e1 e2 => by
            simp only [Option.some.injEq, Addr.mk.injEq] at e1 e2
            have := HO.out.apart i j (by omega) hlt (by omega)
            omega)
        · obtain rfl : i = j := by omega
          exact hM
      have HS2 : Hid (Since base w w') := fun w0 he hb0 => (HS.out w0 he hb0).chg hC2 (fun g o s e => by
        simp only [Option.some.injEq, Addr.mk.injEq] at e
        have := HO.out.low j hlt
        omega)
      clear hC hO hM hC2 HO HM HS HK
      go_wp2_with fail
      go_roundw
      case rel => exact ⟨j + 1, by omega, by go_num, by rw [hnh.out]; simp only [Value.int.injEq, true_and]; omega, HO2.out, HM2.out, HS2.out⟩
      case measure => simp [intOf]; omega
    · obtain rfl : j = L.length := by omega
      go_wp2_with fail
      go_ret
      exact ⟨rfl, HS.out, HO.out, HM.out⟩
set_option maxRecDepth 100000 in
set_option maxHeartbeats 1000000 in
theorem heldInt64SS_any (a : Option Addr) (cap : Nat) (L : List (List Int)) (vs : List Sl) (gs : Nat → Nat) (k : Int) (base : Nat) (w : World) (H : OII w base a L vs gs) (HM : marksII w L gs k L.length) (hn : tot L L.length ≤ 1000000000) (hl : L.length ≤ 1000000000) (h0 : 0 ≤ k) (h1 : k ≤ 1000000000) :
    Gives Try.prog 13 #[.slice a L.length cap, .int .i64 k] w (.int .i64 (k + (tot L L.length : Nat))) := by
  unfold Gives
  have HO := Lib.hid H
  have HMh := Lib.hid HM
  clear H HM
  go_enter Try.func13, Try.ntmps13
  go_wp2_with fail
  go_loopw [1, 5] (fun kk i wr => ∃ j : Nat, j ≤ L.length ∧ i = .int .i64 j ∧ kk = .int .i64 (k + (tot L j : Nat)) ∧ Ext w wr) (fun _ i _ => L.length - (intOf i).toNat)
  case atStart => exact ⟨0, Nat.zero_le _, rfl, by simp [tot], Ext.refl w⟩
  case round =>
    obtain ⟨j, hj, rfl, rfl, he⟩ := hrel
    have ht := tot_mono (L := L) hj
    by_cases hlt : j < L.length
    · have htn : tot L (j + 1) = tot L j + (nth L j).length := rfl
      have ht2 := tot_mono (L := L) (show j + 1 ≤ L.length from hlt)
      obtain ⟨cp, hval, hcp⟩ := HO.out.val j hlt
      obtain ⟨b, off, rfl⟩ := HO.out.row.base (k := j) (by rw [HO.out.len]; exact hlt)
      obtain ⟨hb, hc⟩ := RowsAt.at (HO.out.row.ext he) j (by rw [HO.out.len]; exact hlt)
      have c0 := hc 0 (by decide)
      rw [Nat.mul_one, Nat.add_zero] at c0
      rw [hval] at c0
      change wr.cell? _ = some (.slice (some ⟨gs j, 0, none⟩) (nth L j).length cp) at c0
      have HK := Lib.hid (heldInt64S_any (some ⟨gs j, 0, none⟩) (nth L j).length cp (k + (tot L j : Nat)) wr ((HMh.out j hlt).ext he) (by omega) (by omega) (by omega))
      have hnh := Lib.hid htn
      have hneg : decide (k + (tot L j : Nat) + ((nth L j).length : Int) < 0) = false := decide_eq_false (by omega)
      clear hc hval htn
      go_wp2_with fail
      refine HK.out.mono ?_
      rintro e w' ⟨rfl, y, rfl⟩
      go_wp2_with fail
      go_roundw
      case rel => exact ⟨j + 1, by omega, by go_num, by rw [hnh.out]; simp only [Value.int.injEq, true_and]; omega, he.lift y⟩
      case measure => simp [intOf]; omega
    · obtain rfl : j = L.length := by omega
      go_wp2_with fail
      go_ret
      exact ⟨rfl, he⟩
end Go.Proofs.Ytdopffhekinbnaa
