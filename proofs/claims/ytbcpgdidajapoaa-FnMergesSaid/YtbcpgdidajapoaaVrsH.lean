/- The law's own helpers on lists of versions. -/
import Derived.Test.YtbcpgdidajapoaaVrs
namespace Go.Proofs.Ytbcpgdidajapoaa
open Go.RowKit
def sumS (l : List Version) : Nat → Nat
  | 0 => 0
  | k + 1 => sumS l k + (nth l k).state.length
theorem offV_sum (l : List Version) : ∀ k, offV l k = 3 * k + 2 * sumS l k
  | 0 => rfl
  | k + 1 => by show offV l k + _ = 3 * (k + 1) + 2 * (sumS l k + _); rw [offV_sum l k]; omega
theorem sumS_same {l l2 : List Version} (h : strips l = strips l2) : ∀ k, k ≤ l.length → sumS l k = sumS l2 k
  | 0, _ => rfl
  | k + 1, hk => by show sumS l k + _ = sumS l2 k + _; rw [sumS_same h k (by omega), (strips_at h (k := k) (by omega)).2.2.2]
theorem small_same {l l2 : List Version} (h : strips l2 = strips l) (hS : ∀ k, k < l.length → (nth l k).Small) (hc : ∀ k, k < l2.length → (nth l2 k).state.length ≤ (nth l2 k).cap) : ∀ k, k < l2.length → (nth l2 k).Small := fun k hk => by
  obtain ⟨e1, e2, e3, e4⟩ := strips_at h hk
  obtain ⟨s1, s2, s3, s4⟩ := hS k (by rw [← strips_length h]; exact hk)
  exact ⟨by rw [e3]; exact s1, fun j hj => by rw [e4] at hj ⊢; exact s2 j hj, by rw [e4]; exact s3, hc k hk⟩
set_option maxRecDepth 100000 in
set_option maxHeartbeats 2000000 in
theorem szVersionS_any (a : Option Addr) (cap : Nat) (l : List Version) (left : Int) (w : World) (H : RowsAt 4 Version.cell w a l) (hsz : ∀ k, k < l.length → (nth l k).Sz ∧ (nth l k).In w) (hlen : l.length ≤ 9223372036854775807) (h0 : 0 ≤ left) (h1 : left ≤ 1048576) :
    Calls Try.prog 5 #[.slice a l.length cap, .int .i64 left] w fun e w' => ∃ r : Int, e = .returned (.int .i64 r) ∧ Ext w w' ∧ -1 ≤ r ∧ r ≤ left ∧ (0 ≤ r → (r + (l.length : Int) + (sumS l l.length : Nat) ≤ left) ∧ ∀ k, k < l.length → (nth l k).Small) := by
  by_cases hl : left - l.length < 0
  · go_enter Try.func5, Try.ntmps5
    go_wp2_with fail
    go_ret
    exact ⟨-1, rfl, Ext.refl _, by omega, by omega, fun h => absurd h (by omega)⟩
  have HZ := Lib.hid hsz
  clear hsz
  go_enter Try.func5, Try.ntmps5
  go_wp2_with fail
  go_loopw [1, 5] (fun lf i wr => ∃ k : Nat, k ≤ l.length ∧ i = .int .i64 k ∧ (∃ r : Int, lf = .int .i64 r ∧ 0 ≤ r ∧ Hid (r + (l.length : Int) + (sumS l k : Nat) ≤ left)) ∧ Hid (∀ j, j < k → (nth l j).Small) ∧ Ext w wr) (fun _ i _ => l.length - (intOf i).toNat)
  case atStart => exact ⟨0, Nat.zero_le _, rfl, ⟨_, rfl, by omega, by show _ + ((sumS l 0 : Nat) : Int) ≤ _; simp [sumS]⟩, upto_zero, Ext.refl w⟩
  case round =>
    obtain ⟨k, hk, rfl, ⟨r, rfl, r0, r1⟩, hall, he⟩ := hrel
    have r2 : r ≤ left := by have := r1.out; omega
    by_cases hlt : k < l.length
    · obtain ⟨b, off, rfl⟩ := H.base hlt
      obtain ⟨hb, c0, c1, c2, c3⟩ := Version.at (H.ext he) k hlt
      have hs := HZ.out k hlt
      clear H
      go_wp2_with fail
      refine (szVersion_any (nth l k) _ _ hs.1 (hs.2.ext he) (by omega) (by omega)).mono ?_
      rintro e w' ⟨r', rfl, ⟨y, rfl⟩, q0, q1, q2⟩
      have hq := Lib.hid q2
      have hsz := Lib.hid hs.1
      clear q2 hs
      by_cases h : r' < 0
      · go_wp2_with fail
        go_ret
        exact ⟨-1, rfl, he.lift y, by omega, by omega, fun h => absurd h (by omega)⟩
      · have hr1 : Hid (r' + (l.length : Int) + (sumS l (k + 1) : Nat) ≤ left) := by
          show r' + (l.length : Int) + ((sumS l k + (nth l k).state.length : Nat) : Int) ≤ left
          have := (hq.out (by omega)).2.1
          have := r1.out
          omega
        have hsm : Hid ((nth l k).Small) := by
          obtain ⟨m1, m2, m3⟩ := hq.out (by omega)
          have := r1.out
          exact ⟨by omega, fun j hj => by have := m3 j hj; unfold Setting.Small; omega, by omega, hsz.out.2.2.2⟩
        go_wp2_with fail
        go_roundw
        case rel => exact ⟨k + 1, by omega, by go_num, ⟨_, rfl, by omega, hr1.out⟩, upto_succ hall.out hsm.out, he.lift y⟩
        case measure => simp [intOf]; omega
    · obtain rfl : k = l.length := by omega
      clear H
      go_wp2_with fail
      go_ret
      exact ⟨r, rfl, he, by omega, by omega, fun _ => ⟨r1.out, hall.out⟩⟩
/-- The copies so far: n versions have room in block g. -/
structure VCopy (w : World) (g n : Nat) (l : List Version) : Prop where
  blk : Blk w g 58 (n * 4)
  cell : ∀ i, i < l.length → ∀ j, j < 4 → w.cell? ⟨g, i * 4 + j, none⟩ = some (Version.cell (nth l i) j)
  inn : ∀ i, i < l.length → ∃ h, (nth l i).addr = some ⟨h, 0, none⟩ ∧ (nth l i).cap = (nth l i).state.length ∧ g < h ∧ Blk w h 74 ((nth l i).state.length * 2) ∧ SettingAt w (some ⟨h, 0, none⟩) (nth l i).state
  apart : ∀ i j, i < j → j < l.length → ∀ h o s h' o' s', (nth l i).addr = some ⟨h, o, s⟩ → (nth l j).addr = some ⟨h', o', s'⟩ → h < h'
theorem VCopy.push {w w' : World} {g n h : Nat} {l : List Version} {x : Version} (H : VCopy w g n l) (he : Ext w w') (hk : l.length < n) (ha : x.addr = some ⟨h, 0, none⟩) (hc : x.cap = x.state.length) (hh : w.heap.size ≤ h)
    (hB : Blk w' h 74 (x.state.length * 2)) (hR : SettingAt w' (some ⟨h, 0, none⟩) x.state) {vs : List Value} (hv : vs = [.int .i64 x.number, .int .i64 x.parent, .string x.memo, .slice (some ⟨h, 0, none⟩) x.state.length x.state.length]) :
    VCopy (w'.setCells g (l.length * 4) vs) g n (l ++ [x]) := by
  have hgl := H.blk.lt
  have hvl : vs.length = 4 := by rw [hv]; rfl
  have e1 : (l.length + 1) * 4 ≤ n * 4 := Nat.mul_le_mul_right 4 hk
  have hne : h ≠ g := by omega
  have hF := fill_row (c := fun i j => Version.cell (nth (l ++ [x]) i) j) vs (H.blk.ext he) (k := l.length) (m := 4) (by omega) hvl
    (fun i hi j hj => by rw [nth_pre hi]; exact he.cell (H.cell i hi j hj))
    (fun j hj => by
      rw [nth_last, hv]
      rcases (show j = 0 ∨ j = 1 ∨ j = 2 ∨ j = 3 by omega) with rfl | rfl | rfl | rfl
      · rfl
      · rfl
      · rfl
      · show some _ = some (Value.slice x.addr x.state.length x.cap); rw [ha, hc])
  have hsp : ∀ k, k < (l ++ [x]).length → k < l.length ∨ k = l.length := fun k hk => by rw [List.length_append] at hk; simp only [List.length_cons, List.length_nil] at hk; omega
  have hch : Chg (some ⟨g, 0, none⟩) w' (w'.setCells g (l.length * 4) vs) := by
    rw [hv]; exact ((((Chg.refl _ _).setc _ _).setc _ _).setc _ _).setc _ _
  have put : ∀ (q : Nat) (s : List Setting), q ≠ g → Blk w' q 74 (s.length * 2) → SettingAt w' (some ⟨q, 0, none⟩) s → Blk (w'.setCells g (l.length * 4) vs) q 74 (s.length * 2) ∧ SettingAt (w'.setCells g (l.length * 4) vs) (some ⟨q, 0, none⟩) s := fun q s hq hB hR =>
    ⟨hB.chg hch (fun g' o s e => by simp only [Option.some.injEq, Addr.mk.injEq] at e; omega), RowsAt.chg hR hch (fun g1 o s g2 o' s' e e' => by simp only [Option.some.injEq, Addr.mk.injEq] at e e'; omega)⟩
  refine ⟨hF.1, fun i hi j hj => hF.2 i (by rcases hsp i hi with h | h <;> omega) j hj, fun i hi => ?_, fun i j hij hj q o s q' o' s' e e' => ?_⟩
  · rcases hsp i hi with h1 | rfl
    · rw [nth_pre h1]
      obtain ⟨q, a1, a2, a3, a4, a5⟩ := H.inn i h1
      have := put q _ (by omega) (a4.ext he) (RowsAt.ext a5 he)
      exact ⟨q, a1, a2, a3, this.1, this.2⟩
    · rw [nth_last]
      have := put h _ hne hB hR
      exact ⟨h, ha, hc, by omega, this.1, this.2⟩
  · rcases hsp j hj with h1 | rfl
    · rw [nth_pre (by omega)] at e
      rw [nth_pre h1] at e'
      exact H.apart i j hij h1 q o s q' o' s' e e'
    · rw [nth_pre (by omega)] at e
      rw [nth_last, ha] at e'
      obtain ⟨q2, a1, -, -, a4, -⟩ := H.inn i (by omega)
      rw [a1] at e
      simp only [Option.some.injEq, Addr.mk.injEq] at e e'
      have := a4.lt
      omega
theorem VCopy.ext {w w' : World} {g n : Nat} {l : List Version} (H : VCopy w g n l) (he : Ext w w') : VCopy w' g n l :=
  ⟨H.blk.ext he, fun i hi j hj => he.cell (H.cell i hi j hj), fun i hi => by obtain ⟨q, a1, a2, a3, a4, a5⟩ := H.inn i hi; exact ⟨q, a1, a2, a3, a4.ext he, RowsAt.ext a5 he⟩, H.apart⟩
theorem VCopy.res {w : World} {g n base : Nat} {l : List Version} (H : VCopy w g n l) (hn : l.length = n) (hb : base ≤ g) : VRes w base (some ⟨g, 0, none⟩) l := by
  refine ⟨⟨fun k hk => ⟨g, 0, rfl, H.blk.lt, fun j hj => by rw [Nat.zero_add]; exact H.cell k hk j hj⟩, fun k hk => ?_, fun k hk => ?_⟩, ⟨.inr ⟨g, _, rfl, hb, H.blk, by omega⟩, fun k hk g' e => ?_, fun k hk => ?_, fun k hk g1 o s e g2 o' s' e' => ?_, fun i j hi hj hij q o s q' o' s' e e' => ?_⟩⟩
  · obtain ⟨q, a1, a2, a3, a4, a5⟩ := H.inn k hk
    show SettingAt w _ _; rw [a1]; exact a5
  · obtain ⟨q, a1, a2, a3, a4, a5⟩ := H.inn k hk
    omega
  · simp only [Option.some.injEq, Addr.mk.injEq, and_true] at e
    subst e
    exact H.cell k hk 3 (by omega)
  · obtain ⟨q, a1, a2, a3, a4, a5⟩ := H.inn k hk
    exact .inr ⟨q, _, a1, by omega, a4, Nat.le_refl _⟩
  · obtain ⟨q, a1, a2, a3, a4, a5⟩ := H.inn k hk
    unfold ownA at e
    split at e
    · cases e
    · rw [a1] at e
      simp only [Option.some.injEq, Addr.mk.injEq] at e e'
      omega
  · unfold ownA at e e'
    split at e
    · cases e
    · split at e'
      · cases e'
      · rcases Nat.lt_or_ge i j with h | h
        · have := H.apart i j h hj q o s q' o' s' e e'; omega
        · have := H.apart j i (by omega) hi q' o' s' q o s e' e; omega
set_option maxRecDepth 100000 in
set_option maxHeartbeats 4000000 in
theorem toVersionS_any (a : Option Addr) (cap : Nat) (l : List Version) (w : World) (H : RowsAt 4 Version.cell w a l) (hin : ∀ k, k < l.length → (nth l k).In w) (hs : ∀ k, k < l.length → (nth l k).state.length ≤ 1048576) (hlen : l.length ≤ 1048576) :
    Calls Try.prog 7 #[.slice a l.length cap] w fun e w' => ∃ a' l', e = .returned (.slice a' (List.length l') l'.length) ∧ strips l' = strips l ∧ VRes w' w.heap.size a' l' ∧ Ext w w' := by
  have hmk := run_make_blk (P := Try.prog) (t := 24) Try.underlying24 (by kernel_rfl : (Try.prog.info? 58).map (fun i => (i.zero.map Value.cells, i.size, i.bytes)) = some (some #[.int .i64 0, .int .i64 0, .string ⟨#[]⟩, .slice none 0 0], 4, 56)) .i64 .i64 l.length (by omega) (by omega) w
  have hB := Blk.new w (madeCells #[.int .i64 0, .int .i64 0, .string ⟨#[]⟩, .slice none 0 0] (l.length * 4)) 58
  rw [size_madeCells] at hB
  have HI := Lib.hid hin
  have HS := Lib.hid hs
  clear hin hs
  go_enter Try.func7, Try.ntmps7
  go_wp2_with fail
  have hE := (Ext.refl w).alloc (.cells (madeCells #[.int .i64 0, .int .i64 0, .string ⟨#[]⟩, .slice none 0 0] (l.length * 4)) 58)
  clear hmk
  generalize w.alloc (.cells (madeCells #[.int .i64 0, .int .i64 0, .string ⟨#[]⟩, .slice none 0 0] (l.length * 4)) 58) = W at *
  obtain ⟨g, hg⟩ : ∃ g, g = w.heap.size := ⟨_, rfl⟩
  have hg0 : w.heap.size ≤ g := by omega
  rw [← hg] at hB ⊢
  clear hg
  go_loopw [4] (fun i wr => ∃ (k : Nat) (l' : List Version), k ≤ l.length ∧ i = .int .i64 k ∧ l'.length = k ∧ Hid (strips l' = (strips l).take k) ∧ Hid (VCopy wr g l.length l') ∧ Ext w wr) (fun i _ => l.length - (intOf i).toNat)
  case atStart => exact ⟨0, [], Nat.zero_le _, rfl, rfl, rfl, ⟨hB, fun _ h => absurd h (Nat.not_lt_zero _), fun _ h => absurd h (Nat.not_lt_zero _), fun _ _ _ h => absurd h (Nat.not_lt_zero _)⟩, hE⟩
  case round =>
    obtain ⟨k, l', hk, rfl, hl', hst, HV, he⟩ := hrel
    clear hB hE
    by_cases hlt : k < l.length
    · obtain ⟨b, off, rfl⟩ := H.base hlt
      obtain ⟨hb, c0, c1, c2, c3⟩ := Version.at (H.ext he) k hlt
      have hB := HV.out.blk
      have hg' := hB.lt
      have e1 : (k + 1) * 4 ≤ l.length * 4 := Nat.mul_le_mul_right 4 hlt
      have f0 := hB.frozen (k * 4)
      have f1 := hB.frozen (k * 4 + 1)
      have f2 := hB.frozen (k * 4 + 2)
      have f3 := hB.frozen (k * 4 + 3)
      obtain ⟨v0, o0⟩ := hB.cell (o := k * 4) (by omega)
      obtain ⟨v1, o1⟩ := hB.cell (o := k * 4 + 1) (by omega)
      obtain ⟨v2, o2⟩ := hB.cell (o := k * 4 + 2) (by omega)
      obtain ⟨v3, o3⟩ := hB.cell (o := k * 4 + 3) (by omega)
      have hin := Lib.hid ((HI.out k hlt).ext he)
      have hs := HS.out k hlt
      have hst2 : Hid (strips (l' ++ [⟨(nth l k).number, (nth l k).parent, (nth l k).memo, none, 0, (nth l k).state⟩]) = (strips l).take (k + 1)) := by
        show _ = _
        rw [strips_append, hst.out, take_nth _ k (by rw [strips_len]; exact hlt), nth_strips hlt]; rfl
      clear H hB e1
      go_wp2_with fail
      refine (toVersion_any (nth l k) _ hin.out hs).mono ?_
      rintro e w' ⟨h, rfl, h0, h1, A, B, y, rfl⟩
      have hP := Lib.hid (HV.out.push (x := ⟨(nth l k).number, (nth l k).parent, (nth l k).memo, some ⟨h, 0, none⟩, (nth l k).state.length, (nth l k).state⟩) ((Ext.refl wr).lift y) (by omega) rfl rfl h0 B A rfl)
      rw [hl'] at hP
      clear A B h0 h1 HV
      go_wp2_with fail
      go_roundw
      case rel => exact ⟨k + 1, l' ++ [(⟨(nth l k).number, (nth l k).parent, (nth l k).memo, some ⟨h, 0, none⟩, (nth l k).state.length, (nth l k).state⟩ : Version)], by omega, by go_num, by rw [List.length_append, hl']; rfl, by
        show strips _ = _
        rw [← hst2.out, strips_append, strips_append]; rfl, hP.out, ext_setCells hg0 [.int .i64 (nth l k).number, .int .i64 (nth l k).parent, .string (nth l k).memo, .slice (some ⟨h, 0, none⟩) (nth l k).state.length (nth l k).state.length] _ _ (he.lift y)⟩
      case measure => simp [intOf]; omega
    · obtain rfl : k = l.length := by omega
      have hR : Hid (strips l' = strips l ∧ VRes wr w.heap.size (some ⟨g, 0, none⟩) l' ∧ Ext w wr) := ⟨by rw [hst.out, List.take_of_length_le (by rw [strips_len]; omega)], HV.out.res hl' hg0, he⟩
      clear H HV he
      go_wp2_with fail
      go_ret
      exact ⟨some ⟨g, 0, none⟩, l', by rw [hl']; rfl, hR.out.1, hR.out.2.1, hR.out.2.2⟩
set_option maxRecDepth 100000 in
set_option maxHeartbeats 2000000 in
theorem eqVersionS_same (a : Option Addr) (cap : Nat) (a2 : Option Addr) (cap2 : Nat) (l l2 : List Version) (w : World) (hst : strips l = strips l2) (H : VersAt w a l) (H2 : VersAt w a2 l2) (hlen : l.length ≤ 9223372036854775807) (hs : ∀ k, k < l.length → (nth l k).state.length ≤ 9223372036854775807) :
    Gives Try.prog 9 #[.slice a l.length cap, .slice a2 l2.length cap2] w (.bool true) := by
  unfold Gives
  have hl2 := strips_length hst
  rw [← hl2]
  have HH := Lib.hid H
  have HH2 := Lib.hid H2
  have HS := Lib.hid hs
  have hs2 := Lib.hid hst
  have hl2h := Lib.hid hl2
  clear H H2 hs hst hl2
  go_enter Try.func9, Try.ntmps9
  go_wp2_with fail
  go_loopw [5] (fun i wr => ∃ k : Nat, k ≤ l.length ∧ i = .int .i64 k ∧ Ext w wr) (fun i _ => l.length - (intOf i).toNat)
  case atStart => exact ⟨0, Nat.zero_le _, rfl, Ext.refl w⟩
  case round =>
    obtain ⟨k, hk, rfl, he⟩ := hrel
    by_cases hlt : k < l.length
    · have hlt2 : k < l2.length := by rw [← hl2h.out]; exact hlt
      obtain ⟨b, off, rfl⟩ := HH.out.row.base hlt
      obtain ⟨hb, c0, c1, c2, c3⟩ := Version.at (HH.out.row.ext he) k hlt
      obtain ⟨b2, off2, rfl⟩ := HH2.out.row.base hlt2
      obtain ⟨hb2, d0, d1, d2, d3⟩ := Version.at (HH2.out.row.ext he) k hlt2
      have HE := Lib.hid fun x => eqVersion_same (nth l k) (nth l2 k) (lift wr x) (strips_at hs2.out hlt) ((HH.out.inn k hlt).ext (he.lift x)) ((HH2.out.inn k hlt2).ext (he.lift x)) (HS.out k hlt)
      go_wp2_with fail
      refine region_quiet (by kernel_rfl) (by kernel_rfl) ?_
      repeat (any_goals (first | go_big_quiet_step ((exact Gives.quiet (HE.out _))) | quiet_step ((exact Gives.quiet (HE.out _)))))
      refine wpQuiet_nil ?_
      intro _ hw'
      obtain ⟨y, hw''⟩ := hw'
      subst hw''
      go_wp2
      go_roundw
      case rel => exact ⟨k + 1, by omega, by go_num, he.lift y⟩
      case measure => simp [intOf]; omega
    · go_wp2_with fail
      go_ret
      exact ⟨rfl, he⟩
set_option maxRecDepth 100000 in
set_option maxHeartbeats 4000000 in
theorem markVersionS_any (a : Option Addr) (cap : Nat) (l : List Version) (k : Int) (base hi : Nat) (w : World) (H : OVer w base a l) (ht : OTop hi a l) (hn : offV l l.length ≤ 1000000000) (hl : l.length ≤ 1000000000) (h0 : 0 ≤ k) (h1 : k ≤ 1000000000) :
    Calls Try.prog 10 #[.slice a l.length cap, .int .i64 k] w fun e w' => e = .returned (.int .i64 (k + (offV l l.length : Nat))) ∧ Mid base hi w w' ∧ OVer w' base a l ∧ marksV w' a l k l.length := by
  rcases Nat.eq_zero_or_pos l.length with hz | hpos
  · obtain rfl : l = [] := List.length_eq_zero_iff.1 hz
    have HO := Lib.hid H
    clear H
    simp only [List.length_nil]
    go_enter Try.func10, Try.ntmps10
    go_wp2_with fail
    go_loopw [1, 5] (fun kk i wr => kk = .int .i64 k ∧ i = .int .i64 0 ∧ wr = w) (fun _ _ _ => 0)
    case atStart => exact ⟨rfl, rfl, rfl⟩
    case round =>
      obtain ⟨rfl, rfl, rfl⟩ := hrel
      go_wp2_with fail
      go_ret
      exact ⟨ret_int (by simp [offV]), Mid.refl _ _ _, HO.out, marksV.zero _ _ _ _⟩
  obtain ⟨g, N, rfl, hg, hB, hN⟩ : ∃ g N, a = some ⟨g, 0, none⟩ ∧ base ≤ g ∧ Blk w g 58 N ∧ l.length * 4 ≤ N := by
    rcases H.own with h | h
    · omega
    · exact h
  have hgh := ht.1 g 0 none (by rw [ownA_pos hpos])
  have HT := Lib.hid ht
  have HO := Lib.hid H
  have hgh2 := Lib.hid hgh
  clear H hB hN ht hgh
  go_enter Try.func10, Try.ntmps10
  go_wp2_with fail
  go_loopw [1, 5] (fun kk i wr => ∃ j : Nat, j ≤ l.length ∧ i = .int .i64 j ∧ kk = .int .i64 (k + (offV l j : Nat)) ∧ Hid (OVer wr base (some ⟨g, 0, none⟩) l) ∧ Hid (marksV wr (some ⟨g, 0, none⟩) l k j) ∧ Hid (Mid base hi w wr)) (fun _ i _ => l.length - (intOf i).toNat)
  case atStart => exact ⟨0, Nat.zero_le _, rfl, by simp [offV], HO.out, marksV.zero _ _ _ _, Mid.refl _ _ _⟩
  case round =>
    clear HO
    obtain ⟨j, hj, rfl, rfl, HO, HM, HD⟩ := hrel
    have htj := offV_mono (l := l) hj
    by_cases hlt : j < l.length
    · have htn : offV l (j + 1) = offV l j + (3 + 2 * (nth l j).state.length) := rfl
      have ht2 := offV_mono (l := l) (show j + 1 ≤ l.length from hlt)
      obtain ⟨N, hB, hN⟩ : ∃ N, Blk wr g 58 N ∧ l.length * 4 ≤ N := by
        rcases HO.out.own with h | ⟨g', N, e, -, hB, hN⟩
        · omega
        · simp only [Option.some.injEq, Addr.mk.injEq, and_true] at e
          subst e
          exact ⟨N, hB, hN⟩
      have hg' := hB.lt
      have f0 := hB.frozen (j * 4)
      have f1 := hB.frozen (j * 4 + 1)
      have f2 := hB.frozen (j * 4 + 2)
      obtain ⟨v0, o0⟩ := hB.cell (o := j * 4) (by omega)
      obtain ⟨v1, o1⟩ := hB.cell (o := j * 4 + 1) (by omega)
      obtain ⟨v2, o2⟩ := hB.cell (o := j * 4 + 2) (by omega)
      have o3 := HO.out.slc j hlt g rfl
      have hnh := Lib.hid htn
      have hnl : 2 * (nth l j).state.length ≤ 1000000000 := by omega
      have hk2 : k + (offV l j : Nat) + 3 ≤ 3000000000 := by omega
      have hk3 : 0 ≤ k + ((offV l j : Nat) : Int) := by omega
      clear htn hB hN htj ht2
      go_wp2_with fail
      refine (markText_any _ _ (by omega) (by omega)).mono ?_
      rintro e w' ⟨rfl, y, rfl⟩
      have hW3 := mark_three HO.out hlt HM.out y (v0 := .int .i64 (k + (offV l j : Nat))) (v1 := .int .i64 (k + (offV l j : Nat) + 1)) (v2 := .string (markS (k + (offV l j : Nat) + 1 + 1))) rfl
      have h3 := Lib.hid hW3
      clear hW3
      have HK := Lib.hid (markSettingS_any (nth l j).addr (nth l j).state.length (nth l j).cap (k + (offV l j : Nat) + 1 + 1 + 1) base _ (h3.out.1.inn j hlt) (by omega) (by omega) (by omega))
      have HD3 := Lib.hid (HD.out.trans (Mid.of_chg h3.out.2.2.1 (fun g1 o s e => by simp only [Option.some.injEq, Addr.mk.injEq] at e; have := hgh2.out; omega)))
      clear HO HM HD
      go_wp2_with fail
      refine HK.out.mono ?_
      rintro e w' ⟨rfl, hC, hO, hM⟩
      have h4 := Lib.hid (mark_inner h3.out.1 hlt h3.out.2.1 h3.out.2.2.2.1 h3.out.2.2.2.2.1 h3.out.2.2.2.2.2 hC hO hM)
      have HD4 := Lib.hid (HD3.out.trans (Mid.of_chg hC (fun g1 o s e => ⟨((h3.out.1.inn j hlt).block e).1, HT.out.2 j hlt g1 o s e⟩)))
      clear hC hO hM h3 HK HD3
      go_wp2_with fail
      go_roundw
      case rel => exact ⟨j + 1, by omega, by go_num, by rw [hnh.out]; simp only [Value.int.injEq, true_and]; omega, h4.out.1, h4.out.2, HD4.out⟩
      case measure => simp [intOf]; omega
    · obtain rfl : j = l.length := by omega
      go_wp2_with fail
      go_ret
      exact ⟨rfl, HD.out, HO.out, HM.out⟩
set_option maxRecDepth 100000 in
set_option maxHeartbeats 4000000 in
theorem heldVersionS_any (a : Option Addr) (cap : Nat) (l : List Version) (k : Int) (base : Nat) (w : World) (H : OVer w base a l) (HM : marksV w a l k l.length) (hn : offV l l.length ≤ 1000000000) (hl : l.length ≤ 1000000000) (h0 : 0 ≤ k) (h1 : k ≤ 1000000000) :
    Gives Try.prog 11 #[.slice a l.length cap, .int .i64 k] w (.int .i64 (k + (offV l l.length : Nat))) := by
  unfold Gives
  rcases Nat.eq_zero_or_pos l.length with hz | hpos
  · obtain rfl : l = [] := List.length_eq_zero_iff.1 hz
    clear H HM
    simp only [List.length_nil]
    go_enter Try.func11, Try.ntmps11
    go_wp2_with fail
    go_loopw [1, 5] (fun kk i wr => kk = .int .i64 k ∧ i = .int .i64 0 ∧ wr = w) (fun _ _ _ => 0)
    case atStart => exact ⟨rfl, rfl, rfl⟩
    case round =>
      obtain ⟨rfl, rfl, rfl⟩ := hrel
      go_wp2_with fail
      go_ret
      exact ⟨ret_int (by simp [offV]), Ext.refl _⟩
  obtain ⟨g, N, rfl, hg, hB, hN⟩ : ∃ g N, a = some ⟨g, 0, none⟩ ∧ base ≤ g ∧ Blk w g 58 N ∧ l.length * 4 ≤ N := by
    rcases H.own with h | h
    · omega
    · exact h
  have HO := Lib.hid H
  have HMh := Lib.hid HM
  have hgl := hB.lt
  clear H HM hB hN
  go_enter Try.func11, Try.ntmps11
  go_wp2_with fail
  go_loopw [1, 5] (fun kk i wr => ∃ j : Nat, j ≤ l.length ∧ i = .int .i64 j ∧ kk = .int .i64 (k + (offV l j : Nat)) ∧ Ext w wr) (fun _ i _ => l.length - (intOf i).toNat)
  case atStart => exact ⟨0, Nat.zero_le _, rfl, by simp [offV], Ext.refl w⟩
  case round =>
    obtain ⟨j, hj, rfl, rfl, he⟩ := hrel
    have htj := offV_mono (l := l) hj
    by_cases hlt : j < l.length
    · have htn : offV l (j + 1) = offV l j + (3 + 2 * (nth l j).state.length) := rfl
      have ht2 := offV_mono (l := l) (show j + 1 ≤ l.length from hlt)
      have hg' := Nat.lt_of_lt_of_le hgl he.size
      have c0 := he.cell (HMh.out.num j hlt g rfl)
      have c1 := he.cell (HMh.out.par j hlt g rfl)
      have c2 := he.cell (HMh.out.mem j hlt g rfl)
      have c3 := he.cell (HO.out.slc j hlt g rfl)
      have hs : sEq (markS (k + ((offV l j : Nat) : Int) + 1 + 1)) (markS (k + ((offV l j : Nat) : Int) + 1 + 1)) = true := sEq_iff.2 rfl
      have hnh := Lib.hid htn
      have hnl : 2 * (nth l j).state.length ≤ 1000000000 := by omega
      have hk2 : k + (offV l j : Nat) + 3 ≤ 3000000000 := by omega
      have hk3 : 0 ≤ k + ((offV l j : Nat) : Int) := by omega
      have HK := Lib.hid fun x => heldSettingS_any (nth l j).addr (nth l j).state.length (nth l j).cap (k + (offV l j : Nat) + 1 + 1 + 1) (lift wr x) ((HMh.out.inn j hlt).ext (he.lift x)) (by omega) (by omega) (by omega)
      have hneg : decide (k + (offV l j : Nat) + 1 + 1 + 1 + ((nth l j).state.length : Int) * 2 < 0) = false := decide_eq_false (by omega)
      clear htn htj ht2
      go_wp2_with fail
      refine region_quiet (by kernel_rfl) (by kernel_rfl) ?_
      repeat (any_goals (first | go_big_quiet_step ((exact Gives.quiet (markText_any _ _ (by omega) (by omega)))) | quiet_step ((exact Gives.quiet (markText_any _ _ (by omega) (by omega))))))
      refine wpQuiet_nil ?_
      intro _ hw'
      obtain ⟨y, hw''⟩ := hw'
      subst hw''
      go_wp2_with fail
      refine (HK.out _).mono ?_
      rintro e w' ⟨rfl, z, rfl⟩
      go_wp2_with fail
      go_roundw
      case rel => exact ⟨j + 1, by omega, by go_num, by rw [hnh.out]; simp only [Value.int.injEq, true_and]; omega, (he.lift y).lift z⟩
      case measure => simp [intOf]; omega
    · obtain rfl : j = l.length := by omega
      go_wp2_with fail
      go_ret
      exact ⟨rfl, he⟩
/-- Sizes of a list of versions that a law asks. -/
def GoodP (P : List VerP) : Prop := P.length ≤ 100 ∧ ∀ k, k < P.length → (nth P k).state.length ≤ 1000
theorem sumS_le {l : List Version} {m : Nat} (h : ∀ k, k < l.length → (nth l k).state.length ≤ m) : ∀ j, j ≤ l.length → sumS l j ≤ j * m
  | 0, _ => by simp [sumS]
  | j + 1, hj => by
    have := sumS_le h j (by omega)
    have := h j (by omega)
    have e : (j + 1) * m = j * m + m := Nat.succ_mul j m
    show sumS l j + _ ≤ _
    omega
theorem good_at {P : List VerP} (h : GoodP P) {l : List Version} (hl : strips l = P) : l.length ≤ 100 ∧ (∀ k, k < l.length → (nth l k).state.length ≤ 9223372036854775807) ∧ offV l l.length ≤ 1000000 := by
  subst hl
  obtain ⟨h1, h2⟩ := h
  rw [strips_len] at h1 h2
  have h3 : ∀ k, k < l.length → (nth l k).state.length ≤ 1000 := fun k hk => by have := h2 k hk; rw [nth_strips hk] at this; exact this
  refine ⟨h1, fun k hk => by have := h3 k hk; omega, ?_⟩
  have := sumS_le h3 _ (Nat.le_refl _)
  rw [offV_sum]
  omega
end Go.Proofs.Ytbcpgdidajapoaa
