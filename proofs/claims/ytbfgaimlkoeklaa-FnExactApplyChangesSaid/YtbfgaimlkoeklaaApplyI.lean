/- ApplyChanges of the program: what it hands back. -/
import Derived.Test.YtbfgaimlkoeklaaApplyP
namespace Go.Proofs.Ytbfgaimlkoeklaa
open Go.RowKit
theorem Lst.low {α : Type} {T n b0 b1 : Nat} {cell : α → Nat → Value} {w : World} {v : Value} {l : List α} (h : Lst T n cell w b1 v l) (hb : b0 ≤ b1) : Lst T n cell w b0 v l := by
  refine ⟨h.1, ?_⟩
  rcases h.2 with h2 | ⟨g, cap, cur, hv, hg, r⟩
  · exact .inl h2
  · exact .inr ⟨g, cap, cur, hv, Nat.le_trans hb hg, r⟩
/-- A list in a block of the call's own, told by its elements. -/
theorem Lst.of_rows {α : Type} [Inhabited α] {T n base g cap : Nat} {cell : α → Nat → Value} {w : World} {l : List α} (hB : Blk w g T (cap * n)) (hb : base ≤ g) (hR : RowsAt n cell w (some ⟨g, 0, none⟩) l) (hc : l.length ≤ cap) (hm : cap ≤ maxLen) : Lst T n cell w base (.slice (some ⟨g, 0, none⟩) l.length cap) l := by
  obtain ⟨cur, hh, hs⟩ := hB
  refine ⟨flat_length l, .inr ⟨g, cap, cur, rfl, hb, hh, hc, hm, hs, ?_⟩⟩
  have hle : l.length * n ≤ cur.toList.length := by
    have h1 : l.length * n ≤ cap * n := Nat.mul_le_mul_right n hc
    have h2 : cur.toList.length = cap * n := by rw [← hs]; exact Array.length_toList
    omega
  apply List.ext_getElem?
  intro i
  by_cases hi : i < l.length * n
  · obtain ⟨k, j, hk, hj, rfl⟩ := split_index hi
    rw [List.getElem?_take, if_pos hi, flat_get l k hk j hj, Array.getElem?_toList]
    obtain ⟨b, off, e, _, hcell⟩ := hR k hk
    simp only [Option.some.injEq, Addr.mk.injEq, and_true] at e
    obtain ⟨rfl, rfl⟩ := e
    have := hcell j hj
    unfold World.cell? at this
    rw [hh] at this
    simpa using this
  · rw [List.getElem?_eq_none (show (cur.toList.take (l.length * n)).length ≤ i by rw [List.length_take]; omega), List.getElem?_eq_none (show (flat n cell l).length ≤ i by rw [flat_length]; omega)]
/-- The parts of a list that is not empty. -/
theorem Lst.parts {α : Type} [Inhabited α] {T n base : Nat} {cell : α → Nat → Value} {w : World} {v : Value} {l : List α} (h : Lst T n cell w base v l) (hl : 0 < l.length) : ∃ g cap, v = .slice (some ⟨g, 0, none⟩) l.length cap ∧ base ≤ g ∧ Blk w g T (cap * n) ∧ RowsAt n cell w (some ⟨g, 0, none⟩) l ∧ l.length ≤ cap ∧ cap ≤ maxLen := by
  have hsh := h.shape
  rcases h.2 with ⟨hv, hx⟩ | ⟨g, cap, cur, hv, hg, hh, hc, hm, hs, ht⟩
  · have : l.length = 0 := hx
    omega
  · refine ⟨g, cap, hv, hg, ⟨cur, hh, hs⟩, ?_, hc, hm⟩
    obtain ⟨a, cap', e, -, -, hR, -⟩ := hsh
    rw [hv] at e
    simp only [Value.slice.injEq] at e
    rw [e.1]; exact hR
/-- An element of the list is written. -/
theorem Lst.put {α : Type} [Inhabited α] {T n base : Nat} {cell : α → Nat → Value} {w : World} {g cap : Nat} {l : List α} (hg : base ≤ g) (hB : Blk w g T (cap * n)) (hR : RowsAt n cell w (some ⟨g, 0, none⟩) l) (hc : l.length ≤ cap) (hm : cap ≤ maxLen) {k : Nat} (hk : k < l.length) (y : α) (vs : List Value) (hl : vs.length = n) (hv : ∀ j, j < n → vs[j]? = some (cell y j)) :
    Lst T n cell (w.setCells g (k * n) vs) base (.slice (some ⟨g, 0, none⟩) (l.set k y).length cap) (l.set k y) :=
  Lst.of_rows (hB.setCells g vs _ w) hg (RowsAt.set hR hB (Nat.mul_le_mul_right n hc) hk vs hl hv) (by rw [List.length_set]; exact hc) hm
/-- A list cut to its first elements. -/
theorem Lst.cutTo {α : Type} [Inhabited α] {T n base : Nat} {cell : α → Nat → Value} {w : World} {g cap : Nat} {l : List α} (hg : base ≤ g) (hB : Blk w g T (cap * n)) (hR : RowsAt n cell w (some ⟨g, 0, none⟩) l) (hc : l.length ≤ cap) (hm : cap ≤ maxLen) {k : Nat} (hk : k ≤ l.length) : Lst T n cell w base (.slice (some ⟨g, 0, none⟩) k cap) (l.take k) := by
  have := Lst.of_rows (T := T) (base := base) hB hg (hR.take k) (by rw [List.length_take]; omega) hm
  rwa [List.length_take, Nat.min_eq_left hk] at this
theorem run_clear_one (w : World) (ty : TypeId) (b o n c : Nat) (hn : n = 1) (hc : ∀ j, j < 2 → (w.cell? ⟨b, o + j, none⟩).isSome = true) (hf : ∀ j, j < 2 → w.frozen? ⟨b, o + j, none⟩ = false) :
    (Builtin.clear_ #[43] ty #[.slice (some ⟨b, o, none⟩) n c]).run Try.prog w = .ok (.tuple #[]) (w.setCells b o [.string ⟨#[]⟩, .int .i64 0]) := by
  subst hn
  have hzv : ∀ w, (zeroValue 92).run Try.prog w = .ok (.agg #[.string ⟨#[]⟩, .int .i64 0]) w := Try.zeroValue92
  have hst := run_storeCells_cells (P := Try.prog) b o [.string ⟨#[]⟩, .int .i64 0] 0 w (by simpa using hc) (by simpa using hf) (by intro v hv; simp at hv; rcases hv with rfl | rfl <;> rfl)
  simp only [Nat.add_zero] at hst
  have hzc : (Builtin.zeroCells (Value.agg #[.string ⟨#[]⟩, .int .i64 0]).cells 1).toList = [.string ⟨#[]⟩, .int .i64 0] := by kernel_rfl
  simp [Builtin.clear_, run_underlying Try.underlying43, hzv, hzc, hst]
theorem rows_deleted {W : World} {g N i : Nat} {l : List Setting} {news : List Value} (hB : Blk W g 92 N) (hR : SettingAt W (some ⟨g, 0, none⟩) l) (hN : l.length * 2 ≤ N) (hi : i < l.length) (hn : news = flat 2 Setting.cell (l.drop (i + 1))) :
    SettingAt (W.setCells g (i * 2) news) (some ⟨g, 0, none⟩) (l.take i ++ l.drop (i + 1)) := by
  have hnl : news.length = (l.length - (i + 1)) * 2 := by rw [hn, flat_length, List.length_drop]
  intro k hk
  rw [List.length_append, List.length_take, List.length_drop] at hk
  refine ⟨g, 0, rfl, (hB.setCells g news (i * 2) W).lt, fun j hj => ?_⟩
  rw [Nat.zero_add]
  rcases Nat.lt_or_ge k i with h | h
  · have e : nth (l.take i ++ l.drop (i + 1)) k = nth l k := by simp [nth, List.getElem?_append_left (show k < (l.take i).length by rw [List.length_take]; omega), h]
    rw [e, World.cell?_setCells_out g news _ W ⟨g, k * 2 + j, none⟩ (fun _ _ => .inl (by show k * 2 + j < i * 2; omega))]
    obtain ⟨b, off, e2, _, hc⟩ := hR k (by omega)
    simp only [Option.some.injEq, Addr.mk.injEq, and_true] at e2
    obtain ⟨rfl, rfl⟩ := e2
    have := hc j hj
    rwa [Nat.zero_add] at this
  · have e : nth (l.take i ++ l.drop (i + 1)) k = nth (l.drop (i + 1)) (k - i) := by
      simp only [nth, List.getD_eq_getElem?_getD]
      rw [List.getElem?_append_right (by rw [List.length_take]; omega), List.length_take, Nat.min_eq_left (by omega)]
    have hg := flat_get (n := 2) (cell := Setting.cell) (l.drop (i + 1)) (k - i) (by rw [List.length_drop]; omega) j hj
    rw [← hn] at hg
    have := World.cell?_setCells_in g news (i * 2) W (fun j' hj' => by obtain ⟨u, hu⟩ := hB.cell (o := i * 2 + j') (by omega); rw [hu]; rfl) ((k - i) * 2 + j) (by omega)
    rw [show k * 2 + j = i * 2 + ((k - i) * 2 + j) by omega, this, ← List.getElem?_eq_getElem, hg, e]
set_option maxRecDepth 100000 in
set_option maxHeartbeats 8000000 in
theorem DeleteSetting_any (v : Value) (l : List Setting) (base i : Nat) (w : World) (hO : Lst 92 2 Setting.cell w base v l) (hb : base ≤ w.heap.size) (hi : i < l.length) (hl : l.length ≤ 1048576) :
    Calls Try.prog 92 #[v, .int .i64 i, .int .i64 ((i : Int) + 1)] w fun e w' => ∃ v', e = .returned v' ∧ Lst 92 2 Setting.cell w' base v' (l.take i ++ l.drop (i + 1)) ∧ Since base w w' := by
  obtain ⟨g, cap, rfl, hg, hB, hR, hc, hm⟩ := hO.parts (by omega)
  have hm' : cap ≤ 9223372036854775807 := by unfold maxLen at hm; omega
  obtain ⟨i0, z0, hi0, hz0, hz1, -, hz2⟩ := elSetting.inf
  have t43 := elSetting.und
  obtain ⟨news, hnews⟩ : ∃ news, news = flat 2 Setting.cell (l.drop (i + 1)) := ⟨_, rfl⟩
  have hlen : news.length = (l.length - (i + 1)) * 2 := by rw [hnews, flat_length, List.length_drop]
  have hBd : Blk w.drew g 92 (cap * 2) := hB
  have hRd : SettingAt w.drew (some ⟨g, 0, none⟩) l := hR
  have s1 : Hid (news.length = (l.length - (i + 1)) * 2) := hlen
  have s2 : Hid (∀ u ∈ news, u.oneCell' = true) := by
    intro u hu; rw [hnews] at hu
    obtain ⟨y, j, _, hj, rfl⟩ := flat_mem hu; exact oneSetting y j hj
  have s3 : Hid (∀ t, t < news.length → (w.drew.cell? ⟨g, 0 + i * 2 + t, none⟩).isSome = true ∧ w.drew.frozen? ⟨g, 0 + i * 2 + t, none⟩ = false) := fun t ht => by
    rw [hlen] at ht
    obtain ⟨u, hu⟩ := hBd.cell (o := 0 + i * 2 + t) (by omega)
    exact ⟨by rw [hu]; rfl, hBd.frozen _⟩
  have hsrc : Hid (∀ A : Addr, (cap = i + 1 ∨ A = ⟨g, (i + 1) * 2, none⟩) → ∀ t u, news[t]? = some u → w.drew.cell? (A.add t) = some u) := fun A hA t u hu => by
    have ht : t < news.length := (List.getElem?_eq_some_iff.1 hu).1
    rcases hA with h | rfl
    · rw [hlen] at ht; omega
    · rw [addr_add]
      rw [hnews] at hu
      have hd := RowsAt.drop hRd (i + 1)
      rw [Nat.zero_add] at hd
      exact flat_at hd t u hu
  obtain ⟨W1, hW1⟩ : ∃ W1, W1 = w.drew.setCells g (0 + i * 2) news := ⟨_, rfl⟩
  have hW : Hid (W1 = w.drew.setCells g (0 + i * 2) news) := hW1
  have hB1 : Hid (Blk W1 g 92 (cap * 2)) := by show Blk _ _ _ _; rw [hW1]; exact hBd.setCells g news _ _
  have hR1 : Hid (SettingAt W1 (some ⟨g, 0, none⟩) (l.take i ++ l.drop (i + 1))) := by
    show RowsAt _ _ _ _ _
    rw [hW1, Nat.zero_add]; exact rows_deleted hBd hRd (by omega) hi hnews
  have hS1 : Hid (Since base w W1) := fun w0 he hw0 => by rw [hW1]; exact ext_setCells (Nat.le_trans hw0 hg) news _ _ he.drew
  have hcl : ∀ ty o n c, o = (l.length - 1) * 2 → n = 1 → (Builtin.clear_ #[43] ty #[.slice (some ⟨g, o, none⟩) n c]).run Try.prog W1 = .ok (.tuple #[]) (W1.setCells g o [.string ⟨#[]⟩, .int .i64 0]) := fun ty o n c ho hn =>
    run_clear_one W1 ty g o n c hn (fun j hj => by obtain ⟨u, hu⟩ := hB1.out.cell (o := o + j) (by omega); rw [hu]; rfl) (fun j hj => hB1.out.frozen _)
  have hC := Lib.hid hcl
  have hnl : Hid ((l.take i ++ l.drop (i + 1)).length = l.length - 1) := by show _ = _; rw [List.length_append, List.length_take, List.length_drop]; omega
  have hfin : Hid (∀ o n, n = l.length - 1 → o = (l.length - 1) * 2 → Lst 92 2 Setting.cell (W1.setCells g o [.string ⟨#[]⟩, .int .i64 0]) base (.slice (some ⟨g, 0, none⟩) n cap) (l.take i ++ l.drop (i + 1)) ∧ Since base w (W1.setCells g o [.string ⟨#[]⟩, .int .i64 0])) := fun o n hn ho => by
    subst hn
    refine ⟨?_, fun w0 he hw0 => ext_setCells (Nat.le_trans hw0 hg) _ _ _ (hS1.out w0 he hw0)⟩
    have hRR : SettingAt (W1.setCells g o [.string ⟨#[]⟩, .int .i64 0]) (some ⟨g, 0, none⟩) (l.take i ++ l.drop (i + 1)) := fun k hk => by
      obtain ⟨b, off, e, hbl, hcell⟩ := hR1.out k hk
      simp only [Option.some.injEq, Addr.mk.injEq, and_true] at e
      obtain ⟨rfl, rfl⟩ := e
      rw [hnl.out] at hk
      refine ⟨g, 0, rfl, (hB1.out.setCells g _ o W1).lt, fun j hj => ?_⟩
      rw [World.cell?_setCells_out g _ _ W1 ⟨g, 0 + k * 2 + j, none⟩ (fun _ _ => .inl (by show 0 + k * 2 + j < o; omega))]
      exact hcell j hj
    have := Lst.of_rows (T := 92) (base := base) (hB1.out.setCells g [.string ⟨#[]⟩, .int .i64 0] o W1) hg hRR (by rw [hnl.out]; omega) hm
    rwa [hnl.out] at this
  have hic : i ≤ cap := by omega
  have hjc : i + 1 ≤ cap := by omega
  have hw1 : IntKind.i64.wrap ((i : Int) + 1) = (i : Int) + 1 := by rw [IntKind.wrap_i64]; omega
  have htn : ((i : Int) + 1).toNat = i + 1 := by omega
  have hne : ((i : Int) == (i : Int) + 1) = false := by rw [beq_eq_false_iff_ne]; omega
  clear hcl hW1 hR hB hO hRd hBd hnews hlen
  have mixed : Try.prog.follows .mixedOrders = true := by kernel_rfl
  have k1 : (i : Int) ≤ (i : Int) + 1 := by omega
  have k2 : (i : Int) + 1 ≤ (l.length : Int) := by omega
  have k3 : (l.length : Int) ≤ (cap : Int) := by omega
  have k4 : (i : Int) + 1 ≤ (cap : Int) := by omega
  have k5 : 0 ≤ (i : Int) + 1 := by omega
  rcases Nat.lt_or_ge (i + 1) cap with hcc | hcc
  · have hcc1 : ¬ cap = i + 1 := by omega
    go_enter Try.func92, Try.ntmps92
    go_wp2_with fail
    go_region_law_o (refine step_append_room rfl (.tmp 22) (.tmp 25) 43 rfl 92 i0 2 t43 hi0 hz1 g 0 i cap (by simp [Act.eval, Act.put]) ⟨g, (i + 1) * 2, none⟩ (l.length - (i + 1)) (cap - (i + 1)) news (by simp [Act.eval, Act.put]) s1.out (hsrc.out _ (.inr rfl)) s2.out (by omega) s3.out ?_; rw [← hW.out])
    go_wp2_with fail
    rw [hC.out _ _ _ _ (by omega) (by omega)]
    go_wp2_with fail
    go_ret
    refine ⟨_, rfl, ?_, ?_⟩
    · exact (hfin.out _ _ (by omega) (by omega)).1
    · exact (hfin.out _ _ rfl (by omega)).2
  · obtain rfl : cap = i + 1 := by omega
    go_enter Try.func92, Try.ntmps92
    go_wp2_with fail
    go_region_law_o (refine step_append_room rfl (.tmp 22) (.tmp 25) 43 rfl 92 i0 2 t43 hi0 hz1 g 0 i (i + 1) (by simp [Act.eval, Act.put]) ⟨g, 0, none⟩ 0 0 news (by simp [Act.eval, Act.put]) (by rw [s1.out]; omega) (hsrc.out _ (by first | exact .inl rfl | exact .inl trivial)) s2.out (by omega) s3.out ?_; rw [← hW.out])
    go_wp2_with fail
    rw [hC.out _ _ _ _ (by omega) (by omega)]
    go_wp2_with fail
    go_ret
    refine ⟨_, rfl, ?_, ?_⟩
    · exact (hfin.out _ _ (by omega) (by omega)).1
    · exact (hfin.out _ _ rfl (by omega)).2
set_option maxRecDepth 100000 in
set_option maxHeartbeats 4000000 in
theorem IndexWrong_any (a : Option Addr) (cap : Nat) (l : List Change) (w : World) (H : ChangeAt w a l) (hsz : ∀ k, k < l.length → (nth l k).name.size ≤ 2000000) (hlen : l.length ≤ 1048576) :
    Calls Try.prog 116 #[.slice a l.length cap, .func (.func 85) #[] #[]] w fun e w' => ∃ i : Int, e = .returned (.int .i64 i) ∧ Ext w w' ∧ ((0 ≤ i ∧ allCh l = false) ∨ (i = -1 ∧ allCh l = true)) := by
  have HA := Lib.hid H
  have HZ := Lib.hid hsz
  clear H hsz
  go_enter Try.func116, Try.ntmps116
  go_wp2_with fail
  go_loopw [8] (fun i wr => ∃ k : Nat, k ≤ l.length ∧ i = .int .i64 k ∧ Hid (∀ j, j < k → changeB (nth l j) = true) ∧ Ext w wr) (fun i _ => l.length - (intOf i).toNat)
  case atStart => exact ⟨0, Nat.zero_le _, rfl, upto_zero, (by repeat (first | exact Ext.refl _ | refine Ext.lift ?_ _ | refine Ext.alloc ?_ _))⟩
  case round =>
    obtain ⟨k, hk, rfl, hall, he⟩ := hrel
    by_cases hlt : k < l.length
    · obtain ⟨b, off, rfl⟩ := HA.out.base hlt
      obtain ⟨hb, c0, c1, c2⟩ := Change.at (HA.out.ext he) k hlt
      have hcall := Lib.hid (wrong_any (nth l k) wr (HZ.out k hlt))
      have hE := Lib.hid he
      clear he
      cases h2 : changeB (nth l k)
      · have hv : Hid (allCh l = false) := allB_bad hlt h2
        rw [h2] at hcall
        go_wp2_with fail
        refine hcall.out.mono ?_
        rintro e w' ⟨rfl, y, rfl⟩
        go_wp2_with fail
        go_ret
        exact ⟨_, rfl, hE.out.lift y, .inl ⟨by omega, hv.out⟩⟩
      · have hnx : Hid (∀ j, j < k + 1 → changeB (nth l j) = true) := upto_succ hall.out h2
        rw [h2] at hcall
        go_wp2_with fail
        refine hcall.out.mono ?_
        rintro e w' ⟨rfl, y, rfl⟩
        go_wp2_with fail
        go_roundw
        case rel => exact ⟨k + 1, by omega, by go_num, hnx.out, hE.out.lift y⟩
        case measure => simp [intOf]; omega
    · obtain rfl : k = l.length := by omega
      have hv : Hid (allCh l = true) := allB_end hall.out
      go_wp2_with fail
      go_ret
      exact ⟨-1, rfl, he, .inr ⟨rfl, hv.out⟩⟩
set_option maxRecDepth 100000 in
theorem ContainsWrong_any (a : Option Addr) (cap : Nat) (l : List Change) (w : World) (H : ChangeAt w a l) (hsz : ∀ k, k < l.length → (nth l k).name.size ≤ 2000000) (hlen : l.length ≤ 1048576) :
    Gives Try.prog 87 #[.slice a l.length cap, .func (.func 85) #[] #[]] w (.bool (!allCh l)) := by
  unfold Gives
  have HI := Lib.hid (IndexWrong_any a cap l w H hsz hlen)
  clear H hsz
  go_enter Try.func87, Try.ntmps87
  go_wp2_with fail
  refine HI.out.mono ?_
  rintro e w' ⟨i, rfl, ⟨y, rfl⟩, h⟩
  clear HI
  rcases h with ⟨h0, h1⟩ | ⟨rfl, h1⟩
  · have h1 := Lib.hid h1
    go_wp2_with fail
    go_ret
    exact ⟨ret_bool (by rw [h1.out]; simp; try omega), (by repeat (first | exact Ext.refl _ | refine Ext.lift ?_ _ | refine Ext.alloc ?_ _))⟩
  · have h1 := Lib.hid h1
    go_wp2_with fail
    go_ret
    exact ⟨ret_bool (by rw [h1.out]; simp), (by repeat (first | exact Ext.refl _ | refine Ext.lift ?_ _ | refine Ext.alloc ?_ _))⟩
end Go.Proofs.Ytbfgaimlkoeklaa
