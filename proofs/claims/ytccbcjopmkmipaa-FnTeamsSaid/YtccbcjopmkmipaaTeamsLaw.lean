/- The law FnTeams: no teams that are drawn are better than the best ones, more teams are never worse, and one team searches in the order of the list: for all inputs, of any length. -/
import Derived.Test.YtccbcjopmkmipaaTeamsW
import Derived.Test.YtccbcjopmkmipaaOptT
import Derived.Test.YtccbcjopmkmipaaLiftB
namespace Go.Proofs.Ytccbcjopmkmipaa
open Go.RowKit
theorem Lst.beside {α : Type} {T n : Nat} {cell : α → Nat → Value} {base : Nat} {w w' : World} {v : Value} {l : List α} {row : Option Nat} (h : Lst T n cell w base v l) (hg : w.grownBy w' row) (hne : ∀ g, v.ownBlock = some g → row ≠ some g) : Lst T n cell w' base v l := by
  refine ⟨h.1, ?_⟩
  rcases h.2 with h2 | ⟨g, cap, cur, hv, hgb, hh, r⟩
  · exact .inl h2
  · have hlt : g < w.heap.size := by
      rcases Nat.lt_or_ge g w.heap.size with h1 | h1
      · exact h1
      · rw [Array.getElem?_eq_none h1] at hh; cases hh
    exact .inr ⟨g, cap, cur, hv, hgb, by rw [hg.block g hlt (fun e => hne g (by rw [hv]; rfl) e.symm)]; exact hh, r⟩
theorem ByteAt.of8 {w : World} {a : Option Addr} {l : List UInt8} (h : RowsAt 1 (fun (x : UInt8) (_ : Nat) => Value.int .u8 x.toNat) w a l) : ByteAt w a (l.map fun x => (x.toNat : Int)) := fun k hk => by
  rw [List.length_map] at hk
  obtain ⟨b, o, e, hb, hc⟩ := h k hk
  refine ⟨b, o, e, hb, fun j hj => ?_⟩
  have := hc j hj
  rw [this, nth_eq (l.map fun x => (x.toNat : Int)) k (by simpa using hk), List.getElem_map, nth_eq l k hk]
theorem byte_range (l : List UInt8) : ∀ k, k < (l.map fun x => (x.toNat : Int)).length → 0 ≤ nth (l.map fun x => (x.toNat : Int)) k ∧ nth (l.map fun x => (x.toNat : Int)) k ≤ 255 := fun k hk => by
  rw [nth_eq _ k hk, List.getElem_map]
  have := (l[k]'(by simpa using hk)).toNat_lt
  omega
theorem made_zs (w : World) (n : Nat) : IntAt (w.alloc (.cells (madeCells #[.int .i64 0] n) 2)) (some ⟨w.heap.size, 0, none⟩) (zs n) := fun k hk => by
  rw [zs_len] at hk
  refine ⟨_, _, rfl, by rw [size_new]; omega, fun j hj => ?_⟩
  obtain rfl : j = 0 := by omega
  rw [cell_new, zs_at hk, ← Array.getElem?_toList, toList_madeCells_one]; simp [hk]
theorem r8At_q (w : World) (a : Option Addr) (cap : Nat) (code : List Int) (H : ByteAt w a code) (hr : ∀ k, k < code.length → 0 ≤ nth code k ∧ nth code k ≤ 255) (hf : code.length ≤ 1048576) (q : Int) (hq : 0 ≤ q) (m : Int) (hm : m ≤ 65536) :
    Calls Try.prog 6 #[.slice a code.length cap, .int .i64 q, .int .i64 m] w fun e w' => ∃ r : Int, e = .returned (.int .i64 r) ∧ 0 ≤ r ∧ (1 ≤ m → r < m) ∧ Ext w w' := by
  have := r8At_any w a cap code H hr hf q.toNat m hm
  rwa [Int.toNat_of_nonneg hq] at this
set_option maxRecDepth 100000 in
theorem r8Long_any (a0 a1 : Option Addr) (n0 n1 c0 c1 : Nat) (w : World) (h0 : n0 ≤ 9223372036854775807) (h1 : n1 ≤ 9223372036854775807) :
    Calls Try.prog 4 #[.slice a0 n0 c0, .slice a1 n1 c1] w fun e w' => ∃ b, e = .returned (.bool b) ∧ (b = false → n0 ≤ 1048576 ∧ n1 ≤ 1048576) ∧ w' = w := by
  rcases Nat.lt_or_ge 1048576 n0 with h | h
  · go_enter Try.func4, Try.ntmps4
    go_wp2_with fail
    go_ret
    exact .inr ⟨rfl, rfl⟩
  · go_enter Try.func4, Try.ntmps4
    go_wp2_with fail
    go_ret
    exact ⟨_, rfl, fun h => by simp at h; omega, rfl⟩
theorem implTeamsWorth_zs (a : Option Addr) (cap : Nat) (l : List Area) (a2 : Option Addr) (cap2 : Nat) (s : Int) (w : World) (H : AreaAt w a l) (H2 : IntAt w a2 (zs l.length)) (hv : validAreas l = true) (hsz : AreaSz l) (hs : 0 ≤ s) (hs2 : s ≤ 1000) :
    Gives Try.prog 9 #[.slice a l.length cap, .slice a2 l.length cap2, .int .i64 s] w (.tuple #[.int .i64 (tW l (zs l.length) s l.length), .int .i64 0]) := by
  have := implTeamsWorth_any a cap l a2 cap2 (zs l.length) s w H H2 hv hsz (InMany.teams hv (zs_in (m := 1) (by omega)) (by omega) (zs_len _)) hs hs2
  rwa [zs_len] at this
theorem implWorthOf_id (a : Option Addr) (cap : Nat) (l : List Area) (a2 : Option Addr) (cap2 : Nat) (s : Int) (w : World) (H : AreaAt w a l) (H2 : IntAt w a2 (ident l.length)) (hv : validAreas l = true) (hsz : AreaSz l) (hl : l.length ≤ 8) (hcap : l.length ≤ cap2) (hs : 0 ≤ s) (hs2 : s ≤ 1000) :
    Gives Try.prog 10 #[.slice a l.length cap, .slice a2 (ident l.length).length cap2, .int .i64 s] w (.tuple #[.int .i64 (tW l (zs l.length) s l.length), .int .i64 0]) := by
  obtain ⟨h1, h2⟩ := plain_worth hv hs hs2
  have := implWorthOf_any a cap l a2 cap2 (ident l.length) s w H hsz H2 (by omega) (by rw [ident_len]; omega) (by rw [ident_len]; omega)
  rw [inB_iff.2 ⟨hs, hs2⟩] at h2
  rwa [h1, inB_iff.2 ⟨hs, hs2⟩, h2] at this
set_option maxRecDepth 100000 in
set_option maxHeartbeats 8000000 in
theorem teams_law (w : World) (a0 : Option Addr) (cap0 : Nat) (l0 : List UInt8) (H0 : RowsAt 1 (fun (x : UInt8) (_ : Nat) => Value.int .u8 x.toNat) w a0 l0) (_ : ∀ k, k < l0.length → True) (hn0 : l0.length ≤ 9223372036854775807) (_ : l0.length ≤ cap0)
    (a1 : Option Addr) (cap1 : Nat) (l1 : List UInt8) (H1 : RowsAt 1 (fun (x : UInt8) (_ : Nat) => Value.int .u8 x.toNat) w a1 l1) (_ : ∀ k, k < l1.length → True) (hn1 : l1.length ≤ 9223372036854775807) (_ : l1.length ≤ cap1) :
    Gives Try.prog 3 #[.slice a0 l0.length cap0, .slice a1 l1.length cap1] w (.bool true) := by
  unfold Gives
  have B0 := Lib.hid (ByteAt.of8 H0)
  have B1 := Lib.hid (ByteAt.of8 H1)
  have R0 := Lib.hid (byte_range l0)
  have R1 := Lib.hid (byte_range l1)
  rw [show l0.length = (l0.map fun x => (x.toNat : Int)).length by simp] at hn0 ⊢
  rw [show l1.length = (l1.map fun x => (x.toNat : Int)).length by simp] at hn1 ⊢
  clear H0 H1
  generalize (l0.map fun x => (x.toNat : Int)) = code at *
  generalize (l1.map fun x => (x.toNat : Int)) = more at *
  have HL := Lib.hid (r8Long_any a0 a1 code.length more.length cap0 cap1 w hn0 hn1)
  go_enter Try.func3, Try.ntmps3
  go_wp2_with fail
  refine HL.out.mono ?_
  rintro e w' ⟨b, rfl, hb, rfl⟩
  clear HL
  cases b
  case true =>
    go_wp2_with fail
    go_ret
    exact ⟨rfl, Ext.refl _⟩
  obtain ⟨f0, f1⟩ := hb rfl
  clear hb
  go_wp2_with fail
  refine (R8Areas_any w' a0 cap0 code B0.out R0.out f0).mono ?_
  rintro e w1 ⟨o, oc, l, rfl, hoc, HD, HA, E1⟩
  have hl5 := HD.len
  have hv := Lib.hid HD.valid
  have hsm := Lib.hid HD.small
  have HA := Lib.hid HA
  have E1 := Lib.hid E1
  clear HD B0 R0 f0
  go_wp2_with fail
  refine (r8At_q w1 a1 cap1 more (RowsAt.ext B1.out E1.out) R1.out f1 0 (by omega) 120 (by omega)).mono ?_
  rintro e w2 ⟨s, rfl, s0, s1, E2⟩
  have s1 := s1 (by omega)
  have HA := Lib.hid (RowsAt.ext HA.out E2)
  have E1 := Lib.hid (E1.out.trans E2)
  clear E2
  go_wp2_with fail
  refine (r8At_q w2 a1 cap1 more (RowsAt.ext B1.out E1.out) R1.out f1 1 (by omega) 4 (by omega)).mono ?_
  rintro e w3 ⟨r, rfl, r0, r1, E2⟩
  have r1 := r1 (by omega)
  have HA := Lib.hid (RowsAt.ext HA.out E2)
  have E1 := Lib.hid (E1.out.trans E2)
  clear E2
  obtain ⟨m, hm⟩ : ∃ m, m = 1 + r := ⟨_, rfl⟩
  have m1 : 1 ≤ m := by omega
  have m4 : m ≤ 4 := by omega
  obtain ⟨hC, hBl0, hBm0, hG0, hall0⟩ := teams_best hv.out hl5 m1 m4 s0 (by omega)
  obtain ⟨hfC, hfG⟩ := few_best hv.out hl5 s0 (by omega)
  obtain ⟨hpW0, hpA0⟩ := plain_worth hv.out s0 (by omega)
  have HB := Lib.hid (implBestTeams_any w3 o oc l HA.out hsm.out (by omega) hoc m s 20000)
  have HF := Lib.hid fun (W : World) (he : Ext w3 W) => implBestTeams_any W o oc l (RowsAt.ext HA.out he) hsm.out (by omega) hoc 1 s 20000
  rw [hC] at HB
  rw [hfC, hfG] at HF
  have hzM := Lib.hid (hall0 (zs l.length) (zs_len _) (zs_in (by omega)))
  have hall := Lib.hid hall0
  have hBm := Lib.hid hBm0
  have hG := Lib.hid hG0
  have hpW := Lib.hid hpW0
  have hpA := Lib.hid hpA0
  have hBl := Lib.hid hBl0
  clear hC hfC hfG hall0 hBm0 hG0 hpW0 hpA0 hBl0
  generalize teamV l m s 20000 = B at *
  generalize teamG l m s 20000 = G at *
  have hBne : ((B.length : Int) != (l.length : Int)) = false := by rw [hBl.out]; simp
  go_wp2_with fail
  rw [← hm]
  clear hm r0 r1
  go_wp2_with fail
  refine HB.out.mono ?_
  rintro e w4 ⟨ba, bc, rfl, hbc, -, HBr, E4⟩
  have HBr := Lib.hid HBr
  have E4 := Lib.hid E4
  have hGB : tW l B s B.length = G := by rw [hBl.out]; exact hG.out.symm
  have HT1 := Lib.hid (specTeamsWorth_any o oc l ba bc B s w4 (RowsAt.ext HA.out E4.out) HBr.out hv.out (area_sz hsm.out) (InMany.teams hv.out hBm.out (by omega) hBl.out) s0 (by omega))
  rw [hGB] at HT1
  clear HB hGB hG
  go_wp2_with fail
  refine HT1.out.mono ?_
  rintro e w5 ⟨rfl, E5a⟩
  have HBr := Lib.hid (RowsAt.ext HBr.out E5a)
  have E5 := Lib.hid (E4.out.trans E5a)
  clear HT1 E4 E5a
  have hT0 := Lib.hid ((Lst.new (T := 2) (n := 1) (cell := cellI) w5 w5.heap.size (Nat.le_refl _)).ext ((Ext.refl _).alloc (.cells #[] 2)))
  have hO0 := Lst.new (T := 2) (n := 1) (cell := cellI) (w5.alloc (.cells #[] 2)) w5.heap.size (by rw [size_new]; omega)
  rw [size_new] at hO0
  have hO0 := Lib.hid hO0
  have hE0 := Lib.hid (((Ext.refl w5).alloc (.cells #[] 2)).alloc (.cells #[] 2))
  go_wp2_with fail
  go_loopw [13, 14, 15] (fun t q i wr => ∃ (k : Nat) (ts : List Int), k ≤ l.length ∧ i = .int .i64 k ∧ Hid (ts.length = k ∧ InMany m.toNat ts) ∧ Hid (Lst 2 1 cellI wr w5.heap.size t ts) ∧ Hid (Lst 2 1 cellI wr w5.heap.size q (ident k)) ∧ Hid (∀ g, t.ownBlock = some g → q.ownBlock ≠ some g) ∧ Ext w5 wr) (fun _ _ i _ => l.length - (intOf i).toNat)
  case atStart => exact ⟨0, [], Nat.zero_le _, rfl, ⟨rfl, InMany.nil _⟩, hT0.out, hO0.out, (fun g h1 h2 => by simp only [Value.ownBlock, Option.some.injEq] at h1 h2; omega), hE0.out⟩
  case round =>
    clear hT0 hO0 hE0
    obtain ⟨k, ts, hk, rfl, hT, HT, HO, HX, he⟩ := hrel
    obtain ⟨ta, tc, rfl, htc, htm, htR, -⟩ := HT.out.shape
    obtain ⟨qa, qc, rfl, hqc, hqm, hqR, -⟩ := HO.out.shape
    have htR := Lib.hid htR
    have hqR := Lib.hid hqR
    have hEk := Lib.hid he
    have hsz := he.size
    have htl : ts.length ≤ 5 := by have := hT.out.1; omega
    have hil : (ident k).length ≤ 5 := by rw [ident_len]; omega
    have hP1 := Lib.hid (RowsAt.ext B1.out ((E1.out.trans E5.out).trans he))
    by_cases hlt : k < l.length
    · have hkB : k < B.length := by rw [hBl.out]; exact hlt
      obtain ⟨bb, bo, rfl⟩ := HBr.out.base hkB
      obtain ⟨hbb, c0⟩ := IntAt.at (RowsAt.ext HBr.out he) k hkB
      obtain ⟨n0, n1⟩ := hBm.out k hkB
      have n1 : nth B k < m := by omega
      clear he
      go_wp2_with fail
      refine (r8At_q wr a1 cap1 more hP1.out R1.out f1 (2 + (k : Int)) (by omega) m (by omega)).mono ?_
      rintro e W1 ⟨r, rfl, r0, r1, Ea⟩
      have r1 := r1 m1
      have hx := Lib.hid (Ea.alloc (.cells #[.int .i64 r] 2))
      have HT2 := Lib.hid (HT.out.ext hx.out)
      have HO2 := Lib.hid (HO.out.ext hx.out)
      have HR2 : Hid (IntAt (W1.alloc (.cells #[.int .i64 r] 2)) (some ⟨W1.heap.size, 0, none⟩) [r]) := rows_int W1 r rfl
      have hw1 : w5.heap.size ≤ W1.heap.size := Nat.le_trans hsz Ea.size
      have hE2 := Lib.hid (hEk.out.trans hx.out)
      have hT3 : Hid ((ts ++ [r]).length = k + 1 ∧ InMany m.toNat (ts ++ [r])) := ⟨by rw [List.length_append, hT.out.1]; rfl, by
        have := hT.out.2.push (k := r.toNat) (by omega)
        rwa [Int.toNat_of_nonneg r0] at this⟩
      clear HT HO hx hEk c0 hbb Ea hP1 hT
      try dsimp only
      repeat (first | (at_builtin; refine Hid.out ?_) | go_values | go_skip | go_guarded | go_step | go_upon | go_back)
      refine Lib.hid ?_
      refine wpList_pushAt elInt oneInt rfl _ _ rfl w5.heap.size _ ts (by rfl) HT2.out _ 1 1 [r] rfl (by rfl) HR2.out (by omega) (by omega) (by rw [size_new]; omega) ?_
      intro v' w7 HL hg7 hat
      have HT4 := Lib.hid HL
      have hO4 := Lib.hid (HO2.out.beside hg7 (fun g e1 e2 => HX.out g e2 e1))
      have hX4 : Hid (∀ g, v'.ownBlock = some g → (Value.slice qa (ident k).length qc).ownBlock ≠ some g) := fun g h1 h2 => by
        rcases hat with h | h
        · rw [h] at h1; exact HX.out g h1 h2
        · rw [h] at h1
          simp only [Option.some.injEq] at h1
          have := ownsRow_lt HO2.out g h2
          omega
      have hE4 := Lib.hid (hE2.out.grown hg7 (fun g e => ownBlock_le HT2.out g e))
      have hw7 : w5.heap.size ≤ w7.heap.size := hE4.out.size
      clear HT2 HO2 HR2 hE2 HL hg7 hat HX
      have hx5 := Lib.hid ((Ext.refl w7).alloc (.cells #[.int .i64 (k : Int)] 2))
      have HT5 := Lib.hid (HT4.out.ext hx5.out)
      have HO5 := Lib.hid (hO4.out.ext hx5.out)
      have HR5 : Hid (IntAt (w7.alloc (.cells #[.int .i64 (k : Int)] 2)) (some ⟨w7.heap.size, 0, none⟩) [(k : Int)]) := rows_int w7 (k : Int) rfl
      have hE5 := Lib.hid (hE4.out.trans hx5.out)
      clear HT4 hO4 hE4 hx5
      try dsimp only
      repeat (first | (at_builtin; refine Hid.out ?_) | go_values | go_skip | go_guarded | go_step | go_upon | go_back)
      refine Lib.hid ?_
      refine wpList_pushAt elInt oneInt rfl _ _ rfl w5.heap.size _ (ident k) (by rfl) HO5.out _ 1 1 [(k : Int)] rfl (by rfl) HR5.out (by omega) (by omega) (by rw [size_new]; omega) ?_
      intro q' w8 HL hg8 hat
      have HO6 : Hid (Lst 2 1 cellI w8 w5.heap.size q' (ident (k + 1))) := HL
      have HT6 := Lib.hid (HT5.out.beside hg8 (fun g e1 e2 => hX4.out g e1 e2))
      have hX6 : Hid (∀ g, v'.ownBlock = some g → q'.ownBlock ≠ some g) := fun g h1 h2 => by
        rcases hat with h | h
        · rw [h] at h2; exact hX4.out g h1 h2
        · rw [h] at h2
          simp only [Option.some.injEq] at h2
          have := ownsRow_lt HT5.out g h1
          omega
      have hE6 := Lib.hid (hE5.out.grown hg8 (fun g e => ownBlock_le HO5.out g e))
      clear HT5 HO5 HR5 hE5 HL hg8 hat hX4
      go_wp2_with fail
      go_roundw
      case rel => exact ⟨k + 1, ts ++ [r], by omega, by go_num, hT3.out, HT6.out, HO6.out, hX6.out, hE6.out⟩
      case measure => simp [intOf]; omega
    · obtain rfl : k = l.length := by omega
      have hx3 := Lib.hid (E5.out.trans he)
      have HAr := Lib.hid (RowsAt.ext HA.out hx3.out)
      have hW := Lib.hid (((E1.out.trans E5.out).trans he))
      have hwo := Lib.hid (hall.out ts hT.out.1 hT.out.2)
      have hT1 : ts.length = l.length := hT.out.1
      have HT1 := Lib.hid (implTeamsWorth_any o oc l ta tc ts s wr HAr.out htR.out hv.out (area_sz hsm.out) (InMany.teams hv.out hT.out.2 (by omega) hT.out.1) s0 (by omega))
      rw [hT.out.1] at HT1
      have hqr2 := Lib.hid (fun (W : World) (he : Ext wr W) => implWorthOf_id o oc l qa qc s W (RowsAt.ext HAr.out he) (RowsAt.ext hqR.out he) hv.out (area_sz hsm.out) (by omega) (by rw [ident_len] at hqc; exact hqc) s0 (by omega))
      obtain ⟨V, hV⟩ : ∃ V, V = tW l ts s l.length := ⟨_, rfl⟩
      obtain ⟨Z, hZ⟩ : ∃ Z, Z = tW l (zs l.length) s l.length := ⟨_, rfl⟩
      have hVG : V ≤ G := by rw [hV]; exact hwo.out
      have hZG : Z ≤ G := by rw [hZ]; exact hzM.out
      have hZs := Lib.hid (fun (W : World) (a2 : Option Addr) (c2 : Nat) (he : Ext wr W) (h2 : IntAt W a2 (zs l.length)) => implTeamsWorth_zs o oc l a2 c2 s W (RowsAt.ext HAr.out he) h2 hv.out (area_sz hsm.out) s0 (by omega))
      have hFx := Lib.hid (fun (W : World) (he : Ext wr W) => HF.out W (hx3.out.trans he))
      rw [← hV] at HT1
      rw [← hZ] at hqr2 hZs hFx
      have hG5 := Lib.hid hW.out
      clear hV hZ hwo htR HT HO HX hqR HA HAr HF hall hzM hpW hpA hx3 hP1 HBr hBm he B1
      go_wp2_with fail
      refine HT1.out.mono ?_
      rintro e W1 ⟨rfl, Ea⟩
      have hmk := run_make_blk (P := Try.prog) (t := 27) Try.underlying27 (by kernel_rfl : (Try.prog.info? 2).map (fun i => (i.zero.map Value.cells, i.size, i.bytes)) = some (some #[.int .i64 0], 1, 8)) .i64 .i64 l.length (by omega) (by omega) W1
      rw [Nat.mul_one] at hmk
      have hzr := Lib.hid (hZs.out (W1.alloc (.cells (madeCells #[.int .i64 0] l.length) 2)) (some ⟨W1.heap.size, 0, none⟩) l.length (Ea.alloc _) (made_zs W1 l.length))
      have Eb := Lib.hid (Ea.alloc (.cells (madeCells #[.int .i64 0] l.length) 2))
      clear HT1 hZs Ea
      go_wp2_with fail
      refine hzr.out.mono ?_
      rintro e W2 ⟨rfl, Ec⟩
      have Ed := Lib.hid (Eb.out.trans Ec)
      clear Eb Ec hzr hmk
      go_wp2_with fail
      refine (hqr2.out W2 Ed.out).mono ?_
      rintro e W3 ⟨rfl, Ec⟩
      have Ef := Lib.hid (Ed.out.trans Ec)
      clear Ed Ec hqr2
      go_wp2_with fail
      refine (hFx.out W3 Ef.out).mono ?_
      rintro e W4 ⟨fa, fc, rfl, -, -, -, Eg⟩
      have Eh := Lib.hid (hG5.out.trans (Ef.out.trans Eg))
      clear Ef Eg hFx hG5
      go_wp2_with fail
      go_ret
      exact ⟨rfl, Eh.out⟩
open Go.ChangeShapes Go.WideShapes Go.ChangeAt
open Go.ChangeMaps (open_string shut_string)
namespace lawFnTeams
set_option maxRecDepth 100000 in
theorem lifted (os : Os) (started : os.Started) (H : Type) (enc : TypeId × Value → H) :
    ReturnsInHanded {} Try.checked os 3 .any (Rows.fnTeamsSpec.pre6 enc Try.prog Try.f3 Rows.fnTeamsRow.domain false) (Rows.fnTeamsSpec.post enc Try.prog Try.f3 false true false false) := by
  refine returnsInHanded_of_change (C := Try.checked) own started (by kernel_rfl) Try.func3
    (ChangeSpec.witness6 (enc := enc) (C := Try.checked) false ⟨#[], #[.slice none 0 0, .slice none 0 0], []⟩ 8 (by kernel_rfl) (by kernel_rfl) (by kernel_rfl) (by kernel_rfl)) ?_
  intro W base args ds gs before hval0 hW hcnd _
  have hval : ∀ (j : Nat) t v, Try.f3.params[j]? = some t → args[j]? = some v → Value.okWide Try.prog W .any base t v := hval0
  have hW' := hW
  obtain ⟨p, q, hA0, hV, rfl, hfz, hnd⟩ := hW
  have hA : DataW.TrodAll enc Try.prog W 0 (fun _ => true) true Try.f3.params.toList args.toList ds p := hA0
  rw [Try.params3] at hA hval
  obtain ⟨v0, vs0, d0, ds0, p0, q0, hargs, rfl, rfl, h0, r0⟩ := trodAll_cons hA
  obtain ⟨v1, vs1, d1, ds1, p1, q1, rfl, rfl, rfl, h1, r1⟩ := trodAll_cons r0
  obtain ⟨rfl, rfl, rfl⟩ := trodAll_nil r1
  obtain rfl : args = #[v0, v1] := by cases args; simp_all
  obtain ⟨rfl, rfl⟩ := trodVars_none hV
  have k0 := h0
  have lt0 : ∀ x ∈ p0, x.block < W.heap.size := by obtain ⟨m, hm⟩ := k0; exact DataW.trod_lt m _ _ _ hm
  obtain ⟨a0, len0, cap0, rfl⟩ := okWide_slice Try.underlying22 (hval 0 22 v0 rfl rfl)
  obtain ⟨fuel0, hf0⟩ := h0
  obtain ⟨b0, c0, l0, e0, hl0, hc0, H0, Q0⟩ := open_rows (fun (x : UInt8) (_ : Nat) => Value.int .u8 x.toNat) (fun _ => True) Try.underlying22 (by kernel_rfl : Try.prog.cellsOf 5 = 1) (by decide) (fun _ _ _ => byte_el) hf0
  simp only [Value.cells, List.cons.injEq, Value.slice.injEq, and_true] at e0
  obtain ⟨rfl, rfl, rfl⟩ := e0
  have k1 := h1
  have lt1 : ∀ x ∈ p1, x.block < W.heap.size := by obtain ⟨m, hm⟩ := k1; exact DataW.trod_lt m _ _ _ hm
  obtain ⟨a1, len1, cap1, rfl⟩ := okWide_slice Try.underlying22 (hval 1 22 v1 rfl rfl)
  obtain ⟨fuel1, hf1⟩ := h1
  obtain ⟨b1, c1, l1, e1, hl1, hc1, H1, Q1⟩ := open_rows (fun (x : UInt8) (_ : Nat) => Value.int .u8 x.toNat) (fun _ => True) Try.underlying22 (by kernel_rfl : Try.prog.cellsOf 5 = 1) (by decide) (fun _ _ _ => byte_el) hf1
  simp only [Value.cells, List.cons.injEq, Value.slice.injEq, and_true] at e1
  obtain ⟨rfl, rfl, rfl⟩ := e1
  clear hA0 hval0
  refine (teams_law W a0 cap0 l0 H0 Q0 (by omega) hl0 a1 cap1 l1 H1 Q1 (by omega) hl1).mono fun e W' ⟨he, bx⟩ => ?_
  have bel := bx.below
  subst he
  exact ⟨_, rfl, _, _, _, [], _, [], hW', trodAll_mk1 (shut_bool Try.underlying4 _), (trodAll_cons_mk (Below.trod laidOut (by kernel_rfl) (of_decide_eq_true (by kernel_rfl)) k0 bel lt0) (trodAll_cons_mk (Below.trod laidOut (by kernel_rfl) (of_decide_eq_true (by kernel_rfl)) k1 bel lt1) trodAll_mk0)), rfl, bel.frame _, fun h => by cases h⟩
theorem over : Rows.fnTeamsRow.holds Try.pinned (OpenSpec.ofChange Rows.fnTeamsSpec) :=
  OpenClaim.holds_of_wide 3 Try.f3 rfl rfl rfl rfl rfl rfl rfl ⟨rfl, rfl, rfl, rfl, rfl⟩ rfl rfl rfl rfl rfl (by kernel_rfl) Try.func3 (by kernel_rfl)
    (of_decide_eq_true (by kernel_rfl)) (by unfold Func.isWrapper; first | (rw [if_pos (by decide +kernel)]; kernel_rfl) | (rw [if_neg (by decide +kernel)]; exact ⟨rfl, rfl⟩))
    (fun os started H enc _ => lifted os started H enc)
/-- The given statement. -/
theorem proved : Rows.FnTeamsSaid := over
end lawFnTeams
end Go.Proofs.Ytccbcjopmkmipaa
