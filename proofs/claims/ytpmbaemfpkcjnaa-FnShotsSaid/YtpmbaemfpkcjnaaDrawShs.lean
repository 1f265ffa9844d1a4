/- The shots, the orders, the crews that the reference draws. -/
import Derived.Test.YtpmbaemfpkcjnaaDrawSh
import Derived.Test.YtpmbaemfpkcjnaaSrch
import Derived.Test.YtpmbaemfpkcjnaaLst
import Derived.Test.YtpmbaemfpkcjnaaLawB
import Derived.Test.YtpmbaemfpkcjnaaDec
import Derived.Test.YtpmbaemfpkcjnaaStrs
namespace Go.Proofs.Ytpmbaemfpkcjnaa
open Go.RowKit
def AllSh (l : List Shot) : Prop := ∀ y, y ∈ l → ShotN 4000 y
theorem AllSh.nil : AllSh [] := fun _ h => absurd h List.not_mem_nil
theorem AllSh.at {l : List Shot} (h : AllSh l) (k : Nat) (hk : k < l.length) : ShotN 4000 (nth l k) := h _ (nth_mem hk)
theorem AllSh.push {l : List Shot} (h : AllSh l) {x : Shot} (hx : ShotN 4000 x) : AllSh (l ++ [x]) := fun y hy => by
  rcases List.mem_append.1 hy with h1 | h1
  · exact h y h1
  · rw [List.mem_singleton.1 h1]; exact hx
theorem Lst.lowerB {α : Type} {T n : Nat} {cell : α → Nat → Value} {w : World} {base base' : Nat} {v : Value} {l : List α} (h : Lst T n cell w base v l) (hb : base' ≤ base) : Lst T n cell w base' v l := by
  refine ⟨h.1, ?_⟩
  rcases h.2 with h2 | ⟨g, cap, cur, hv, hg, r⟩
  · exact .inl h2
  · exact .inr ⟨g, cap, cur, hv, Nat.le_trans hb hg, r⟩
theorem elShot : El Try.prog 24 40 5 48 := El.mk' Try.underlying24 (by kernel_rfl) (by decide)
theorem oneShot : ∀ (x : Shot) (j : Nat), j < 5 → (Shot.cell x j).oneCell' = true := fun x j hj => by rcases (show j = 0 ∨ j = 1 ∨ j = 2 ∨ j = 3 ∨ j = 4 by omega) with rfl | rfl | rfl | rfl | rfl <;> rfl
/-- A number of one digit as text. -/
theorem nine_dec (k : Nat) (hk : k < 9) (w : World) : Calls Try.prog 51 #[.int .i64 k] w fun e w' => ∃ s : ByteArray, e = .returned (.string s) ∧ s.size ≤ 20 ∧ Ext w w' := by
  refine (l01Dec_any (k : Int) w (by omega) (by omega)).mono ?_
  rintro e w' ⟨rfl, h⟩
  refine ⟨_, rfl, ?_, h⟩
  show (Lib.itoa (k : Int)).toArray.size ≤ 20
  unfold Lib.itoa
  rw [if_neg (by omega), Int.toNat_natCast, Lib.decDigits, dif_pos (by omega)]
  simp
set_option maxRecDepth 100000 in
set_option maxHeartbeats 8000000 in
theorem l22Draw_any (w : World) (sb : Nat) (a : Option Addr) (cap : Nat) (code : List Int) (n : Nat) (H : Src w sb a cap code n) (hn : n ≤ 1000000) :
    Calls Try.prog 30 #[.pointer (some ⟨sb, 0, none⟩)] w fun e w' => ∃ (v : Value) (l : List Shot) (k : Nat), e = .returned v ∧ k ≤ 500 ∧ l.length ≤ 9 ∧ AllSh l ∧ Lst 40 5 Shot.cell w' w.heap.size v l ∧ Src w' sb a cap code (n + k) ∧ Moved sb w w' := by
  have hsl := H.lt
  have HN := Lib.hid (rows_lit (cell := cellS) (T := 9) w #[.string ⟨#[98, 111, 119, 108]⟩, .string ⟨#[99, 104, 117, 116, 101]⟩, .string ⟨#[103, 117, 108, 108, 121]⟩, .string ⟨#[107, 110, 111, 108, 108]⟩, .string ⟨#[115, 112, 117, 114]⟩] [⟨#[98, 111, 119, 108]⟩, ⟨#[99, 104, 117, 116, 101]⟩, ⟨#[103, 117, 108, 108, 121]⟩, ⟨#[107, 110, 111, 108, 108]⟩, ⟨#[115, 112, 117, 114]⟩] (fun k hk => by rcases (show k = 0 ∨ k = 1 ∨ k = 2 ∨ k = 3 ∨ k = 4 by simp at hk; omega) with rfl | rfl | rfl | rfl | rfl <;> rfl) rfl)
  have hx0 := (Ext.refl w).alloc (.cells #[.string ⟨#[98, 111, 119, 108]⟩, .string ⟨#[99, 104, 117, 116, 101]⟩, .string ⟨#[103, 117, 108, 108, 121]⟩, .string ⟨#[107, 110, 111, 108, 108]⟩, .string ⟨#[115, 112, 117, 114]⟩] 9)
  have HD := Lib.hid ((Dr.start H).ext hx0)
  obtain ⟨W0, hW0⟩ : ∃ W0, W0 = w.alloc (.cells #[.string ⟨#[98, 111, 119, 108]⟩, .string ⟨#[99, 104, 117, 116, 101]⟩, .string ⟨#[103, 117, 108, 108, 121]⟩, .string ⟨#[107, 110, 111, 108, 108]⟩, .string ⟨#[115, 112, 117, 114]⟩] 9) := ⟨_, rfl⟩
  have hz0 : W0.heap.size = w.heap.size + 1 := by rw [hW0, size_new]
  rw [← hW0] at HN HD
  have hO := Lib.hid (Lst.new (T := 40) (n := 5) (cell := Shot.cell) (α := Shot) W0 (w.heap.size + 1) (by omega))
  replace HN := Lib.hid (HN.out.ext ((Ext.refl W0).alloc (.cells #[] 40)))
  replace HD := Lib.hid (HD.out.ext ((Ext.refl W0).alloc (.cells #[] 40)))
  rw [hz0] at hO
  obtain ⟨nb, hnb⟩ : ∃ nb, nb = w.heap.size := ⟨_, rfl⟩
  have hnw : w.heap.size ≤ nb := by omega
  have hns : nb ≠ sb := by omega
  have hNS := Lib.hid (show ∀ k, k < 5 → (nth ([⟨#[98, 111, 119, 108]⟩, ⟨#[99, 104, 117, 116, 101]⟩, ⟨#[103, 117, 108, 108, 121]⟩, ⟨#[107, 110, 111, 108, 108]⟩, ⟨#[115, 112, 117, 114]⟩] : List ByteArray) k).size ≤ 100 from fun k hk => by rcases five hk with rfl | rfl | rfl | rfl | rfl <;> decide)
  obtain ⟨NM, hNM⟩ : ∃ NM : List ByteArray, NM = [⟨#[98, 111, 119, 108]⟩, ⟨#[99, 104, 117, 116, 101]⟩, ⟨#[103, 117, 108, 108, 121]⟩, ⟨#[107, 110, 111, 108, 108]⟩, ⟨#[115, 112, 117, 114]⟩] := ⟨_, rfl⟩
  have hN5 : NM.length = 5 := by rw [hNM]; rfl
  rw [← hNM] at HN hNS
  rw [← hnb] at HN
  clear H hx0 hNM
  replace hW0 := Lib.hid hW0
  replace hnb := Lib.hid hnb
  replace hz0 := Lib.hid hz0
  replace hN5 := Lib.hid hN5
  go_enter Try.func30, Try.ntmps30
  go_wp2_with fail
  rw [← hW0.out, ← hnb.out]
  rw [show nb + 1 = W0.heap.size by rw [hz0.out, hnb.out]]
  have hb1 : Hid (w.heap.size + 1 = nb + 1) := by show _ = _; rw [hnb.out]
  rw [hb1.out] at hO
  rw [show nb + 1 = W0.heap.size by rw [hz0.out, hnb.out]] at hO
  have hnW : nb < W0.heap.size := by rw [hz0.out, hnb.out]; omega
  have hwW : w.heap.size ≤ W0.heap.size := by rw [hz0.out]; omega
  obtain ⟨B0, hB0⟩ : ∃ B0, B0 = W0.heap.size := ⟨_, rfl⟩
  rw [← hB0] at hO hnW hwW ⊢
  have hBW : B0 ≤ (W0.alloc (.cells #[] 40)).heap.size := by rw [size_new, hB0]; omega
  generalize W0.alloc (.cells #[] 40) = W1 at HN HD hO hBW ⊢
  clear hW0 hz0 hnb hb1 hB0
  go_loopw [4, 5] (fun o i wr => ∃ (j q : Nat) (L : List Shot), j ≤ 5 ∧ B0 ≤ wr.heap.size ∧ i = .int .i64 j ∧ q ≤ 20 * j ∧ L.length ≤ j ∧ Hid (AllSh L) ∧ Hid (Lst 40 5 Shot.cell wr B0 o L) ∧ Hid (RowsAt 1 cellS wr (some ⟨nb, 0, none⟩) NM) ∧ Hid (Dr w wr sb a cap code (n + q))) (fun _ i _ => 5 - (intOf i).toNat)
  case atStart => exact ⟨0, 0, [], by omega, hBW, rfl, by omega, Nat.le_refl _, AllSh.nil, hO.out, HN.out, HD.out⟩
  case round =>
    clear hO HD HN
    obtain ⟨j, q, L, hj, hBr, rfl, hq, hLj, hA, hO, HN, HD⟩ := hrel
    have hzs := HD.out.size
    by_cases hlt : j < 5
    · go_wp2_with fail
      refine (one_any wr sb a cap code (n + q) HD.out.src (by omega) 4 (by omega)).mono ?_
      rintro e W2 ⟨b, q1, rfl, hq1, S1, M1⟩
      replace hO := Lib.hid (hO.out.moved M1 (by omega))
      replace HN := Lib.hid (rows_moved HN.out M1 (fun p e => by cases e; exact hns))
      replace HD := Lib.hid (HD.out.step S1 M1)
      replace hBr := Nat.le_trans hBr M1.size
      clear S1 M1
      cases b
      · obtain ⟨hb, c0⟩ := RowsAt.at HN.out j (by rw [hN5.out]; exact hlt)
        replace c0 := c0 0 (by decide)
        rw [Nat.mul_one, Nat.add_zero, Nat.zero_add] at c0
        have hsz := hNS.out j hlt
        generalize nth NM j = nm at c0 hsz
        have c0 : W2.cell? ⟨nb, j, none⟩ = some (.string nm) := c0
        go_wp2_with fail
        refine (l22DrawOne_any W2 sb a cap code (n + q + q1) HD.out.src (by omega) nm hsz).mono ?_
        rintro e W3 ⟨x, q2, rfl, hx, hq2, S2, M2⟩
        replace hO := Lib.hid (hO.out.moved M2 (by omega))
        replace HN := Lib.hid (rows_moved HN.out M2 (fun p e => by cases e; exact hns))
        replace HD := Lib.hid (HD.out.step S2 M2)
        replace hBr := Nat.le_trans hBr M2.size
        replace hx := Lib.hid (hx.more (n := 4000) (by decide))
        clear S2 M2 c0 hb hsz
        have hX := Lib.hid ((Ext.refl W3).alloc (.cells #[.string (x).id, .int .i64 (x).frm, .int .i64 (x).til, .int .i64 (x).mins, .int .i64 (x).gain] 40))
        replace hO := Lib.hid (hO.out.ext hX.out)
        replace HD := Lib.hid (HD.out.ext hX.out)
        have HR2 : Hid (ShotAt ((W3).alloc (.cells #[.string (x).id, .int .i64 (x).frm, .int .i64 (x).til, .int .i64 (x).mins, .int .i64 (x).gain] 40)) (some ⟨(W3).heap.size, 0, none⟩) [x]) := rows_new (n := 5) (cell := Shot.cell) (T := 40) (W3) #[.string (x).id, .int .i64 (x).frm, .int .i64 (x).til, .int .i64 (x).mins, .int .i64 (x).gain] (x) (fun j hj => by rcases five hj with rfl | rfl | rfl | rfl | rfl <;> rfl)
        have hzs := HD.out.size
        replace HN := Lib.hid (HN.out.ext hX.out)
        clear hX
        try dsimp only
        repeat (first | (at_builtin; refine Hid.out ?_) | go_values | go_skip | go_guarded | go_step | go_upon | go_back)
        refine Lib.hid ?_
        refine wpList_pushL elShot oneShot rfl _ _ rfl B0 _ L (by rfl) hO.out _ 1 1 [x] rfl (by rfl) HR2.out (by omega) (by omega) (by rw [size_new]; omega) ?_
        intro v2 w4 L4 _ g4
        have hrow : ∀ g, u4.ownBlock = some g → w.heap.size ≤ g := fun g e => Nat.le_trans hwW (ownBlock_le hO.out g e)
        have hrn : u4.ownBlock ≠ some nb := fun e => by have := ownBlock_le hO.out nb e; omega
        replace HD := Lib.hid (HD.out.grown g4 hrow)
        replace HN := Lib.hid (HN.out.grown g4 hrn)
        replace hBr := Nat.le_trans hBr (Nat.le_trans ((Ext.refl _).alloc _).size g4.size)
        have hA2 := Lib.hid (hA.out.push hx.out)
        have L4 := Lib.hid L4
        have hL2 : (L ++ [x]).length ≤ j + 1 := by rw [List.length_append]; simp; omega
        clear hO g4 hrow hrn HR2 hx hA
        go_wp2_with fail
        go_roundw
        case rel => exact ⟨j + 1, q + q1 + q2, L ++ [x], by omega, hBr, by go_num, by omega, hL2, hA2.out, L4.out, HN.out, by rw [← Nat.add_assoc, ← Nat.add_assoc]; exact HD.out⟩
        case measure => simp [intOf]; omega
      · go_wp2_with fail
        go_roundw
        case rel => exact ⟨j + 1, q + q1, L, by omega, hBr, by go_num, by omega, by omega, hA.out, hO.out, HN.out, by rw [← Nat.add_assoc]; exact HD.out⟩
        case measure => simp [intOf]; omega
    · have h5 : j = 5 := by omega
      subst h5
      clear HN
      go_wp2_with fail
      refine (pick_any wr sb a cap code (n + q) HD.out.src (by omega) 20 (by omega)).mono ?_
      rintro e W1 ⟨r1, q1, rfl, p0, p1, hq1, S1, M1⟩
      replace p1 := p1 (by omega)
      replace hO := Lib.hid (hO.out.moved M1 (by omega))
      replace HD := Lib.hid (HD.out.step S1 M1)
      replace hBr := Nat.le_trans hBr M1.size
      clear S1 M1
      rcases (show r1 = 0 ∨ r1 = 1 ∨ 2 ≤ r1 by omega) with hr | hr | hr
      · subst hr
        go_wp2_with fail
        refine (l22DrawOne_any W1 sb a cap code (n + q + q1) HD.out.src (by omega) _ (by decide)).mono ?_
        rintro e W2 ⟨x, q2, rfl, hx, hq2, S2, M2⟩
        replace hO := Lib.hid (hO.out.moved M2 (by omega))
        replace HD := Lib.hid (HD.out.step S2 M2)
        replace hBr := Nat.le_trans hBr M2.size
        clear S2 M2
        have hx := Lib.hid hx
        go_wp2_with fail
        refine (l22Bend_any W2 sb a cap code (n + q + q1 + q2) HD.out.src (by omega) x hx.out).mono ?_
        rintro e W3 ⟨y, q3, rfl, hy, hq3, S2, M2⟩
        replace hO := Lib.hid (hO.out.moved M2 (by omega))
        replace HD := Lib.hid (HD.out.step S2 M2)
        replace hBr := Nat.le_trans hBr M2.size
        have hy := Lib.hid hy
        clear S2 M2 hx
        have hX := Lib.hid ((Ext.refl W3).alloc (.cells #[.string (y).id, .int .i64 (y).frm, .int .i64 (y).til, .int .i64 (y).mins, .int .i64 (y).gain] 40))
        replace hO := Lib.hid (hO.out.ext hX.out)
        replace HD := Lib.hid (HD.out.ext hX.out)
        have HR2 : Hid (ShotAt ((W3).alloc (.cells #[.string (y).id, .int .i64 (y).frm, .int .i64 (y).til, .int .i64 (y).mins, .int .i64 (y).gain] 40)) (some ⟨(W3).heap.size, 0, none⟩) [y]) := rows_new (n := 5) (cell := Shot.cell) (T := 40) (W3) #[.string (y).id, .int .i64 (y).frm, .int .i64 (y).til, .int .i64 (y).mins, .int .i64 (y).gain] (y) (fun j hj => by rcases five hj with rfl | rfl | rfl | rfl | rfl <;> rfl)
        have hzs := HD.out.size
        clear hX
        try dsimp only
        repeat (first | (at_builtin; refine Hid.out ?_) | go_values | go_skip | go_guarded | go_step | go_upon | go_back)
        refine Lib.hid ?_
        refine wpList_pushL elShot oneShot rfl _ _ rfl B0 _ L (by rfl) hO.out _ 1 1 [y] rfl (by rfl) HR2.out (by omega) (by omega) (by rw [size_new]; omega) ?_
        intro v2 w4 L4 _ g4
        have hrow : ∀ g, u4.ownBlock = some g → w.heap.size ≤ g := fun g e => Nat.le_trans hwW (ownBlock_le hO.out g e)
        replace HD := Lib.hid (HD.out.grown g4 hrow)
        have hA2 := Lib.hid (hA.out.push hy.out)
        have L4 := Lib.hid (L4.lowerB hwW)
        clear hO g4 hrow HR2 hy
        go_wp2_with fail
        go_ret
        refine ⟨_, L ++ [y], q + q1 + q2 + q3, rfl, by omega, by rw [List.length_append]; simp; omega, hA2.out, L4.out, ?_, HD.out.mv⟩
        rw [show n + (q + q1 + q2 + q3) = n + q + q1 + q2 + q3 by omega]
        exact HD.out.src
      · subst hr
        go_wp2_with fail
        have HT := rows_lit (cell := cellJ) (T := 2) W1 #[.int .i64 8, .int .i64 9] [8, 9] (fun k hk => by rcases (show k = 0 ∨ k = 1 by simp at hk; omega) with rfl | rfl <;> rfl) rfl
        have hx := (Ext.refl W1).alloc (.cells #[.int .i64 8, .int .i64 9] 2)
        refine (among_any _ sb a cap code (n + q + q1) (HD.out.src.ext hx) (by omega) (some ⟨W1.heap.size, 0, none⟩) 2 _ HT (by simp) (by simp) (fun p e => by cases e; have := HD.out.src.lt; show W1.heap.size ≠ sb; omega)).mono ?_
        rintro e W2 ⟨m, q2, rfl, hs1, hq2, S2, M2⟩
        have hm : 8 ≤ m ∧ m ≤ 9 := by simp only [List.mem_cons, List.not_mem_nil, or_false] at hs1; omega
        replace HD := Lib.hid ((HD.out.ext hx).step S2 M2)
        clear S2 M2 HT hx hs1 hO
        have hzs := HD.out.size
        have hO := Lib.hid (Lst.new (T := 40) (n := 5) (cell := Shot.cell) (α := Shot) W2 w.heap.size hzs)
        replace HD := Lib.hid (HD.out.ext ((Ext.refl W2).alloc (.cells #[] 40)))
        clear hA
        go_wp2_with fail
        obtain ⟨N, hN⟩ : ∃ N, N = n + q + q1 + q2 := ⟨_, rfl⟩
        rw [← hN] at HD
        replace hN := Lib.hid hN
        go_loopw [4, 7] (fun o i wr => ∃ (k : Nat) (L : List Shot), (k : Int) ≤ m ∧ i = .int .i64 k ∧ L.length ≤ k ∧ Hid (AllSh L) ∧ Hid (Lst 40 5 Shot.cell wr w.heap.size o L) ∧ Hid (Dr w wr sb a cap code N)) (fun _ i _ => 9 - (intOf i).toNat)
        case atStart => exact ⟨0, [], by omega, rfl, Nat.le_refl _, AllSh.nil, hO.out, HD.out⟩
        case round =>
          clear hO HD
          obtain ⟨k, L, hk, rfl, hL, hA, hO, HD⟩ := hrel
          have hzs := HD.out.size
          by_cases hlt : (k : Int) < m
          · have hd : decide ((k : Int) < m) = true := decide_eq_true hlt
            have hk9 : k < 9 := by omega
            have HS := Lib.hid (nine_dec k hk9 wr)
            clear hd
            go_wp2_with fail
            refine HS.out.mono ?_
            rintro e W3 ⟨s, rfl, hs, E3⟩
            replace hO := Lib.hid (hO.out.ext E3)
            replace HD := Lib.hid (HD.out.ext E3)
            clear HS E3
            obtain ⟨y, hy⟩ : ∃ y : Shot, y = ⟨⟨#[110]⟩ ++ s, 10 * (k : Int), 10 * (k : Int) + 12, 8, (k : Int)⟩ := ⟨_, rfl⟩
            have hyn : Hid (ShotN 4000 y) := by
              rw [hy]
              exact ⟨by show (_ ++ _ : ByteArray).size ≤ 100; rw [ByteArray.size_append]; have : (⟨#[110]⟩ : ByteArray).size = 1 := rfl; omega, by dsimp only; omega, by dsimp only; omega, by dsimp only; omega, by dsimp only; omega⟩
            have hx := Lib.hid ((Ext.refl W3).alloc (.cells #[.string (⟨#[110]⟩ ++ s), .int .i64 (10 * (k : Int)), .int .i64 (10 * (k : Int) + 12), .int .i64 8, .int .i64 (k : Int)] 40))
            replace hO := Lib.hid (hO.out.ext hx.out)
            replace HD := Lib.hid (HD.out.ext hx.out)
            have HR2 : Hid (ShotAt (W3.alloc (.cells #[.string (⟨#[110]⟩ ++ s), .int .i64 (10 * (k : Int)), .int .i64 (10 * (k : Int) + 12), .int .i64 8, .int .i64 (k : Int)] 40)) (some ⟨W3.heap.size, 0, none⟩) [y]) := by
              rw [hy]
              exact rows_new (n := 5) (cell := Shot.cell) (T := 40) W3 #[.string (⟨#[110]⟩ ++ s), .int .i64 (10 * (k : Int)), .int .i64 (10 * (k : Int) + 12), .int .i64 8, .int .i64 (k : Int)] ⟨⟨#[110]⟩ ++ s, 10 * (k : Int), 10 * (k : Int) + 12, 8, (k : Int)⟩ (fun j hj => by rcases five hj with rfl | rfl | rfl | rfl | rfl <;> rfl)
            have hzs := HD.out.size
            clear hy hx
            try dsimp only
            repeat (first | (at_builtin; refine Hid.out ?_) | go_values | go_skip | go_guarded | go_step | go_upon | go_back)
            refine Lib.hid ?_
            refine wpList_pushL elShot oneShot rfl _ _ rfl w.heap.size _ L (by rfl) hO.out _ 1 1 [y] rfl (by rfl) HR2.out (by omega) (by omega) (by rw [size_new]; have := HD.out.size; rw [size_new] at this; omega) ?_
            intro v2 w4 L4 _ g4
            have hrow : ∀ g, u4.ownBlock = some g → w.heap.size ≤ g := fun g e => ownBlock_le hO.out g e
            replace HD := Lib.hid (HD.out.grown g4 hrow)
            have hA2 := Lib.hid (hA.out.push hyn.out)
            have L4 := Lib.hid L4
            have hL2 : (L ++ [y]).length ≤ k + 1 := by rw [List.length_append]; simp; omega
            clear hO g4 hrow HR2
            go_wp2_with fail
            go_roundw
            case rel => exact ⟨k + 1, L ++ [y], by omega, by go_num, hL2, hA2.out, L4.out, HD.out⟩
            case measure => simp [intOf]; omega
          · have hd : decide ((k : Int) < m) = false := decide_eq_false hlt
            go_wp2_with fail
            go_ret
            first
              | refine ⟨_, rfl, L, q + q1 + q2, by omega, by omega, hA.out, hO.out, ?_, HD.out.mv⟩
              | refine ⟨_, L, q + q1 + q2, rfl, by omega, by omega, hA.out, hO.out, ?_, HD.out.mv⟩
            rw [show n + (q + q1 + q2) = N by rw [hN.out]; omega]
            exact HD.out.src
      · have hr0 : (r1 == 0) = false := beq_eq_false_iff_ne.2 (by omega)
        have hr1 : (r1 == 1) = false := beq_eq_false_iff_ne.2 (by omega)
        replace hO := Lib.hid (hO.out.lowerB hwW)
        go_wp2_with fail
        go_ret
        refine ⟨_, L, q + q1, rfl, by omega, by omega, hA.out, hO.out, ?_, HD.out.mv⟩
        rw [show n + (q + q1) = n + q + q1 by omega]
        exact HD.out.src
end Go.Proofs.Ytpmbaemfpkcjnaa
