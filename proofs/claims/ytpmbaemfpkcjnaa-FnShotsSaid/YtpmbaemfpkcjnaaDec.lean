/- Numbers in decimal: the program's Decimal (by Go's strconv) and the reference's own. Both hand back 'decS n'. The table of strconv's must read as the program's text lays it ('Tab'). -/
import Derived.Test.YtpmbaemfpkcjnaaBasics
import Derived.Lib.ItoaNum
import Derived.WalkSmall
namespace Go.Proofs.Ytpmbaemfpkcjnaa
open Go.RowKit

def decS (n : Int) : ByteArray := ⟨(Lib.itoa n).toArray⟩
/-! ### The reference's own -/
def bv (b : UInt8) : Value := .int .u8 (b.toNat : Int)
def dgt (m : Nat) : UInt8 := UInt8.ofNat (48 + m % 10)
theorem bv_dgt (m : Nat) : bv (dgt m) = .int .u8 (48 + (m : Int) % 10) := by
  unfold bv dgt
  have : (UInt8.ofNat (48 + m % 10)).toNat = 48 + m % 10 := by
    rw [UInt8.toNat_ofNat']; omega
  rw [this]; congr 1
/-- The digits that are still to come. -/
def restD (m : Nat) : List UInt8 := if m = 0 then [] else Lib.decDigits m
theorem restD_step {m : Nat} (h : 0 < m) : restD m = restD (m / 10) ++ [dgt m] := by
  unfold restD
  rw [if_neg (by omega), Lib.decDigits]
  by_cases h1 : m < 10
  · rw [dif_pos h1, if_pos (by omega), List.nil_append]; unfold dgt; rw [Nat.mod_eq_of_lt h1]
  · rw [dif_neg h1, if_neg (by omega)]; rfl
theorem map_snoc {α β : Type} (l : List α) (x : α) (f : α → β) : l.map f ++ [f x] = (l ++ [x]).map f := by simp
theorem oneCell_bv (l : List UInt8) : ∀ u ∈ l.map bv, u.oneCell' = true := by
  intro u hu; simp only [List.mem_map] at hu; obtain ⟨b, _, rfl⟩ := hu; rfl
theorem decDigits_ne (n : Nat) : Lib.decDigits n ≠ [] := by
  rw [Lib.decDigits]; split <;> simp
theorem strOfNums_bytes (l : List UInt8) : strOfNums (l.map fun b => (b.toNat : Int)) = ⟨l.toArray⟩ := by
  unfold strOfNums
  rw [List.map_map]
  congr 2
  rw [List.map_congr_left (g := id) (fun b _ => by simp)]
  simp
theorem drop_rev {l : List UInt8} {j : Nat} (h0 : 0 < j) (h : j ≤ l.length) : (l.drop (j - 1)).reverse = (l.drop j).reverse ++ [nth l (j - 1)] := by
  rw [List.drop_eq_getElem_cons (show j - 1 < l.length by omega), List.reverse_cons, show j - 1 + 1 = j by omega, nth_eq l (j - 1) (by omega)]
theorem getD_bytes {l : List UInt8} {i : Nat} (h : i < l.length) : (l.map fun b => (b.toNat : Int)).getD i 0 = ((nth l i).toNat : Int) := by
  rw [nth_eq l i h]; simp [List.getD, h]
theorem map_get {l : List UInt8} {k : Nat} (h : k < l.length) : (l.map bv)[k]? = some (bv (nth l k)) := by
  rw [List.getElem?_map, List.getElem?_eq_getElem h, nth_eq l k h]; rfl
theorem elByte : El Try.prog 22 5 1 1 := El.mk' Try.underlying22 (by kernel_rfl) (by decide)
theorem own_new (w : World) (base : Nat) (hb : base ≤ w.heap.size) (e : TypeId) : (w.alloc (.cells #[] e)).ownsRow base e 1 (.slice (some ⟨w.heap.size, 0, none⟩) 0 0) 0 [] :=
  ⟨rfl, .inr ⟨w.heap.size, 0, #[], rfl, hb, by show (w.heap.push _)[w.heap.size]? = _; simp, Nat.le_refl _, by unfold maxLen; omega, rfl, rfl⟩⟩
set_option maxRecDepth 100000 in
set_option maxHeartbeats 2000000 in
theorem l01Dec_pos (N : Nat) (w : World) (h0 : 0 < N) (h1 : N ≤ 9223372036854775807) :
    Gives Try.prog 51 #[.int .i64 N] w (.string (decS N)) := by
  unfold Gives
  have hN : ((N : Int) == 0) = false := by rw [beq_eq_false_iff_ne]; omega
  have hO := own_new w w.heap.size (Nat.le_refl _) 5
  have hE := (Ext.refl w).alloc (.cells #[] 5)
  go_enter Try.func51, Try.ntmps51
  go_wp2_with fail
  go_loopw [3, 4] (fun ds m wr => ∃ (f k : Nat) (D : List UInt8), m = .int .i64 k ∧ Hid (restD k ++ D.reverse = restD N) ∧ k ≤ 9223372036854775807 ∧ k < 10 ^ f ∧ D.length + f = 20 ∧ Hid (wr.ownsRow w.heap.size 5 1 ds D.length (D.map bv)) ∧ Ext w wr) (fun _ m _ => (intOf m).toNat)
  case atStart => exact ⟨20, N, [], rfl, by simp [Hid], h1, by omega, rfl, hO, hE⟩
  case round =>
    obtain ⟨f, k, D, rfl, hD, hk, hkf, hlen, HO, he⟩ := hrel
    clear hO hE
    obtain ⟨ad, cap, rfl, hcap, hcm, -, hcells⟩ := ownsRow_shape HO.out
    have HCE := Lib.hid hcells
    clear hcells
    unfold maxLen at hcm
    rcases Nat.eq_zero_or_pos k with h | h
    · subst h
      rw [show ((0 : Nat) : Int) = 0 from rfl]
      have hDN : Hid (D.reverse = restD N) := by
        show _ = _; rw [← hD.out]; simp [restD]
      have hl20 : D.length ≤ 20 := by omega
      clear hkf hlen hD
      have hDl : 0 < D.length := by
        rcases Nat.eq_zero_or_pos D.length with h | h
        · have : D = [] := List.length_eq_zero_iff.1 h
          have hx := hDN.out
          rw [this] at hx
          unfold restD at hx
          rw [if_neg (by omega)] at hx
          exact absurd hx.symm (by simpa using decDigits_ne N)
        · exact h
      have hfin : Hid (⟨D.reverse.toArray⟩ = decS N) := by
        show _ = _; rw [hDN.out]; unfold decS Lib.itoa restD; rw [if_neg (by omega), if_neg (by omega), Int.toNat_natCast]
      clear hDN
      obtain ⟨wo, rfl⟩ : ∃ wo : World, wo = wr := ⟨_, rfl⟩
      have hO2 := own_new wo wo.heap.size (Nat.le_refl _) 5
      have hE2 := (Ext.refl wo).alloc (.cells #[] 5)
      have hsz := he.size
      clear HO
      go_wp2_with fail
      go_loopw [6, 7] (fun os i wq => ∃ (j : Nat) (O : List UInt8), i = .int .i64 ((j : Int) - 1) ∧ j ≤ D.length ∧ Hid (O = (D.drop j).reverse) ∧ Hid (wq.ownsRow wo.heap.size 5 1 os O.length (O.map bv)) ∧ Ext wo wq) (fun _ i _ => (intOf i + 1).toNat)
      case atStart => exact ⟨D.length, [], rfl, Nat.le_refl _, by simp [Hid], hO2, hE2⟩
      case round =>
        obtain ⟨j, O, rfl, hj, hO, HO2, he2⟩ := hrel
        clear hO2 hE2
        obtain ⟨ad2, cap2, rfl, hcap2, hcm2, -, hcells2⟩ := ownsRow_shape HO2.out
        have HCE2 := Lib.hid hcells2
        clear hcells2
        unfold maxLen at hcm2
        have hOl : O.length + j = D.length := by rw [hO.out, List.length_reverse, List.length_drop]; omega
        rcases Nat.eq_zero_or_pos j with h | h
        · subst h
          have hO' : Hid (O = D.reverse) := by show _ = _; rw [hO.out, List.drop_zero]
          obtain ⟨g2, rfl, -, -, -⟩ := HCE2.out 0 (by omega)
          have hcv := run_convert_bytes_arg (P := Try.prog) wr 22 5 Try.underlying22 Try.underlying5 g2 0 O.length cap2 (O.map fun b => (b.toNat : Int)) (by simp)
            (fun i hi => by
              obtain ⟨g', e', -, -, hc⟩ := HCE2.out i hi
              simp only [Option.some.injEq, Addr.mk.injEq, and_true] at e'
              subst e'
              rw [Nat.zero_add, hc, map_get hi, getD_bytes hi]; rfl) 9 Try.underlying9
          rw [strOfNums_bytes] at hcv
          clear hOl
          go_wp2_with fail
          go_ret
          exact ⟨by rw [← hfin.out, ← hO'.out]; rfl, he.trans he2⟩
        · have hnext : Hid (O ++ [nth D (j - 1)] = (D.drop (j - 1)).reverse) := by show _ = _; rw [drop_rev h hj, hO.out]
          obtain ⟨g1, rfl, -, hg1, hc1⟩ := HCE.out (j - 1) (by omega)
          have c0 : wr.cell? ⟨g1, j - 1, none⟩ = some (.int .u8 ((nth D (j - 1)).toNat : Int)) := he2.cell (hc1.trans (map_get (by omega)))
          have hg1' : g1 < wr.heap.size := Nat.lt_of_lt_of_le hg1 he2.size
          have hblk2 := Lib.hid (ownBlock_le HO2.out)
          have HO3 : Hid ((wr.alloc (.cells #[.int .u8 ((nth D (j - 1)).toNat : Int)] 5)).ownsRow wo.heap.size 5 1 (.slice ad2 O.length cap2) O.length (O.map bv)) := ownsRow_ext HO2.out ((Ext.refl _).alloc _)
          have D1 : Hid (∀ q u, [bv (nth D (j - 1))][q]? = some u → (wr.alloc (.cells #[.int .u8 ((nth D (j - 1)).toNat : Int)] 5)).cell? ((⟨wr.heap.size, 0, none⟩ : Addr).add q) = some u) := cell_one_new _ _ _
          have D2 := Lib.hid (oneCell_bv [nth D (j - 1)])
          have D3 : Hid (O.length + 1 ≤ maxLen) := by show _ ≤ _; unfold maxLen; omega
          have D4 : Hid ((O.length + 1) * 1 ≤ 140737488355328) := by show _ ≤ _; omega
          have D5 : Hid (wo.heap.size ≤ (wr.alloc (.cells #[.int .u8 ((nth D (j - 1)).toNat : Int)] 5)).heap.size) := by show _ ≤ _; rw [size_new]; have := he2.size; omega
          have hOl' := Lib.hid hOl
          clear hOl hc1 HO2
          go_wp2_with (at_builtin; refine wpList_push elByte rfl _ _ rfl wo.heap.size _ O.length (O.map bv) rfl HO3.out ⟨wr.heap.size, 0, none⟩ 1 1 [bv (nth D (j - 1))] rfl rfl D1.out D2.out D3.out D4.out D5.out ?_; intro v' w1 ho hg _)
          have hE3 : Hid (Ext wo w1) := (he2.alloc _).grown hg hblk2.out
          have ho' : Hid (w1.ownsRow wo.heap.size 5 1 v' (O ++ [nth D (j - 1)]).length ((O ++ [nth D (j - 1)]).map bv)) := by
            show World.ownsRow _ _ _ _ _ _ _
            rw [← map_snoc, List.length_append]; exact ho
          clear ho hg
          go_wp2_with fail
          go_roundw
          case rel => exact ⟨j - 1, O ++ [nth D (j - 1)], by simp only [Value.int.injEq, true_and]; omega, by omega, hnext.out, ho'.out, hE3.out⟩
          case measure => simp [intOf]; omega
    · obtain ⟨f, rfl⟩ : ∃ f', f = f' + 1 := by
        cases f with
        | zero => exact absurd hkf (by simp; omega)
        | succ f => exact ⟨f, rfl⟩
      have hstep : Hid (restD (k / 10) ++ (D ++ [dgt k]).reverse = restD N) := by
        show _ = _; rw [← hD.out, restD_step h]; simp
      have hkf' : Hid (k / 10 < 10 ^ f) := by show _ < _; rw [Nat.pow_succ] at hkf; omega
      have hlen' := Lib.hid hlen
      have hl19 : D.length ≤ 19 := by omega
      have hm0 : 0 ≤ (k : Int) % 10 := by omega
      have hm1 : (k : Int) % 10 ≤ 9 := by omega
      have hb := Lib.hid (bv_dgt k)
      have hsz := he.size
      have HO' : Hid ((wr.alloc (.cells #[.int .u8 (48 + (k : Int) % 10)] 5)).ownsRow w.heap.size 5 1 (.slice ad D.length cap) D.length (D.map bv)) := ownsRow_ext HO.out ((Ext.refl _).alloc _)
      have hblk := Lib.hid (ownBlock_le HO.out)
      clear hkf hlen hD HO
      have C1 : Hid (∀ j u, [bv (dgt k)][j]? = some u → (wr.alloc (.cells #[.int .u8 (48 + (k : Int) % 10)] 5)).cell? ((⟨wr.heap.size, 0, none⟩ : Addr).add j) = some u) := by
        rw [hb.out]; exact cell_one_new _ _ _
      have C2 := Lib.hid (oneCell_bv [dgt k])
      have C3 : Hid (D.length + 1 ≤ maxLen) := by show _ ≤ _; unfold maxLen; omega
      have C4 : Hid ((D.length + 1) * 1 ≤ 140737488355328) := by show _ ≤ _; omega
      have C5 : Hid (w.heap.size ≤ (wr.alloc (.cells #[.int .u8 (48 + (k : Int) % 10)] 5)).heap.size) := by show _ ≤ _; rw [size_new]; omega
      go_wp2_with (at_builtin; refine wpList_push elByte rfl _ _ rfl w.heap.size _ D.length (D.map bv) rfl HO'.out ⟨wr.heap.size, 0, none⟩ 1 1 [bv (dgt k)] rfl rfl C1.out C2.out C3.out C4.out C5.out ?_; intro v' w1 ho hg _)
      have hE2 : Hid (Ext w w1) := (he.alloc _).grown hg hblk.out
      have ho' : Hid (w1.ownsRow w.heap.size 5 1 v' (D ++ [dgt k]).length ((D ++ [dgt k]).map bv)) := by
        show World.ownsRow _ _ _ _ _ _ _
        rw [← map_snoc, List.length_append]; exact ho
      clear ho hg
      go_wp2_with fail
      go_roundw
      case rel => exact ⟨f, k / 10, D ++ [dgt k], by go_num, hstep.out, by omega, hkf'.out, by rw [List.length_append]; have := hlen'.out; simp; omega, ho'.out, hE2.out⟩
      case measure => simp [intOf]; omega
set_option maxRecDepth 100000 in
set_option maxHeartbeats 2000000 in
theorem l01Dec_neg (N : Nat) (w : World) (h0 : 0 < N) (h1 : N ≤ 9223372036854775808) :
    Gives Try.prog 51 #[.int .i64 (-(N : Int))] w (.string (decS (-(N : Int)))) := by
  unfold Gives
  have hN : (-(N : Int) == 0) = false := by rw [beq_eq_false_iff_ne]; omega
  have hO := own_new w w.heap.size (Nat.le_refl _) 5
  have hE := (Ext.refl w).alloc (.cells #[] 5)
  go_enter Try.func51, Try.ntmps51
  go_wp2_with fail
  go_loopw [3, 4] (fun ds m wr => ∃ (f k : Nat) (D : List UInt8), m = .int .i64 (-(k : Int)) ∧ Hid (restD k ++ D.reverse = restD N) ∧ k ≤ 9223372036854775808 ∧ k < 10 ^ f ∧ D.length + f = 20 ∧ Hid (wr.ownsRow w.heap.size 5 1 ds D.length (D.map bv)) ∧ Ext w wr) (fun _ m _ => (-(intOf m)).toNat)
  case atStart => exact ⟨20, N, [], rfl, by simp [Hid], h1, by omega, rfl, hO, hE⟩
  case round =>
    obtain ⟨f, k, D, rfl, hD, hk, hkf, hlen, HO, he⟩ := hrel
    clear hO hE
    obtain ⟨ad, cap, rfl, hcap, hcm, -, hcells⟩ := ownsRow_shape HO.out
    have HCE := Lib.hid hcells
    clear hcells
    unfold maxLen at hcm
    rcases Nat.eq_zero_or_pos k with h | h
    · subst h
      rw [show -((0 : Nat) : Int) = 0 from rfl]
      have hDN : Hid (D.reverse = restD N) := by
        show _ = _; rw [← hD.out]; simp [restD]
      have hl20 : D.length ≤ 20 := by omega
      clear hkf hlen hD
      have hDl : 0 < D.length := by
        rcases Nat.eq_zero_or_pos D.length with h | h
        · have : D = [] := List.length_eq_zero_iff.1 h
          have hx := hDN.out
          rw [this] at hx
          unfold restD at hx
          rw [if_neg (by omega)] at hx
          exact absurd hx.symm (by simpa using decDigits_ne N)
        · exact h
      obtain ⟨E, hEe⟩ : ∃ E, E = D ++ [(45 : UInt8)] := ⟨_, rfl⟩
      have hfin : Hid (⟨E.reverse.toArray⟩ = decS (-(N : Int))) := by
        show _ = _; rw [hEe, List.reverse_append, hDN.out]; unfold decS Lib.itoa restD; rw [if_neg (by omega), if_pos (by omega), Int.natAbs_neg, Int.natAbs_natCast]; rfl
      clear hDN
      have hsz0 := he.size
      have HO' : Hid ((wr.alloc (.cells #[.int .u8 45] 5)).ownsRow w.heap.size 5 1 (.slice ad D.length cap) D.length (D.map bv)) := ownsRow_ext HO.out ((Ext.refl _).alloc _)
      have hblk := Lib.hid (ownBlock_le HO.out)
      have C1 : Hid (∀ j u, [bv 45][j]? = some u → (wr.alloc (.cells #[.int .u8 45] 5)).cell? ((⟨wr.heap.size, 0, none⟩ : Addr).add j) = some u) := cell_one_new _ _ _
      have C2 := Lib.hid (oneCell_bv [45])
      have C3 : Hid (D.length + 1 ≤ maxLen) := by show _ ≤ _; unfold maxLen; omega
      have C4 : Hid ((D.length + 1) * 1 ≤ 140737488355328) := by show _ ≤ _; omega
      have C5 : Hid (w.heap.size ≤ (wr.alloc (.cells #[.int .u8 45] 5)).heap.size) := by show _ ≤ _; rw [size_new]; omega
      have hl2 : E.length = D.length + 1 := by rw [hEe]; simp
      have hl21 : E.length ≤ 21 := by omega
      have hDl : 0 < E.length := by omega
      have HL2 := Lib.hid hl2
      have HEe := Lib.hid hEe
      clear HO HCE hl2 hEe
      go_wp2_with (at_builtin; refine wpList_push elByte rfl _ _ rfl w.heap.size _ D.length (D.map bv) rfl HO'.out ⟨wr.heap.size, 0, none⟩ 1 1 [bv 45] rfl rfl C1.out C2.out C3.out C4.out C5.out ?_; intro v' w1 ho hg _; rw [map_snoc, ← HL2.out, ← HEe.out] at ho; obtain ⟨ad3, cap3, rfl, hcap3, hcm3, -, hcells3⟩ := ownsRow_shape ho; have HCE := Lib.hid hcells3; clear hcells3; have HO := Lib.hid ho; have he1 : Ext w w1 := (he.alloc _).grown hg hblk.out; clear ho hg he; have he := he1; clear he1; unfold maxLen at hcm3)
      obtain ⟨wo, rfl⟩ : ∃ wo : World, wo = w1 := ⟨_, rfl⟩
      have hO2 := own_new wo wo.heap.size (Nat.le_refl _) 5
      have hE2 := (Ext.refl wo).alloc (.cells #[] 5)
      have hsz := he.size
      clear HO
      go_wp2_with fail
      go_loopw [6, 7] (fun os i wq => ∃ (j : Nat) (O : List UInt8), i = .int .i64 ((j : Int) - 1) ∧ j ≤ E.length ∧ Hid (O = (E.drop j).reverse) ∧ Hid (wq.ownsRow wo.heap.size 5 1 os O.length (O.map bv)) ∧ Ext wo wq) (fun _ i _ => (intOf i + 1).toNat)
      case atStart => exact ⟨E.length, [], rfl, Nat.le_refl _, by simp [Hid], hO2, hE2⟩
      case round =>
        obtain ⟨j, O, rfl, hj, hO, HO2, he2⟩ := hrel
        clear hO2 hE2
        obtain ⟨ad2, cap2, rfl, hcap2, hcm2, -, hcells2⟩ := ownsRow_shape HO2.out
        have HCE2 := Lib.hid hcells2
        clear hcells2
        unfold maxLen at hcm2
        have hOl : O.length + j = E.length := by rw [hO.out, List.length_reverse, List.length_drop]; omega
        rcases Nat.eq_zero_or_pos j with h | h
        · subst h
          have hO' : Hid (O = E.reverse) := by show _ = _; rw [hO.out, List.drop_zero]
          obtain ⟨g2, rfl, -, -, -⟩ := HCE2.out 0 (by omega)
          have hcv := run_convert_bytes_arg (P := Try.prog) wr 22 5 Try.underlying22 Try.underlying5 g2 0 O.length cap2 (O.map fun b => (b.toNat : Int)) (by simp)
            (fun i hi => by
              obtain ⟨g', e', -, -, hc⟩ := HCE2.out i hi
              simp only [Option.some.injEq, Addr.mk.injEq, and_true] at e'
              subst e'
              rw [Nat.zero_add, hc, map_get hi, getD_bytes hi]; rfl) 9 Try.underlying9
          rw [strOfNums_bytes] at hcv
          clear hOl
          go_wp2_with fail
          go_ret
          exact ⟨by rw [← hfin.out, ← hO'.out]; rfl, he.trans he2⟩
        · have hnext : Hid (O ++ [nth E (j - 1)] = (E.drop (j - 1)).reverse) := by show _ = _; rw [drop_rev h hj, hO.out]
          obtain ⟨g1, rfl, -, hg1, hc1⟩ := HCE.out (j - 1) (by omega)
          have c0 : wr.cell? ⟨g1, j - 1, none⟩ = some (.int .u8 ((nth E (j - 1)).toNat : Int)) := he2.cell (hc1.trans (map_get (by omega)))
          have hg1' : g1 < wr.heap.size := Nat.lt_of_lt_of_le hg1 he2.size
          have hblk2 := Lib.hid (ownBlock_le HO2.out)
          have HO3 : Hid ((wr.alloc (.cells #[.int .u8 ((nth E (j - 1)).toNat : Int)] 5)).ownsRow wo.heap.size 5 1 (.slice ad2 O.length cap2) O.length (O.map bv)) := ownsRow_ext HO2.out ((Ext.refl _).alloc _)
          have D1 : Hid (∀ q u, [bv (nth E (j - 1))][q]? = some u → (wr.alloc (.cells #[.int .u8 ((nth E (j - 1)).toNat : Int)] 5)).cell? ((⟨wr.heap.size, 0, none⟩ : Addr).add q) = some u) := cell_one_new _ _ _
          have D2 := Lib.hid (oneCell_bv [nth E (j - 1)])
          have D3 : Hid (O.length + 1 ≤ maxLen) := by show _ ≤ _; unfold maxLen; omega
          have D4 : Hid ((O.length + 1) * 1 ≤ 140737488355328) := by show _ ≤ _; omega
          have D5 : Hid (wo.heap.size ≤ (wr.alloc (.cells #[.int .u8 ((nth E (j - 1)).toNat : Int)] 5)).heap.size) := by show _ ≤ _; rw [size_new]; have := he2.size; omega
          have hOl' := Lib.hid hOl
          clear hOl hc1 HO2
          go_wp2_with (at_builtin; refine wpList_push elByte rfl _ _ rfl wo.heap.size _ O.length (O.map bv) rfl HO3.out ⟨wr.heap.size, 0, none⟩ 1 1 [bv (nth E (j - 1))] rfl rfl D1.out D2.out D3.out D4.out D5.out ?_; intro v' w1 ho hg _)
          have hE3 : Hid (Ext wo w1) := (he2.alloc _).grown hg hblk2.out
          have ho' : Hid (w1.ownsRow wo.heap.size 5 1 v' (O ++ [nth E (j - 1)]).length ((O ++ [nth E (j - 1)]).map bv)) := by
            show World.ownsRow _ _ _ _ _ _ _
            rw [← map_snoc, List.length_append]; exact ho
          clear ho hg
          go_wp2_with fail
          go_roundw
          case rel => exact ⟨j - 1, O ++ [nth E (j - 1)], by simp only [Value.int.injEq, true_and]; omega, by omega, hnext.out, ho'.out, hE3.out⟩
          case measure => simp [intOf]; omega
    · obtain ⟨f, rfl⟩ : ∃ f', f = f' + 1 := by
        cases f with
        | zero => exact absurd hkf (by simp; omega)
        | succ f => exact ⟨f, rfl⟩
      have hstep : Hid (restD (k / 10) ++ (D ++ [dgt k]).reverse = restD N) := by
        show _ = _; rw [← hD.out, restD_step h]; simp
      have hkf' : Hid (k / 10 < 10 ^ f) := by show _ < _; rw [Nat.pow_succ] at hkf; omega
      have hlen' := Lib.hid hlen
      have hl19 : D.length ≤ 19 := by omega
      have hm0 : 0 ≤ (k : Int) % 10 := by omega
      have hm1 : (k : Int) % 10 ≤ 9 := by omega
      have hr : Int.tmod (-(k : Int)) 10 = -((k : Int) % 10) := by rw [Int.neg_tmod, Int.tmod_eq_emod_of_nonneg (by omega)]
      have hq : Int.tdiv (-(k : Int)) 10 = -((k : Int) / 10) := by rw [Int.neg_tdiv, Int.tdiv_eq_ediv_of_nonneg (by omega)]
      by_cases hz : (k : Int) % 10 = 0
      · have hb : Hid (bv (dgt k) = .int .u8 48) := by show _ = _; rw [bv_dgt, hz]; rfl
        have hsz := he.size
        have HO' : Hid ((wr.alloc (.cells #[.int .u8 (48)] 5)).ownsRow w.heap.size 5 1 (.slice ad D.length cap) D.length (D.map bv)) := ownsRow_ext HO.out ((Ext.refl _).alloc _)
        have hblk := Lib.hid (ownBlock_le HO.out)
        clear hkf hlen hD HO
        have C1 : Hid (∀ j u, [bv (dgt k)][j]? = some u → (wr.alloc (.cells #[.int .u8 (48)] 5)).cell? ((⟨wr.heap.size, 0, none⟩ : Addr).add j) = some u) := by
          rw [hb.out]; exact cell_one_new _ _ _
        have C2 := Lib.hid (oneCell_bv [dgt k])
        have C3 : Hid (D.length + 1 ≤ maxLen) := by show _ ≤ _; unfold maxLen; omega
        have C4 : Hid ((D.length + 1) * 1 ≤ 140737488355328) := by show _ ≤ _; omega
        have C5 : Hid (w.heap.size ≤ (wr.alloc (.cells #[.int .u8 (48)] 5)).heap.size) := by show _ ≤ _; rw [size_new]; omega
        go_wp2_with (at_builtin; refine wpList_push elByte rfl _ _ rfl w.heap.size _ D.length (D.map bv) rfl HO'.out ⟨wr.heap.size, 0, none⟩ 1 1 [bv (dgt k)] rfl rfl C1.out C2.out C3.out C4.out C5.out ?_; intro v' w1 ho hg _)
        have hE2 : Hid (Ext w w1) := (he.alloc _).grown hg hblk.out
        have ho' : Hid (w1.ownsRow w.heap.size 5 1 v' (D ++ [dgt k]).length ((D ++ [dgt k]).map bv)) := by
          show World.ownsRow _ _ _ _ _ _ _
          rw [← map_snoc, List.length_append]; exact ho
        clear ho hg
        go_wp2_with fail
        go_roundw
        case rel => exact ⟨f, k / 10, D ++ [dgt k], by go_num, hstep.out, by omega, hkf'.out, by rw [List.length_append]; have := hlen'.out; simp; omega, ho'.out, hE2.out⟩
        case measure => simp [intOf]; omega
      · have hz' : 0 < (k : Int) % 10 := by omega
        clear hz
        have hb := Lib.hid (bv_dgt k)
        have hsz := he.size
        have HO' : Hid ((wr.alloc (.cells #[.int .u8 (48 + (k : Int) % 10)] 5)).ownsRow w.heap.size 5 1 (.slice ad D.length cap) D.length (D.map bv)) := ownsRow_ext HO.out ((Ext.refl _).alloc _)
        have hblk := Lib.hid (ownBlock_le HO.out)
        clear hkf hlen hD HO
        have C1 : Hid (∀ j u, [bv (dgt k)][j]? = some u → (wr.alloc (.cells #[.int .u8 (48 + (k : Int) % 10)] 5)).cell? ((⟨wr.heap.size, 0, none⟩ : Addr).add j) = some u) := by
          rw [hb.out]; exact cell_one_new _ _ _
        have C2 := Lib.hid (oneCell_bv [dgt k])
        have C3 : Hid (D.length + 1 ≤ maxLen) := by show _ ≤ _; unfold maxLen; omega
        have C4 : Hid ((D.length + 1) * 1 ≤ 140737488355328) := by show _ ≤ _; omega
        have C5 : Hid (w.heap.size ≤ (wr.alloc (.cells #[.int .u8 (48 + (k : Int) % 10)] 5)).heap.size) := by show _ ≤ _; rw [size_new]; omega
        go_wp2_with (at_builtin; refine wpList_push elByte rfl _ _ rfl w.heap.size _ D.length (D.map bv) rfl HO'.out ⟨wr.heap.size, 0, none⟩ 1 1 [bv (dgt k)] rfl rfl C1.out C2.out C3.out C4.out C5.out ?_; intro v' w1 ho hg _)
        have hE2 : Hid (Ext w w1) := (he.alloc _).grown hg hblk.out
        have ho' : Hid (w1.ownsRow w.heap.size 5 1 v' (D ++ [dgt k]).length ((D ++ [dgt k]).map bv)) := by
          show World.ownsRow _ _ _ _ _ _ _
          rw [← map_snoc, List.length_append]; exact ho
        clear ho hg
        go_wp2_with fail
        go_roundw
        case rel => exact ⟨f, k / 10, D ++ [dgt k], by go_num, hstep.out, by omega, hkf'.out, by rw [List.length_append]; have := hlen'.out; simp; omega, ho'.out, hE2.out⟩
        case measure => simp [intOf]; omega
theorem l01Dec_any (n : Int) (w : World) (h0 : -9223372036854775808 ≤ n) (h1 : n ≤ 9223372036854775807) :
    Gives Try.prog 51 #[.int .i64 n] w (.string (decS n)) := by
  rcases Int.lt_trichotomy n 0 with h | h | h
  · obtain ⟨N, hN⟩ := Int.eq_ofNat_of_zero_le (show 0 ≤ -n by omega)
    obtain rfl : n = -(N : Int) := by omega
    exact l01Dec_neg N w (by omega) (by omega)
  · subst h
    unfold Gives
    have hv : Hid ((⟨#[48]⟩ : ByteArray) = decS 0) := by
      show _ = _; unfold decS Lib.itoa; rw [if_neg (by omega), Int.toNat_zero, Lib.decDigits]; rfl
    go_enter Try.func51, Try.ntmps51
    go_wp2_with fail
    go_ret
    exact ⟨by rw [← hv.out]; rfl, Ext.refl _⟩
  · obtain ⟨N, rfl⟩ := Int.eq_ofNat_of_zero_le (show 0 ≤ n by omega)
    exact l01Dec_pos N w (by omega) (by omega)
end Go.Proofs.Ytpmbaemfpkcjnaa
