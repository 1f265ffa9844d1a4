/- Lists of numbers as text: the program's ListText (strings.Join) and the reference's own; both hand back 'listS l'. -/
import Derived.Test.YtmkmmenkjbmppaaDoorDec
import Derived.Lib.ItoaLen
import Derived.Lib.Join
namespace Go.Proofs.YtmkmmenkjbmppaaDoor
open Go.RowKit
theorem decS_size (n : Int) (h0 : -9223372036854775808 ≤ n) (h1 : n ≤ 9223372036854775807) : (decS n).size ≤ 21 := by
  have := Lib.itoa_length_le n h0 h1
  show (Lib.itoa n).toArray.size ≤ 21
  simpa using this
def joinK (l : List Int) : Nat → ByteArray
  | 0 => ⟨#[]⟩
  | k + 1 => (if k = 0 then joinK l k else joinK l k ++ ⟨#[44]⟩) ++ decS (nth l k)
def listS (l : List Int) : ByteArray := if l.length = 0 then ⟨#[45]⟩ else joinK l l.length
theorem joinK_size {l : List Int} (h : ∀ k, k < l.length → -9223372036854775808 ≤ nth l k ∧ nth l k ≤ 9223372036854775807) : ∀ {k : Nat}, k ≤ l.length → (joinK l k).size ≤ 22 * k
  | 0, _ => by simp [joinK]; rfl
  | k + 1, hk => by
    have h1 := joinK_size h (k := k) (by omega)
    have h2 := decS_size (nth l k) (h k (by omega)).1 (h k (by omega)).2
    simp only [joinK]
    split
    · rw [ByteArray.size_append]; omega
    · rw [ByteArray.size_append, ByteArray.size_append]; have : (⟨#[44]⟩ : ByteArray).size = 1 := rfl; omega
theorem join_snoc (xs : List (List UInt8)) (x sep : List UInt8) : Lib.join (xs ++ [x]) sep = if xs = [] then x else Lib.join xs sep ++ sep ++ x := by
  cases xs with
  | nil => rw [List.nil_append, Lib.join_one, if_pos rfl]
  | cons y ys => rw [if_neg (by simp), List.cons_append, Lib.join_cons, Lib.join_cons]; simp [Lib.joinTail]
theorem joinK_join (l : List Int) : ∀ k, k ≤ l.length → joinK l k = ⟨(Lib.join ((l.take k).map Lib.itoa) [44]).toArray⟩
  | 0, _ => by simp [joinK, Lib.join_nil]
  | k + 1, hk => by
    rw [take_nth l k (by omega), List.map_append, List.map_singleton, join_snoc]
    simp only [joinK]
    rcases Nat.eq_zero_or_pos k with h | h
    · subst h
      rw [if_pos rfl, if_pos (by simp)]; simp [joinK, decS]; rfl
    · rw [if_neg (by omega), if_neg (by intro e; have e2 := congrArg List.length e; rw [List.length_map, List.length_take, List.length_nil] at e2; omega), joinK_join l k (by omega)]
      unfold decS
      apply ByteArray.ext
      simp
theorem elStr : El Tryd.prog 39 9 1 16 := El.mk' Tryd.underlying39 (by kernel_rfl) (by decide)
def sv (s : ByteArray) : Value := .string s
theorem oneCell_sv (l : List ByteArray) : ∀ u ∈ l.map sv, u.oneCell' = true := by
  intro u hu; simp only [List.mem_map] at hu; obtain ⟨b, _, rfl⟩ := hu; rfl
theorem join_len {l : List Int} (h : ∀ k, k < l.length → -9223372036854775808 ≤ nth l k ∧ nth l k ≤ 9223372036854775807) : (Lib.join (l.map Lib.itoa) [44]).length ≤ 22 * l.length := by
  have h1 := joinK_size h (k := l.length) (Nat.le_refl _)
  rw [joinK_join l l.length (Nat.le_refl _), List.take_length] at h1
  have h2 : (⟨(Lib.join (l.map Lib.itoa) [44]).toArray⟩ : ByteArray).size = (Lib.join (l.map Lib.itoa) [44]).length := by show Array.size _ = _; simp
  rw [h2] at h1; exact h1
theorem map_decS (l : List Int) : (l.map decS).map (·.data.toList) = l.map Lib.itoa := by
  rw [List.map_map]; apply List.map_congr_left; intro x _; simp [decS]
set_option maxRecDepth 100000 in
set_option maxHeartbeats 2000000 in
theorem ListText_any (a : Option Addr) (cap : Nat) (l : List Int) (w : World) (H : IntAt w a l) (hw : ∀ k, k < l.length → inB (nth l k) (-1000000000000) 1000000000000 = true) (hlen : l.length ≤ 64) (ht : Tab w) :
    Gives Tryd.prog 38 #[.slice a l.length cap] w (.string (listS l)) := by
  unfold Gives
  rcases Nat.eq_zero_or_pos l.length with h0 | h0
  · have hv : Hid ((⟨#[45]⟩ : ByteArray) = listS l) := by show _ = _; unfold listS; rw [if_pos h0]
    have h0' : ((l.length : Int) == 0) = true := by rw [h0]; rfl
    clear h0 H
    go_enter Tryd.func38, Tryd.ntmps38
    go_wp2_with fail
    go_ret
    exact ⟨by rw [← hv.out]; rfl, Ext.refl _⟩
  have hwb : ∀ k, k < l.length → -9223372036854775808 ≤ nth l k ∧ nth l k ≤ 9223372036854775807 := fun k hk => by have := inB_iff.1 (hw k hk); omega
  have hv : Hid ((⟨(Lib.join ((l.map decS).map (·.data.toList)) [44]).toArray⟩ : ByteArray) = listS l) := by
    show _ = _; unfold listS; rw [if_neg (by omega), joinK_join l l.length (Nat.le_refl _), List.take_length, map_decS]
  have hjl : Hid ((Lib.join ((l.map decS).map (·.data.toList)) [44]).length ≤ 140737488355328) := by
    show _ ≤ _; rw [map_decS]; have := join_len hwb; omega
  have h0' : ((l.length : Int) == 0) = false := by rw [beq_eq_false_iff_ne]; omega
  have HW := Lib.hid hw
  have HT := Lib.hid ht
  clear hw ht hwb
  have hmk := run_make_cap (P := Tryd.prog) (t := 39) Tryd.underlying39 (by kernel_rfl : (Tryd.prog.info? 9).map (fun i => (i.zero.map Value.cells, i.size, i.bytes)) = some (some #[.string ⟨#[]⟩], 1, 16)) .i64 .i64 l.length (by omega) (by omega) w
  have hO := own_made w w.heap.size (Nat.le_refl _) 9 #[.string ⟨#[]⟩] 1 l.length (by unfold maxLen; omega)
  have hE := (Ext.refl w).alloc (.cells (madeCells #[.string ⟨#[]⟩] (l.length * 1)) 9)
  rw [Nat.mul_one] at hmk hO hE
  go_enter Tryd.func38, Tryd.ntmps38
  go_wp2_with fail
  clear hmk
  generalize w.alloc (.cells (madeCells #[.string ⟨#[]⟩] l.length) 9) = W at *
  go_loopw [3, 17] (fun o i wr => ∃ k : Nat, k ≤ l.length ∧ i = .int .i64 k ∧ Hid (wr.ownsRow w.heap.size 9 1 o k ((l.take k).map fun x => sv (decS x))) ∧ Ext w wr) (fun _ i _ => l.length - (intOf i).toNat)
  case atStart => exact ⟨0, Nat.zero_le _, rfl, hO, hE⟩
  case round =>
    obtain ⟨k, hk, rfl, HO, he⟩ := hrel
    clear hO hE
    obtain ⟨ad, cp, rfl, hcap, hcm, -, hcells⟩ := ownsRow_shape HO.out
    have HCE := Lib.hid hcells
    clear hcells
    unfold maxLen at hcm
    have hsz := he.size
    by_cases hlt : k < l.length
    · obtain ⟨b, off, rfl⟩ := H.base hlt
      obtain ⟨hb, c0⟩ := IntAt.at (H.ext he) k hlt
      have hin := HW.out k hlt
      obtain ⟨n0, n1⟩ := inB_iff.1 hin
      have hts : Hid ((l.take k).map (fun x => sv (decS x)) ++ [sv (decS (nth l k))] = (l.take (k + 1)).map fun x => sv (decS x)) := by show _ = _; rw [take_nth l k hlt]; simp
      have hblk := Lib.hid (ownBlock_le HO.out)
      clear H
      go_wp2_with fail
      refine (within_any _ _ _ _).mono ?_
      rintro e wr ⟨rfl, rfl⟩
      rw [hin]
      go_wp2_with fail
      refine (Decimal_any _ _ (by omega) (by omega) (HT.out.ext he)).mono ?_
      rintro e w' ⟨rfl, y, rfl⟩
      have HO' : Hid (((lift wr y).alloc (.cells #[.string (decS (nth l k))] 9)).ownsRow w.heap.size 9 1 (.slice ad k cp) k ((l.take k).map fun x => sv (decS x))) := ownsRow_ext HO.out (((Ext.refl _).lift y).alloc _)
      have C1 : Hid (∀ j u, [sv (decS (nth l k))][j]? = some u → ((lift wr y).alloc (.cells #[.string (decS (nth l k))] 9)).cell? ((⟨wr.heap.size + y.blocks.size, 0, none⟩ : Addr).add j) = some u) := by
        rw [← lift_size]; exact cell_one_new _ _ _
      have C2 := Lib.hid (oneCell_sv [decS (nth l k)])
      have C3 : Hid (k + 1 ≤ maxLen) := by show _ ≤ _; unfold maxLen; omega
      have C4 : Hid ((k + 1) * 16 ≤ 140737488355328) := by show _ ≤ _; omega
      have C5 : Hid (w.heap.size ≤ ((lift wr y).alloc (.cells #[.string (decS (nth l k))] 9)).heap.size) := by show _ ≤ _; rw [size_new, lift_size]; omega
      clear HO
      go_wp2_with (at_builtin; refine wpList_push elStr rfl _ _ rfl w.heap.size _ k _ rfl HO'.out ⟨wr.heap.size + y.blocks.size, 0, none⟩ 1 1 [sv (decS (nth l k))] rfl rfl C1.out C2.out C3.out C4.out C5.out ?_; intro v' w1 ho hg _)
      have hE2 : Hid (Ext w w1) := ((he.lift y).alloc _).grown hg hblk.out
      have ho' : Hid (w1.ownsRow w.heap.size 9 1 v' (k + 1) ((l.take (k + 1)).map fun x => sv (decS x))) := by
        show World.ownsRow _ _ _ _ _ _ _; rw [← hts.out]; exact ho
      clear ho hg
      go_wp2_with fail
      go_roundw
      case rel => exact ⟨k + 1, by omega, by go_num, ho'.out, hE2.out⟩
      case measure => simp [intOf]; omega
    · obtain rfl : k = l.length := by omega
      obtain ⟨g, rfl, hg, hgl, -⟩ := HCE.out 0 (by omega)
      have hJ : Hid (Calls Tryd.prog 54 #[.slice (some ⟨g, 0, none⟩) l.length cp, .string ⟨#[44]⟩] wr fun e w' => e = .returned (.string (listS l)) ∧ Below wr.heap.size wr w') := by
        have := Tryd.strings_Join g 0 cp (l.map decS) ⟨#[44]⟩ wr (fun j x hx => by
          have hj : j < l.length := by
            have := (List.getElem?_eq_some_iff.1 hx).1
            simpa using this
          obtain ⟨g', e', -, -, hc⟩ := HCE.out j hj
          simp only [Option.some.injEq, Addr.mk.injEq, and_true] at e'
          subst e'
          rw [Nat.zero_add, hc, List.take_length, List.getElem?_map, List.getElem?_eq_getElem hj]
          rw [List.getElem?_map, List.getElem?_eq_getElem hj] at hx
          simp only [Option.map_some, Option.some.injEq] at hx ⊢
          rw [hx]; rfl) hgl (by simp; omega) (by simpa using hcap) hjl.out
        rw [List.length_map] at this
        exact this.mono fun e w' ⟨he, hw⟩ => ⟨by rw [he, ← hv.out], hw⟩
      clear H HO hlt
      go_wp2_with fail
      refine hJ.out.mono ?_
      rintro e w' ⟨rfl, hbel⟩
      obtain ⟨z, rfl⟩ := Ext.of_below hbel
      go_wp2_with fail
      go_ret
      exact ⟨rfl, he.lift z⟩
theorem intAt_new (w : World) (l : List Int) (cs : Array Value) (T : TypeId) (h : ∀ k, k < l.length → cs[k]? = some (.int .i64 (nth l k))) : IntAt (w.alloc (.cells cs T)) (some ⟨w.heap.size, 0, none⟩) l :=
  IntAt.of (by rw [size_new]; omega) fun k hk => by rw [Nat.zero_add, cell_new]; exact h k hk
theorem intAt_new' (w : World) (l : List Int) (cs : Array Value) (T : TypeId) (h : ∀ k, k < l.length → cs[k]? = some (.int .i64 (nth l k))) {n : Nat} (hn : n = w.heap.size) : IntAt (w.alloc (.cells cs T)) (some ⟨n, 0, none⟩) l := hn ▸ intAt_new w l cs T h
end Go.Proofs.YtmkmmenkjbmppaaDoor
