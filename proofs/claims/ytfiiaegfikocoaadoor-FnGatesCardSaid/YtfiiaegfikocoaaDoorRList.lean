/- Lists of numbers read back: ReadList of the program and of the reference; a name and a list. All hand back 'listP' of the text. -/
import Derived.Test.YtfiiaegfikocoaaDoorRCut
namespace Go.Proofs.YtfiiaegfikocoaaDoor
open Go.RowKit
def listV (s : ByteArray) : List Int := (listP s.data.toList).getD []
def listB (s : ByteArray) : Bool := (listP s.data.toList).isSome
theorem list_some {s : ByteArray} {L : List Int} (h : listP s.data.toList = some L) : listV s = L ∧ listB s = true := by unfold listV listB; rw [h]; exact ⟨rfl, rfl⟩
theorem list_none {s : ByteArray} (h : listP s.data.toList = none) : listV s = [] ∧ listB s = false := by unfold listV listB; rw [h]; exact ⟨rfl, rfl⟩
abbrev cellN : Int → Nat → Value := fun (x : Int) (_ : Nat) => Value.int .i64 x
theorem listB_iff {s : ByteArray} : listB s = true ↔ listP s.data.toList = some (listV s) := by
  unfold listB listV
  cases h : listP s.data.toList with
  | none => simp
  | some L => simp
theorem listV_len (s : ByteArray) : (listV s).length ≤ 64 := by
  cases h : listP s.data.toList with
  | none => rw [(list_none h).1]; simp
  | some L => rw [(list_some h).1]; exact (listP_iff.1 h).2.1
theorem listV_in (s : ByteArray) : ∀ k, k < (listV s).length → -1000000000000 ≤ nth (listV s) k ∧ nth (listV s) k ≤ 1000000000000 := by
  intro k hk
  cases h : listP s.data.toList with
  | none => rw [(list_none h).1] at hk; simp at hk
  | some L =>
    rw [(list_some h).1] at hk ⊢
    exact inT_iff.1 (List.all_eq_true.1 (listP_iff.1 h).2.2 _ (nth_mem hk))
/-- The list's text, as bytes. -/
theorem listS_toList (L : List Int) : (listS L).data.toList = listT L := by
  unfold listS listT
  by_cases h : L = []
  · subst h; rfl
  · rw [if_neg (by intro e; exact h (List.length_eq_zero_iff.1 e)), if_neg h, joinK_join L L.length (Nat.le_refl _), List.take_length]
theorem listS_iff {L : List Int} {s : ByteArray} : listS L = s ↔ listT L = s.data.toList := by
  rw [← listS_toList]
  constructor
  · rintro rfl; rfl
  · intro h; rw [← mk_toList s, ← h, mk_toList]
theorem inT_inB (n : Int) : inB n (-1000000000000) 1000000000000 = inT n := by
  rw [Bool.eq_iff_iff, inB_iff, inT_iff]
/-! ### Out of its parts -/
theorem numsP_snoc (ps : List (List UInt8)) (p : List UInt8) : numsP (ps ++ [p]) = match numsP ps with
    | none => none
    | some l => match numP p with
      | none => none
      | some n => some (l ++ [n]) := by
  induction ps with
  | nil =>
    simp only [List.nil_append, numsP]
    cases numP p <;> rfl
  | cons q ps ih =>
    simp only [List.cons_append, numsP]
    rw [ih]
    cases numP q <;> cases numsP ps <;> cases numP p <;> rfl
theorem numsP_mem {ps : List (List UInt8)} {L : List Int} (h : numsP ps = some L) {p : List UInt8} (hp : p ∈ ps) : ∃ n, numP p = some n ∧ n ∈ L := by
  obtain ⟨rfl, h2⟩ := numsP_iff.1 h
  rw [List.mem_map] at hp
  obtain ⟨n, hn, rfl⟩ := hp
  exact ⟨n, numP_itoa (h2 n hn).1 (h2 n hn).2, hn⟩
/-- A text other than '-' that is a list's: its pieces are its numbers' forms. -/
theorem listP_cuts {l : List UInt8} {L : List Int} (h : l ≠ [45]) (hL : listP l = some L) : L ≠ [] ∧ cuts 44 l = L.map Lib.itoa := by
  obtain ⟨h1, h2, h3⟩ := listP_iff.1 hL
  have hn : L ≠ [] := fun e => h (by rw [← h1, e]; rfl)
  refine ⟨hn, ?_⟩
  rw [← h1]
  show cuts 44 (if L = [] then [45] else Lib.join (L.map Lib.itoa) [44]) = _
  rw [if_neg hn]; exact cuts_listT hn
theorem parts_map {c : UInt8} {k : Nat} {s : ByteArray} : (partsB c k s).map (·.data.toList) = Lib.splitK [c] 0 k s.data.toList := by
  unfold partsB
  rw [List.map_map]
  have : ((fun (x : ByteArray) => x.data.toList) ∘ mkB) = id := by funext x; exact mkB_toList x
  rw [this, List.map_id]
theorem cutsB_map {c : UInt8} {s : ByteArray} : (cutsB c s).map (·.data.toList) = cuts c s.data.toList := by
  unfold cutsB
  rw [List.map_map]
  have : ((fun (x : ByteArray) => x.data.toList) ∘ mkB) = id := by funext x; exact mkB_toList x
  rw [this, List.map_id]
/-- What the reference's loop has read: k pieces, all good. -/
def Reading (Q : List ByteArray) (k : Nat) (O : List Int) : Prop := numsP ((Q.take k).map (·.data.toList)) = some O
theorem Reading.start (Q : List ByteArray) : Reading Q 0 [] := by unfold Reading; rw [List.take_zero]; rfl
theorem Reading.next {Q : List ByteArray} {k : Nat} {O : List Int} (h : Reading Q k O) (hk : k < Q.length) (hb : numB (nth Q k) = true) : Reading Q (k + 1) (O ++ [numV (nth Q k)]) := by
  unfold Reading at *
  rw [take_nth Q k hk, List.map_append, List.map_singleton, numsP_snoc, h]
  unfold numB at hb
  cases e : numP (nth Q k).data.toList with
  | none => rw [e] at hb; cases hb
  | some n => simp only []; rw [(num_some e).1]
theorem Reading.len {Q : List ByteArray} {k : Nat} {O : List Int} (h : Reading Q k O) (hk : k ≤ Q.length) : O.length = k := by
  have := congrArg List.length (numsP_iff.1 h).1
  rw [List.length_map, List.length_map, List.length_take] at this; omega
theorem Reading.bd {Q : List ByteArray} {k : Nat} {O : List Int} (h : Reading Q k O) : ∀ j, j < O.length → -1000000000000000000 < nth O j ∧ nth O j < 1000000000000000000 :=
  fun _ hj => (numsP_iff.1 h).2 _ (nth_mem hj)
theorem read_bad {s : ByteArray} {k : Nat} (hs : s.data.toList ≠ [45]) (hk : k < (cutsB 44 s).length) (h : numB (nth (cutsB 44 s) k) = false ∨ inT (numV (nth (cutsB 44 s) k)) = false) : listP s.data.toList = none := by
  cases e : listP s.data.toList with
  | none => rfl
  | some L =>
    exfalso
    obtain ⟨hn, hc⟩ := listP_cuts hs e
    obtain ⟨h1, h2, h3⟩ := listP_iff.1 e
    have hm : (nth (cutsB 44 s) k).data.toList ∈ L.map Lib.itoa := by
      rw [← hc, ← cutsB_map, List.mem_map]
      exact ⟨_, nth_mem hk, rfl⟩
    rw [List.mem_map] at hm
    obtain ⟨n, hnm, hne⟩ := hm
    have hin := List.all_eq_true.1 h3 n hnm
    have hb := inT_iff.1 hin
    have hp : numP (nth (cutsB 44 s) k).data.toList = some n := by rw [← hne]; exact numP_itoa (by omega) (by omega)
    rcases h with h | h
    · rw [(num_some hp).2] at h; cases h
    · rw [(num_some hp).1, hin] at h; cases h
theorem read_long {s : ByteArray} (hs : s.data.toList ≠ [45]) (h : 64 < (cutsB 44 s).length) : listP s.data.toList = none := by
  unfold listP
  rw [if_neg hs, if_pos (by rw [← cutsB_map, List.length_map]; exact h)]
theorem read_done {s : ByteArray} {O : List Int} (hs : s.data.toList ≠ [45]) (h64 : (cutsB 44 s).length ≤ 64) (h : Reading (cutsB 44 s) (cutsB 44 s).length O) (hin : O.all inT = true) : listP s.data.toList = some O := by
  unfold Reading at h
  rw [List.take_length, cutsB_map] at h
  unfold listP
  rw [if_neg hs, if_neg (by rw [← cutsB_map, List.length_map]; omega), h]
  simp only
  rw [if_pos hin]
theorem dash_iff {s : ByteArray} : sEq s ⟨#[45]⟩ = true ↔ s.data.toList = [45] := by
  rw [sEq_iff]
  constructor
  · rintro rfl; rfl
  · intro h; rw [← mk_toList s, h]
theorem lit_eq (s : ByteArray) (l : List UInt8) : (s.toList == l) = sEq s ⟨l.toArray⟩ := by
  rw [← sEq_toList]; simp only [ByteArray.toList_eq]
theorem dash_none {s : ByteArray} (h : sEq s ⟨#[45]⟩ = false) : s.data.toList ≠ [45] := fun e => by rw [dash_iff.2 e] at h; cases h
theorem list_dash {s : ByteArray} (h : sEq s ⟨#[45]⟩ = true) : listV s = [] ∧ listB s = true := by
  have := dash_iff.1 h
  exact list_some (by rw [this]; decide)
theorem all_snoc {O : List Int} {n : Int} (h : O.all inT = true) (hn : inT n = true) : (O ++ [n]).all inT = true := by rw [List.all_append, h]; simp [hn]
theorem elInts : El Tryd.prog 33 2 1 8 := El.mk' Tryd.underlying33 (by kernel_rfl) (by decide)
theorem oneInts : ∀ (x : Int) (j : Nat), j < 1 → ((fun (x : Int) (_ : Nat) => Value.int .i64 x) x j).oneCell' = true := fun _ _ _ => rfl
/-- A list that has no text. -/
def fitsT (L : List Int) : Bool := decide (L.length ≤ 64) && L.all inT
theorem fits_bad {L : List Int} (h : fitsT L = false) (h64 : L.length ≤ 64) : ∃ k, k < L.length ∧ inT (nth L k) = false ∧ ∀ j, j < k → inT (nth L j) = true := by
  have hall : ¬ ∀ k, k < L.length → inT (nth L k) = true := fun hall => by
    have : L.all inT = true := List.all_eq_true.2 fun x hx => by obtain ⟨k, hk, rfl⟩ := mem_nth hx; exact hall k hk
    unfold fitsT at h
    rw [this, decide_eq_true h64] at h; cases h
  have key : ∀ n, (∀ k, k < n → k < L.length → inT (nth L k) = true) ∨ ∃ k, k < L.length ∧ inT (nth L k) = false ∧ ∀ j, j < k → inT (nth L j) = true := by
    intro n
    induction n with
    | zero => exact .inl fun k hk => absurd hk (Nat.not_lt_zero _)
    | succ n ih =>
      rcases ih with ih | ih
      · by_cases hn : n < L.length
        · cases e : inT (nth L n)
          · exact .inr ⟨n, hn, e, fun j hj => ih j hj (by omega)⟩
          · refine .inl fun k hk hkl => ?_
            rcases Nat.lt_or_ge k n with h1 | h1
            · exact ih k h1 hkl
            · obtain rfl : k = n := by omega
              exact e
        · exact .inl fun k hk hkl => ih k (by omega) hkl
      · exact .inr ih
  rcases key L.length with h1 | h1
  · exact absurd (fun k hk => h1 k hk hk) hall
  · exact h1
set_option maxRecDepth 100000 in
set_option maxHeartbeats 2000000 in
theorem ListText_bad (a : Option Addr) (cap : Nat) (l : List Int) (w : World) (H : IntAt w a l) (hw : ∀ k, k < l.length → -1000000000000000000 < nth l k ∧ nth l k < 1000000000000000000) (hl : l.length ≤ 1048576) (hf : fitsT l = false) (ht : Tab w) :
    Gives Tryd.prog 54 #[.slice a l.length cap] w (.string ⟨#[]⟩) := by
  unfold Gives
  by_cases hlen : l.length ≤ 64
  case neg =>
    clear H
    go_enter Tryd.func54, Tryd.ntmps54
    go_wp2_with fail
    go_ret
    exact ⟨rfl, Ext.refl _⟩
  obtain ⟨m, hm, hmb, hmg⟩ := fits_bad hf hlen
  have h0' : ((l.length : Int) == 0) = false := by rw [beq_eq_false_iff_ne]; omega
  have HW := Lib.hid hw
  have HG := Lib.hid hmg
  have HT := Lib.hid ht
  clear hw ht hmg
  have hmk := run_make_cap (P := Tryd.prog) (t := 48) Tryd.underlying48 (by kernel_rfl : (Tryd.prog.info? 9).map (fun i => (i.zero.map Value.cells, i.size, i.bytes)) = some (some #[.string ⟨#[]⟩], 1, 16)) .i64 .i64 l.length (by omega) (by omega) w
  have hO := own_made w w.heap.size (Nat.le_refl _) 9 #[.string ⟨#[]⟩] 1 l.length (by unfold maxLen; omega)
  have hE := (Ext.refl w).alloc (.cells (madeCells #[.string ⟨#[]⟩] (l.length * 1)) 9)
  rw [Nat.mul_one] at hmk hO hE
  go_enter Tryd.func54, Tryd.ntmps54
  go_wp2_with fail
  clear hmk
  generalize w.alloc (.cells (madeCells #[.string ⟨#[]⟩] l.length) 9) = W at *
  go_loopw [3, 17] (fun o i wr => ∃ k : Nat, k ≤ m ∧ i = .int .i64 k ∧ Hid (wr.ownsRow w.heap.size 9 1 o k ((l.take k).map fun x => sv (decS x))) ∧ Ext w wr) (fun _ i _ => l.length - (intOf i).toNat)
  case atStart => exact ⟨0, Nat.zero_le _, rfl, hO, hE⟩
  case round =>
    obtain ⟨k, hk, rfl, HO, he⟩ := hrel
    clear hO hE
    obtain ⟨ad, cp, rfl, hcap, hcm, -, hcells⟩ := ownsRow_shape HO.out
    clear hcells
    unfold maxLen at hcm
    have hsz := he.size
    have hlt : k < l.length := by omega
    obtain ⟨b, off, rfl⟩ := H.base hlt
    obtain ⟨hb, c0⟩ := IntAt.at (H.ext he) k hlt
    obtain ⟨n0, n1⟩ := HW.out k hlt
    clear H
    rcases Nat.lt_or_ge k m with hkm | hkm
    · have hin : inB (nth l k) (-1000000000000) 1000000000000 = true := by rw [inT_inB]; exact HG.out k hkm
      have hts : Hid ((l.take k).map (fun x => sv (decS x)) ++ [sv (decS (nth l k))] = (l.take (k + 1)).map fun x => sv (decS x)) := by show _ = _; rw [take_nth l k hlt]; simp
      have hblk := Lib.hid (ownBlock_le HO.out)
      go_wp2_with fail
      refine (within_any _ _ _ _).mono ?_
      rintro e wr ⟨rfl, rfl⟩
      rw [hin]
      go_wp2_with fail
      refine (Decimal_any _ _ (by omega) (by omega) (HT.out.ext he)).mono ?_
      rintro e w' ⟨rfl, y, rfl⟩
      have HO' : Hid (((lift wr y).alloc (.cells #[.string (decS (nth l k))] 9)).ownsRow w.heap.size 9 1 (.slice ad k cp) k ((l.take k).map fun x => sv (decS x))) := ownsRow_ext HO.out (((Ext.refl _).lift y).alloc _)
      have C1 : Hid (∀ j u, [sv (decS (nth l k))][j]? = some u → ((lift wr y).alloc (.cells #[.string (decS (nth l k))] 9)).cell? ((⟨wr.heap.size + y.blocks.size, 0, none⟩ : Addr).add j) = some u) := by
        rw [← lift_size]; exact cell_one_new _ _ _
      have C2 := Lib.hid (oneCell_sv [decS (nth l k)])
      have C3 : Hid (k + 1 ≤ maxLen) := by show _ ≤ _; unfold maxLen; omega
      have C4 : Hid ((k + 1) * 16 ≤ 140737488355328) := by show _ ≤ _; omega
      have C5 : Hid (w.heap.size ≤ ((lift wr y).alloc (.cells #[.string (decS (nth l k))] 9)).heap.size) := by show _ ≤ _; rw [size_new, lift_size]; omega
      clear HO
      go_wp2_with (at_builtin; refine wpList_push elStr rfl _ _ rfl w.heap.size _ k _ rfl HO'.out ⟨wr.heap.size + y.blocks.size, 0, none⟩ 1 1 [sv (decS (nth l k))] rfl rfl C1.out C2.out C3.out C4.out C5.out ?_; intro v' w1 ho hg _)
      have hE2 : Hid (Ext w w1) := ((he.lift y).alloc _).grown hg hblk.out
      have ho' : Hid (w1.ownsRow w.heap.size 9 1 v' (k + 1) ((l.take (k + 1)).map fun x => sv (decS x))) := by
        show World.ownsRow _ _ _ _ _ _ _; rw [← hts.out]; exact ho
      clear ho hg
      go_wp2_with fail
      go_roundw
      case rel => exact ⟨k + 1, by omega, by go_num, ho'.out, hE2.out⟩
      case measure => simp [intOf]; omega
    · obtain rfl : k = m := by omega
      have hin : inB (nth l k) (-1000000000000) 1000000000000 = false := by rw [inT_inB]; exact hmb
      clear hkm
      go_wp2_with fail
      refine (within_any _ _ _ _).mono ?_
      rintro e wr ⟨rfl, rfl⟩
      rw [hin]
      go_wp2_with fail
      go_ret
      exact ⟨rfl, he⟩
/-- The text of whatever list. -/
def textL (L : List Int) : ByteArray := if fitsT L = true then listS L else ⟨#[]⟩
theorem ListText_all (a : Option Addr) (cap : Nat) (l : List Int) (w : World) (H : IntAt w a l) (hw : ∀ k, k < l.length → -1000000000000000000 < nth l k ∧ nth l k < 1000000000000000000) (hl : l.length ≤ 1048576) (ht : Tab w) :
    Gives Tryd.prog 54 #[.slice a l.length cap] w (.string (textL l)) := by
  unfold textL
  cases h : fitsT l
  · rw [if_neg (by decide)]; exact ListText_bad a cap l w H hw hl h ht
  · rw [if_pos rfl]
    unfold fitsT at h
    rw [Bool.and_eq_true, decide_eq_true_eq] at h
    exact ListText_any a cap l w H (fun k hk => by rw [inT_inB]; exact List.all_eq_true.1 h.2 _ (nth_mem hk)) h.1 ht
/-! ### The program's own -/
theorem splitN_cuts {s : ByteArray} (h : (cuts 44 s.data.toList).length ≤ 65) : (partsB 44 (min 65 (s.size + 1) - 1) s).map (·.data.toList) = cuts 44 s.data.toList := by
  have hl := (cuts_len (c := 44) s.data.toList).2
  rw [← size_toList] at hl
  rw [parts_map, splitK_cuts, if_pos (by omega)]
theorem parts_len (k : Nat) (s : ByteArray) : 1 ≤ (partsB 44 k s).length ∧ (partsB 44 k s).length ≤ k + 1 := by
  unfold partsB
  rw [List.length_map, splitK_cuts]
  have := (cuts_len (c := 44) s.data.toList).1
  split
  · rename_i h; exact ⟨this, h⟩
  · rename_i h; rw [List.length_append, List.length_take]; simp only [List.length_cons, List.length_nil]; omega
theorem parts_size {k : Nat} {s p : ByteArray} (h : p ∈ partsB 44 k s) : p.size ≤ s.size := by
  rw [size_toList p, size_toList s]
  have hm : p.data.toList ∈ Lib.splitK [44] 0 k s.data.toList := by rw [← parts_map, List.mem_map]; exact ⟨p, h, rfl⟩
  have key : ∀ (k : Nat) (l q : List UInt8), q ∈ Lib.splitK [44] 0 k l → q.length ≤ l.length := by
    intro k
    induction k with
    | zero => intro l q hq; simp only [Lib.splitK, List.mem_singleton] at hq; subst hq; exact Nat.le_refl _
    | succ k ih =>
      intro l q hq
      simp only [Lib.splitK] at hq
      split at hq
      · simp only [List.mem_singleton] at hq; subst hq; exact Nat.le_refl _
      · rcases List.mem_cons.1 hq with rfl | hq
        · rw [List.length_take]; omega
        · have := ih _ _ hq; rw [List.length_drop] at this; omega
  exact key _ _ _ hm
/-- What the program reads, out of what its loop has read. -/
theorem prog_done {s : ByteArray} {O : List Int} (hs : s.data.toList ≠ [45]) (h : Reading (partsB 44 (min 65 (s.size + 1) - 1) s) (partsB 44 (min 65 (s.size + 1) - 1) s).length O) : listP s.data.toList = if textL O = s then some O else none := by
  unfold Reading at h
  rw [List.take_length] at h
  by_cases hc : (cuts 44 s.data.toList).length ≤ 65
  · rw [splitN_cuts hc] at h
    obtain ⟨h1, h2⟩ := numsP_iff.1 h
    have hn : O ≠ [] := fun e => by subst e; exact cuts_ne _ h1.symm
    have hT : listT O = s.data.toList := by unfold listT; rw [if_neg hn, h1, join_cuts]
    by_cases hf : fitsT O = true
    · have hf2 := hf
      unfold fitsT at hf2
      rw [Bool.and_eq_true, decide_eq_true_eq] at hf2
      rw [if_pos (by unfold textL; rw [if_pos hf]; exact listS_iff.2 hT)]
      exact listP_iff.2 ⟨hT, hf2.1, hf2.2⟩
    · have hne : ¬ textL O = s := by
        unfold textL; rw [if_neg hf]
        rintro rfl
        have h0 : cuts 44 ([] : List UInt8) = [[]] := rfl
        have : O.map Lib.itoa = [[]] := h1.trans h0
        cases O with
        | nil => exact hn rfl
        | cons n O =>
          simp only [List.map_cons, List.cons.injEq] at this
          have h9 := numP_itoa (n := n) (h2 n (List.mem_cons_self ..)).1 (h2 n (List.mem_cons_self ..)).2
          rw [this.1] at h9; cases h9
      rw [if_neg hne]
      cases e : listP s.data.toList with
      | none => rfl
      | some L =>
        exfalso
        obtain ⟨_, hc2⟩ := listP_cuts hs e
        obtain ⟨h3, h4, h5⟩ := listP_iff.1 e
        rw [hc2] at h
        have : numsP (L.map Lib.itoa) = some L := numsP_iff.2 ⟨rfl, fun n hm => by have := inT_iff.1 (List.all_eq_true.1 h5 n hm); omega⟩
        rw [this] at h
        simp only [Option.some.injEq] at h
        subst h
        exact hf (by unfold fitsT; rw [h5, decide_eq_true h4]; rfl)
  · -- more pieces than the program takes: the last one still bears a comma
    exfalso
    have hl := (cuts_len (c := 44) s.data.toList).2
    rw [← size_toList] at hl
    have hk : min 65 (s.size + 1) - 1 = 64 := by omega
    rw [parts_map, hk, splitK_cuts, if_neg (by omega)] at h
    obtain ⟨n, hn, -⟩ := numsP_mem h (p := Lib.join ((cuts 44 s.data.toList).drop 64) [44]) (by simp)
    have hm : (44 : UInt8) ∈ Lib.join ((cuts 44 s.data.toList).drop 64) [44] := by
      have hd : 2 ≤ ((cuts 44 s.data.toList).drop 64).length := by rw [List.length_drop]; omega
      cases e : (cuts 44 s.data.toList).drop 64 with
      | nil => rw [e] at hd; simp at hd
      | cons x r =>
        cases r with
        | nil => rw [e] at hd; simp at hd
        | cons y r => rw [join_cons2]; simp
    obtain ⟨h1, -⟩ := numP_iff.1 hn
    rw [← h1] at hm
    exact itoa_free n 44 (by decide) (by decide) hm
theorem prog_bad {s : ByteArray} {k : Nat} (hs : s.data.toList ≠ [45]) (hk : k < (partsB 44 (min 65 (s.size + 1) - 1) s).length) (h : numB (nth (partsB 44 (min 65 (s.size + 1) - 1) s) k) = false) : listP s.data.toList = none := by
  cases e : listP s.data.toList with
  | none => rfl
  | some L =>
    exfalso
    obtain ⟨hn, hc⟩ := listP_cuts hs e
    obtain ⟨h1, h2, h3⟩ := listP_iff.1 e
    have hlen : (cuts 44 s.data.toList).length ≤ 65 := by rw [hc, List.length_map]; omega
    have hm : (nth (partsB 44 (min 65 (s.size + 1) - 1) s) k).data.toList ∈ L.map Lib.itoa := by
      rw [← hc, ← splitN_cuts hlen, List.mem_map]
      exact ⟨_, nth_mem hk, rfl⟩
    rw [List.mem_map] at hm
    obtain ⟨n, hnm, hne⟩ := hm
    have hb := inT_iff.1 (List.all_eq_true.1 h3 n hnm)
    have hp : numP (nth (partsB 44 (min 65 (s.size + 1) - 1) s) k).data.toList = some n := by rw [← hne]; exact numP_itoa (by omega) (by omega)
    rw [(num_some hp).2] at h; cases h
set_option maxRecDepth 100000 in
set_option maxHeartbeats 4000000 in
theorem implReadList_any (s : ByteArray) (w : World) (hs : s.size ≤ 1048576) (ht : RTab w) :
    Calls Tryd.prog 51 #[.string s] w (OutR 1 cellN w (listV s) [.bool (listB s)]) := by
  have HT := Lib.hid ht
  have h0' := lit_eq s [45]
  cases h0 : sEq s ⟨#[45]⟩
  all_goals rw [h0] at h0'
  · have hd := dash_none h0
    have HS : Hid (Calls Tryd.prog 66 #[.string s, .string ⟨#[44]⟩, .int .i64 65] w fun e w' => ∃ a cap, e = .returned (.slice a (partsB 44 (min 65 (s.size + 1) - 1) s).length cap) ∧ StrAt w' a (partsB 44 (min 65 (s.size + 1) - 1) s) ∧ Ext w w') := SplitN_any s 44 65 w hs ht (by decide) (by decide)
    clear ht
    obtain ⟨Q, hQ⟩ : ∃ Q, Q = partsB 44 (min 65 (s.size + 1) - 1) s := ⟨_, rfl⟩
    have hQl : Q.length ≤ 65 := by rw [hQ]; have := (parts_len (min 65 (s.size + 1) - 1) s).2; omega
    have hQp : Hid (∀ k, k < Q.length → (nth Q k).size ≤ 1048576) := fun k hk => by have := parts_size (k := min 65 (s.size + 1) - 1) (s := s) (p := nth Q k) (by rw [← hQ]; exact nth_mem hk); omega
    have hbad : Hid (∀ k, k < Q.length → numB (nth Q k) = false → listV s = [] ∧ listB s = false) := fun k hk h => list_none (prog_bad hd (by rw [← hQ]; exact hk) (by rw [← hQ]; exact h))
    have hdone : Hid (∀ O, Reading Q Q.length O → listP s.data.toList = if textL O = s then some O else none) := fun O h1 => prog_done hd (by rw [← hQ]; exact h1)
    rw [← hQ] at HS
    clear hd hQ
    go_enter Tryd.func51, Tryd.ntmps51
    go_wp2_with fail
    refine HS.out.mono ?_
    rintro e W ⟨a, cap, rfl, R, E⟩
    have R0 := Lib.hid R
    have E0 := Lib.hid E
    clear R E HS
    have hO : Lst 2 1 cellN W W.heap.size (.slice none 0 0) ([] : List Int) := Lst.nil _ _
    go_wp2_with fail
    go_loopw [4, 14] (fun o i wr => ∃ (k : Nat) (O : List Int), k ≤ Q.length ∧ i = .int .i64 k ∧ O.length ≤ k ∧ Hid (Reading Q k O) ∧ Hid (Lst 2 1 cellN wr W.heap.size o O) ∧ Ext W wr) (fun _ i _ => Q.length - (intOf i).toNat)
    case atStart => exact ⟨0, [], Nat.zero_le _, rfl, Nat.le_refl _, Reading.start Q, hO, Ext.refl _⟩
    case round =>
      clear hO
      obtain ⟨k, O, hk, rfl, hOl, HR, HO, he⟩ := hrel
      obtain ⟨ad, cp, rfl, hcp, hcm, R9, -⟩ := HO.out.shape
      have RO := Lib.hid R9
      have hsz := he.size
      clear R9
      by_cases hlt : k < Q.length
      · obtain ⟨b, off, rfl⟩ := R0.out.base hlt
        obtain ⟨hb, c0⟩ := StrAt.at (R0.out.ext he) k hlt
        have HN : Hid (Gives Tryd.prog 22 #[.string (nth Q k)] wr (.tuple #[.int .i64 (numV (nth Q k)), .bool (numB (nth Q k))])) := ReadDecimal_any _ wr (hQp.out k hlt) (HT.out.ext (E0.out.trans he))
        cases h1 : numB (nth Q k)
        · have hv := Lib.hid (hbad.out k hlt h1)
          rw [h1] at HN
          go_wp2_with fail
          refine HN.out.mono ?_
          rintro e w' ⟨rfl, y, rfl⟩
          go_wp2_with fail
          go_ret2
          rw [hv.out.1, hv.out.2]
          exact ⟨none, 0, rfl, Nat.le_refl _, RowsAt.nil, (E0.out.trans he).lift _⟩
        · rw [h1] at HN
          have HR2 := Lib.hid (HR.out.next hlt h1)
          clear HR
          go_wp2_with fail
          refine HN.out.mono ?_
          rintro e w' ⟨rfl, y, rfl⟩
          have HO1 : Hid (Lst 2 1 cellN ((lift wr y).alloc (.cells #[.int .i64 (numV (nth Q k))] 2)) W.heap.size (.slice ad O.length cp) O) := HO.out.ext (((Ext.refl _).lift y).alloc _)
          have HR1 : Hid (IntAt ((lift wr y).alloc (.cells #[.int .i64 (numV (nth Q k))] 2)) (some ⟨wr.heap.size + y.blocks.size, 0, none⟩) [numV (nth Q k)]) := rows_int _ _ (by rw [lift_size])
          have hE1 := Lib.hid ((he.lift y).alloc (.cells #[.int .i64 (numV (nth Q k))] 2))
          clear HO
          go_wp2_with (at_builtin; refine wpList_pushL elInts oneInts rfl _ _ rfl W.heap.size _ O rfl HO1.out _ 1 1 [numV (nth Q k)] rfl rfl HR1.out (by omega) (by omega) (by rw [size_new, lift_size]; omega) ?_; intro v' w3 HL hs3 _)
          have HL2 := Lib.hid HL
          have hE2 := Lib.hid (hs3.ext hE1.out (Nat.le_refl _))
          clear HL hs3 HO1 HR1 hE1
          go_wp2_with fail
          go_roundw
          case rel => exact ⟨k + 1, O ++ [numV (nth Q k)], by omega, by go_num, by rw [List.length_append]; simp only [List.length_cons, List.length_nil]; omega, HR2.out, HL2.out, hE2.out⟩
          case measure => simp [intOf]; omega
      · obtain rfl : k = Q.length := by omega
        have hx := Lib.hid (hdone.out O HR.out)
        have HLT0 := ListText_all ad cp O wr RO.out HR.out.bd (by omega) (HT.out.tab.ext (E0.out.trans he))
        generalize textL O = T at hx HLT0
        have HLT := Lib.hid HLT0
        clear HR HO HLT0
        cases h2 : sEq T s
        · have hv := Lib.hid (list_none (s := s) (by rw [hx.out, if_neg (sEq_not.1 h2)]))
          go_wp2_with fail
          refine HLT.out.mono ?_
          rintro e w' ⟨rfl, y, rfl⟩
          go_wp2_with fail
          go_ret2
          rw [hv.out.1, hv.out.2]
          exact ⟨none, 0, rfl, Nat.le_refl _, RowsAt.nil, (E0.out.trans he).lift _⟩
        · have hv := Lib.hid (list_some (s := s) (L := O) (by rw [hx.out, if_pos (sEq_iff.1 h2)]))
          go_wp2_with fail
          refine HLT.out.mono ?_
          rintro e w' ⟨rfl, y, rfl⟩
          go_wp2_with fail
          go_ret2
          rw [hv.out.1, hv.out.2]
          exact ⟨ad, cp, rfl, hcp, RO.out.ext ((Ext.refl _).lift y), (E0.out.trans he).lift _⟩
  · have hv := Lib.hid (list_dash h0)
    clear ht
    go_enter Tryd.func51, Tryd.ntmps51
    go_wp2_with fail
    go_ret2
    rw [hv.out.1, hv.out.2]
    exact ⟨none, 0, rfl, Nat.le_refl _, RowsAt.nil, Ext.refl _⟩
end Go.Proofs.YtfiiaegfikocoaaDoor
