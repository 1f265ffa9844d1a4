/- Chapter 28: sums by names, of the reference. -/
import Derived.Test.YtndkcgiadpdcjaaSumP
import Derived.Test.YtndkcgiadpdcjaaSrch
import Derived.Test.YtndkcgiadpdcjaaElI
import Derived.Test.YtndkcgiadpdcjaaLstP
import Derived.Test.YtndkcgiadpdcjaaCutW
import Derived.Laws.AppendOwnNone
namespace Go.Proofs.Ytndkcgiadpdcjaa
open Go.RowKit
/-- append(dst, src...) where src may be nil. -/
theorem wpList_pushQ {α : Type} [Inhabited α] {T n : Nat} {cell : α → Nat → Value} {w : World} {P : Program} {ops : Array Oper} {rest : List Oper} {o : Oper} {a : Act} {Q : Exit → Act → World → Prop} {t bytes : Nat} (E : El P t T n bytes) (hcell : ∀ x j, j < n → (cell x j).oneCell' = true) (hgd : o.guard = none) (s x : Operand)
    (ho : o.op = .call { callee := .builtin .append, args := #[s, x], argTypes := #[t, t] }) (base : Nat) (v : Value) (l : List α) (hs : a.eval s = v) (hown : Lst T n cell w base v l)
    (ad : Option Addr) (m c : Nat) (l2 : List α) (hm : l2.length = m) (hx : a.eval x = .slice ad m c) (hR : RowsAt n cell w ad l2)
    (h63 : l.length + m ≤ 9223372036854775807) (hbytes : (l.length + m) * bytes ≤ 140737488355328) (hbase : base ≤ w.heap.size)
    (h : ∀ v' w', Lst T n cell w' base v' (l ++ l2) → Since base w w' → wpList P ops Q rest (a.put o.dst v') w') : wpList P ops Q (o :: rest) a w := by
  subst hm
  cases ad with
  | none =>
    have h0 : l2 = [] := by
      cases l2 with
      | nil => rfl
      | cons y r => obtain ⟨b, off, h⟩ := hR.base (show 0 < (y :: r).length by simp); cases h
    subst h0
    exact wpList_push_none E hgd s x ho base v l hs hown c hx (h v w (by rw [List.append_nil]; exact hown) (Since.of_ext (Ext.refl w)))
  | some ad => exact wpList_pushL E hcell hgd s x ho base v l hs hown ad l2.length c l2 rfl hx hR h63 hbytes hbase (fun v' w' h1 h2 _ => h v' w' h1 h2)
theorem Lst.sl {α : Type} [Inhabited α] {T n base : Nat} {cell : α → Nat → Value} {w : World} {v : Value} {l : List α} (h : Lst T n cell w base v l) : ∃ a m c, v = .slice a m c := by
  obtain ⟨a, c, e, -⟩ := h.shape
  exact ⟨a, _, c, e⟩
set_option maxRecDepth 100000 in
set_option maxHeartbeats 1000000 in
theorem l00Own_lstQ (a : Option Addr) (cap : Nat) (l : List Int) (w : World) (H : IntAt w a l) (hlen : l.length ≤ 1048576) :
    Calls Try.prog 50 #[.slice a l.length cap] w (fun e w' => ∃ v, e = .returned v ∧ Lst 2 1 celI w' w.heap.size v l ∧ Ext w w') := by
  have HL : Hid (Lst 2 1 celI (w.alloc (.cells #[] 2)) w.heap.size (.slice (some ⟨w.heap.size, 0, none⟩) 0 0) ([] : List Int)) := Lst.new w _ (Nat.le_refl _)
  have hE := Lib.hid ((Ext.refl w).alloc (.cells #[] 2))
  have hb : Hid (w.heap.size ≤ (w.alloc (.cells #[] 2)).heap.size) := by show _ ≤ _; rw [size_new]; omega
  have HR := Lib.hid (H.ext hE.out)
  have C1 : Hid (([] : List Int).length + l.length ≤ 9223372036854775807) := by show _ ≤ _; simp; omega
  have C2 : Hid ((([] : List Int).length + l.length) * 8 ≤ 140737488355328) := by show _ ≤ _; simp; omega
  clear H
  go_enter Try.func50, Try.ntmps50
  go_wp2_with (at_builtin; refine wpList_pushQ elI oneI rfl _ _ rfl w.heap.size _ [] rfl HL.out a l.length cap l rfl rfl HR.out C1.out C2.out hb.out ?_; intro v' w1 HL1 hs1)
  rw [List.nil_append] at HL1
  have hX : Hid (Ext w w1) := hs1.ext hE.out (Nat.le_refl _)
  have L1 := Lib.hid HL1
  clear HL1 hs1
  go_wp2_with fail
  go_ret
  exact ⟨v', rfl, L1.out, hX.out⟩
theorem take_append_all {α : Type} (l : List α) (n : Nat) : l.take n ++ l.drop n = l := List.take_append_drop n l
theorem Objt.other {w : World} {g T n b o : Nat} {f : Nat → Value} (h : Objt w g T n f) (hb : b ≠ g) (u : Value) : Objt (w.setCell ⟨b, o, none⟩ u) g T n f :=
  ⟨h.blk.set b o u, fun j hj => by rw [cell_other _ (by omega)]; exact h.cell j hj⟩
def objC (vn vs : Value) : Nat → Value
  | 0 => vn
  | _ => vs
/-- The object of names and sums at g. -/
structure CQ (w0 w : World) (g : Nat) (vn vs : Value) (N : List ByteArray) (S : List Int) : Prop where
  ext : Ext w0 w
  low : w0.heap.size ≤ g
  obj : Objt w g 59 2 (objC vn vs)
  nam : Lst 9 1 cellS w (g + 1) vn N
  sum : Lst 2 1 celI w (g + 1) vs S
  far : ∀ b, vs.ownBlock = some b → vn.ownBlock ≠ some b
  nil : N = [] → vn = .slice none 0 0 ∧ vs = .slice none 0 0
  len : S.length = N.length
section
variable {w0 w w' w4 w8 : World} {g : Nat} {vn vs vn' vs' : Value} {N N' : List ByteArray} {S S' : List Int}
theorem CQ.grow (h : CQ w0 w g vn vs N S) (he : Ext w w') : CQ w0 w' g vn vs N S :=
  ⟨h.ext.trans he, h.low, h.obj.ext he, h.nam.ext he, h.sum.ext he, h.far, h.nil, h.len⟩
theorem CQ.inc {sb sc k : Nat} (h : CQ w0 w g vn (.slice (some ⟨sb, 0, none⟩) S.length sc) N S) (hk : k < S.length) (x : Int) : CQ w0 (w.setCell ⟨sb, k, none⟩ (.int .i64 x)) g vn (.slice (some ⟨sb, 0, none⟩) S.length sc) N (S.set k x) := by
  obtain ⟨g', cap', e, hg, hB, hR, hc, hm⟩ := h.sum.parts (by omega)
  simp only [Value.slice.injEq, Option.some.injEq, Addr.mk.injEq, and_true] at e
  obtain ⟨rfl, -, rfl⟩ := e
  have hc1 : ∀ j, j < 1 → [Value.int .i64 x][j]? = some (celI x j) := fun j hj => by
    have : j = 0 := by omega
    subst this; rfl
  have hp := Lst.put (n := 1) hg hB hR hc hm hk x [.int .i64 x] rfl hc1
  rw [Nat.mul_one, List.length_set] at hp
  refine ⟨h.ext.setCell (p := ⟨sb, k, none⟩) (by show w0.heap.size ≤ sb; have := h.low; omega) _, h.low, h.obj.other (by omega) _, h.nam.setN (fun b e e2 => h.far sb rfl (by rw [e, e2])) _, hp, h.far, fun e => ?_, by rw [List.length_set, h.len]⟩
  have := h.len
  rw [e] at this
  simp only [List.length_nil] at this
  omega
theorem CQ.both (h : CQ w0 w g vn vs N S) (he : Ext w w4) (hL : Lst 9 1 cellS w4 w.heap.size vn' N') (he2 : Ext (w4.setCell ⟨g, 0, none⟩ vn') w8) (hL2 : Lst 2 1 celI w8 (w4.setCell ⟨g, 0, none⟩ vn').heap.size vs' S') (h0 : N' ≠ []) (hl : S'.length = N'.length) : CQ w0 (w8.setCell ⟨g, 1, none⟩ vs') g vn' vs' N' S' := by
  have hgl := h.obj.blk.lt
  have hsz : (w4.setCell ⟨g, 0, none⟩ vn').heap.size = w4.heap.size := by simp
  have h4 := he.size
  have o1 : Objt (w4.setCell ⟨g, 0, none⟩ vn') g 59 2 (objC vn' vs) := (h.obj.ext he).set 0 _ (by decide) rfl (fun j hj hne => by
    have : j = 1 := by omega
    subst this; rfl)
  refine ⟨(((h.ext.trans he).setCell (p := ⟨g, 0, none⟩) h.low _).trans he2).setCell (p := ⟨g, 1, none⟩) h.low _, h.low, (o1.ext he2).set 1 _ (by decide) rfl (fun j hj hne => by
    have : j = 0 := by omega
    subst this; rfl), ?_, ?_, fun b e e2 => ?_, fun e => absurd e h0, hl⟩
  · exact (((hL.low (show g + 1 ≤ w.heap.size by omega)).set (Nat.lt_succ_self g) _).ext he2).set (Nat.lt_succ_self g) _
  · exact (hL2.low (show g + 1 ≤ _ by rw [hsz]; omega)).set (Nat.lt_succ_self g) _
  · have h1 := hL2.ge b e
    have h2 := hL.lt b e2
    rw [hsz] at h1
    omega
end
/-- What an addition leaves. -/
def AddQ (w0 : World) (g : Nat) (kv : List (ByteArray × Int)) (e : Ending) (w' : World) : Prop := e = .returned (.tuple #[]) ∧ ∃ vn' vs', CQ w0 w' g vn' vs' (namesF kv) (sumsF kv)
set_option maxRecDepth 100000 in
set_option maxHeartbeats 16000000 in
theorem addQ_any (w0 W : World) (g : Nat) (vn vs : Value) (kv : List (ByteArray × Int)) (hkl : kv.length ≤ 48) (hkb : ∀ p ∈ kv, 0 ≤ p.2 ∧ p.2 ≤ 20) (n : ByteArray) (v : Int) (hv0 : 0 ≤ v) (hv1 : v ≤ 20) (hC : CQ w0 W g vn vs (namesF kv) (sumsF kv)) :
    Calls Try.prog 30 #[.pointer (some ⟨g, 0, none⟩), .string n, .int .i64 v] W (AddQ w0 g (kv ++ [(n, v)])) := by
  have C := Lib.hid hC
  have hNl := namesF_len kv
  have hhit := Lib.hid fun k (hk : k < (namesF kv).length) => add_hit hk v
  have hmiss := Lib.hid fun k hlo hk hhi => add_miss (kv := kv) (n := n) (k := k) hlo hk hhi v
  have hbd := Lib.hid fun k (hk : k < (sumsF kv).length) => (show 0 ≤ nth (sumsF kv) k ∧ nth (sumsF kv) k ≤ 20 * kv.length from by
    have hk2 : k < (namesF kv).length := by rw [← sumsF_len]; exact hk
    rw [nth_eq _ _ hk]; simp only [sumsF, List.getElem_map]; exact totF_bd (by omega) hkb _)
  unfold AddQ
  generalize hNe : namesF kv = N at *
  generalize hSe : sumsF kv = S at *
  have hSl : S.length = N.length := hC.len
  clear hNe hSe hkb hC
  obtain ⟨na, nc, rfl, hnc, -, hRn, hOn⟩ := C.out.nam.shape
  obtain ⟨sa, sc, rfl, hsc, -, hRs, -⟩ := C.out.sum.shape
  have HRn := Lib.hid hRn
  have HRs := Lib.hid hRs
  clear hRn hRs hOn
  have hgl := C.out.obj.blk.lt
  have c0 : W.cell? ⟨g, 0, none⟩ = some (.slice na N.length nc) := C.out.obj.cell 0 (by decide)
  have c1 : W.cell? ⟨g, 1, none⟩ = some (.slice sa S.length sc) := C.out.obj.cell 1 (by decide)
  go_enter Try.func30, Try.ntmps30
  go_wp2_with fail
  go_loop [6] (fun i => ∃ k : Nat, k ≤ N.length ∧ i = .int .i64 k ∧ Hid (∀ j, j < k → sLt (nth N j) n = true)) (fun i => N.length - (intOf i).toNat)
  case atStart => exact ⟨0, Nat.zero_le _, rfl, upto_zero⟩
  case round =>
    obtain ⟨k, hk, rfl, hall⟩ := hrel
    by_cases hlt : k < N.length
    · obtain ⟨nb, no, rfl⟩ := HRn.out.base hlt
      obtain ⟨hb, d0⟩ := StrAt.at HRn.out k hlt
      cases h1 : sLt (nth N k) n
      · by_cases h2 : nth N k = n
        · have h3 : sEq (nth N k) n = true := sEq_iff.2 h2
          have hks : k < S.length := by omega
          obtain ⟨hh1, hh2⟩ := hhit.out k hlt
          rw [h2] at hh1 hh2
          obtain ⟨hb1, hb2⟩ := hbd.out k hks
          obtain ⟨sb, so, rfl⟩ := HRs.out.base hks
          obtain ⟨hsb, f0⟩ := IntAt.at HRs.out k hks
          obtain ⟨sb', cap', e, -, hB, -, hc', -⟩ := C.out.sum.parts (by omega)
          simp only [Value.slice.injEq, Option.some.injEq, Addr.mk.injEq, and_true] at e
          obtain ⟨⟨rfl, rfl⟩, -, rfl⟩ := e
          have fz := hB.frozen k
          have Ck := Lib.hid (C.out.inc hks (nth S k + v))
          rw [Nat.zero_add] at f0
          have hh1h := Lib.hid hh1
          have hh2h := Lib.hid hh2
          clear hhit hmiss hh1 hh2 h2 hB hbd
          generalize nth N k = nk at *
          generalize nth S k = sk at *
          go_wp2_with fail
          (try simp only [Exit.inBlock, Exit.then])
          first | refine bodyPost_ret (results_none rfl _ _ _) rfl ?_ | refine bodyPost_end (results_none rfl _ _ _) rfl ?_
          exact ⟨rfl, _, _, by rw [hh1h.out, hh2h.out]; exact Ck.out⟩
        · have h3 : sEq (nth N k) n = false := sEq_not.2 h2
          have hm := Lib.hid (hmiss.out k hall.out hk (fun _ => by
            cases h4 : sLt n (nth N k)
            · exact absurd (sLt_total h1 h4) h2
            · rfl))
          clear hhit hmiss h2 hbd
          have hx1 := Lib.hid ((Ext.refl W).alloc (.cells #[] 9))
          have L1 : Hid (Lst 9 1 cellS (W.alloc (.cells #[] 9)) W.heap.size (.slice (some ⟨W.heap.size, 0, none⟩) 0 0) ([] : List ByteArray)) := Lst.new W _ (Nat.le_refl _)
          have R1 := Lib.hid (RowsAt.ext HRn.out hx1.out)
          have hz1 : Hid (W.heap.size ≤ (W.alloc (.cells #[] 9)).heap.size) := by show _ ≤ _; rw [size_new]; omega
          have htk : Hid ((N.take k).length = k) := by show _ = _; rw [List.length_take]; omega
          have htd : Hid ((N.drop k).length = N.length - k) := by show _ = _; rw [List.length_drop]
          have hsk : Hid ((S.take k).length = k) := by show _ = _; rw [List.length_take]; omega
          have hsd : Hid ((S.drop k).length = S.length - k) := by show _ = _; rw [List.length_drop]
          try dsimp only
          repeat (first | ((with_reducible show wpList _ _ _ (Oper.mk _ (Op.slice _ _ _ _ _) _ _ _ _ :: _) _ _); refine wpList_cutLo elStrs rfl _ _ rfl _ N.length nc N k (by rfl) (by rfl) R1.out (by omega) hnc ?_; intro ad1 q1 hR1; refine Hid.out ?_) | go_values | go_skip | go_guarded | go_step | go_upon | go_back)
          refine Lib.hid ?_
          have R1k := Lib.hid hR1
          clear hR1 R1
          try dsimp only
          repeat (first | (at_builtin; refine Hid.out ?_) | go_values | go_skip | go_guarded | go_step | go_upon | go_back)
          refine Lib.hid ?_
          refine wpList_pushQ elStrs oneStr rfl _ _ rfl W.heap.size _ [] (by rfl) L1.out ad1 k q1 (N.take k) htk.out (by rfl) R1k.out (by show 0 + k ≤ _; omega) (by show (0 + k) * 16 ≤ _; omega) hz1.out ?_
          intro v2 w2 hL2 hs2
          rw [List.nil_append] at hL2
          have E2 := Lib.hid (hs2 W hx1.out (Nat.le_refl _))
          have hx2 := Lib.hid (E2.out.alloc (.cells #[.string n] 9))
          have L2 := Lib.hid (hL2.ext ((Ext.refl w2).alloc (.cells #[.string n] 9)))
          have HR2 : Hid (StrAt (w2.alloc (.cells #[.string n] 9)) (some ⟨w2.heap.size, 0, none⟩) [n]) := rows_str _ _ rfl
          have hz2 : Hid (W.heap.size ≤ (w2.alloc (.cells #[.string n] 9)).heap.size) := hx2.out.size
          clear hL2 hs2 L1 R1k hz1 hx1 E2
          try dsimp only
          repeat (first | (at_builtin; refine Hid.out ?_) | go_values | go_skip | go_guarded | go_step | go_upon | go_back)
          refine Lib.hid ?_
          refine wpList_pushQ elStrs oneStr rfl _ _ rfl W.heap.size _ (N.take k) (by rfl) L2.out _ 1 1 [n] rfl (by rfl) HR2.out (by rw [htk.out]; omega) (by rw [htk.out]; omega) hz2.out ?_
          intro v3 w3 hL3 hs3
          have E3 := Lib.hid (hs3 W hx2.out (Nat.le_refl _))
          have L3 := Lib.hid hL3
          have c03 := E3.out.cell c0
          have R3 := Lib.hid (RowsAt.ext HRn.out E3.out)
          have hz3 := E3.out.size
          have hgl3 : g < w3.heap.size := by omega
          have hl3 : Hid ((N.take k ++ [n]).length = k + 1) := by show _ = _; rw [List.length_append, htk.out]; rfl
          clear hL3 hs3 L2 HR2 hz2 hx2
          try dsimp only
          repeat (first | ((with_reducible show wpList _ _ _ (Oper.mk _ (Op.slice _ _ _ _ _) _ _ _ _ :: _) _ _); refine wpList_cutHi elStrs rfl _ _ rfl _ N.length nc N k (by rfl) (by rfl) R3.out rfl (by omega) hnc ?_; intro ad3 q3 hR3; refine Hid.out ?_) | go_values | go_skip | go_guarded | go_step | go_upon | go_back)
          refine Lib.hid ?_
          have R3k := Lib.hid hR3
          clear hR3 R3
          try dsimp only
          repeat (first | (at_builtin; refine Hid.out ?_) | go_values | go_skip | go_guarded | go_step | go_upon | go_back)
          refine Lib.hid ?_
          refine wpList_pushQ elStrs oneStr rfl _ _ rfl W.heap.size _ (N.take k ++ [n]) (by rfl) L3.out ad3 (N.length - k) q3 (N.drop k) htd.out (by rfl) R3k.out (by rw [hl3.out]; omega) (by rw [hl3.out]; omega) hz3 ?_
          intro v4 w4 hL4 hs4
          obtain ⟨a4, m4, k4, rfl⟩ := hL4.sl
          have E4 := Lib.hid (hs4 W E3.out (Nat.le_refl _))
          have L4 := Lib.hid hL4
          clear hL4 hs4 L3 R3k c03 hz3 hgl3 E3 hl3
          have hO4 : Hid (Objt w4 g 59 2 (objC (.slice _ N.length nc) (.slice sa S.length sc))) := C.out.obj.ext E4.out
          have hb4 := hO4.out.blk
          have hgl4 := hb4.lt
          have fz4 := hb4.frozen 0
          have c04 : w4.cell? ⟨g, 0, none⟩ = some _ := hO4.out.cell 0 (by decide)
          have hO5 : Hid (Objt (w4.setCell ⟨g, 0, none⟩ (.slice a4 m4 k4)) g 59 2 (objC (.slice a4 m4 k4) (.slice sa S.length sc))) := hO4.out.set 0 _ (by decide) rfl (fun j hj hne => by
            have : j = 1 := by omega
            subst this; rfl)
          have c15 : (w4.setCell ⟨g, 0, none⟩ (.slice a4 m4 k4)).cell? ⟨g, 1, none⟩ = some (.slice sa S.length sc) := hO5.out.cell 1 (by decide)
          have R5 : Hid (RowsAt 1 celI (w4.setCell ⟨g, 0, none⟩ (.slice a4 m4 k4)) sa S) := by
            obtain ⟨sa', sc', e, -, -, hR, hO⟩ := C.out.sum.shape
            simp only [Value.slice.injEq] at e
            obtain ⟨rfl, -, rfl⟩ := e
            intro q hq
            obtain ⟨b, off, e, hb, hc⟩ := RowsAt.ext hR E4.out q hq
            have := (hO.block (show ownA S.length sa = some ⟨b, off, none⟩ by rw [ownA_pos (by omega), e])).1
            exact ⟨b, off, e, by simpa using hb, fun j hj => by rw [cell_other _ (by omega)]; exact hc j hj⟩
          clear hO4 hb4 c0 c1
          have HOw := l00Own_lstQ _ sc (S.take k) (w4.setCell ⟨g, 0, none⟩ (.slice a4 m4 k4)) (R5.out.take k) (by rw [hsk.out]; omega)
          rw [hsk.out] at HOw
          have HOw := Lib.hid HOw
          have hb5 := hO5.out.blk.lt
          have hC := Lib.hid fun (w8 : World) (vs' : Value) (S' : List Int) he2 hL2 hl => CQ.both (w8 := w8) (vs' := vs') (S' := S') C.out E4.out L4.out he2 hL2 (by simp) hl
          go_wp2_with fail
          generalize hW5 : w4.setCell ⟨g, 0, none⟩ (.slice a4 m4 k4) = W5 at *
          clear hW5 E4 L4 C hgl4 fz4 c04 hgl
          refine HOw.out.mono ?_
          rintro e w6 ⟨v6, rfl, hL6, hE6⟩
          have E6 := Lib.hid (hE6.alloc (.cells #[.int .i64 v] 2))
          have L6 := Lib.hid (hL6.ext ((Ext.refl w6).alloc (.cells #[.int .i64 v] 2)))
          have HR6 : Hid (IntAt (w6.alloc (.cells #[.int .i64 v] 2)) (some ⟨w6.heap.size, 0, none⟩) [v]) := rows_int _ _ rfl
          have hz6 : Hid (W5.heap.size ≤ (w6.alloc (.cells #[.int .i64 v] 2)).heap.size) := E6.out.size
          clear hL6 hE6 HOw
          try dsimp only
          repeat (first | (at_builtin; refine Hid.out ?_) | go_values | go_skip | go_guarded | go_step | go_upon | go_back)
          refine Lib.hid ?_
          refine wpList_pushQ elI oneI rfl _ _ rfl W5.heap.size _ (S.take k) (by rfl) L6.out _ 1 1 [v] rfl (by rfl) HR6.out (by rw [hsk.out]; omega) (by rw [hsk.out]; omega) hz6.out ?_
          intro v7 w7 hL7 hs7
          have E7 := Lib.hid (hs7 W5 E6.out (Nat.le_refl _))
          have L7 := Lib.hid hL7
          have c17 := E7.out.cell c15
          have R7 := Lib.hid (RowsAt.ext R5.out E7.out)
          have hz7 := E7.out.size
          have hgl7 : g < w7.heap.size := by omega
          have hl7 : Hid ((S.take k ++ [v]).length = k + 1) := by show _ = _; rw [List.length_append, hsk.out]; rfl
          clear hL7 hs7 L6 HR6 hz6 E6 c15 R5
          try dsimp only
          repeat (first | ((with_reducible show wpList _ _ _ (Oper.mk _ (Op.slice _ _ _ _ _) _ _ _ _ :: _) _ _); refine wpList_cutHi elI rfl _ _ rfl _ N.length sc S k (by rfl) (by rfl) R7.out hSl (by omega) (by omega) ?_; intro ad7 q7 hR7; refine Hid.out ?_) | go_values | go_skip | go_guarded | go_step | go_upon | go_back)
          refine Lib.hid ?_
          have R7k := Lib.hid hR7
          clear hR7 R7
          try dsimp only
          repeat (first | (at_builtin; refine Hid.out ?_) | go_values | go_skip | go_guarded | go_step | go_upon | go_back)
          refine Lib.hid ?_
          refine wpList_pushQ elI oneI rfl _ _ rfl W5.heap.size _ (S.take k ++ [v]) (by rfl) L7.out ad7 (N.length - k) q7 (S.drop k) (by rw [hsd.out, hSl]) (by rfl) R7k.out (by rw [hl7.out]; omega) (by rw [hl7.out]; omega) hz7 ?_
          intro v8 w8 hL8 hs8
          obtain ⟨a8, m8, k8, rfl⟩ := hL8.sl
          have hE8 := hs8 W5 E7.out (Nat.le_refl _)
          have hO8 := hO5.out.ext hE8
          have hgl8 := hO8.blk.lt
          have fz8 := hO8.blk.frozen 1
          have c18 : w8.cell? ⟨g, 1, none⟩ = some (.slice sa S.length sc) := hO8.cell 1 (by decide)
          have hfin := Lib.hid (hC.out w8 (.slice a8 m8 k8) _ hE8 hL8 (by rw [List.length_append, List.length_append, List.length_append, List.length_append, htk.out, hsk.out, htd.out, hsd.out, hSl]; rfl))
          clear hL8 hs8 hE8 hO8 hC L7 R7k c17 hz7 hgl7 hl7 E7
          go_wp2_with fail
          (try simp only [Exit.inBlock, Exit.then])
          first | refine bodyPost_ret (results_none rfl _ _ _) rfl ?_ | refine bodyPost_end (results_none rfl _ _ _) rfl ?_
          exact ⟨rfl, _, _, by rw [hm.out.1, hm.out.2]; exact hfin.out⟩
      · have hnx : Hid (∀ j, j < k + 1 → sLt (nth N j) n = true) := upto_succ hall.out h1
        go_wp2_with fail
        go_round
        case rel => exact ⟨k + 1, by omega, by go_num, hnx.out⟩
        case measure => simp [intOf]; omega
    · have hm := Lib.hid (hmiss.out k hall.out hk (fun h => absurd h hlt))
      clear hhit hmiss hbd
      have hx1 := Lib.hid ((Ext.refl W).alloc (.cells #[] 9))
      have L1 : Hid (Lst 9 1 cellS (W.alloc (.cells #[] 9)) W.heap.size (.slice (some ⟨W.heap.size, 0, none⟩) 0 0) ([] : List ByteArray)) := Lst.new W _ (Nat.le_refl _)
      have R1 := Lib.hid (RowsAt.ext HRn.out hx1.out)
      have hz1 : Hid (W.heap.size ≤ (W.alloc (.cells #[] 9)).heap.size) := by show _ ≤ _; rw [size_new]; omega
      have htk : Hid ((N.take k).length = k) := by show _ = _; rw [List.length_take]; omega
      have htd : Hid ((N.drop k).length = N.length - k) := by show _ = _; rw [List.length_drop]
      have hsk : Hid ((S.take k).length = k) := by show _ = _; rw [List.length_take]; omega
      have hsd : Hid ((S.drop k).length = S.length - k) := by show _ = _; rw [List.length_drop]
      try dsimp only
      repeat (first | ((with_reducible show wpList _ _ _ (Oper.mk _ (Op.slice _ _ _ _ _) _ _ _ _ :: _) _ _); refine wpList_cutLo elStrs rfl _ _ rfl _ N.length nc N k (by rfl) (by rfl) R1.out (by omega) hnc ?_; intro ad1 q1 hR1; refine Hid.out ?_) | go_values | go_skip | go_guarded | go_step | go_upon | go_back)
      refine Lib.hid ?_
      have R1k := Lib.hid hR1
      clear hR1 R1
      try dsimp only
      repeat (first | (at_builtin; refine Hid.out ?_) | go_values | go_skip | go_guarded | go_step | go_upon | go_back)
      refine Lib.hid ?_
      refine wpList_pushQ elStrs oneStr rfl _ _ rfl W.heap.size _ [] (by rfl) L1.out ad1 k q1 (N.take k) htk.out (by rfl) R1k.out (by show 0 + k ≤ _; omega) (by show (0 + k) * 16 ≤ _; omega) hz1.out ?_
      intro v2 w2 hL2 hs2
      rw [List.nil_append] at hL2
      have E2 := Lib.hid (hs2 W hx1.out (Nat.le_refl _))
      have hx2 := Lib.hid (E2.out.alloc (.cells #[.string n] 9))
      have L2 := Lib.hid (hL2.ext ((Ext.refl w2).alloc (.cells #[.string n] 9)))
      have HR2 : Hid (StrAt (w2.alloc (.cells #[.string n] 9)) (some ⟨w2.heap.size, 0, none⟩) [n]) := rows_str _ _ rfl
      have hz2 : Hid (W.heap.size ≤ (w2.alloc (.cells #[.string n] 9)).heap.size) := hx2.out.size
      clear hL2 hs2 L1 R1k hz1 hx1 E2
      try dsimp only
      repeat (first | (at_builtin; refine Hid.out ?_) | go_values | go_skip | go_guarded | go_step | go_upon | go_back)
      refine Lib.hid ?_
      refine wpList_pushQ elStrs oneStr rfl _ _ rfl W.heap.size _ (N.take k) (by rfl) L2.out _ 1 1 [n] rfl (by rfl) HR2.out (by rw [htk.out]; omega) (by rw [htk.out]; omega) hz2.out ?_
      intro v3 w3 hL3 hs3
      have E3 := Lib.hid (hs3 W hx2.out (Nat.le_refl _))
      have L3 := Lib.hid hL3
      have c03 := E3.out.cell c0
      have R3 := Lib.hid (RowsAt.ext HRn.out E3.out)
      have hz3 := E3.out.size
      have hgl3 : g < w3.heap.size := by omega
      have hl3 : Hid ((N.take k ++ [n]).length = k + 1) := by show _ = _; rw [List.length_append, htk.out]; rfl
      clear hL3 hs3 L2 HR2 hz2 hx2
      try dsimp only
      repeat (first | ((with_reducible show wpList _ _ _ (Oper.mk _ (Op.slice _ _ _ _ _) _ _ _ _ :: _) _ _); refine wpList_cutHi elStrs rfl _ _ rfl _ N.length nc N k (by rfl) (by rfl) R3.out rfl (by omega) hnc ?_; intro ad3 q3 hR3; refine Hid.out ?_) | go_values | go_skip | go_guarded | go_step | go_upon | go_back)
      refine Lib.hid ?_
      have R3k := Lib.hid hR3
      clear hR3 R3
      try dsimp only
      repeat (first | (at_builtin; refine Hid.out ?_) | go_values | go_skip | go_guarded | go_step | go_upon | go_back)
      refine Lib.hid ?_
      refine wpList_pushQ elStrs oneStr rfl _ _ rfl W.heap.size _ (N.take k ++ [n]) (by rfl) L3.out ad3 (N.length - k) q3 (N.drop k) htd.out (by rfl) R3k.out (by rw [hl3.out]; omega) (by rw [hl3.out]; omega) hz3 ?_
      intro v4 w4 hL4 hs4
      obtain ⟨a4, m4, k4, rfl⟩ := hL4.sl
      have E4 := Lib.hid (hs4 W E3.out (Nat.le_refl _))
      have L4 := Lib.hid hL4
      clear hL4 hs4 L3 R3k c03 hz3 hgl3 E3 hl3
      have hO4 : Hid (Objt w4 g 59 2 (objC (.slice _ N.length nc) (.slice sa S.length sc))) := C.out.obj.ext E4.out
      have hb4 := hO4.out.blk
      have hgl4 := hb4.lt
      have fz4 := hb4.frozen 0
      have c04 : w4.cell? ⟨g, 0, none⟩ = some _ := hO4.out.cell 0 (by decide)
      have hO5 : Hid (Objt (w4.setCell ⟨g, 0, none⟩ (.slice a4 m4 k4)) g 59 2 (objC (.slice a4 m4 k4) (.slice sa S.length sc))) := hO4.out.set 0 _ (by decide) rfl (fun j hj hne => by
        have : j = 1 := by omega
        subst this; rfl)
      have c15 : (w4.setCell ⟨g, 0, none⟩ (.slice a4 m4 k4)).cell? ⟨g, 1, none⟩ = some (.slice sa S.length sc) := hO5.out.cell 1 (by decide)
      have R5 : Hid (RowsAt 1 celI (w4.setCell ⟨g, 0, none⟩ (.slice a4 m4 k4)) sa S) := by
        obtain ⟨sa', sc', e, -, -, hR, hO⟩ := C.out.sum.shape
        simp only [Value.slice.injEq] at e
        obtain ⟨rfl, -, rfl⟩ := e
        intro q hq
        obtain ⟨b, off, e, hb, hc⟩ := RowsAt.ext hR E4.out q hq
        have := (hO.block (show ownA S.length sa = some ⟨b, off, none⟩ by rw [ownA_pos (by omega), e])).1
        exact ⟨b, off, e, by simpa using hb, fun j hj => by rw [cell_other _ (by omega)]; exact hc j hj⟩
      clear hO4 hb4 c0 c1
      have HOw := l00Own_lstQ _ sc (S.take k) (w4.setCell ⟨g, 0, none⟩ (.slice a4 m4 k4)) (R5.out.take k) (by rw [hsk.out]; omega)
      rw [hsk.out] at HOw
      have HOw := Lib.hid HOw
      have hb5 := hO5.out.blk.lt
      have hC := Lib.hid fun (w8 : World) (vs' : Value) (S' : List Int) he2 hL2 hl => CQ.both (w8 := w8) (vs' := vs') (S' := S') C.out E4.out L4.out he2 hL2 (by simp) hl
      go_wp2_with fail
      generalize hW5 : w4.setCell ⟨g, 0, none⟩ (.slice a4 m4 k4) = W5 at *
      clear hW5 E4 L4 C hgl4 fz4 c04 hgl
      refine HOw.out.mono ?_
      rintro e w6 ⟨v6, rfl, hL6, hE6⟩
      have E6 := Lib.hid (hE6.alloc (.cells #[.int .i64 v] 2))
      have L6 := Lib.hid (hL6.ext ((Ext.refl w6).alloc (.cells #[.int .i64 v] 2)))
      have HR6 : Hid (IntAt (w6.alloc (.cells #[.int .i64 v] 2)) (some ⟨w6.heap.size, 0, none⟩) [v]) := rows_int _ _ rfl
      have hz6 : Hid (W5.heap.size ≤ (w6.alloc (.cells #[.int .i64 v] 2)).heap.size) := E6.out.size
      clear hL6 hE6 HOw
      try dsimp only
      repeat (first | (at_builtin; refine Hid.out ?_) | go_values | go_skip | go_guarded | go_step | go_upon | go_back)
      refine Lib.hid ?_
      refine wpList_pushQ elI oneI rfl _ _ rfl W5.heap.size _ (S.take k) (by rfl) L6.out _ 1 1 [v] rfl (by rfl) HR6.out (by rw [hsk.out]; omega) (by rw [hsk.out]; omega) hz6.out ?_
      intro v7 w7 hL7 hs7
      have E7 := Lib.hid (hs7 W5 E6.out (Nat.le_refl _))
      have L7 := Lib.hid hL7
      have c17 := E7.out.cell c15
      have R7 := Lib.hid (RowsAt.ext R5.out E7.out)
      have hz7 := E7.out.size
      have hgl7 : g < w7.heap.size := by omega
      have hl7 : Hid ((S.take k ++ [v]).length = k + 1) := by show _ = _; rw [List.length_append, hsk.out]; rfl
      clear hL7 hs7 L6 HR6 hz6 E6 c15 R5
      try dsimp only
      repeat (first | ((with_reducible show wpList _ _ _ (Oper.mk _ (Op.slice _ _ _ _ _) _ _ _ _ :: _) _ _); refine wpList_cutHi elI rfl _ _ rfl _ N.length sc S k (by rfl) (by rfl) R7.out hSl (by omega) (by omega) ?_; intro ad7 q7 hR7; refine Hid.out ?_) | go_values | go_skip | go_guarded | go_step | go_upon | go_back)
      refine Lib.hid ?_
      have R7k := Lib.hid hR7
      clear hR7 R7
      try dsimp only
      repeat (first | (at_builtin; refine Hid.out ?_) | go_values | go_skip | go_guarded | go_step | go_upon | go_back)
      refine Lib.hid ?_
      refine wpList_pushQ elI oneI rfl _ _ rfl W5.heap.size _ (S.take k ++ [v]) (by rfl) L7.out ad7 (N.length - k) q7 (S.drop k) (by rw [hsd.out, hSl]) (by rfl) R7k.out (by rw [hl7.out]; omega) (by rw [hl7.out]; omega) hz7 ?_
      intro v8 w8 hL8 hs8
      obtain ⟨a8, m8, k8, rfl⟩ := hL8.sl
      have hE8 := hs8 W5 E7.out (Nat.le_refl _)
      have hO8 := hO5.out.ext hE8
      have hgl8 := hO8.blk.lt
      have fz8 := hO8.blk.frozen 1
      have c18 : w8.cell? ⟨g, 1, none⟩ = some (.slice sa S.length sc) := hO8.cell 1 (by decide)
      have hfin := Lib.hid (hC.out w8 (.slice a8 m8 k8) _ hE8 hL8 (by rw [List.length_append, List.length_append, List.length_append, List.length_append, htk.out, hsk.out, htd.out, hsd.out, hSl]; rfl))
      clear hL8 hs8 hE8 hO8 hC L7 R7k c17 hz7 hgl7 hl7 E7
      go_wp2_with fail
      (try simp only [Exit.inBlock, Exit.then])
      first | refine bodyPost_ret (results_none rfl _ _ _) rfl ?_ | refine bodyPost_end (results_none rfl _ _ _) rfl ?_
      exact ⟨rfl, _, _, by rw [hm.out.1, hm.out.2]; exact hfin.out⟩
end Go.Proofs.Ytndkcgiadpdcjaa
