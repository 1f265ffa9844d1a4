/- Chapter 22: the best plan, the first plan with all shots, the fewest crews. What the program's and the reference's functions hand back. -/
import Derived.Test.YtpmbaemfpkcjnaaVisit
import Derived.Test.YtpmbaemfpkcjnaaRun
namespace Go.Proofs.Ytpmbaemfpkcjnaa
open Go.RowKit
def visI (l : List Shot) (c : Nat) (b : Int) (all : Bool) : St := visitV l.length (okS l c) (updI l all) l.length [] ⟨[], 0, b, false⟩
def visS (l : List Shot) (c : Nat) (b : Int) (all : Bool) : St := visitV l.length (okS l c) (updS l all) l.length [] ⟨[], -1, b, false⟩
theorem vis_best (l : List Shot) (c : Nat) (b : Int) : visI l c b false = visS l c b false := by
  have h := visitV_sim (n := l.length) (ok := okS l c) (u1 := updI l false) (u2 := updS l false) (R := fun s t => s = t ∧ s.found = false) (fun s t h => by rw [h.1]; exact ⟨rfl, rfl⟩) (fun s t x h h2 => by rw [h.1]; exact ⟨rfl, by rw [← h.1]; exact h2⟩)
    (fun o s t h h2 => by
      obtain ⟨rfl, -⟩ := h
      by_cases hg : s.most < gainS l o
      · rw [updI_ft (by rfl) hg, updS_t (by rw [decide_eq_true hg]; rfl), h2]; exact ⟨rfl, rfl⟩
      · rw [updI_ff (by rfl) hg, updS_f (by rw [decide_eq_false hg]; rfl)]; exact ⟨rfl, h2⟩) l.length (ord := []) (s := ⟨[], 0, b, false⟩) (t := ⟨[], -1, b, false⟩) (by
      rw [updI_ff (by rfl) (by rw [gainS_nil]; show ¬ ((0 : Int) < 0); decide), updS_t (by rw [gainS_nil]; rfl)]; exact ⟨rfl, rfl⟩)
  exact h.1
theorem vis_all (l : List Shot) (c : Nat) (b : Int) : (visI l c b true).left = (visS l c b true).left ∧ (visI l c b true).found = (visS l c b true).found ∧ ((visI l c b true).found = true → (visI l c b true).best = (visS l c b true).best) := by
  have hu : ∀ (o : List Int) (s t : St), (s.left = t.left ∧ s.found = t.found ∧ (s.found = true → s.best = t.best)) → s.found = false → ((updI l true o s).left = (updS l true o t).left ∧ (updI l true o s).found = (updS l true o t).found ∧ ((updI l true o s).found = true → (updI l true o s).best = (updS l true o t).best)) := by
    intro o s t h h2
    cases ho : (true && o.length == l.length)
    · have h9 : (o.length == l.length) = false := by simpa using ho
      rw [updS_f (by rw [h9]; rfl)]
      by_cases hg : s.most < gainS l o
      · rw [updI_ft ho hg]; exact ⟨h.1, h.2.1, fun h3 => by rw [h2] at h3; cases h3⟩
      · rw [updI_ff ho hg]; exact h
    · have h9 : (o.length == l.length) = true := by simpa using ho
      rw [updS_t (by rw [h9]; rfl)]
      by_cases hg : s.most < gainS l o
      · rw [updI_tt ho hg]; exact ⟨h.1, rfl, fun _ => rfl⟩
      · rw [updI_tf ho hg]; exact ⟨h.1, rfl, fun _ => rfl⟩
  exact visitV_sim (n := l.length) (ok := okS l c) (u1 := updI l true) (u2 := updS l true) (R := fun s t => s.left = t.left ∧ s.found = t.found ∧ (s.found = true → s.best = t.best)) (fun s t h => ⟨h.1, h.2.1⟩) (fun s t x h h2 => ⟨rfl, h.2.1, h.2.2⟩) hu l.length (hu [] ⟨[], 0, b, false⟩ ⟨[], -1, b, false⟩ ⟨rfl, rfl, fun h => by cases h⟩ rfl)
theorem vis_len (l : List Shot) (c : Nat) (b : Int) (all : Bool) : (visI l c b all).best.length ≤ l.length :=
  visitV_inv (P := fun s => s.best.length ≤ l.length) (fun s x h => h) (fun o s ho h => by
    unfold updI
    split
    · exact ho
    · split
      · exact ho
      · exact h) l.length (ord := []) (by simp) (Nat.zero_le _)
theorem ShotsOk.nil {l : List Shot} (h : ∀ k, k < l.length → shotB (nth l k) = true) : ShotsOk l [] := ⟨h, fun _ hk => absurd hk (Nat.not_lt_zero _)⟩
def allC (l : List Shot) (c : Nat) (b : Int) : Int := if (visI l c b true).found = true then 0 else if (visI l c b true).left < 0 then 5 else 3
def allV (l : List Shot) (c : Nat) (b : Int) : List Int := if (visI l c b true).found = true then (visI l c b true).best else []
theorem allC_t {l : List Shot} {c : Nat} {b : Int} (h : (visI l c b true).found = true) : allC l c b = 0 ∧ allV l c b = (visI l c b true).best := by unfold allC allV; rw [if_pos h, if_pos h]; exact ⟨rfl, rfl⟩
theorem allC_5 {l : List Shot} {c : Nat} {b : Int} (h : (visI l c b true).found = false) (h2 : (visI l c b true).left < 0) : allC l c b = 5 ∧ allV l c b = [] := by unfold allC allV; rw [h, if_neg (by decide), if_pos h2, if_neg (by decide)]; exact ⟨rfl, rfl⟩
theorem allC_3 {l : List Shot} {c : Nat} {b : Int} (h : (visI l c b true).found = false) (h2 : ¬ (visI l c b true).left < 0) : allC l c b = 3 ∧ allV l c b = [] := by unfold allC allV; rw [h, if_neg (by decide), if_neg h2, if_neg (by decide)]; exact ⟨rfl, rfl⟩
theorem visit_new (a : Option Addr) (cap : Nat) (l : List Shot) (c : Nat) (b : Int) (all : Bool) (w : World) (H : ShotAt w a l) (hS : ∀ k, k < l.length → shotB (nth l k) = true) (hn : l.length ≤ 8) (hcap : l.length ≤ cap) (hc0 : 0 < c) (hc1 : c ≤ 3) (hb0 : 0 ≤ b) (hb1 : b ≤ 20000) :
    Calls Try.prog 28 #[.pointer (some ⟨w.heap.size, 0, none⟩)] (w.alloc (.cells #[.slice a l.length cap, .int .i64 (c : Int), .int .i64 b, .bool all, .slice none 0 0, .slice none 0 0, .int .i64 0, .bool false] 62)) fun e w' =>
      e = .returned (.tuple #[]) ∧ ∃ av cv ab cb, VI w w' a l.length cap c all w.heap.size (visI l c b all) [] av cv ab cb := by
  refine visit_any l a cap c all w H hn hcap hc0 hc1 w.heap.size l.length [] (ShotsOk.nil hS) (by simp) (lacks_nil _) ⟨[], 0, b, false⟩ _ none 0 none 0 ⟨⟨(Ext.refl w).alloc _, Nat.le_refl _, ?_, Lst.nil _ _, .inl rfl, RowsAt.nil, fun _ _ _ e => by cases e⟩, Nat.le_refl _, Nat.le_refl _, by show -1 ≤ b; omega, hb1⟩ rfl hb0
  exact Objt.new w #[.slice a l.length cap, .int .i64 (c : Int), .int .i64 b, .bool all, .slice none 0 0, .slice none 0 0, .int .i64 0, .bool false] 62 (fun j hj => by
    have hj : j < 8 := hj
    rcases (show j = 0 ∨ j = 1 ∨ j = 2 ∨ j = 3 ∨ j = 4 ∨ j = 5 ∨ j = 6 ∨ j = 7 by omega) with rfl | rfl | rfl | rfl | rfl | rfl | rfl | rfl <;> rfl)
set_option maxRecDepth 100000 in
set_option maxHeartbeats 4000000 in
theorem allShots_any (a : Option Addr) (cap : Nat) (l : List Shot) (c : Nat) (b : Int) (w : World) (H : ShotAt w a l) (hS : ∀ k, k < l.length → shotB (nth l k) = true) (hn : l.length ≤ 8) (hcap : l.length ≤ cap) (hc0 : 0 < c) (hc1 : c ≤ 3) (hb0 : 0 ≤ b) (hb1 : b ≤ 20000) :
    Calls Try.prog 32 #[.slice a l.length cap, .int .i64 (c : Int), .int .i64 b] w (OutS 2 1 cellI w (allV l c b) [.int .i64 (allC l c b)]) := by
  have HN := Lib.hid (visit_new a cap l c b true w H hS hn hcap hc0 hc1 hb0 hb1)
  clear H hS
  go_enter Try.func32, Try.ntmps32
  go_wp2_with fail
  refine HN.out.mono ?_
  rintro e w2 ⟨rfl, av, cv, ab, cb, hV⟩
  have V := Lib.hid hV
  clear hV HN
  obtain ⟨hgl, c0, c1, c2, c3, c4, c5, c6, c7⟩ := V.out.cells
  cases hf : (visI l c b true).found
  · rw [hf] at c7
    rcases Int.lt_or_le (visI l c b true).left 0 with hl | hl
    · have hv := Lib.hid (allC_5 hf hl)
      clear hf
      go_wp2_with fail
      go_ret2
      rw [hv.out.1, hv.out.2]
      exact OutS.nil none 0 rfl V.out.srch.ext
    · have hv := Lib.hid (allC_3 hf (by omega))
      clear hf
      go_wp2_with fail
      go_ret2
      rw [hv.out.1, hv.out.2]
      exact OutS.nil none 0 rfl V.out.srch.ext
  · rw [hf] at c7
    have hv := Lib.hid (allC_t hf)
    clear hf
    go_wp2_with fail
    go_ret2
    rw [hv.out.1, hv.out.2]
    exact OutS.mk rfl V.out.capb (V.out.srch.own.mono (by omega)) V.out.srch.row V.out.srch.ext
theorem allC_s {l : List Shot} {c : Nat} {b : Int} : allC l c b = (if (visS l c b true).found = true then 0 else if (visS l c b true).left < 0 then 5 else 3) ∧ allV l c b = (if (visS l c b true).found = true then (visS l c b true).best else []) := by
  obtain ⟨h1, h2, h3⟩ := vis_all l c b
  unfold allC allV
  rw [h1, h2]
  refine ⟨rfl, ?_⟩
  by_cases h : (visS l c b true).found = true
  · rw [if_pos h, if_pos h]; exact h3 (h2.trans h)
  · rw [if_neg h, if_neg h]
def askB (l : List Shot) (c b : Int) : Int := if shotList l = true then (if inB c 1 3 = true then (if inB b 1 20000 = true then 0 else 2) else 2) else 1
def allSC (l : List Shot) (c b : Int) : Int := if askB l c b = 0 then allC l c.toNat b else askB l c b
def allSV (l : List Shot) (c b : Int) : List Int := if askB l c b = 0 then allV l c.toNat b else []
theorem allS_no {l : List Shot} {c b : Int} (h : askB l c b ≠ 0) : allSC l c b = askB l c b ∧ allSV l c b = [] := ⟨if_neg h, if_neg h⟩
theorem allS_ok {l : List Shot} {c b : Int} (h : askB l c b = 0) : allSC l c b = allC l c.toNat b ∧ allSV l c b = allV l c.toNat b := ⟨if_pos h, if_pos h⟩
theorem askS_nil (l : List Shot) (c : Int) : askS l [] c = if shotList l = true then (if inB c 1 3 = true then 0 else 2) else 1 := rfl
end Go.Proofs.Ytpmbaemfpkcjnaa
