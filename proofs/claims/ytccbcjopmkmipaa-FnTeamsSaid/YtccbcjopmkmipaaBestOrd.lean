/- Chapter 25: BestOrder of the program and of the reference. -/
import Derived.Test.YtccbcjopmkmipaaLsS
namespace Go.Proofs.Ytccbcjopmkmipaa
open Go.RowKit
@[go_sem] theorem run_store_nilFunc {P : Program} {w : World} {a : Addr} {m : Mode} : (store a .nilFunc m).run P w = stored P w a .nilFunc m := run_store P w a _ m rfl
@[go_sem] theorem run_store_func {P : Program} {w : World} {a : Addr} {m : Mode} (fn : Fn) (fi ca : Array Value) : (store a (.func fn fi ca) m).run P w = stored P w a (.func fn fi ca) m := run_store P w a _ m rfl
/-- What a search through lists hands back, behind its checks. -/
def srC (ok1 ok2 : Bool) (r : Sr) : Int := if ok1 = true then (if ok2 = true then (if r.left < 0 then 5 else 0) else 2) else 1
def srV (ok1 ok2 : Bool) (r : Sr) : List Int := if srC ok1 ok2 r = 0 then r.best else []
def srG (ok1 ok2 : Bool) (r : Sr) : Int := if srC ok1 ok2 r = 0 then r.most else 0
theorem sr_1 {ok2 : Bool} {r : Sr} : srC false ok2 r = 1 ∧ srV false ok2 r = [] ∧ srG false ok2 r = 0 := ⟨rfl, rfl, rfl⟩
theorem sr_2 {r : Sr} : srC true false r = 2 ∧ srV true false r = [] ∧ srG true false r = 0 := ⟨rfl, rfl, rfl⟩
theorem sr_5 {r : Sr} (h : r.left < 0) : srC true true r = 5 ∧ srV true true r = [] ∧ srG true true r = 0 := by
  have e : srC true true r = 5 := by unfold srC; rw [if_pos rfl, if_pos rfl, if_pos h]
  exact ⟨e, by unfold srV; rw [if_neg (by rw [e]; decide)], by unfold srG; rw [if_neg (by rw [e]; decide)]⟩
theorem sr_0 {r : Sr} (h : 0 ≤ r.left) : srC true true r = 0 ∧ srV true true r = r.best ∧ srG true true r = r.most := by
  have e : srC true true r = 0 := by unfold srC; rw [if_pos rfl, if_pos rfl, if_neg (by omega)]
  exact ⟨e, by unfold srV; rw [if_pos e], by unfold srG; rw [if_pos e]⟩
theorem srV_len {ok1 ok2 : Bool} {r : Sr} {n : Nat} (h : r.best.length ≤ n) : (srV ok1 ok2 r).length ≤ n := by
  unfold srV; split
  · exact h
  · simp
theorem InMany.worth {l : List Area} {ord : List Int} (h1 : validAreas l = true) (h : InMany l.length ord) : WorthOk l ord :=
  ⟨fun k hk => okAt_area ((validAreas_all h1).2.1 k hk), fun k hk => h k hk⟩
def visO (l : List Area) (s b : Int) : Sr := visL true (fun o => worthAt l o s o.length) l.length l.length [] ⟨[], -1, b⟩
def ordOk (s b : Int) : Bool := inB s 0 1000 && inB b 1 20000
def ordC (l : List Area) (s b : Int) : Int := srC (validAreas l) (ordOk s b) (visO l s b)
def ordV (l : List Area) (s b : Int) : List Int := srV (validAreas l) (ordOk s b) (visO l s b)
def ordG (l : List Area) (s b : Int) : Int := srG (validAreas l) (ordOk s b) (visO l s b)
theorem ordV_len (l : List Area) (s b : Int) : (ordV l s b).length ≤ l.length := by
  have := visL_len (diff := true) (worth := fun o => worthAt l o s o.length) (many := l.length) l.length (ord := []) (s := ⟨[], -1, b⟩) (by simp)
  exact srV_len (by unfold visO; simpa using this)
theorem area_sz {l : List Area} (h : ∀ k, k < l.length → (nth l k).Small) : AreaSz l := fun k hk => by have := h k hk; unfold Area.Small at this; omega
theorem budgetValid_any (n : Int) (w : World) : Calls Try.prog 16 #[.int .i64 n] w fun e w' => e = .returned (.bool (inB n 1 20000)) ∧ w' = w := by
  go_enter Try.func16, Try.ntmps16
  go_wp2_with (go_at_call 14; refine (within_any _ _ _ _).mono ?_; rintro e w' ⟨rfl, rfl⟩)
  go_ret
  exact ⟨rfl, rfl⟩
end Go.Proofs.Ytccbcjopmkmipaa
