/- Chapter 25: BestTeams of the program and of the reference. -/
import Derived.Test.YtccbcjopmkmipaaDoorBestOrd
import Derived.Test.YtccbcjopmkmipaaDoorTeams
namespace Go.Proofs.YtccbcjopmkmipaaDoor
open Go.RowKit
def visT (l : List Area) (m s b : Int) : Sr := visL false (fun o => tW l o s o.length) m.toNat l.length [] ⟨[], -1, b⟩
def teamOk (m s b : Int) : Bool := inB m 1 4 && ordOk s b
def teamC (l : List Area) (m s b : Int) : Int := srC (validAreas l) (teamOk m s b) (visT l m s b)
def teamV (l : List Area) (m s b : Int) : List Int := srV (validAreas l) (teamOk m s b) (visT l m s b)
def teamG (l : List Area) (m s b : Int) : Int := srG (validAreas l) (teamOk m s b) (visT l m s b)
theorem visT_len (l : List Area) (m s b : Int) : (visT l m s b).best.length ≤ l.length := by
  have := visL_len (diff := false) (worth := fun o => tW l o s o.length) (many := m.toNat) l.length (ord := []) (s := ⟨[], -1, b⟩) (by simp)
  unfold visT; simpa using this
theorem teamV_len (l : List Area) (m s b : Int) : (teamV l m s b).length ≤ l.length := srV_len (visT_len l m s b)
theorem InMany.teams {l : List Area} {ts : List Int} {m : Nat} (h1 : validAreas l = true) (h : InMany m ts) (hm : m ≤ 4) (hl : ts.length = l.length) : TeamsOk l ts :=
  ⟨fun k hk => okAt_area ((validAreas_all h1).2.1 k hk), fun k hk => by have := h k hk; omega, hl⟩
end Go.Proofs.YtccbcjopmkmipaaDoor
