/- Chapter 22: the gain of an order of shots; how a search through plans goes on. -/
import Derived.Test.YtpmbaemfpkcjnaaSrch
import Derived.Test.YtpmbaemfpkcjnaaEnds
namespace Go.Proofs.Ytpmbaemfpkcjnaa
open Go.RowKit
def gainTo (l : List Shot) (ord : List Int) : Nat → Int
  | 0 => 0
  | k + 1 => gainTo l ord k + (pickS l ord k).gain
def gainS (l : List Shot) (ord : List Int) : Int := gainTo l ord ord.length
theorem gainTo_bd {l : List Shot} {ord : List Int} (h : ShotsOk l ord) : ∀ {k : Nat}, k ≤ ord.length → 0 ≤ gainTo l ord k ∧ gainTo l ord k ≤ 1000 * k
  | 0, _ => by simp [gainTo]
  | k + 1, hk => by
    have := gainTo_bd h (k := k) (by omega)
    have := shotB_bd (h.pick (k := k) (by omega))
    simp only [gainTo]; omega
theorem gainTo_push {l : List Shot} {ord : List Int} {x : Int} : ∀ {k : Nat}, k ≤ ord.length → gainTo l (ord ++ [x]) k = gainTo l ord k
  | 0, _ => rfl
  | k + 1, hk => by
    simp only [gainTo]
    rw [gainTo_push (by omega)]
    unfold pickS; rw [nth_append_left (by omega)]
theorem gainS_push (l : List Shot) (ord : List Int) (k : Nat) : gainS l (ord ++ [(k : Int)]) = gainS l ord + (nth l k).gain := by
  unfold gainS
  rw [List.length_append]
  show gainTo l (ord ++ [(k : Int)]) ord.length + _ = _
  rw [gainTo_push (Nat.le_refl _)]
  unfold pickS; rw [nth_append_last]; rfl
theorem gainS_nil (l : List Shot) : gainS l [] = 0 := rfl
theorem ShotsOk.push {l : List Shot} {ord : List Int} {k : Nat} (h : ShotsOk l ord) (hk : k < l.length) : ShotsOk l (ord ++ [(k : Int)]) :=
  ⟨h.shot, fun j hj => by
    rw [List.length_append] at hj
    rcases Nat.lt_or_ge j ord.length with h1 | h1
    · rw [nth_append_left h1]; exact h.ord j h1
    · obtain rfl : j = ord.length := by simp only [List.length_cons, List.length_nil] at hj; omega
      rw [nth_append_last]; omega⟩
set_option maxHeartbeats 1000000 in
theorem gainOf_any (a : Option Addr) (cap : Nat) (l : List Shot) (a2 : Option Addr) (cap2 : Nat) (ord : List Int) (w : World) (H : ShotAt w a l) (H2 : IntAt w a2 ord) (hok : ShotsOk l ord) (hlen : ord.length ≤ 1048576) :
    Calls Try.prog 22 #[.slice a l.length cap, .slice a2 ord.length cap2] w fun e w' => e = .returned (.int .i64 (gainS l ord)) ∧ w' = w := by
  have HK := Lib.hid hok
  clear hok
  have hbd : Hid (∀ k, k ≤ ord.length → 0 ≤ gainTo l ord k ∧ gainTo l ord k ≤ 1000 * k) := fun k hk => gainTo_bd HK.out hk
  go_enter Try.func22, Try.ntmps22
  go_wp2
  go_loop [5, 10] (fun s i => ∃ k : Nat, k ≤ ord.length ∧ i = .int .i64 k ∧ s = .int .i64 (gainTo l ord k)) (fun _ i => ord.length - (intOf i).toNat)
  case atStart => exact ⟨0, Nat.zero_le _, rfl, rfl⟩
  case round =>
    obtain ⟨k, hk, rfl, rfl⟩ := hrel
    obtain ⟨g0, g1⟩ := hbd.out k hk
    by_cases hlt : k < ord.length
    · obtain ⟨b2, off2, rfl⟩ := H2.base hlt
      obtain ⟨hb2, d0⟩ := IntAt.at H2 k hlt
      obtain ⟨i0, i1⟩ := HK.out.ord k hlt
      obtain ⟨m, hm⟩ := Int.eq_ofNat_of_zero_le i0
      have hml : m < l.length := by omega
      obtain ⟨b, off, rfl⟩ := H.base hml
      obtain ⟨hb, c0, c1, c2, c3, c4⟩ := Shot.at H m hml
      have hn : Hid (gainTo l ord (k + 1) = gainTo l ord k + (nth l m).gain) := by show _ = _; simp only [gainTo]; unfold pickS; rw [hm]; rfl
      have hsb := (shotB_bd (HK.out.shot m hml)).2.2.2.2.2
      obtain ⟨s0, s1⟩ := hsb
      rw [hm] at d0
      clear H H2 i0 i1 hm
      go_wp2
      go_round
      case rel => exact ⟨k + 1, by omega, by go_num, by rw [hn.out]⟩
      case measure => simp [intOf]; omega
    · obtain rfl : k = ord.length := by omega
      clear H H2
      go_wp2
      go_ret
      exact ⟨rfl, rfl⟩
def okS (l : List Shot) (crews : Nat) (ord : List Int) : Bool := worksB l ord crews
def updI (l : List Shot) (all : Bool) (ord : List Int) (s : St) : St :=
  if (all && ord.length == l.length) = true then { (if s.most < gainS l ord then { s with best := ord, most := gainS l ord } else s) with best := ord, found := true }
  else if s.most < gainS l ord then { s with best := ord, most := gainS l ord } else s
theorem updI_ff {l : List Shot} {all : Bool} {ord : List Int} {s : St} (h : (all && ord.length == l.length) = false) (h2 : ¬ s.most < gainS l ord) : updI l all ord s = s := by unfold updI; rw [if_neg (by rw [h]; decide), if_neg h2]
theorem updI_ft {l : List Shot} {all : Bool} {ord : List Int} {s : St} (h : (all && ord.length == l.length) = false) (h2 : s.most < gainS l ord) : updI l all ord s = ⟨ord, gainS l ord, s.left, s.found⟩ := by unfold updI; rw [if_neg (by rw [h]; decide), if_pos h2]
theorem updI_tf {l : List Shot} {all : Bool} {ord : List Int} {s : St} (h : (all && ord.length == l.length) = true) (h2 : ¬ s.most < gainS l ord) : updI l all ord s = ⟨ord, s.most, s.left, true⟩ := by unfold updI; rw [if_pos h, if_neg h2]
theorem updI_tt {l : List Shot} {all : Bool} {ord : List Int} {s : St} (h : (all && ord.length == l.length) = true) (h2 : s.most < gainS l ord) : updI l all ord s = ⟨ord, gainS l ord, s.left, true⟩ := by unfold updI; rw [if_pos h, if_pos h2]
end Go.Proofs.Ytpmbaemfpkcjnaa
