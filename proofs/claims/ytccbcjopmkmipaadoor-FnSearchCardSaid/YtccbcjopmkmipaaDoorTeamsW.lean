/- Areas that are drawn, and TeamsWorth of both sides at teams that are valid. -/
import Derived.Test.YtccbcjopmkmipaaDoorDrawL
import Derived.Test.YtccbcjopmkmipaaDoorBestTeam
namespace Go.Proofs.YtccbcjopmkmipaaDoor
open Go.RowKit
set_option maxRecDepth 100000 in
set_option maxHeartbeats 2000000 in
theorem R8Areas_any (w : World) (a : Option Addr) (cap : Nat) (code : List Int) (H : ByteAt w a code) (hr : ∀ k, k < code.length → 0 ≤ nth code k ∧ nth code k ≤ 255) (hf : code.length ≤ 1048576) :
    Calls Tryd.prog 5 #[.slice a code.length cap] w fun e w' => ∃ (o : Option Addr) (oc : Nat) (l : List Area), e = .returned (.slice o l.length oc) ∧ l.length ≤ oc ∧ Drawn l 5 ∧ AreaAt w' o l ∧ Ext w w' := by
  have HF := Lib.hid (l00From_any w a cap code H hr hf)
  clear H hr
  go_enter Tryd.func5, Tryd.ntmps5
  go_wp2_with fail
  refine HF.out.mono ?_
  rintro e w1 ⟨sb, rfl, hsb, S1, E1⟩
  have S1 := Lib.hid S1
  have E1 := Lib.hid E1
  go_wp2_with fail
  refine (l25Draw_any w1 sb a cap code 0 S1.out (by omega)).mono ?_
  rintro e w2 ⟨o, oc, l, rfl, hoc, HD, HA, HM⟩
  have HD := Lib.hid HD
  have HA := Lib.hid HA
  have E2 := Lib.hid (HM.ext w hsb E1.out)
  clear HM
  go_wp2_with fail
  go_ret
  exact ⟨o, oc, l, rfl, hoc, HD.out, HA.out, E2.out⟩
theorem TeamsOk.all {l : List Area} {ts : List Int} (h : TeamsOk l ts) : allIn ts 0 3 = true := allIn_iff.2 fun k hk => by
  have := h.team k hk; rw [inB_iff]; omega
end Go.Proofs.YtccbcjopmkmipaaDoor
