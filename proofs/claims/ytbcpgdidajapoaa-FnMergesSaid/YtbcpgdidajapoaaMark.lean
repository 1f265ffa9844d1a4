/- The law's own marks: what 'markText' writes, and marks in lists of numbers. -/
import Derived.Test.YtbcpgdidajapoaaBasics
import Derived.Test.YtbcpgdidajapoaaOut
namespace Go.Proofs.Ytbcpgdidajapoaa
open Go.RowKit
/-- One digit ahead of a text, as the marks have it. -/
def digB (n : Nat) : UInt8 := UInt8.ofNat (48 + n % 10)
def markFin : Nat → Nat → ByteArray → ByteArray
  | 0, _, out => out
  | f + 1, n, out => if n = 0 then out else markFin f (n / 10) (⟨#[digB n]⟩ ++ out)
/-- The text for a number. -/
def markS (k : Int) : ByteArray := if k ≤ 0 then ⟨#[109, 48]⟩ else ⟨#[109]⟩ ++ markFin 20 k.toNat ⟨#[]⟩
theorem size_push (b : UInt8) (s : ByteArray) : ((⟨#[b]⟩ : ByteArray) ++ s).size = s.size + 1 := by
  rw [ByteArray.size_append]; show 1 + s.size = _; omega
set_option maxHeartbeats 1000000 in
theorem markText_any (k : Int) (w : World) (h1 : k ≤ 1000000000000) (h0 : -1000000000000 ≤ k) :
    Gives Try.prog 38 #[.int .i64 k] w (.string (markS k)) := by
  unfold Gives
  by_cases hk : k ≤ 0
  · have hv : Hid ((⟨#[109, 48]⟩ : ByteArray) = markS k) := by show _ = _; unfold markS; rw [if_pos hk]
    go_enter Try.func38, Try.ntmps38
    go_wp2_with fail
    go_ret
    exact ⟨by rw [← hv.out]; rfl, Ext.refl _⟩
  have hv : Hid ((⟨#[109]⟩ : ByteArray) ++ markFin 20 k.toNat ⟨#[]⟩ = markS k) := by show _ = _; unfold markS; rw [if_neg hk]
  obtain ⟨K, hK⟩ := Int.eq_ofNat_of_zero_le (show 0 ≤ k by omega)
  subst hK
  rw [Int.toNat_natCast] at hv
  go_enter Try.func38, Try.ntmps38
  go_wp2_with fail
  go_loopw [0, 3] (fun n o wr => ∃ (f : Nat) (m : Nat) (out : ByteArray), n = .int .i64 m ∧ o = .string out ∧ Hid (markFin f m out = markFin 20 K ⟨#[]⟩) ∧ m ≤ 1000000000000 ∧ m < 10 ^ f ∧ out.size + f = 20 ∧ Ext w wr) (fun n _ _ => (intOf n).toNat)
  case atStart => exact ⟨20, K, ⟨#[]⟩, rfl, rfl, rfl, by omega, by omega, rfl, Ext.refl w⟩
  case round =>
    obtain ⟨f, m, out, rfl, rfl, hm, hm1, hm2, hsz, he⟩ := hrel
    rcases Nat.eq_zero_or_pos m with h | h
    · subst h
      have hx : Hid (out = markFin 20 K ⟨#[]⟩) := by
        show _ = _; rw [← hm.out]; cases f <;> simp [markFin]
      go_wp2_with fail
      go_ret
      exact ⟨by rw [← hv.out, ← hx.out]; rfl, he⟩
    · obtain ⟨f, rfl⟩ : ∃ f', f = f' + 1 := by
        cases f with
        | zero => exact absurd hm2 (by simp; omega)
        | succ f => exact ⟨f, rfl⟩
      have hcv := run_convert_bytes_arg (P := Try.prog) (wr.alloc (.cells #[.int .u8 (48 + (m : Int) % 10)] 5)) 31 5 Try.underlying31 Try.underlying5 wr.heap.size 0 1 1 [48 + (m : Int) % 10] rfl
        (fun i hi => by obtain rfl : i = 0 := by omega
                        rw [cell_new]; rfl) 9 Try.underlying9
      have hst : strOfNums [48 + (m : Int) % 10] = ⟨#[digB m]⟩ := by
        unfold strOfNums digB
        simp only [List.map_cons, List.map_nil]
        rw [show (48 + (m : Int) % 10).toNat = 48 + m % 10 by omega]
      rw [hst] at hcv
      have hs1 : Hid (((⟨#[digB m]⟩ : ByteArray) ++ out).size = out.size + 1) := size_push _ _
      have hst' : (⟨#[digB m]⟩ : ByteArray).size = 1 := rfl
      clear hst
      have hnext : Hid (markFin f (m / 10) (⟨#[digB m]⟩ ++ out) = markFin 20 K ⟨#[]⟩) := by
        show _ = _; rw [← hm.out]; simp only [markFin]; rw [if_neg (by omega)]
      have hm3 : m / 10 < 10 ^ f := by rw [Nat.pow_succ] at hm2; omega
      have hsz' := Lib.hid hsz
      have hsz2 : out.size ≤ 19 := by omega
      clear hsz hm2 hm
      have hm4 := Lib.hid hm3
      clear hm3
      go_wp2_with fail
      go_roundw
      case rel => exact ⟨f, m / 10, _, by go_num, rfl, hnext.out, by omega, hm4.out, by rw [hs1.out]; have := hsz'.out; omega, he.alloc _⟩
      case measure => simp [intOf]; omega
end Go.Proofs.Ytbcpgdidajapoaa
