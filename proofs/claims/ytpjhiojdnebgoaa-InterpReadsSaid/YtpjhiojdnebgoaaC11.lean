/- What is proved here: contracts of functions and plain facts, several texts in one; each one says ahead what it proves, and its conditions. -/
import Derived.Test.YtpjhiojdnebgoaaC10
/- What is proved here: the contract of math/bits.Rem64. Condition: 64-bit numbers, the divisor is not 0. -/
namespace Go.Proofs.Ytpjhiojdnebgoaa
open Go.RowKit

theorem rem_red (hi lo y M : Nat) : (hi % y * M + lo) % y = (hi * M + lo) % y := by
  rw [Nat.add_mod, Nat.mod_mul_mod, ← Nat.add_mod]
set_option maxRecDepth 100000 in
set_option maxHeartbeats 4000000 in
theorem rem64_any (hi lo y : Nat) (w : World) (h : 0 < y) (hh : hi < 18446744073709551616) (hy : y < 18446744073709551616) (hlo : lo < 18446744073709551616) :
    Calls Try.prog 117 #[.int .u64 hi, .int .u64 lo, .int .u64 y] w fun e w' => e = .returned (.int .u64 (((hi * 18446744073709551616 + lo) % y : Nat) : Int)) ∧ ∃ n, w' = w.drewN n := by
  have b1 : ((y : Int) == 0) = false := by simp; omega
  have b3 : ¬ ((y : Int) = 0) := by omega
  have HR := Lib.hid (rem_red hi lo y 18446744073709551616)
  have lt := Nat.mod_lt hi h
  obtain ⟨r, hr⟩ : ∃ r, r = (hi * 18446744073709551616 + lo) % y := ⟨_, rfl⟩
  rw [← hr] at HR ⊢
  clear hr
  have q2 : (hi : Int) % (y : Int) = ((hi % y : Nat) : Int) := (Int.natCast_emod _ _).symm
  generalize hi % y = b at *
  have e2 : IntKind.u64.wrap (b : Int) = (b : Int) := u64_wrap_nat _ (by omega)
  go_enter Try.func117, Try.ntmps117
  go_wp2_with fail
  rw [q2]
  refine (div64_any b lo y _ lt hy hlo).mono ?_
  rintro e w1 ⟨rfl, n, rfl⟩
  rw [HR.out]
  go_wp2
  go_ret
  exact ⟨rfl, n, rfl⟩
end Go.Proofs.Ytpjhiojdnebgoaa
