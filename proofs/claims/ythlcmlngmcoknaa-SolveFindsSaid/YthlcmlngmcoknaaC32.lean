/- What is proved here: contracts of functions and plain facts, several texts in one; each one says ahead what it proves, and its conditions. -/
import Derived.Test.YthlcmlngmcoknaaC30
import Derived.Test.YthlcmlngmcoknaaC31
/- What is proved here: small forms of the contracts of Product and abs; the order of two fractions decides their equality. Condition: 64-bit numbers. -/
namespace Go.Proofs.Ythlcmlngmcoknaa
open Go.RowKit

theorem product_of (m n : Int) (a b : Nat) (w : World) (hm : m = a) (hn : n = b) (ha : a ≤ 18446744073709551615) (hb : b ≤ 18446744073709551615) :
    Calls Try.prog 106 #[.int .u64 m, .int .u64 n] w fun e w' => e = .returned (.agg #[.int .u64 (dg (a * b) 0), .int .u64 (dg (a * b) 1), .int .u64 (dg (a * b) 2), .int .u64 (dg (a * b) 3)]) ∧ Below w.heap.size w w' := by
  subst hm hn; exact product_any a b w ha hb
theorem abs_grow (n : Int) (w : World) (h1 : -9223372036854775808 ≤ n) (h2 : n ≤ 9223372036854775807) :
    Calls Try.prog 103 #[.int .i64 n] w fun e w' => e = .returned (.int .u64 (n.natAbs : Int)) ∧ Below w.heap.size w w' :=
  (abs_any n w h1 h2).mono fun e w' ⟨he, hw⟩ => ⟨he, by subst hw; exact Below.refl _ _⟩

theorem fcmp_self (n d : Int) : fcmp n d n d = 0 := by unfold fcmp; rw [if_neg (by omega), if_pos rfl]
theorem fcmp_eq {an ad bn bd : Int} (h1 : fchk an ad = 0) (h2 : fchk bn bd = 0) (h : fcmp an ad bn bd = 0) : an = bn ∧ ad = bd := by
  obtain ⟨u1, u2, u3, u4, u5⟩ := fok_of h1
  obtain ⟨v1, v2, v3, v4, v5⟩ := fok_of h2
  have he : an * bd = bn * ad := by
    unfold fcmp at h; split at h
    · omega
    · split at h
      · assumption
      · omega
  have hn : an.natAbs * bd.natAbs = bn.natAbs * ad.natAbs := by rw [← Int.natAbs_mul, ← Int.natAbs_mul, he]
  have d1 : bd.natAbs ∣ ad.natAbs := by
    have : bd.natAbs ∣ bn.natAbs * ad.natAbs := ⟨an.natAbs, by rw [← hn, Nat.mul_comm]⟩
    exact (Nat.Coprime.dvd_of_dvd_mul_left (Nat.Coprime.symm v5) this)
  have d2 : ad.natAbs ∣ bd.natAbs := by
    have : ad.natAbs ∣ an.natAbs * bd.natAbs := ⟨bn.natAbs, by rw [hn, Nat.mul_comm]⟩
    exact (Nat.Coprime.dvd_of_dvd_mul_left (Nat.Coprime.symm u5) this)
  have e1 := Nat.dvd_antisymm d1 d2
  have e2 : ad = bd := by omega
  subst e2
  exact ⟨Int.eq_of_mul_eq_mul_right (by omega) he, rfl⟩
theorem fcmp_cases (an ad bn bd : Int) : fcmp an ad bn bd = -1 ∨ fcmp an ad bn bd = 0 ∨ fcmp an ad bn bd = 1 := by
  unfold fcmp; split
  · simp
  · split <;> simp

end Go.Proofs.Ythlcmlngmcoknaa
