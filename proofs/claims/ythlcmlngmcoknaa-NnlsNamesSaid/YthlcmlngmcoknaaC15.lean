/- What is proved here: contracts of functions and plain facts, several texts in one; each one says ahead what it proves, and its conditions. -/
import Derived.Test.YthlcmlngmcoknaaC01
import Derived.Lib.BitFns
/- What is proved here: the plain laws of a division of 128 bits by 64 bits, digit by digit to the base 2^32. No program in sight. -/
namespace Go.Proofs.Ythlcmlngmcoknaa

/-- What a digit's estimate keeps: the estimate q with its rest r is of u, and not less than the digit. -/
structure DEst (y u d q r : Nat) : Prop where
  eq : q * (y / 4294967296) + r = u
  ge : (u * 4294967296 + d) / y ≤ q
theorem quo_est {y u d : Nat} (hd : d < 4294967296) : (u * 4294967296 + d) / y * (y / 4294967296) ≤ u := by
  have h1 := Nat.div_mul_le_self (u * 4294967296 + d) y
  generalize (u * 4294967296 + d) / y = Q at *
  have h2 : Q * (y / 4294967296 * 4294967296) ≤ Q * y := Nat.mul_le_mul_left _ (by omega)
  rw [← Nat.mul_assoc] at h2
  generalize Q * (y / 4294967296) = X at *
  omega
theorem DEst.start {y u d : Nat} (hy : 9223372036854775808 ≤ y) (hd : d < 4294967296) : DEst y u d (u / (y / 4294967296)) (u % (y / 4294967296)) :=
  ⟨by rw [Nat.mul_comm]; exact Nat.div_add_mod u (y / 4294967296), (Nat.le_div_iff_mul_le (by omega)).2 (quo_est hd)⟩
theorem DEst.first {y u : Nat} (hy : 9223372036854775808 ≤ y) (hy2 : y < 18446744073709551616) (hu : u < y) : u / (y / 4294967296) ≤ 4294967297 ∧ u % (y / 4294967296) < 4294967296 := by
  have hp : 0 < y / 4294967296 := by omega
  have hm := Nat.mod_lt u hp
  refine ⟨?_, by omega⟩
  have h : u / (y / 4294967296) < 4294967298 := by
    rw [Nat.div_lt_iff_lt_mul hp]
    have : 4294967298 * (y / 4294967296) = y / 4294967296 * 4294967296 + 2 * (y / 4294967296) := by omega
    omega
  omega
theorem prod_split {y q u r : Nat} (h : q * (y / 4294967296) + r = u) : q * y + r * 4294967296 = u * 4294967296 + q * (y % 4294967296) := by
  have e : q * y = q * (y / 4294967296) * 4294967296 + q * (y % 4294967296) := by
    conv => lhs; rw [show y = y / 4294967296 * 4294967296 + y % 4294967296 by omega]
    rw [Nat.mul_add, Nat.mul_assoc]
  rw [e]
  generalize q * (y / 4294967296) = X at *
  generalize q * (y % 4294967296) = Z at *
  omega
theorem quo_lt {y u d : Nat} (hd : d < 4294967296) (hu : u < y) : (u * 4294967296 + d) / y < 4294967296 := by
  rw [Nat.div_lt_iff_lt_mul (by omega)]
  omega
/-- One step down. -/
theorem DEst.step {y u d q r : Nat} (h : DEst y u d q r) (hd : d < 4294967296) (hu : u < y) (hc : 4294967296 ≤ q ∨ 4294967296 * r + d < q * (y % 4294967296)) : 1 ≤ q ∧ DEst y u d (q - 1) (r + y / 4294967296) := by
  have hq : (u * 4294967296 + d) / y < q := by
    rcases hc with hc | hc
    · exact Nat.lt_of_lt_of_le (quo_lt hd hu) hc
    · rw [Nat.div_lt_iff_lt_mul (by omega)]
      have := prod_split h.eq
      omega
  have hq1 : 1 ≤ q := Nat.lt_of_le_of_lt (Nat.zero_le _) hq
  refine ⟨hq1, ?_, Nat.le_sub_one_of_lt hq⟩
  have h1 := h.eq
  have : q * (y / 4294967296) = (q - 1) * (y / 4294967296) + y / 4294967296 := by
    conv => lhs; rw [show q = (q - 1) + 1 by omega]
    rw [Nat.add_mul, Nat.one_mul]
  omega
/-- The end: no test holds any more, or the rest has grown too large. -/
theorem DEst.stop {y u d q r : Nat} (h : DEst y u d q r) (hy : 0 < y) (hc : q * (y % 4294967296) ≤ 4294967296 * r + d) : q = (u * 4294967296 + d) / y := by
  refine Nat.le_antisymm ?_ h.ge
  rw [Nat.le_div_iff_mul_le hy]
  have := prod_split h.eq
  omega
theorem DEst.over {y u d q r : Nat} (h : DEst y u d q r) (hy : 0 < y) (hq : q ≤ 4294967296) (hr : 4294967296 ≤ r) : q = (u * 4294967296 + d) / y := by
  refine h.stop hy ?_
  have h1 : q * (y % 4294967296) ≤ 4294967296 * (y % 4294967296) := Nat.mul_le_mul_right _ hq
  omega
/-- The rest of a digit, in 64 bits that wrap around. -/
theorem digit_rest {y u d : Nat} : u * 4294967296 + d - (u * 4294967296 + d) / y * y = (u * 4294967296 + d) % y ∧ (u * 4294967296 + d) / y * y ≤ u * 4294967296 + d := by
  have h1 := Nat.div_add_mod (u * 4294967296 + d) y
  rw [Nat.mul_comm] at h1
  have h2 := Nat.div_mul_le_self (u * 4294967296 + d) y
  omega
/-- Two digits one after the other. -/
theorem two_digits {y x d : Nat} (hy : 0 < y) : (x * 4294967296 + d) / y = x / y * 4294967296 + (x % y * 4294967296 + d) / y ∧ (x * 4294967296 + d) % y = (x % y * 4294967296 + d) % y := by
  have e : x * 4294967296 + d = y * (x / y * 4294967296) + (x % y * 4294967296 + d) := by
    have h1 := Nat.div_add_mod x y
    have h2 : x * 4294967296 = (y * (x / y) + x % y) * 4294967296 := by rw [h1]
    rw [h2, Nat.add_mul, Nat.mul_assoc, Nat.add_assoc]
  constructor
  · rw [e, Nat.mul_add_div hy]
  · rw [e, Nat.mul_add_mod]
/-- A shift of both numbers leaves the quotient, and shifts the rest. -/
theorem shift_div (n y s : Nat) : n * 2 ^ s / (y * 2 ^ s) = n / y ∧ n * 2 ^ s % (y * 2 ^ s) / 2 ^ s = n % y := by
  have hp : 0 < 2 ^ s := Nat.two_pow_pos s
  exact ⟨Nat.mul_div_mul_right n y hp, by rw [Nat.mul_mod_mul_right, Nat.mul_div_cancel _ hp]⟩
theorem bitLen_bd : ∀ (f x : Nat), x ≤ f → x ≠ 0 → x < 18446744073709551616 → 2 ^ (Lib.bitLen x) ≤ 2 * x ∧ x < 2 ^ (Lib.bitLen x) ∧ 1 ≤ Lib.bitLen x
  | 0, x, h, h0, _ => absurd (Nat.le_zero.1 h) h0
  | f + 1, x, h, h0, hx => by
    have e := Lib.bitLen_half x h0 hx
    by_cases h1 : x / 2 = 0
    · have hx1 : x = 1 := by omega
      subst hx1
      have e2 : Lib.bitLen 1 = 1 := by decide
      rw [e2]
      decide
    · obtain ⟨a, b, c⟩ := bitLen_bd f (x / 2) (by omega) h1 (by omega)
      rw [e, Nat.pow_add, Nat.pow_one]
      generalize 2 ^ Lib.bitLen (x / 2) = z at *
      exact ⟨by omega, by omega, by omega⟩
/-- A number that is shifted to the left end. -/
theorem norm_bd {y : Nat} (h0 : y ≠ 0) (hy : y < 18446744073709551616) : 9223372036854775808 ≤ y * 2 ^ (64 - Lib.bitLen y) ∧ y * 2 ^ (64 - Lib.bitLen y) < 18446744073709551616 := by
  obtain ⟨a, b, c⟩ := bitLen_bd y y (Nat.le_refl _) h0 hy
  have l := Lib.bitLen_le y 64 (Nat.le_refl _) hy
  have e : 2 ^ (Lib.bitLen y) * 2 ^ (64 - Lib.bitLen y) = 18446744073709551616 := by
    rw [← Nat.pow_add, show Lib.bitLen y + (64 - Lib.bitLen y) = 64 by omega]
  have h1 := Nat.mul_le_mul_right (2 ^ (64 - Lib.bitLen y)) a
  have h2 := Nat.mul_lt_mul_of_pos_right b (Nat.two_pow_pos (64 - Lib.bitLen y))
  rw [e] at h1 h2
  rw [Nat.mul_assoc] at h1
  exact ⟨by omega, h2⟩
theorem un32_aux (hi lo b c P M : Nat) (h3 : M * b + c = lo * P) : (hi * P + b) * M + c = (hi * M + lo) * P := by
  rw [Nat.add_mul, Nat.add_mul, Nat.mul_right_comm, Nat.mul_comm b M]; omega
/-- Both halves, shifted. -/
theorem un32_eq {hi lo y s : Nat} (hs : s ≤ 64) (h : hi < y) (hlo : lo < 18446744073709551616) :
    lo / 2 ^ (64 - s) < 2 ^ s ∧ (hi * 2 ^ s + lo / 2 ^ (64 - s)) * 18446744073709551616 + lo * 2 ^ s % 18446744073709551616 = (hi * 18446744073709551616 + lo) * 2 ^ s ∧ hi * 2 ^ s + lo / 2 ^ (64 - s) < y * 2 ^ s ∧ hi * 2 ^ s ||| lo / 2 ^ (64 - s) = hi * 2 ^ s + lo / 2 ^ (64 - s) := by
  have e : 2 ^ (64 - s) * 2 ^ s = 18446744073709551616 := by rw [← Nat.pow_add, show 64 - s + s = 64 by omega]
  have h1 : lo / 2 ^ (64 - s) < 2 ^ s := by
    rw [Nat.div_lt_iff_lt_mul (Nat.two_pow_pos _), Nat.mul_comm, e]; exact hlo
  have h2 : lo * 2 ^ s / 18446744073709551616 = lo / 2 ^ (64 - s) := by
    rw [← e]; exact Nat.mul_div_mul_right _ _ (Nat.two_pow_pos _)
  have h3 := Nat.div_add_mod (lo * 2 ^ s) 18446744073709551616
  rw [h2] at h3
  refine ⟨h1, ?_, ?_, ?_⟩
  · exact un32_aux _ _ _ _ _ _ h3
  · have : (hi + 1) * 2 ^ s ≤ y * 2 ^ s := Nat.mul_le_mul_right _ h
    rw [Nat.add_mul, Nat.one_mul] at this
    omega
  · have := Nat.shiftLeft_add_eq_or_of_lt h1 hi
    rw [Nat.shiftLeft_eq] at this
    exact this.symm
end Go.Proofs.Ythlcmlngmcoknaa
