/- What is proved here: contracts of functions and plain facts, several texts in one; each one says ahead what it proves, and its conditions. -/
import Derived.Test.YthlcmlngmcoknaaC17
/- What is proved here: sums, differences and quotients of numbers of four digits to the base 2^32, digit by digit. No program in sight. -/
namespace Go.Proofs.Ythlcmlngmcoknaa
open Go.RowKit

/-- One more bit of a number that is divided bit by bit. -/
theorem over_step (x n p : Nat) (hn : 0 < n) :
    (2 * (x / 2 ^ (p + 1) % n) + x / 2 ^ p % 2 < n → x / 2 ^ p % n = 2 * (x / 2 ^ (p + 1) % n) + x / 2 ^ p % 2 ∧ x / 2 ^ p / n * 2 ^ p = x / 2 ^ (p + 1) / n * 2 ^ (p + 1)) ∧
    (n ≤ 2 * (x / 2 ^ (p + 1) % n) + x / 2 ^ p % 2 → x / 2 ^ p % n = 2 * (x / 2 ^ (p + 1) % n) + x / 2 ^ p % 2 - n ∧ x / 2 ^ p / n * 2 ^ p = x / 2 ^ (p + 1) / n * 2 ^ (p + 1) + 2 ^ p) := by
  have h1 : x / 2 ^ (p + 1) = x / 2 ^ p / 2 := by rw [Nat.pow_succ, Nat.div_div_eq_div_mul]
  have h2 : (2 : Nat) ^ (p + 1) = 2 * 2 ^ p := by rw [Nat.pow_succ, Nat.mul_comm]
  rw [h1]
  generalize x / 2 ^ p = X
  have hX : X = 2 * (X / 2) + X % 2 := by omega
  have ht : X % 2 < 2 := by omega
  have hq := Nat.div_add_mod (X / 2) n
  have hr := Nat.mod_lt (X / 2) hn
  generalize X / 2 = Y at *
  generalize X % 2 = t at *
  generalize Y / n = q at *
  generalize Y % n = r at *
  generalize 2 ^ p = P at *
  refine ⟨fun h => ?_, fun h => ?_⟩
  · have e : X = (2 * r + t) + n * (2 * q) := by rw [hX, ← hq]; grind
    rw [e, Nat.add_mul_mod_self_left, Nat.mod_eq_of_lt h, Nat.add_mul_div_left _ _ hn, Nat.div_eq_of_lt h, h2]
    exact ⟨rfl, by grind⟩
  · have hl : 2 * r + t - n < n := by omega
    have e : X = (2 * r + t - n) + n * (2 * q + 1) := by
      have h3 : 2 * r + t = (2 * r + t - n) + n := by omega
      generalize 2 * r + t - n = z at *
      rw [hX, ← hq]; grind
    rw [e, Nat.add_mul_mod_self_left, Nat.mod_eq_of_lt hl, Nat.add_mul_div_left _ _ hn, Nat.div_eq_of_lt hl, h2]
    exact ⟨rfl, by grind⟩

theorem base_pow (i : Nat) : 4294967296 ^ i = 2 ^ (32 * i) := by rw [Nat.pow_mul]
theorem dg_testBit (x i b : Nat) : (dg x i).testBit b = (decide (b < 32) && x.testBit (32 * i + b)) := by
  unfold dg
  rw [base_pow, show 4294967296 = 2 ^ 32 from rfl, Nat.testBit_mod_two_pow, Nat.testBit_div_two_pow, Nat.add_comm]
theorem dg_bit (x i b : Nat) (hb : b < 32) : dg x i / 2 ^ b % 2 = x / 2 ^ (32 * i + b) % 2 := by
  rw [← Nat.toNat_testBit, ← Nat.toNat_testBit, dg_testBit]
  simp [hb]
theorem dg_pow_same (i b : Nat) (hb : b < 32) : dg (2 ^ (32 * i + b)) i = 2 ^ b := by
  apply Nat.eq_of_testBit_eq
  intro j
  rw [dg_testBit, Nat.testBit_two_pow, Nat.testBit_two_pow]
  by_cases h : b = j
  · subst h; simp [hb]
  · simp [h]
theorem dg_pow_other (i b k : Nat) (hb : b < 32) (h : k ≠ i) : dg (2 ^ (32 * i + b)) k = 0 := by
  apply Nat.eq_of_testBit_eq
  intro j
  rw [dg_testBit, Nat.testBit_two_pow]
  simp; omega
theorem dg_or (x y k : Nat) : dg (x ||| y) k = dg x k ||| dg y k := by
  apply Nat.eq_of_testBit_eq
  intro j
  rw [Nat.testBit_or, dg_testBit, dg_testBit, dg_testBit, Nat.testBit_or]
  cases decide (j < 32) <;> simp
theorem pow_or (q k : Nat) : q * 2 ^ (k + 1) + 2 ^ k = q * 2 ^ (k + 1) ||| 2 ^ k := by
  rw [Nat.mul_comm]
  exact Nat.two_pow_add_eq_or_of_lt (Nat.pow_lt_pow_right (by decide) (by omega)) q
/-- A bit is set in one digit. -/
theorem dg_set (q i b : Nat) (hb : b < 32) : dg (q * 2 ^ (32 * i + b + 1) + 2 ^ (32 * i + b)) i = dg (q * 2 ^ (32 * i + b + 1)) i ||| 2 ^ b ∧
    ∀ k, k ≠ i → dg (q * 2 ^ (32 * i + b + 1) + 2 ^ (32 * i + b)) k = dg (q * 2 ^ (32 * i + b + 1)) k := by
  rw [pow_or]
  refine ⟨by rw [dg_or, dg_pow_same _ _ hb], fun k hk => by rw [dg_or, dg_pow_other _ _ _ hb hk, Nat.or_zero]⟩
/-- The four digits of a number, as cells. -/
def dgs (x : Nat) : List Value := [.int .u64 (dg x 0), .int .u64 (dg x 1), .int .u64 (dg x 2), .int .u64 (dg x 3)]
theorem dgs_get (x i : Nat) (hi : i < 4) : (dgs x)[i]? = some (.int .u64 (dg x i)) := by
  have : i = 0 ∨ i = 1 ∨ i = 2 ∨ i = 3 := by omega
  rcases this with h | h | h | h <;> subst h <;> rfl
theorem dgs_len (x : Nat) : (dgs x).length = 4 := rfl
theorem dgs_set (q i b : Nat) (hi : i < 4) (hb : b < 32) : (dgs (q * 2 ^ (32 * i + b + 1))).set i (.int .u64 ((dg (q * 2 ^ (32 * i + b + 1)) i ||| 2 ^ b : Nat) : Int)) = dgs (q * 2 ^ (32 * i + b + 1) + 2 ^ (32 * i + b)) := by
  obtain ⟨h1, h2⟩ := dg_set q i b hb
  unfold dgs
  have : i = 0 ∨ i = 1 ∨ i = 2 ∨ i = 3 := by omega
  rcases this with h | h | h | h <;> subst h <;> rw [h1] <;> simp only [List.set_cons_zero, List.set_cons_succ]
  · rw [h2 1 (by decide), h2 2 (by decide), h2 3 (by decide)]
  · rw [h2 0 (by decide), h2 2 (by decide), h2 3 (by decide)]
  · rw [h2 0 (by decide), h2 1 (by decide), h2 3 (by decide)]
  · rw [h2 0 (by decide), h2 1 (by decide), h2 2 (by decide)]
/-- What is left of a division bit by bit: before the bit p. -/
def ovR (x n p : Nat) : Nat := x / 2 ^ p % n
def ovQ (x n p : Nat) : Nat := x / 2 ^ p / n * 2 ^ p
theorem ov_top (x n : Nat) (hx : x < 340282366920938463463374607431768211456) : ovR x n 128 = 0 ∧ ovQ x n 128 = 0 := by
  unfold ovR ovQ
  rw [Nat.div_eq_of_lt (show x < 2 ^ 128 from hx)]; simp
theorem ov_end (x n : Nat) : ovR x n 0 = x % n ∧ ovQ x n 0 = x / n := by
  unfold ovR ovQ; simp
theorem ov_less {x n i b : Nat} (hn : 0 < n) (hb : b < 32) (h : 2 * ovR x n (32 * i + b + 1) + dg x i / 2 ^ b % 2 < n) :
    ovR x n (32 * i + b) = 2 * ovR x n (32 * i + b + 1) + dg x i / 2 ^ b % 2 ∧ ovQ x n (32 * i + b) = ovQ x n (32 * i + b + 1) := by
  rw [dg_bit _ _ _ hb] at h ⊢
  exact (over_step x n (32 * i + b) hn).1 h
theorem ov_more {x n i b : Nat} (hn : 0 < n) (hi : i < 4) (hb : b < 32) (h : n ≤ 2 * ovR x n (32 * i + b + 1) + dg x i / 2 ^ b % 2) :
    ovR x n (32 * i + b) = 2 * ovR x n (32 * i + b + 1) + dg x i / 2 ^ b % 2 - n ∧
    dgs (ovQ x n (32 * i + b)) = (dgs (ovQ x n (32 * i + b + 1))).set i (.int .u64 ((dg (ovQ x n (32 * i + b + 1)) i ||| 2 ^ b : Nat) : Int)) := by
  rw [dg_bit _ _ _ hb] at h ⊢
  obtain ⟨h1, h2⟩ := (over_step x n (32 * i + b) hn).2 h
  refine ⟨h1, ?_⟩
  have e : ovQ x n (32 * i + b) = x / 2 ^ (32 * i + b + 1) / n * 2 ^ (32 * i + b + 1) + 2 ^ (32 * i + b) := h2
  rw [e]
  exact (dgs_set (x / 2 ^ (32 * i + b + 1) / n) i b hi hb).symm
end Go.Proofs.Ythlcmlngmcoknaa
