/- What is proved here: contracts of functions and plain facts, several texts in one; each one says ahead what it proves, and its conditions. -/
import Derived.RowKit
import Derived.IntWalk
/- What is proved here: sums, differences and products of numbers that were cut to 64 bits on the way. No condition. -/
namespace Go.Proofs.Ythlcmlngmcoknaa
open Go.RowKit

theorem wr_k (x : Int) : ∃ k, wrap64 x = x + 18446744073709551616 * k := ⟨-((x + 9223372036854775808) / 18446744073709551616), by unfold wrap64; omega⟩
theorem wr_of {x y k : Int} (h : x = y + 18446744073709551616 * k) : wrap64 x = wrap64 y := by unfold wrap64; omega
theorem wr_add_l (a b : Int) : wrap64 (wrap64 a + b) = wrap64 (a + b) := by obtain ⟨k, h⟩ := wr_k a; exact wr_of (k := k) (by omega)
theorem wr_add_r (a b : Int) : wrap64 (a + wrap64 b) = wrap64 (a + b) := by obtain ⟨k, h⟩ := wr_k b; exact wr_of (k := k) (by omega)
theorem wr_sub_l (a b : Int) : wrap64 (wrap64 a - b) = wrap64 (a - b) := by obtain ⟨k, h⟩ := wr_k a; exact wr_of (k := k) (by omega)
theorem wr_sub_r (a b : Int) : wrap64 (a - wrap64 b) = wrap64 (a - b) := by obtain ⟨k, h⟩ := wr_k b; exact wr_of (k := -k) (by omega)
theorem wr_mul_l (a b : Int) : wrap64 (wrap64 a * b) = wrap64 (a * b) := by
  obtain ⟨k, h⟩ := wr_k a
  exact wr_of (k := k * b) (by rw [h, Int.add_mul, Int.mul_assoc])
theorem wr_mul_r (a b : Int) : wrap64 (a * wrap64 b) = wrap64 (a * b) := by
  obtain ⟨k, h⟩ := wr_k b
  exact wr_of (k := a * k) (by rw [h, Int.mul_add]; congr 1; rw [← Int.mul_assoc, ← Int.mul_assoc, Int.mul_comm a])
theorem wr_neg (a : Int) : wrap64 (-wrap64 a) = wrap64 (-a) := by obtain ⟨k, h⟩ := wr_k a; exact wr_of (k := -k) (by omega)
/-- The absolute value of a product. -/
theorem wr_mulbd {x y X Y : Int} (hx : -X ≤ x ∧ x ≤ X) (hy : -Y ≤ y ∧ y ≤ Y) : -(X * Y) ≤ x * y ∧ x * y ≤ X * Y := by
  have h1 : (x.natAbs : Int) ≤ X := by omega
  have h2 : (y.natAbs : Int) ≤ Y := by omega
  have h3 : ((x * y).natAbs : Int) ≤ X * Y := by
    rw [Int.natAbs_mul, Int.natCast_mul]
    exact Int.mul_le_mul h1 h2 (by omega) (by omega)
  omega
theorem wr_mulbd' {x y X Y Z : Int} (hx : -X ≤ x ∧ x ≤ X) (hy : -Y ≤ y ∧ y ≤ Y) (h : X * Y = Z) : -Z ≤ x * y ∧ x * y ≤ Z := by rw [← h]; exact wr_mulbd hx hy
/-- A sum of whole numbers within a bound. -/
theorem add_bd {x y X Y : Int} (hx : -X ≤ x ∧ x ≤ X) (hy : -Y ≤ y ∧ y ≤ Y) : -(X + Y) ≤ x + y ∧ x + y ≤ X + Y := by omega
end Go.Proofs.Ythlcmlngmcoknaa
