/- What is proved here: contracts of functions and plain facts, several texts in one; each one says ahead what it proves, and its conditions. -/
import Derived.WalkKit
/- What is proved here: what the bit operations on unsigned numbers come to, and digits to the base 2^32. No condition beyond those each names. -/
namespace Go.Proofs.Ythlcmlngmcoknaa
open Go.RowKit

theorem u64_wrap_nat (r : Nat) (h : r < 18446744073709551616) : IntKind.u64.wrap (r : Int) = r := by
  simp only [IntKind.wrap, IntKind.bits, IntKind.signed]; simp; omega
theorem bv_toNat (n : Nat) (h : n < 18446744073709551616) : (BitVec.ofInt 64 (n : Int)).toNat = n := by
  rw [BitVec.toNat_ofInt]
  omega
theorem bits_and (n m : Nat) (hn : n < 18446744073709551616) (hm : m < 18446744073709551616) : bits BinOp.and IntKind.u64 (n : Int) (m : Int) = ((n &&& m : Nat) : Int) := by
  show IntKind.u64.wrap (((BitVec.ofInt 64 (n : Int) &&& BitVec.ofInt 64 (m : Int) : BitVec 64).toNat : Nat) : Int) = _
  rw [BitVec.toNat_and, bv_toNat n hn, bv_toNat m hm]
  exact u64_wrap_nat _ (Nat.lt_of_le_of_lt Nat.and_le_left hn)
theorem bits_or (n m : Nat) (hn : n < 18446744073709551616) (hm : m < 18446744073709551616) : bits BinOp.or IntKind.u64 (n : Int) (m : Int) = ((n ||| m : Nat) : Int) := by
  show IntKind.u64.wrap (((BitVec.ofInt 64 (n : Int) ||| BitVec.ofInt 64 (m : Int) : BitVec 64).toNat : Nat) : Int) = _
  rw [BitVec.toNat_or, bv_toNat n hn, bv_toNat m hm]
  exact u64_wrap_nat _ (Nat.or_lt_two_pow (n := 64) hn hm)
theorem and32 (n : Nat) (hn : n < 18446744073709551616) : bits BinOp.and IntKind.u64 (n : Int) 4294967295 = ((n % 4294967296 : Nat) : Int) := by
  have h := bits_and n 4294967295 hn (by decide)
  rw [show n &&& 4294967295 = n % 4294967296 from Nat.and_two_pow_sub_one_eq_mod n 32] at h
  exact h
theorem and63 (n : Nat) (hn : n < 18446744073709551616) : bits BinOp.and IntKind.u64 (n : Int) 9223372036854775807 = ((n % 9223372036854775808 : Nat) : Int) := by
  have h := bits_and n 9223372036854775807 hn (by decide)
  rw [show n &&& 9223372036854775807 = n % 9223372036854775808 from Nat.and_two_pow_sub_one_eq_mod n 63] at h
  exact h
theorem and1 (n : Nat) (hn : n < 18446744073709551616) : bits BinOp.and IntKind.u64 (n : Int) 1 = ((n % 2 : Nat) : Int) := by
  have h := bits_and n 1 hn (by decide)
  rw [show n &&& 1 = n % 2 from Nat.and_two_pow_sub_one_eq_mod n 1] at h
  exact h
theorem or32 (a b : Nat) (ha : a < 4294967296) (hb : b < 4294967296) : bits BinOp.or IntKind.u64 ((b : Int) * 4294967296) (a : Int) = ((b * 4294967296 + a : Nat) : Int) := by
  have h := bits_or (b * 4294967296) a (by omega) (by omega)
  rw [Int.natCast_mul] at h
  have e : b * 4294967296 ||| a = b * 4294967296 + a := by
    rw [Nat.mul_comm]; exact (Nat.two_pow_add_eq_or_of_lt (i := 32) ha b).symm
  rw [e] at h
  exact h

end Go.Proofs.Ythlcmlngmcoknaa
