/- What is proved here: contracts of functions and plain facts, several texts in one; each one says ahead what it proves, and its conditions. -/
import Derived.Test.YtpjhiojdnebgoaaC04
import Derived.Test.YtpjhiojdnebgoaaC08
import Derived.LoopN
import Derived.Test.YtpjhiojdnebgoaaC01
/- What is proved here: the contracts of the reference's big, Small and lowest. Condition: the numbers are 64-bit integers. -/
namespace Go.Proofs.Ytpjhiojdnebgoaa
open Go.RowKit

/-- A digit to the base 2^32. -/
def dg (x i : Nat) : Nat := x / 4294967296 ^ i % 4294967296
theorem dg_lt (x i : Nat) : dg x i < 4294967296 := Nat.mod_lt _ (by decide)
theorem dg_of {x a b c d : Nat} (ha : a < 4294967296) (hb : b < 4294967296) (hc : c < 4294967296) (hd : d < 4294967296) (h : x = a + b * 4294967296 + c * 18446744073709551616 + d * 79228162514264337593543950336) :
    dg x 0 = a ∧ dg x 1 = b ∧ dg x 2 = c ∧ dg x 3 = d := by
  unfold dg
  refine ⟨?_, ?_, ?_, ?_⟩
  · rw [show 4294967296 ^ 0 = 1 from rfl]; omega
  · rw [show 4294967296 ^ 1 = 4294967296 from rfl]; omega
  · rw [show 4294967296 ^ 2 = 18446744073709551616 from rfl]; omega
  · rw [show 4294967296 ^ 3 = 79228162514264337593543950336 from rfl]; omega
theorem dg_sum (x : Nat) (h : x < 340282366920938463463374607431768211456) : x = dg x 0 + dg x 1 * 4294967296 + dg x 2 * 18446744073709551616 + dg x 3 * 79228162514264337593543950336 := by
  unfold dg
  rw [show 4294967296 ^ 0 = 1 from rfl, show 4294967296 ^ 1 = 4294967296 from rfl, show 4294967296 ^ 2 = 18446744073709551616 from rfl, show 4294967296 ^ 3 = 79228162514264337593543950336 from rfl]
  omega
theorem dg_small {n : Nat} (h : n ≤ 18446744073709551615) : dg n 0 = n % 4294967296 ∧ dg n 1 = n / 4294967296 ∧ dg n 2 = 0 ∧ dg n 3 = 0 := dg_of (by omega) (by omega) (by omega) (by omega) (by omega)

theorem big_any (n : Nat) (w : World) (h : n ≤ 18446744073709551615) :
    Calls Try.prog 99 #[.int .u64 n] w fun e w' => e = .returned (.agg #[.int .u64 (dg n 0), .int .u64 (dg n 1), .int .u64 (dg n 2), .int .u64 (dg n 3)]) ∧ Below w.heap.size w w' := by
  have H := Lib.hid (dg_small h)
  have r1 := and32 n (by omega)
  have r2 : (n : Int) / 4294967296 = ((n / 4294967296 : Nat) : Int) := rfl
  generalize n % 4294967296 = a at *
  generalize n / 4294967296 = b at *
  go_enter Try.func99, Try.ntmps99
  go_wp2
  refine bodyPost_ret (v := .agg #[.int .u64 a, .int .u64 b, .int .u64 0, .int .u64 0]) (by simp [results, Try.results99, go_sem]) rfl ⟨by rw [H.out.1, H.out.2.1, H.out.2.2.1, H.out.2.2.2]; rfl, ?_⟩
  repeat (refine Below.setCell ?_ (by first | omega | (simp; done) | (simp; omega)) _)
  exact ba1 _ _

set_option maxHeartbeats 800000 in
theorem small_any (x : Nat) (w : World) (hx : x < 340282366920938463463374607431768211456) :
    Calls Try.prog 100 #[.agg #[.int .u64 (dg x 0), .int .u64 (dg x 1), .int .u64 (dg x 2), .int .u64 (dg x 3)]] w fun e w' => e = .returned (.tuple #[.int .i64 (x % 9223372036854775808 : Nat), .bool (decide (x ≤ 1000000000000000000))]) ∧ Below w.heap.size w w' := by
  have HS := Lib.hid (dg_sum x hx)
  have l0 := dg_lt x 0
  have l1 := dg_lt x 1
  have l2 := dg_lt x 2
  have l3 := dg_lt x 3
  generalize dg x 0 = a at *
  generalize dg x 1 = b at *
  generalize dg x 2 = c at *
  generalize dg x 3 = d at *
  have r1 := or32 a b l0 l1
  have r2 := and63 (b * 4294967296 + a) (by omega)
  have hm : (b * 4294967296 + a) % 9223372036854775808 = x % 9223372036854775808 := by have := HS.out; omega
  rw [hm] at r2
  have hn : b * 4294967296 + a < 18446744073709551616 := by omega
  generalize hN : b * 4294967296 + a = N at *
  have HN := Lib.hid hN
  have HX : Hid (x = N + c * 18446744073709551616 + d * 79228162514264337593543950336) := by show x = _; have := HS.out; omega
  have hM : x % 9223372036854775808 < 9223372036854775808 := Nat.mod_lt _ (by decide)
  generalize x % 9223372036854775808 = M at *
  clear hN hm hx
  by_cases hc : c = 0
  · subst hc
    by_cases hd : d = 0
    · subst hd
      have H : Hid (decide (x ≤ 1000000000000000000) = decide ((N : Int) ≤ 1000000000000000000)) := by
        show _ = _
        have := HX.out
        exact decide_eq_decide.2 (by omega)
      go_enter Try.func100, Try.ntmps100
      go_wp2
      go_ret2
      exact ⟨by rw [H.out]; try rfl, ba1 _ _⟩
    · have b1 : ((d : Int) == 0) = false := by simpa using hd
      have H : Hid (decide (x ≤ 1000000000000000000) = false) := by show _ = _; have := HX.out; simp; omega
      clear hd
      go_enter Try.func100, Try.ntmps100
      go_wp2
      go_ret2
      exact ⟨by rw [H.out]; try rfl, ba1 _ _⟩
  · have b1 : ((c : Int) == 0) = false := by simpa using hc
    have H : Hid (decide (x ≤ 1000000000000000000) = false) := by show _ = _; have := HX.out; simp; omega
    clear hc
    go_enter Try.func100, Try.ntmps100
    go_wp2
    go_ret2
    exact ⟨by rw [H.out]; try rfl, ba1 _ _⟩

set_option maxHeartbeats 800000 in
theorem lowest_any (neg : Bool) (x y : Nat) (w : World) (hx : x < 340282366920938463463374607431768211456) (hy : y < 340282366920938463463374607431768211456) :
    Calls Try.prog 70 #[.bool neg, .agg #[.int .u64 (dg x 0), .int .u64 (dg x 1), .int .u64 (dg x 2), .int .u64 (dg x 3)], .agg #[.int .u64 (dg y 0), .int .u64 (dg y 1), .int .u64 (dg y 2), .int .u64 (dg y 3)]] w fun e w' =>
      e = .returned (.tuple #[.agg #[.int .i64 (bld neg x y).n, .int .i64 (bld neg x y).d], .int .i64 (bld neg x y).e]) ∧ Below w.heap.size w w' := by
  have mx : x ≤ 1000000000000000000 → x % 9223372036854775808 = x := fun h => Nat.mod_eq_of_lt (by omega)
  have my : y ≤ 1000000000000000000 → y % 9223372036854775808 = y := fun h => Nat.mod_eq_of_lt (by omega)
  have MX := Lib.hid mx
  have MY := Lib.hid my
  clear mx my
  have LX : Hid (x % 9223372036854775808 < 9223372036854775808) := Nat.mod_lt _ (by decide)
  have LY : Hid (y % 9223372036854775808 < 9223372036854775808) := Nat.mod_lt _ (by decide)
  by_cases h : x ≤ 1000000000000000000 ∧ y ≤ 1000000000000000000
  · obtain ⟨h1, h2⟩ := h
    have b1 : decide (x ≤ 1000000000000000000) = true := by simpa using h1
    have b2 : decide (y ≤ 1000000000000000000) = true := by simpa using h2
    have H := Lib.hid (bld_yes (neg := neg) (num := x) (den := y) (by omega))
    cases neg
    · go_enter Try.func70, Try.ntmps70
      go_wp2_with fail
      refine (small_any x _ hx).mono ?_
      rintro e w1 ⟨rfl, hb1⟩
      rw [MX.out h1]
      obtain ⟨c1, f1⟩ := bcell hb1
      have z1 := (hb1).size
      try simp at z1
      try simp at c1
      try simp at f1
      have z1a : w.heap.size < w1.heap.size := by omega
      have z1b : w.heap.size + 1 < w1.heap.size := by omega
      have z1c : w.heap.size + 1 + 1 < w1.heap.size := by omega
      go_wp2_with fail
      refine (small_any y _ hy).mono ?_
      rintro e w2 ⟨rfl, hb2⟩
      rw [MY.out h2]
      obtain ⟨c2, f2⟩ := bcell hb2
      have z2 := (hb2).size
      try simp at z2
      try simp at c2
      try simp at f2
      have z2a : w.heap.size < w2.heap.size := by omega
      have z2b : w.heap.size + 1 < w2.heap.size := by omega
      have z2c : w.heap.size + 1 + 1 < w2.heap.size := by omega
      go_wp2
      refine bodyPost_ret (v := .tuple #[.agg #[.int .i64 x, .int .i64 y], .int .i64 0]) (by simp [results, Try.results70, go_sem, c1, c2, z1c]) rfl ⟨by rw [H.out]; try rfl, ?_⟩
      repeat (refine Below.setCell ?_ (by first | omega | (simp; done) | (simp; omega)) _)
      exact below_to (below_to (ba3 _ _ _ _) hb1) hb2
    · go_enter Try.func70, Try.ntmps70
      go_wp2_with fail
      refine (small_any x _ hx).mono ?_
      rintro e w1 ⟨rfl, hb1⟩
      rw [MX.out h1]
      obtain ⟨c1, f1⟩ := bcell hb1
      have z1 := (hb1).size
      try simp at z1
      try simp at c1
      try simp at f1
      have z1a : w.heap.size < w1.heap.size := by omega
      have z1b : w.heap.size + 1 < w1.heap.size := by omega
      have z1c : w.heap.size + 1 + 1 < w1.heap.size := by omega
      go_wp2_with fail
      refine (small_any y _ hy).mono ?_
      rintro e w2 ⟨rfl, hb2⟩
      rw [MY.out h2]
      obtain ⟨c2, f2⟩ := bcell hb2
      have z2 := (hb2).size
      try simp at z2
      try simp at c2
      try simp at f2
      have z2a : w.heap.size < w2.heap.size := by omega
      have z2b : w.heap.size + 1 < w2.heap.size := by omega
      have z2c : w.heap.size + 1 + 1 < w2.heap.size := by omega
      go_wp2
      refine bodyPost_ret (v := .tuple #[.agg #[.int .i64 (-x), .int .i64 y], .int .i64 0]) (by simp [results, Try.results70, go_sem, c1, c2, z1c]) rfl ⟨by rw [H.out]; try rfl, ?_⟩
      repeat (refine Below.setCell ?_ (by first | omega | (simp; done) | (simp; omega)) _)
      exact below_to (below_to (ba3 _ _ _ _) hb1) hb2
  · have H := Lib.hid (bld_no (neg := neg) (num := x) (den := y) (by omega))
    by_cases h1 : x ≤ 1000000000000000000
    · have b1 : decide (x ≤ 1000000000000000000) = true := by simpa using h1
      have b2 : decide (y ≤ 1000000000000000000) = false := by simp; omega
      clear h h1
      go_enter Try.func70, Try.ntmps70
      go_wp2_with fail
      refine (small_any x _ hx).mono ?_
      rintro e w1 ⟨rfl, hb1⟩
      obtain ⟨c1, f1⟩ := bcell hb1
      have z1 := (hb1).size
      try simp at z1
      try simp at c1
      try simp at f1
      have z1a : w.heap.size < w1.heap.size := by omega
      have z1b : w.heap.size + 1 < w1.heap.size := by omega
      have z1c : w.heap.size + 1 + 1 < w1.heap.size := by omega
      go_wp2_with fail
      refine (small_any y _ hy).mono ?_
      rintro e w2 ⟨rfl, hb2⟩
      obtain ⟨c2, f2⟩ := bcell hb2
      have z2 := (hb2).size
      try simp at z2
      try simp at c2
      try simp at f2
      have z2a : w.heap.size < w2.heap.size := by omega
      have z2b : w.heap.size + 1 < w2.heap.size := by omega
      have z2c : w.heap.size + 1 + 1 < w2.heap.size := by omega
      go_wp2
      refine bodyPost_ret (v := .tuple #[.agg #[.int .i64 0, .int .i64 0], .int .i64 16]) (by simp [results, Try.results70, go_sem, c1, c2, z1c]) rfl ⟨by rw [H.out]; try rfl, ?_⟩
      repeat (refine Below.setCell ?_ (by first | omega | (simp; done) | (simp; omega)) _)
      exact below_to (below_to (ba3 _ _ _ _) hb1) hb2
    · have b1 : decide (x ≤ 1000000000000000000) = false := by simp; omega
      clear h h1
      go_enter Try.func70, Try.ntmps70
      go_wp2_with fail
      refine (small_any x _ hx).mono ?_
      rintro e w1 ⟨rfl, hb1⟩
      obtain ⟨c1, f1⟩ := bcell hb1
      have z1 := (hb1).size
      try simp at z1
      try simp at c1
      try simp at f1
      have z1a : w.heap.size < w1.heap.size := by omega
      have z1b : w.heap.size + 1 < w1.heap.size := by omega
      have z1c : w.heap.size + 1 + 1 < w1.heap.size := by omega
      go_wp2_with fail
      refine (small_any y _ hy).mono ?_
      rintro e w2 ⟨rfl, hb2⟩
      obtain ⟨c2, f2⟩ := bcell hb2
      have z2 := (hb2).size
      try simp at z2
      try simp at c2
      try simp at f2
      have z2a : w.heap.size < w2.heap.size := by omega
      have z2b : w.heap.size + 1 < w2.heap.size := by omega
      have z2c : w.heap.size + 1 + 1 < w2.heap.size := by omega
      go_wp2
      refine bodyPost_ret (v := .tuple #[.agg #[.int .i64 0, .int .i64 0], .int .i64 16]) (by simp [results, Try.results70, go_sem, c1, c2, z1c]) rfl ⟨by rw [H.out]; try rfl, ?_⟩
      repeat (refine Below.setCell ?_ (by first | omega | (simp; done) | (simp; omega)) _)
      exact below_to (below_to (ba3 _ _ _ _) hb1) hb2

theorem big_of (m : Int) (n : Nat) (w : World) (hm : m = n) (h : n ≤ 18446744073709551615) :
    Calls Try.prog 99 #[.int .u64 m] w fun e w' => e = .returned (.agg #[.int .u64 (dg n 0), .int .u64 (dg n 1), .int .u64 (dg n 2), .int .u64 (dg n 3)]) ∧ Below w.heap.size w w' := by
  subst hm; exact big_any n w h
theorem mul_bd {a b : Nat} (ha : a < 4294967296) (hb : b < 4294967296) : 0 ≤ (a : Int) * b ∧ (a : Int) * b ≤ 18446744065119617025 := by
  have h := Nat.mul_le_mul (show a ≤ 4294967295 by omega) (show b ≤ 4294967295 by omega)
  rw [← Int.natCast_mul]
  generalize a * b = c at *
  omega
theorem and32' (z : Int) (n : Nat) (hz : z = n) (hn : n < 18446744073709551616) : bits BinOp.and IntKind.u64 z 4294967295 = ((n % 4294967296 : Nat) : Int) := by subst hz; exact and32 n hn

/-- The steps of a product of two numbers of two digits. -/
structure Prod4 (x0 x1 y0 y1 : Nat) where
  a0 : Nat
  c0 : Nat
  a1 : Nat
  c1 : Nat
  b1 : Nat
  e0 : Nat
  b2 : Nat
  e1 : Nat
  l0 : a0 < 4294967296
  l1 : a1 < 4294967296
  l2 : b1 < 4294967296
  l3 : b2 < 4294967296
  m0 : c0 < 4294967296
  m1 : c1 < 4294967296
  m2 : e0 < 4294967296
  m3 : e1 < 4294967296
  r1 : bits BinOp.and IntKind.u64 ((x0 : Int) * y0) 4294967295 = a0
  r2 : ((x0 : Int) * y0) / 4294967296 = c0
  r3 : bits BinOp.and IntKind.u64 ((c0 : Int) + (x0 : Int) * y1) 4294967295 = a1
  r4 : ((c0 : Int) + (x0 : Int) * y1) / 4294967296 = c1
  r5 : bits BinOp.and IntKind.u64 ((a1 : Int) + (x1 : Int) * y0) 4294967295 = b1
  r6 : ((a1 : Int) + (x1 : Int) * y0) / 4294967296 = e0
  r7 : bits BinOp.and IntKind.u64 ((e0 : Int) + ((c1 : Int) + (x1 : Int) * y1)) 4294967295 = b2
  r8 : ((e0 : Int) + ((c1 : Int) + (x1 : Int) * y1)) / 4294967296 = e1
  total : (x0 + x1 * 4294967296) * (y0 + y1 * 4294967296) = a0 + b1 * 4294967296 + b2 * 18446744073709551616 + e1 * 79228162514264337593543950336
theorem step32 (p : Nat) (h : p < 18446744073709551616) : p % 4294967296 < 4294967296 ∧ p / 4294967296 < 4294967296 ∧ p = p % 4294967296 + p / 4294967296 * 4294967296 := by omega
theorem prod4 {x0 x1 y0 y1 : Nat} (hx0 : x0 < 4294967296) (hx1 : x1 < 4294967296) (hy0 : y0 < 4294967296) (hy1 : y1 < 4294967296) : Nonempty (Prod4 x0 x1 y0 y1) := by
  have p00 := Nat.mul_le_mul (show x0 ≤ 4294967295 by omega) (show y0 ≤ 4294967295 by omega)
  have p01 := Nat.mul_le_mul (show x0 ≤ 4294967295 by omega) (show y1 ≤ 4294967295 by omega)
  have p10 := Nat.mul_le_mul (show x1 ≤ 4294967295 by omega) (show y0 ≤ 4294967295 by omega)
  have p11 := Nat.mul_le_mul (show x1 ≤ 4294967295 by omega) (show y1 ≤ 4294967295 by omega)
  have hd : (x0 + x1 * 4294967296) * (y0 + y1 * 4294967296) = x0 * y0 + (x0 * y1) * 4294967296 + (x1 * y0) * 4294967296 + (x1 * y1) * 18446744073709551616 := by
    rw [Nat.add_mul, Nat.mul_add, Nat.mul_add]
    rw [show x0 * (y1 * 4294967296) = (x0 * y1) * 4294967296 from (Nat.mul_assoc _ _ _).symm]
    rw [show x1 * 4294967296 * y0 = (x1 * y0) * 4294967296 from by rw [Nat.mul_assoc, Nat.mul_comm 4294967296 y0, Nat.mul_assoc]]
    rw [show x1 * 4294967296 * (y1 * 4294967296) = (x1 * y1) * 18446744073709551616 from by
      rw [Nat.mul_assoc, ← Nat.mul_assoc 4294967296 y1, Nat.mul_comm 4294967296 y1, Nat.mul_assoc y1, ← Nat.mul_assoc x1]]
    omega
  have q00 : (x0 : Int) * y0 = ((x0 * y0 : Nat) : Int) := (Int.natCast_mul _ _).symm
  have q01 : (x0 : Int) * y1 = ((x0 * y1 : Nat) : Int) := (Int.natCast_mul _ _).symm
  have q10 : (x1 : Int) * y0 = ((x1 * y0 : Nat) : Int) := (Int.natCast_mul _ _).symm
  have q11 : (x1 : Int) * y1 = ((x1 * y1 : Nat) : Int) := (Int.natCast_mul _ _).symm
  generalize x0 * y0 = P00 at *
  generalize x0 * y1 = P01 at *
  generalize x1 * y0 = P10 at *
  generalize x1 * y1 = P11 at *
  obtain ⟨s1, s2, s3⟩ := step32 P00 (by omega)
  generalize ha0 : P00 % 4294967296 = a0 at *
  generalize hc0 : P00 / 4294967296 = c0 at *
  obtain ⟨s4, s5, s6⟩ := step32 (c0 + P01) (by omega)
  generalize ha1 : (c0 + P01) % 4294967296 = a1 at *
  generalize hc1 : (c0 + P01) / 4294967296 = c1 at *
  obtain ⟨s7, s8, s9⟩ := step32 (a1 + P10) (by omega)
  generalize hb1 : (a1 + P10) % 4294967296 = b1 at *
  generalize he0 : (a1 + P10) / 4294967296 = e0 at *
  obtain ⟨t1, t2, t3⟩ := step32 (e0 + (c1 + P11)) (by omega)
  generalize hb2 : (e0 + (c1 + P11)) % 4294967296 = b2 at *
  generalize he1 : (e0 + (c1 + P11)) / 4294967296 = e1 at *
  exact ⟨⟨a0, c0, a1, c1, b1, e0, b2, e1, s1, s4, s7, t1, s2, s5, s8, t2,
    by rw [q00, and32 _ (by omega), ha0], by rw [q00]; omega,
    by rw [q01, and32' _ (c0 + P01) (by omega) (by omega), ha1], by rw [q01]; omega,
    by rw [q10, and32' _ (a1 + P10) (by omega) (by omega), hb1], by rw [q10]; omega,
    by rw [q11, and32' _ (e0 + (c1 + P11)) (by omega) (by omega), hb2], by rw [q11]; omega, by rw [hd]; omega⟩⟩


end Go.Proofs.Ytpjhiojdnebgoaa

/- What is proved here: the contracts of the reference's Product, below, Both, Less and Cmp of fractions. Condition: the numbers are 64-bit integers. -/
namespace Go.Proofs.Ytpjhiojdnebgoaa
open Go.RowKit
set_option maxRecDepth 100000 in
set_option maxHeartbeats 4000000 in
theorem product_any (a b : Nat) (w : World) (ha : a ≤ 18446744073709551615) (hb : b ≤ 18446744073709551615) :
    Calls Try.prog 64 #[.int .u64 a, .int .u64 b] w fun e w' => e = .returned (.agg #[.int .u64 (dg (a * b) 0), .int .u64 (dg (a * b) 1), .int .u64 (dg (a * b) 2), .int .u64 (dg (a * b) 3)]) ∧ Below w.heap.size w w' := by
  obtain ⟨u1, u2, u3, u4⟩ := dg_small ha
  obtain ⟨v1, v2, v3, v4⟩ := dg_small hb
  have hx0 := dg_lt a 0
  have hx1 := dg_lt a 1
  have hy0 := dg_lt b 0
  have hy1 := dg_lt b 1
  have hA : a = dg a 0 + dg a 1 * 4294967296 := by rw [u1, u2]; omega
  have hB : b = dg b 0 + dg b 1 * 4294967296 := by rw [v1, v2]; omega
  obtain ⟨p⟩ := prod4 hx0 hx1 hy0 hy1
  obtain ⟨a0, c0, a1, c1, b1, e0, b2, e1, l0, l1, l2, l3, m0, m1, m2, m3, r1, r2, r3, r4, r5, r6, r7, r8, tot⟩ := p
  rw [← hA, ← hB] at tot
  have HD := Lib.hid (dg_of l0 l2 l3 m3 tot)
  clear tot hA hB u1 u2 v1 v2
  have U3 := Lib.hid u3
  have U4 := Lib.hid u4
  have V3 := Lib.hid v3
  have V4 := Lib.hid v4
  clear u3 u4 v3 v4
  have k00 := mul_bd hx0 hy0
  have k01 := mul_bd hx0 hy1
  have k10 := mul_bd hx1 hy0
  have k11 := mul_bd hx1 hy1
  go_enter Try.func64, Try.ntmps64
  go_wp2_with fail
  refine (big_any a _ ha).mono ?_
  rintro e w1 ⟨rfl, hb1⟩
  rw [U3.out, U4.out]
  obtain ⟨g1, f1⟩ := bcell hb1
  have z1 := (hb1).size
  try simp at z1
  try simp at g1
  try simp at f1
  have z1a : w.heap.size < w1.heap.size := by omega
  go_wp2_with fail
  refine (big_any b _ hb).mono ?_
  rintro e w2 ⟨rfl, hb2⟩
  rw [V3.out, V4.out]
  obtain ⟨g2, f2⟩ := bcell hb2
  have z2 := (hb2).size
  try simp at z2
  try simp at g2
  try simp at f2
  have z2a : w.heap.size < w2.heap.size := by omega
  generalize dg a 0 = x0 at *
  generalize dg a 1 = x1 at *
  generalize dg b 0 = y0 at *
  generalize dg b 1 = y1 at *
  go_wp2
  refine wp_loop_rounds 3 ?_
  rw [rounds_succ]
  go_wp2
  refine wp_loop_rounds 3 ?_
  rw [rounds_succ]
  go_wp2
  go_quiet (fail)
  go_wp2
  rw [rounds_succ]
  go_wp2
  go_quiet (fail)
  go_wp2
  rw [rounds_succ]
  go_wp2
  rw [rounds_succ]
  go_wp2
  refine wp_loop_rounds 3 ?_
  rw [rounds_succ]
  go_wp2
  go_quiet (fail)
  go_wp2
  rw [rounds_succ]
  go_wp2
  go_quiet (fail)
  go_wp2
  rw [rounds_succ]
  go_wp2
  have oR := (((((Own.new w 98 [.int .u64 0, .int .u64 0, .int .u64 0, .int .u64 0]).below hb1).below hb2).alloc (.cells #[.int .u64 x0, .int .u64 x1, .int .u64 0, .int .u64 0] 98)).alloc (.cells #[.int .u64 y0, .int .u64 y1, .int .u64 0, .int .u64 0] 98)).alloc (.cells #[.int .u64 0, .int .u64 0, .int .u64 0, .int .u64 0] 98)
  have hB := below_to (below_to (below_to (ba1 _ _) hb1) hb2) (ba3 w2 (.cells #[.int .u64 x0, .int .u64 x1, .int .u64 0, .int .u64 0] 98) (.cells #[.int .u64 y0, .int .u64 y1, .int .u64 0, .int .u64 0] 98) (.cells #[.int .u64 0, .int .u64 0, .int .u64 0, .int .u64 0] 98))
  have hne : w.heap.size ≠ w2.heap.size + 1 + 1 := by omega
  refine rounds_gen (fun W => Own W (w2.heap.size + 1 + 1) 98 [.int .u64 a0, .int .u64 b1, .int .u64 b2, .int .u64 e1] ∧ Own W w.heap.size 98 [.int .u64 0, .int .u64 0, .int .u64 0, .int .u64 0] ∧ Below w.heap.size w W) ?_ ?_
  · refine ⟨?_, ?_, ?_⟩
    · exact ((((((((((own_third w2 _ _ _ _).drewN _).set 0 _).drewN _).set 1 _).set 2 _).drewN _).set 1 _).drewN _).set 2 _).set 3 _
    · exact ((((((((((oR.drewN _).other hne 0 _).drewN _).other hne 1 _).other hne 2 _).drewN _).other hne 1 _).drewN _).other hne 2 _).other hne 3 _)
    · repeat (first | refine Below.setCell ?_ (by simp; omega) _ | refine bd ?_ _)
      exact hB
  · clear oR hB g1 f1 g2 f2 r1 r2 r3 r4 r5 r6 r7 r8
    rintro W ⟨oO, oR, hB⟩
    obtain ⟨c3, f3⟩ := oO.rules
    obtain ⟨c4, f4⟩ := oR.rules
    rw [rounds_succ]
    go_wp2
    refine bodyPost_ret (v := .agg #[.int .u64 a0, .int .u64 b1, .int .u64 b2, .int .u64 e1]) (by simp [results, Try.results64, go_sem, c4]) rfl ⟨by rw [HD.out.1, HD.out.2.1, HD.out.2.2.1, HD.out.2.2.2], ?_⟩
    repeat (refine Below.setCell ?_ (by first | omega | (simp; done) | (simp; omega)) _)
    exact hB
set_option maxRecDepth 100000 in
set_option maxHeartbeats 4000000 in
theorem bbelow_any (x y : Nat) (w : World) (hx : x < 340282366920938463463374607431768211456) (hy : y < 340282366920938463463374607431768211456) :
    Calls Try.prog 67 #[.agg #[.int .u64 (dg x 0), .int .u64 (dg x 1), .int .u64 (dg x 2), .int .u64 (dg x 3)], .agg #[.int .u64 (dg y 0), .int .u64 (dg y 1), .int .u64 (dg y 2), .int .u64 (dg y 3)]] w fun e w' => e = .returned (.bool (decide (x < y))) ∧ Below w.heap.size w w' := by
  have HX := Lib.hid (dg_sum x hx)
  have HY := Lib.hid (dg_sum y hy)
  clear hx hy
  have lx0 := dg_lt x 0
  have lx1 := dg_lt x 1
  have lx2 := dg_lt x 2
  have lx3 := dg_lt x 3
  have ly0 := dg_lt y 0
  have ly1 := dg_lt y 1
  have ly2 := dg_lt y 2
  have ly3 := dg_lt y 3
  generalize dg x 0 = x0 at *
  generalize dg x 1 = x1 at *
  generalize dg x 2 = x2 at *
  generalize dg x 3 = x3 at *
  generalize dg y 0 = y0 at *
  generalize dg y 1 = y1 at *
  generalize dg y 2 = y2 at *
  generalize dg y 3 = y3 at *
  go_enter Try.func67, Try.ntmps67
  go_wp2
  refine wp_loop_rounds 5 ?_
  rw [rounds_succ]
  go_wp2
  by_cases h3 : x3 = y3
  case neg =>
    have q : ((x3 : Int) != (y3 : Int)) = true := by simp; omega
    have H : Hid (decide (x < y) = decide (x3 < y3)) := by
      show _ = _
      have h1 := HX.out
      have h2 := HY.out
      exact decide_eq_decide.2 (by omega)
    clear h3
    go_quiet (fail)
    go_wp2
    go_quiet (fail)
    go_wp2
    go_ret
    exact ⟨by rw [H.out]; try rfl, by (repeat (refine bd ?_ _)); exact ba2 _ _ _⟩
  have q3 : ((x3 : Int) != (y3 : Int)) = false := by simp; omega
  have G3 := Lib.hid h3
  clear h3
  go_quiet (fail)
  go_wp2
  rw [rounds_succ]
  go_wp2
  by_cases h2 : x2 = y2
  case neg =>
    have q : ((x2 : Int) != (y2 : Int)) = true := by simp; omega
    have H : Hid (decide (x < y) = decide (x2 < y2)) := by
      show _ = _
      have h1 := HX.out
      have h2 := HY.out
      have g3 := G3.out
      exact decide_eq_decide.2 (by omega)
    clear h2
    go_quiet (fail)
    go_wp2
    go_quiet (fail)
    go_wp2
    go_ret
    exact ⟨by rw [H.out]; try rfl, by (repeat (refine bd ?_ _)); exact ba2 _ _ _⟩
  have q2 : ((x2 : Int) != (y2 : Int)) = false := by simp; omega
  have G2 := Lib.hid h2
  clear h2
  go_quiet (fail)
  go_wp2
  rw [rounds_succ]
  go_wp2
  by_cases h1 : x1 = y1
  case neg =>
    have q : ((x1 : Int) != (y1 : Int)) = true := by simp; omega
    have H : Hid (decide (x < y) = decide (x1 < y1)) := by
      show _ = _
      have h1 := HX.out
      have h2 := HY.out
      have g3 := G3.out
      have g2 := G2.out
      exact decide_eq_decide.2 (by omega)
    clear h1
    go_quiet (fail)
    go_wp2
    go_quiet (fail)
    go_wp2
    go_ret
    exact ⟨by rw [H.out]; try rfl, by (repeat (refine bd ?_ _)); exact ba2 _ _ _⟩
  have q1 : ((x1 : Int) != (y1 : Int)) = false := by simp; omega
  have G1 := Lib.hid h1
  clear h1
  go_quiet (fail)
  go_wp2
  rw [rounds_succ]
  go_wp2
  by_cases h0 : x0 = y0
  case neg =>
    have q : ((x0 : Int) != (y0 : Int)) = true := by simp; omega
    have H : Hid (decide (x < y) = decide (x0 < y0)) := by
      show _ = _
      have h1 := HX.out
      have h2 := HY.out
      have g3 := G3.out
      have g2 := G2.out
      have g1 := G1.out
      exact decide_eq_decide.2 (by omega)
    clear h0
    go_quiet (fail)
    go_wp2
    go_quiet (fail)
    go_wp2
    go_ret
    exact ⟨by rw [H.out]; try rfl, by (repeat (refine bd ?_ _)); exact ba2 _ _ _⟩
  have q0 : ((x0 : Int) != (y0 : Int)) = false := by simp; omega
  have G0 := Lib.hid h0
  clear h0
  go_quiet (fail)
  go_wp2
  rw [rounds_succ]
  go_wp2
  go_ret
  have H : decide (x < y) = false := by
    have h1 := HX.out
    have h2 := HY.out
    have g3 := G3.out
    have g2 := G2.out
    have g1 := G1.out
    have g0 := G0.out
    have g0 := G0.out
    have g1 := G1.out
    have g2 := G2.out
    have g3 := G3.out
    simp
    omega
  exact ⟨by rw [H]; try rfl, by (repeat (refine bd ?_ _)); exact ba2 _ _ _⟩

theorem rfrboth_any (an ad bn bd : Int) (w : World) (h1 : i64 an) (h2 : i64 ad) (h3 : i64 bn) (h4 : i64 bd) :
    Calls Try.prog 61 #[.agg #[.int .i64 an, .int .i64 ad], .agg #[.int .i64 bn, .int .i64 bd]] w fun e w' => e = .returned (.int .i64 (fboth an ad bn bd)) ∧ Below w.heap.size w w' := by
  by_cases p : fchk an ad = 0
  · have H := Lib.hid (fboth_0 (bn := bn) (bd := bd) p)
    have b1 : (fchk an ad != 0) = false := by simp [p]
    clear p
    go_enter Try.func61, Try.ntmps61
    go_wp2_with fail
    refine (rcheck_any _ _ _ h1 h2).mono ?_
    rintro e w1 ⟨rfl, hb1⟩
    obtain ⟨c1, f1⟩ := bcell hb1
    have z1 := (hb1).size
    try simp at z1
    try simp at c1
    try simp at f1
    have z1a : w.heap.size < w1.heap.size := by omega
    have z1b : w.heap.size + 1 < w1.heap.size := by omega
    go_wp2_with fail
    refine (rcheck_any _ _ _ h3 h4).mono ?_
    rintro e w2 ⟨rfl, hb2⟩
    go_wp2
    go_ret
    exact ⟨by rw [H.out]; try rfl, below_to (below_to (ba2 _ _ _) hb1) hb2⟩
  · have H := Lib.hid (fboth_1 (bn := bn) (bd := bd) p)
    have b1 : (fchk an ad != 0) = true := by simp [p]
    clear p
    go_enter Try.func61, Try.ntmps61
    go_wp2_with fail
    refine (rcheck_any _ _ _ h1 h2).mono ?_
    rintro e w1 ⟨rfl, hb1⟩
    obtain ⟨c1, f1⟩ := bcell hb1
    have z1 := (hb1).size
    try simp at z1
    try simp at c1
    try simp at f1
    have z1a : w.heap.size < w1.heap.size := by omega
    have z1b : w.heap.size + 1 < w1.heap.size := by omega
    go_wp2_with fail
    refine (rcheck_any _ _ _ h1 h2).mono ?_
    rintro e w2 ⟨rfl, hb2⟩
    go_wp2
    go_ret
    exact ⟨by rw [H.out]; try rfl, below_to (below_to (ba2 _ _ _) hb1) hb2⟩

end Go.Proofs.Ytpjhiojdnebgoaa

/- What is proved here: small forms of the contracts of Product and abs; the order of two fractions decides their equality. Condition: 64-bit numbers. -/
namespace Go.Proofs.Ytpjhiojdnebgoaa
open Go.RowKit

theorem product_of (m n : Int) (a b : Nat) (w : World) (hm : m = a) (hn : n = b) (ha : a ≤ 18446744073709551615) (hb : b ≤ 18446744073709551615) :
    Calls Try.prog 64 #[.int .u64 m, .int .u64 n] w fun e w' => e = .returned (.agg #[.int .u64 (dg (a * b) 0), .int .u64 (dg (a * b) 1), .int .u64 (dg (a * b) 2), .int .u64 (dg (a * b) 3)]) ∧ Below w.heap.size w w' := by
  subst hm hn; exact product_any a b w ha hb
theorem abs_grow (n : Int) (w : World) (h1 : -9223372036854775808 ≤ n) (h2 : n ≤ 9223372036854775807) :
    Calls Try.prog 65 #[.int .i64 n] w fun e w' => e = .returned (.int .u64 (n.natAbs : Int)) ∧ Below w.heap.size w w' :=
  (abs_any n w h1 h2).mono fun e w' ⟨he, hw⟩ => ⟨he, by subst hw; exact Below.refl _ _⟩

theorem fcmp_self (n d : Int) : fcmp n d n d = 0 := by unfold fcmp; rw [if_neg (by omega), if_pos rfl]
theorem fcmp_eq {an ad bn bd : Int} (h1 : fchk an ad = 0) (h2 : fchk bn bd = 0) (h : fcmp an ad bn bd = 0) : an = bn ∧ ad = bd := by
  obtain ⟨u1, u2, u3, u4, u5⟩ := fok_of h1
  obtain ⟨v1, v2, v3, v4, v5⟩ := fok_of h2
  have he : an * bd = bn * ad := by
    unfold fcmp at h; split at h
    · omega
    · split at h
      · assumption
      · omega
  have hn : an.natAbs * bd.natAbs = bn.natAbs * ad.natAbs := by rw [← Int.natAbs_mul, ← Int.natAbs_mul, he]
  have d1 : bd.natAbs ∣ ad.natAbs := by
    have : bd.natAbs ∣ bn.natAbs * ad.natAbs := ⟨an.natAbs, by rw [← hn, Nat.mul_comm]⟩
    exact (Nat.Coprime.dvd_of_dvd_mul_left (Nat.Coprime.symm v5) this)
  have d2 : ad.natAbs ∣ bd.natAbs := by
    have : ad.natAbs ∣ an.natAbs * bd.natAbs := ⟨bn.natAbs, by rw [hn, Nat.mul_comm]⟩
    exact (Nat.Coprime.dvd_of_dvd_mul_left (Nat.Coprime.symm u5) this)
  have e1 := Nat.dvd_antisymm d1 d2
  have e2 : ad = bd := by omega
  subst e2
  exact ⟨Int.eq_of_mul_eq_mul_right (by omega) he, rfl⟩
theorem fcmp_cases (an ad bn bd : Int) : fcmp an ad bn bd = -1 ∨ fcmp an ad bn bd = 0 ∨ fcmp an ad bn bd = 1 := by
  unfold fcmp; split
  · simp
  · split <;> simp

end Go.Proofs.Ytpjhiojdnebgoaa

/- What is proved here: the contract of frac.Make. Condition: the numbers are 64-bit integers. -/
namespace Go.Proofs.Ytpjhiojdnebgoaa
open Go.RowKit

set_option maxHeartbeats 800000 in
theorem make_any (num den : Int) (w : World) (h1 : i64 num) (h2 : i64 den) :
    Calls Try.prog 80 #[.int .i64 num, .int .i64 den] w fun e w' => e = .returned (.tuple #[.agg #[.int .i64 (fmk num den).n, .int .i64 (fmk num den).d], .int .i64 (fmk num den).e]) ∧ Below w.heap.size w w' := by
  by_cases h : den = 0
  · subst h
    rw [fmk_0]
    go_enter Try.func80, Try.ntmps80
    go_wp2
    exact bodyPost_ret (v := .tuple #[.agg #[.int .i64 0, .int .i64 0], .int .i64 18]) (by simp [results, Try.results80, go_sem]) rfl ⟨rfl, ba1 _ _⟩
  · have H := Lib.hid (fmk_ne (num := num) h)
    obtain ⟨n1, n2⟩ := h1
    obtain ⟨d1, d2⟩ := h2
    have b1 : (den == 0) = false := by simpa using h
    have hg : 0 < Nat.gcd num.natAbs den.natAbs := Nat.gcd_pos_of_pos_right _ (by omega)
    have hgl : Nat.gcd num.natAbs den.natAbs ≤ den.natAbs := Nat.gcd_le_right _ (by omega)
    have na : num.natAbs ≤ 9223372036854775808 := by omega
    have da : den.natAbs ≤ 9223372036854775808 := by omega
    have q1 := quo_bd num.natAbs (Nat.gcd num.natAbs den.natAbs) na
    have q2 := quo_bd den.natAbs (Nat.gcd num.natAbs den.natAbs) da
    have e1 := wrap_quo num.natAbs (Nat.gcd num.natAbs den.natAbs) na
    have e2 := wrap_quo den.natAbs (Nat.gcd num.natAbs den.natAbs) da
    generalize hgg : Nat.gcd num.natAbs den.natAbs = g at *
    have HG := Lib.hid hgg
    have g0 : ((g : Int) == 0) = false := by simp; omega
    have g1 : ¬ ((g : Int) = 0) := by omega
    clear hgg h
    go_enter Try.func80, Try.ntmps80
    go_wp2_with fail
    refine (size_any _ _ (by omega) (by omega)).mono ?_
    rintro e _ ⟨rfl, rfl⟩
    go_wp2_with fail
    refine (size_any _ _ (by omega) (by omega)).mono ?_
    rintro e _ ⟨rfl, rfl⟩
    go_wp2_with fail
    refine (gcd_any _ _ _ (by omega) (by omega)).mono ?_
    rintro e w1 ⟨rfl, nd, rfl⟩
    rw [HG.out]
    go_wp2_with fail
    refine wp_region_st [.t [0, 1, 2, 3, 4, 5, 6, 7, 8, 9, 10], .f 11, .t [12, 13]] [14, 15] (by kernel_rfl) (by kernel_rfl) (fun _ _ _ _ _ h => h) ?_
    refine wpX_t ?_
    try simp only [opsAt, List.getElem?_toArray, List.getElem?_cons_zero, List.getElem?_cons_succ, Option.getD_some]
    repeat (go_big_quiet_step (fail))
    refine wpQuiet_nil ?_
    refine wpX_f rfl rfl (fun K' hK' => ?_)
    go_simp
    refine (build_any _ _ _ _ (by omega) (by omega) (by omega) (by omega)).mono ?_
    rintro e w1 ⟨rfl, hb1⟩
    refine hK' _ _ (grow_of (below_to ((Below.refl _ _).drew) hb1)) ?_
    clear hK' K'
    obtain ⟨c1, f1⟩ := bcell hb1
    have z1 := (hb1).size
    try simp at z1
    try simp at c1
    try simp at f1
    refine wpX_t ?_
    try simp only [opsAt, List.getElem?_toArray, List.getElem?_cons_zero, List.getElem?_cons_succ, Option.getD_some]
    repeat (go_big_quiet_step (fail))
    refine wpQuiet_nil ?_
    refine wpX_nil ?_
    try simp only [opsAt, List.getElem?_toArray, List.getElem?_cons_zero, List.getElem?_cons_succ, Option.getD_some]
    go_wp2
    generalize hr : bld (!decide (num < 0) == decide (den < 0)) (↑num.natAbs / ↑g) (↑den.natAbs / ↑g) = r at *
    have HR : Hid (fmk num den = r) := by show _ = _; rw [H.out, ← hr]; rfl
    clear hr H
    refine bodyPost_ret (v := .tuple #[.agg #[.int .i64 r.n, .int .i64 r.d], .int .i64 r.e]) (by simp [results, Try.results80, go_sem, c1]) rfl ⟨by rw [HR.out], ?_⟩
    repeat (refine Below.setCell ?_ (by first | omega | (simp; done) | (simp; omega)) _)
    exact below_to (ba1 _ _) (below_to (below_drewN _ _) hb1)

end Go.Proofs.Ytpjhiojdnebgoaa

/- What is proved here: the contract of the reference's Make. Condition: the numbers are 64-bit integers. -/
namespace Go.Proofs.Ytpjhiojdnebgoaa
open Go.RowKit

set_option maxHeartbeats 800000 in
theorem rmake_any (num den : Int) (w : World) (h1 : i64 num) (h2 : i64 den) :
    Calls Try.prog 104 #[.int .i64 num, .int .i64 den] w fun e w' => e = .returned (.tuple #[.agg #[.int .i64 (fmk num den).n, .int .i64 (fmk num den).d], .int .i64 (fmk num den).e]) ∧ Below w.heap.size w w' := by
  by_cases h : den = 0
  · subst h
    rw [fmk_0]
    go_enter Try.func104, Try.ntmps104
    go_wp2
    refine bodyPost_ret (v := .tuple #[.agg #[.int .i64 0, .int .i64 0], .int .i64 18]) (by simp [results, Try.results104, go_sem]) rfl ⟨rfl, ?_⟩
    repeat (refine Below.setCell ?_ (by first | omega | (simp; done) | (simp; omega)) _)
    exact ba1 _ _
  · have H := Lib.hid (fmk_ne (num := num) h)
    obtain ⟨n1, n2⟩ := h1
    obtain ⟨d1, d2⟩ := h2
    have b1 : (den == 0) = false := by simpa using h
    have hg : 0 < Nat.gcd num.natAbs den.natAbs := Nat.gcd_pos_of_pos_right _ (by omega)
    have hgl : Nat.gcd num.natAbs den.natAbs ≤ den.natAbs := Nat.gcd_le_right _ (by omega)
    have na : num.natAbs ≤ 9223372036854775808 := by omega
    have da : den.natAbs ≤ 9223372036854775808 := by omega
    have q1 := Nat.div_le_self num.natAbs (Nat.gcd num.natAbs den.natAbs)
    have q2 := Nat.div_le_self den.natAbs (Nat.gcd num.natAbs den.natAbs)
    have e1 := wrap_quo num.natAbs (Nat.gcd num.natAbs den.natAbs) na
    have e2 := wrap_quo den.natAbs (Nat.gcd num.natAbs den.natAbs) da
    have k1 : (num.natAbs : Int) / ((Nat.gcd num.natAbs den.natAbs : Nat) : Int) = ((num.natAbs / Nat.gcd num.natAbs den.natAbs : Nat) : Int) := (Int.natCast_ediv _ _).symm
    have k2 : (den.natAbs : Int) / ((Nat.gcd num.natAbs den.natAbs : Nat) : Int) = ((den.natAbs / Nat.gcd num.natAbs den.natAbs : Nat) : Int) := (Int.natCast_ediv _ _).symm
    have H' : Hid (fmk num den = bld (decide (num < 0) != decide (den < 0)) (num.natAbs / Nat.gcd num.natAbs den.natAbs : Nat) (den.natAbs / Nat.gcd num.natAbs den.natAbs : Nat)) := by show _ = _; rw [H.out, k1, k2]
    clear H
    generalize hgg : Nat.gcd num.natAbs den.natAbs = g at *
    have HG := Lib.hid hgg
    have g0 : ((g : Int) == 0) = false := by simp; omega
    have g1 : ¬ ((g : Int) = 0) := by omega
    clear hgg h
    generalize num.natAbs / g = u at *
    generalize den.natAbs / g = v at *
    go_enter Try.func104, Try.ntmps104
    go_wp2_with fail
    refine (abs_any _ _ (by omega) (by omega)).mono ?_
    rintro e _ ⟨rfl, rfl⟩
    go_wp2_with fail
    refine (abs_any _ _ (by omega) (by omega)).mono ?_
    rintro e _ ⟨rfl, rfl⟩
    go_wp2_with fail
    refine (rgcd_any _ _ _ (by omega) (by omega)).mono ?_
    rintro e w1 ⟨rfl, nd, rfl⟩
    rw [HG.out]
    go_wp2_with fail
    refine (abs_any _ _ (by omega) (by omega)).mono ?_
    rintro e _ ⟨rfl, rfl⟩
    go_wp2_with fail
    refine (big_any u _ (by omega)).mono ?_
    rintro e w1 ⟨rfl, hb1⟩
    obtain ⟨c1, f1⟩ := bcell hb1
    have z1 := (hb1).size
    try simp at z1
    try simp at c1
    try simp at f1
    have z1a : w.heap.size < w1.heap.size := by omega
    go_wp2_with fail
    refine (abs_any _ _ (by omega) (by omega)).mono ?_
    rintro e _ ⟨rfl, rfl⟩
    go_wp2_with fail
    refine (big_any v _ (by omega)).mono ?_
    rintro e w2 ⟨rfl, hb2⟩
    obtain ⟨c2, f2⟩ := bcell hb2
    have z2 := (hb2).size
    try simp at z2
    try simp at c2
    try simp at f2
    have z2a : w.heap.size < w2.heap.size := by omega
    go_wp2_with fail
    refine (lowest_any _ u v _ (by omega) (by omega)).mono ?_
    rintro e w3 ⟨rfl, hb3⟩
    obtain ⟨c3, f3⟩ := bcell hb3
    have z3 := (hb3).size
    try simp at z3
    try simp at c3
    try simp at f3
    have z3a : w.heap.size < w3.heap.size := by omega
    generalize hr : bld (!decide (num < 0) == decide (den < 0)) ↑u ↑v = r at *
    have HR : Hid (fmk num den = r) := by show _ = _; rw [H'.out, ← hr]; try rfl
    clear hr H'
    go_wp2
    refine bodyPost_ret (v := .tuple #[.agg #[.int .i64 r.n, .int .i64 r.d], .int .i64 r.e]) (by simp [results, Try.results104, go_sem, c1, c2, c3, z1a, z2a]) rfl ⟨by rw [HR.out], ?_⟩
    repeat (refine Below.setCell ?_ (by first | omega | (simp; done) | (simp; omega)) _)
    exact below_to (below_to (below_to (below_to (ba1 _ _) (below_drewN _ _)) hb1) hb2) hb3

end Go.Proofs.Ytpjhiojdnebgoaa
