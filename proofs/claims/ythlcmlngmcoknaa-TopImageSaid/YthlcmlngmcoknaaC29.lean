/- What is proved here: contracts of functions and plain facts, several texts in one; each one says ahead what it proves, and its conditions. -/
import Derived.Test.YthlcmlngmcoknaaC04
import Derived.Test.YthlcmlngmcoknaaC28
import Derived.LoopN
import Derived.Test.YthlcmlngmcoknaaC01
import Derived.Test.YthlcmlngmcoknaaC05
import Derived.Test.YthlcmlngmcoknaaC11
import Derived.Test.YthlcmlngmcoknaaC06
/- What is proved here: the contracts of the reference's big, Small and lowest. Condition: the numbers are 64-bit integers. -/
namespace Go.Proofs.Ythlcmlngmcoknaa
open Go.RowKit

/-- A digit to the base 2^32. -/
def dg (x i : Nat) : Nat := x / 4294967296 ^ i % 4294967296
theorem dg_lt (x i : Nat) : dg x i < 4294967296 := Nat.mod_lt _ (by decide)
theorem dg_of {x a b c d : Nat} (ha : a < 4294967296) (hb : b < 4294967296) (hc : c < 4294967296) (hd : d < 4294967296) (h : x = a + b * 4294967296 + c * 18446744073709551616 + d * 79228162514264337593543950336) :
    dg x 0 = a ∧ dg x 1 = b ∧ dg x 2 = c ∧ dg x 3 = d := by
  unfold dg
  refine ⟨?_, ?_, ?_, ?_⟩
  · rw [show 4294967296 ^ 0 = 1 from rfl]; omega
  · rw [show 4294967296 ^ 1 = 4294967296 from rfl]; omega
  · rw [show 4294967296 ^ 2 = 18446744073709551616 from rfl]; omega
  · rw [show 4294967296 ^ 3 = 79228162514264337593543950336 from rfl]; omega
theorem dg_sum (x : Nat) (h : x < 340282366920938463463374607431768211456) : x = dg x 0 + dg x 1 * 4294967296 + dg x 2 * 18446744073709551616 + dg x 3 * 79228162514264337593543950336 := by
  unfold dg
  rw [show 4294967296 ^ 0 = 1 from rfl, show 4294967296 ^ 1 = 4294967296 from rfl, show 4294967296 ^ 2 = 18446744073709551616 from rfl, show 4294967296 ^ 3 = 79228162514264337593543950336 from rfl]
  omega
theorem dg_small {n : Nat} (h : n ≤ 18446744073709551615) : dg n 0 = n % 4294967296 ∧ dg n 1 = n / 4294967296 ∧ dg n 2 = 0 ∧ dg n 3 = 0 := dg_of (by omega) (by omega) (by omega) (by omega) (by omega)

theorem big_any (n : Nat) (w : World) (h : n ≤ 18446744073709551615) :
    Calls Try.prog 151 #[.int .u64 n] w fun e w' => e = .returned (.agg #[.int .u64 (dg n 0), .int .u64 (dg n 1), .int .u64 (dg n 2), .int .u64 (dg n 3)]) ∧ Below w.heap.size w w' := by
  have H := Lib.hid (dg_small h)
  have r1 := and32 n (by omega)
  have r2 : (n : Int) / 4294967296 = ((n / 4294967296 : Nat) : Int) := rfl
  generalize n % 4294967296 = a at *
  generalize n / 4294967296 = b at *
  go_enter Try.func151, Try.ntmps151
  go_wp2
  refine bodyPost_ret (v := .agg #[.int .u64 a, .int .u64 b, .int .u64 0, .int .u64 0]) (by simp [results, Try.results151, go_sem]) rfl ⟨by rw [H.out.1, H.out.2.1, H.out.2.2.1, H.out.2.2.2]; rfl, ?_⟩
  repeat (refine Below.setCell ?_ (by first | omega | (simp; done) | (simp; omega)) _)
  exact ba1 _ _

set_option maxHeartbeats 800000 in
theorem small_any (x : Nat) (w : World) (hx : x < 340282366920938463463374607431768211456) :
    Calls Try.prog 150 #[.agg #[.int .u64 (dg x 0), .int .u64 (dg x 1), .int .u64 (dg x 2), .int .u64 (dg x 3)]] w fun e w' => e = .returned (.tuple #[.int .i64 (x % 9223372036854775808 : Nat), .bool (decide (x ≤ 1000000000000000000))]) ∧ Below w.heap.size w w' := by
  have HS := Lib.hid (dg_sum x hx)
  have l0 := dg_lt x 0
  have l1 := dg_lt x 1
  have l2 := dg_lt x 2
  have l3 := dg_lt x 3
  generalize dg x 0 = a at *
  generalize dg x 1 = b at *
  generalize dg x 2 = c at *
  generalize dg x 3 = d at *
  have r1 := or32 a b l0 l1
  have r2 := and63 (b * 4294967296 + a) (by omega)
  have hm : (b * 4294967296 + a) % 9223372036854775808 = x % 9223372036854775808 := by have := HS.out; omega
  rw [hm] at r2
  have hn : b * 4294967296 + a < 18446744073709551616 := by omega
  generalize hN : b * 4294967296 + a = N at *
  have HN := Lib.hid hN
  have HX : Hid (x = N + c * 18446744073709551616 + d * 79228162514264337593543950336) := by show x = _; have := HS.out; omega
  have hM : x % 9223372036854775808 < 9223372036854775808 := Nat.mod_lt _ (by decide)
  generalize x % 9223372036854775808 = M at *
  clear hN hm hx
  by_cases hc : c = 0
  · subst hc
    by_cases hd : d = 0
    · subst hd
      have H : Hid (decide (x ≤ 1000000000000000000) = decide ((N : Int) ≤ 1000000000000000000)) := by
        show _ = _
        have := HX.out
        exact decide_eq_decide.2 (by omega)
      go_enter Try.func150, Try.ntmps150
      go_wp2
      go_ret2
      exact ⟨by rw [H.out]; try rfl, ba1 _ _⟩
    · have b1 : ((d : Int) == 0) = false := by simpa using hd
      have H : Hid (decide (x ≤ 1000000000000000000) = false) := by show _ = _; have := HX.out; simp; omega
      clear hd
      go_enter Try.func150, Try.ntmps150
      go_wp2
      go_ret2
      exact ⟨by rw [H.out]; try rfl, ba1 _ _⟩
  · have b1 : ((c : Int) == 0) = false := by simpa using hc
    have H : Hid (decide (x ≤ 1000000000000000000) = false) := by show _ = _; have := HX.out; simp; omega
    clear hc
    go_enter Try.func150, Try.ntmps150
    go_wp2
    go_ret2
    exact ⟨by rw [H.out]; try rfl, ba1 _ _⟩

set_option maxHeartbeats 800000 in
theorem lowest_any (neg : Bool) (x y : Nat) (w : World) (hx : x < 340282366920938463463374607431768211456) (hy : y < 340282366920938463463374607431768211456) :
    Calls Try.prog 105 #[.bool neg, .agg #[.int .u64 (dg x 0), .int .u64 (dg x 1), .int .u64 (dg x 2), .int .u64 (dg x 3)], .agg #[.int .u64 (dg y 0), .int .u64 (dg y 1), .int .u64 (dg y 2), .int .u64 (dg y 3)]] w fun e w' =>
      e = .returned (.tuple #[.agg #[.int .i64 (bld neg x y).n, .int .i64 (bld neg x y).d], .int .i64 (bld neg x y).e]) ∧ Below w.heap.size w w' := by
  have mx : x ≤ 1000000000000000000 → x % 9223372036854775808 = x := fun h => Nat.mod_eq_of_lt (by omega)
  have my : y ≤ 1000000000000000000 → y % 9223372036854775808 = y := fun h => Nat.mod_eq_of_lt (by omega)
  have MX := Lib.hid mx
  have MY := Lib.hid my
  clear mx my
  have LX : Hid (x % 9223372036854775808 < 9223372036854775808) := Nat.mod_lt _ (by decide)
  have LY : Hid (y % 9223372036854775808 < 9223372036854775808) := Nat.mod_lt _ (by decide)
  by_cases h : x ≤ 1000000000000000000 ∧ y ≤ 1000000000000000000
  · obtain ⟨h1, h2⟩ := h
    have b1 : decide (x ≤ 1000000000000000000) = true := by simpa using h1
    have b2 : decide (y ≤ 1000000000000000000) = true := by simpa using h2
    have H := Lib.hid (bld_yes (neg := neg) (num := x) (den := y) (by omega))
    cases neg
    · go_enter Try.func105, Try.ntmps105
      go_wp2_with fail
      refine (small_any x _ hx).mono ?_
      rintro e w1 ⟨rfl, hb1⟩
      rw [MX.out h1]
      obtain ⟨c1, f1⟩ := bcell hb1
      have z1 := (hb1).size
      try simp at z1
      try simp at c1
      try simp at f1
      have z1a : w.heap.size < w1.heap.size := by omega
      have z1b : w.heap.size + 1 < w1.heap.size := by omega
      have z1c : w.heap.size + 1 + 1 < w1.heap.size := by omega
      go_wp2_with fail
      refine (small_any y _ hy).mono ?_
      rintro e w2 ⟨rfl, hb2⟩
      rw [MY.out h2]
      obtain ⟨c2, f2⟩ := bcell hb2
      have z2 := (hb2).size
      try simp at z2
      try simp at c2
      try simp at f2
      have z2a : w.heap.size < w2.heap.size := by omega
      have z2b : w.heap.size + 1 < w2.heap.size := by omega
      have z2c : w.heap.size + 1 + 1 < w2.heap.size := by omega
      go_wp2
      refine bodyPost_ret (v := .tuple #[.agg #[.int .i64 x, .int .i64 y], .int .i64 0]) (by simp [results, Try.results105, go_sem, c1, c2, z1c]) rfl ⟨by rw [H.out]; try rfl, ?_⟩
      repeat (refine Below.setCell ?_ (by first | omega | (simp; done) | (simp; omega)) _)
      exact below_to (below_to (ba3 _ _ _ _) hb1) hb2
    · go_enter Try.func105, Try.ntmps105
      go_wp2_with fail
      refine (small_any x _ hx).mono ?_
      rintro e w1 ⟨rfl, hb1⟩
      rw [MX.out h1]
      obtain ⟨c1, f1⟩ := bcell hb1
      have z1 := (hb1).size
      try simp at z1
      try simp at c1
      try simp at f1
      have z1a : w.heap.size < w1.heap.size := by omega
      have z1b : w.heap.size + 1 < w1.heap.size := by omega
      have z1c : w.heap.size + 1 + 1 < w1.heap.size := by omega
      go_wp2_with fail
      refine (small_any y _ hy).mono ?_
      rintro e w2 ⟨rfl, hb2⟩
      rw [MY.out h2]
      obtain ⟨c2, f2⟩ := bcell hb2
      have z2 := (hb2).size
      try simp at z2
      try simp at c2
      try simp at f2
      have z2a : w.heap.size < w2.heap.size := by omega
      have z2b : w.heap.size + 1 < w2.heap.size := by omega
      have z2c : w.heap.size + 1 + 1 < w2.heap.size := by omega
      go_wp2
      refine bodyPost_ret (v := .tuple #[.agg #[.int .i64 (-x), .int .i64 y], .int .i64 0]) (by simp [results, Try.results105, go_sem, c1, c2, z1c]) rfl ⟨by rw [H.out]; try rfl, ?_⟩
      repeat (refine Below.setCell ?_ (by first | omega | (simp; done) | (simp; omega)) _)
      exact below_to (below_to (ba3 _ _ _ _) hb1) hb2
  · have H := Lib.hid (bld_no (neg := neg) (num := x) (den := y) (by omega))
    by_cases h1 : x ≤ 1000000000000000000
    · have b1 : decide (x ≤ 1000000000000000000) = true := by simpa using h1
      have b2 : decide (y ≤ 1000000000000000000) = false := by simp; omega
      clear h h1
      go_enter Try.func105, Try.ntmps105
      go_wp2_with fail
      refine (small_any x _ hx).mono ?_
      rintro e w1 ⟨rfl, hb1⟩
      obtain ⟨c1, f1⟩ := bcell hb1
      have z1 := (hb1).size
      try simp at z1
      try simp at c1
      try simp at f1
      have z1a : w.heap.size < w1.heap.size := by omega
      have z1b : w.heap.size + 1 < w1.heap.size := by omega
      have z1c : w.heap.size + 1 + 1 < w1.heap.size := by omega
      go_wp2_with fail
      refine (small_any y _ hy).mono ?_
      rintro e w2 ⟨rfl, hb2⟩
      obtain ⟨c2, f2⟩ := bcell hb2
      have z2 := (hb2).size
      try simp at z2
      try simp at c2
      try simp at f2
      have z2a : w.heap.size < w2.heap.size := by omega
      have z2b : w.heap.size + 1 < w2.heap.size := by omega
      have z2c : w.heap.size + 1 + 1 < w2.heap.size := by omega
      go_wp2
      refine bodyPost_ret (v := .tuple #[.agg #[.int .i64 0, .int .i64 0], .int .i64 16]) (by simp [results, Try.results105, go_sem, c1, c2, z1c]) rfl ⟨by rw [H.out]; try rfl, ?_⟩
      repeat (refine Below.setCell ?_ (by first | omega | (simp; done) | (simp; omega)) _)
      exact below_to (below_to (ba3 _ _ _ _) hb1) hb2
    · have b1 : decide (x ≤ 1000000000000000000) = false := by simp; omega
      clear h h1
      go_enter Try.func105, Try.ntmps105
      go_wp2_with fail
      refine (small_any x _ hx).mono ?_
      rintro e w1 ⟨rfl, hb1⟩
      obtain ⟨c1, f1⟩ := bcell hb1
      have z1 := (hb1).size
      try simp at z1
      try simp at c1
      try simp at f1
      have z1a : w.heap.size < w1.heap.size := by omega
      have z1b : w.heap.size + 1 < w1.heap.size := by omega
      have z1c : w.heap.size + 1 + 1 < w1.heap.size := by omega
      go_wp2_with fail
      refine (small_any y _ hy).mono ?_
      rintro e w2 ⟨rfl, hb2⟩
      obtain ⟨c2, f2⟩ := bcell hb2
      have z2 := (hb2).size
      try simp at z2
      try simp at c2
      try simp at f2
      have z2a : w.heap.size < w2.heap.size := by omega
      have z2b : w.heap.size + 1 < w2.heap.size := by omega
      have z2c : w.heap.size + 1 + 1 < w2.heap.size := by omega
      go_wp2
      refine bodyPost_ret (v := .tuple #[.agg #[.int .i64 0, .int .i64 0], .int .i64 16]) (by simp [results, Try.results105, go_sem, c1, c2, z1c]) rfl ⟨by rw [H.out]; try rfl, ?_⟩
      repeat (refine Below.setCell ?_ (by first | omega | (simp; done) | (simp; omega)) _)
      exact below_to (below_to (ba3 _ _ _ _) hb1) hb2

theorem big_of (m : Int) (n : Nat) (w : World) (hm : m = n) (h : n ≤ 18446744073709551615) :
    Calls Try.prog 151 #[.int .u64 m] w fun e w' => e = .returned (.agg #[.int .u64 (dg n 0), .int .u64 (dg n 1), .int .u64 (dg n 2), .int .u64 (dg n 3)]) ∧ Below w.heap.size w w' := by
  subst hm; exact big_any n w h
theorem mul_bd {a b : Nat} (ha : a < 4294967296) (hb : b < 4294967296) : 0 ≤ (a : Int) * b ∧ (a : Int) * b ≤ 18446744065119617025 := by
  have h := Nat.mul_le_mul (show a ≤ 4294967295 by omega) (show b ≤ 4294967295 by omega)
  rw [← Int.natCast_mul]
  generalize a * b = c at *
  omega
theorem and32' (z : Int) (n : Nat) (hz : z = n) (hn : n < 18446744073709551616) : bits BinOp.and IntKind.u64 z 4294967295 = ((n % 4294967296 : Nat) : Int) := by subst hz; exact and32 n hn

/-- The steps of a product of two numbers of two digits. -/
structure Prod4 (x0 x1 y0 y1 : Nat) where
  a0 : Nat
  c0 : Nat
  a1 : Nat
  c1 : Nat
  b1 : Nat
  e0 : Nat
  b2 : Nat
  e1 : Nat
  l0 : a0 < 4294967296
  l1 : a1 < 4294967296
  l2 : b1 < 4294967296
  l3 : b2 < 4294967296
  m0 : c0 < 4294967296
  m1 : c1 < 4294967296
  m2 : e0 < 4294967296
  m3 : e1 < 4294967296
  r1 : bits BinOp.and IntKind.u64 ((x0 : Int) * y0) 4294967295 = a0
  r2 : ((x0 : Int) * y0) / 4294967296 = c0
  r3 : bits BinOp.and IntKind.u64 ((c0 : Int) + (x0 : Int) * y1) 4294967295 = a1
  r4 : ((c0 : Int) + (x0 : Int) * y1) / 4294967296 = c1
  r5 : bits BinOp.and IntKind.u64 ((a1 : Int) + (x1 : Int) * y0) 4294967295 = b1
  r6 : ((a1 : Int) + (x1 : Int) * y0) / 4294967296 = e0
  r7 : bits BinOp.and IntKind.u64 ((e0 : Int) + ((c1 : Int) + (x1 : Int) * y1)) 4294967295 = b2
  r8 : ((e0 : Int) + ((c1 : Int) + (x1 : Int) * y1)) / 4294967296 = e1
  total : (x0 + x1 * 4294967296) * (y0 + y1 * 4294967296) = a0 + b1 * 4294967296 + b2 * 18446744073709551616 + e1 * 79228162514264337593543950336
theorem step32 (p : Nat) (h : p < 18446744073709551616) : p % 4294967296 < 4294967296 ∧ p / 4294967296 < 4294967296 ∧ p = p % 4294967296 + p / 4294967296 * 4294967296 := by omega
theorem prod4 {x0 x1 y0 y1 : Nat} (hx0 : x0 < 4294967296) (hx1 : x1 < 4294967296) (hy0 : y0 < 4294967296) (hy1 : y1 < 4294967296) : Nonempty (Prod4 x0 x1 y0 y1) := by
  have p00 := Nat.mul_le_mul (show x0 ≤ 4294967295 by omega) (show y0 ≤ 4294967295 by omega)
  have p01 := Nat.mul_le_mul (show x0 ≤ 4294967295 by omega) (show y1 ≤ 4294967295 by omega)
  have p10 := Nat.mul_le_mul (show x1 ≤ 4294967295 by omega) (show y0 ≤ 4294967295 by omega)
  have p11 := Nat.mul_le_mul (show x1 ≤ 4294967295 by omega) (show y1 ≤ 4294967295 by omega)
  have hd : (x0 + x1 * 4294967296) * (y0 + y1 * 4294967296) = x0 * y0 + (x0 * y1) * 4294967296 + (x1 * y0) * 4294967296 + (x1 * y1) * 18446744073709551616 := by
    rw [Nat.add_mul, Nat.mul_add, Nat.mul_add]
    rw [show x0 * (y1 * 4294967296) = (x0 * y1) * 4294967296 from (Nat.mul_assoc _ _ _).symm]
    rw [show x1 * 4294967296 * y0 = (x1 * y0) * 4294967296 from by rw [Nat.mul_assoc, Nat.mul_comm 4294967296 y0, Nat.mul_assoc]]
    rw [show x1 * 4294967296 * (y1 * 4294967296) = (x1 * y1) * 18446744073709551616 from by
      rw [Nat.mul_assoc, ← Nat.mul_assoc 4294967296 y1, Nat.mul_comm 4294967296 y1, Nat.mul_assoc y1, ← Nat.mul_assoc x1]]
    omega
  have q00 : (x0 : Int) * y0 = ((x0 * y0 : Nat) : Int) := (Int.natCast_mul _ _).symm
  have q01 : (x0 : Int) * y1 = ((x0 * y1 : Nat) : Int) := (Int.natCast_mul _ _).symm
  have q10 : (x1 : Int) * y0 = ((x1 * y0 : Nat) : Int) := (Int.natCast_mul _ _).symm
  have q11 : (x1 : Int) * y1 = ((x1 * y1 : Nat) : Int) := (Int.natCast_mul _ _).symm
  generalize x0 * y0 = P00 at *
  generalize x0 * y1 = P01 at *
  generalize x1 * y0 = P10 at *
  generalize x1 * y1 = P11 at *
  obtain ⟨s1, s2, s3⟩ := step32 P00 (by omega)
  generalize ha0 : P00 % 4294967296 = a0 at *
  generalize hc0 : P00 / 4294967296 = c0 at *
  obtain ⟨s4, s5, s6⟩ := step32 (c0 + P01) (by omega)
  generalize ha1 : (c0 + P01) % 4294967296 = a1 at *
  generalize hc1 : (c0 + P01) / 4294967296 = c1 at *
  obtain ⟨s7, s8, s9⟩ := step32 (a1 + P10) (by omega)
  generalize hb1 : (a1 + P10) % 4294967296 = b1 at *
  generalize he0 : (a1 + P10) / 4294967296 = e0 at *
  obtain ⟨t1, t2, t3⟩ := step32 (e0 + (c1 + P11)) (by omega)
  generalize hb2 : (e0 + (c1 + P11)) % 4294967296 = b2 at *
  generalize he1 : (e0 + (c1 + P11)) / 4294967296 = e1 at *
  exact ⟨⟨a0, c0, a1, c1, b1, e0, b2, e1, s1, s4, s7, t1, s2, s5, s8, t2,
    by rw [q00, and32 _ (by omega), ha0], by rw [q00]; omega,
    by rw [q01, and32' _ (c0 + P01) (by omega) (by omega), ha1], by rw [q01]; omega,
    by rw [q10, and32' _ (a1 + P10) (by omega) (by omega), hb1], by rw [q10]; omega,
    by rw [q11, and32' _ (e0 + (c1 + P11)) (by omega) (by omega), hb2], by rw [q11]; omega, by rw [hd]; omega⟩⟩


end Go.Proofs.Ythlcmlngmcoknaa

/- What is proved here: the contracts of the reference's Product, below, Both, Less and Cmp of fractions. Condition: the numbers are 64-bit integers. -/
namespace Go.Proofs.Ythlcmlngmcoknaa
open Go.RowKit
set_option maxRecDepth 100000 in
set_option maxHeartbeats 4000000 in
theorem product_any (a b : Nat) (w : World) (ha : a ≤ 18446744073709551615) (hb : b ≤ 18446744073709551615) :
    Calls Try.prog 106 #[.int .u64 a, .int .u64 b] w fun e w' => e = .returned (.agg #[.int .u64 (dg (a * b) 0), .int .u64 (dg (a * b) 1), .int .u64 (dg (a * b) 2), .int .u64 (dg (a * b) 3)]) ∧ Below w.heap.size w w' := by
  obtain ⟨u1, u2, u3, u4⟩ := dg_small ha
  obtain ⟨v1, v2, v3, v4⟩ := dg_small hb
  have hx0 := dg_lt a 0
  have hx1 := dg_lt a 1
  have hy0 := dg_lt b 0
  have hy1 := dg_lt b 1
  have hA : a = dg a 0 + dg a 1 * 4294967296 := by rw [u1, u2]; omega
  have hB : b = dg b 0 + dg b 1 * 4294967296 := by rw [v1, v2]; omega
  obtain ⟨p⟩ := prod4 hx0 hx1 hy0 hy1
  obtain ⟨a0, c0, a1, c1, b1, e0, b2, e1, l0, l1, l2, l3, m0, m1, m2, m3, r1, r2, r3, r4, r5, r6, r7, r8, tot⟩ := p
  rw [← hA, ← hB] at tot
  have HD := Lib.hid (dg_of l0 l2 l3 m3 tot)
  clear tot hA hB u1 u2 v1 v2
  have U3 := Lib.hid u3
  have U4 := Lib.hid u4
  have V3 := Lib.hid v3
  have V4 := Lib.hid v4
  clear u3 u4 v3 v4
  have k00 := mul_bd hx0 hy0
  have k01 := mul_bd hx0 hy1
  have k10 := mul_bd hx1 hy0
  have k11 := mul_bd hx1 hy1
  go_enter Try.func106, Try.ntmps106
  go_wp2_with fail
  refine (big_any a _ ha).mono ?_
  rintro e w1 ⟨rfl, hb1⟩
  rw [U3.out, U4.out]
  obtain ⟨g1, f1⟩ := bcell hb1
  have z1 := (hb1).size
  try simp at z1
  try simp at g1
  try simp at f1
  have z1a : w.heap.size < w1.heap.size := by omega
  go_wp2_with fail
  refine (big_any b _ hb).mono ?_
  rintro e w2 ⟨rfl, hb2⟩
  rw [V3.out, V4.out]
  obtain ⟨g2, f2⟩ := bcell hb2
  have z2 := (hb2).size
  try simp at z2
  try simp at g2
  try simp at f2
  have z2a : w.heap.size < w2.heap.size := by omega
  generalize dg a 0 = x0 at *
  generalize dg a 1 = x1 at *
  generalize dg b 0 = y0 at *
  generalize dg b 1 = y1 at *
  go_wp2
  refine wp_loop_rounds 3 ?_
  rw [rounds_succ]
  go_wp2
  refine wp_loop_rounds 3 ?_
  rw [rounds_succ]
  go_wp2
  go_quiet (fail)
  go_wp2
  rw [rounds_succ]
  go_wp2
  go_quiet (fail)
  go_wp2
  rw [rounds_succ]
  go_wp2
  rw [rounds_succ]
  go_wp2
  refine wp_loop_rounds 3 ?_
  rw [rounds_succ]
  go_wp2
  go_quiet (fail)
  go_wp2
  rw [rounds_succ]
  go_wp2
  go_quiet (fail)
  go_wp2
  rw [rounds_succ]
  go_wp2
  have oR := (((((Own.new w 151 [.int .u64 0, .int .u64 0, .int .u64 0, .int .u64 0]).below hb1).below hb2).alloc (.cells #[.int .u64 x0, .int .u64 x1, .int .u64 0, .int .u64 0] 151)).alloc (.cells #[.int .u64 y0, .int .u64 y1, .int .u64 0, .int .u64 0] 151)).alloc (.cells #[.int .u64 0, .int .u64 0, .int .u64 0, .int .u64 0] 151)
  have hB := below_to (below_to (below_to (ba1 _ _) hb1) hb2) (ba3 w2 (.cells #[.int .u64 x0, .int .u64 x1, .int .u64 0, .int .u64 0] 151) (.cells #[.int .u64 y0, .int .u64 y1, .int .u64 0, .int .u64 0] 151) (.cells #[.int .u64 0, .int .u64 0, .int .u64 0, .int .u64 0] 151))
  have hne : w.heap.size ≠ w2.heap.size + 1 + 1 := by omega
  refine rounds_gen (fun W => Own W (w2.heap.size + 1 + 1) 151 [.int .u64 a0, .int .u64 b1, .int .u64 b2, .int .u64 e1] ∧ Own W w.heap.size 151 [.int .u64 0, .int .u64 0, .int .u64 0, .int .u64 0] ∧ Below w.heap.size w W) ?_ ?_
  · refine ⟨?_, ?_, ?_⟩
    · exact ((((((((((own_third w2 _ _ _ _).drewN _).set 0 _).drewN _).set 1 _).set 2 _).drewN _).set 1 _).drewN _).set 2 _).set 3 _
    · exact ((((((((((oR.drewN _).other hne 0 _).drewN _).other hne 1 _).other hne 2 _).drewN _).other hne 1 _).drewN _).other hne 2 _).other hne 3 _)
    · repeat (first | refine Below.setCell ?_ (by simp; omega) _ | refine bd ?_ _)
      exact hB
  · clear oR hB g1 f1 g2 f2 r1 r2 r3 r4 r5 r6 r7 r8
    rintro W ⟨oO, oR, hB⟩
    obtain ⟨c3, f3⟩ := oO.rules
    obtain ⟨c4, f4⟩ := oR.rules
    rw [rounds_succ]
    go_wp2
    refine bodyPost_ret (v := .agg #[.int .u64 a0, .int .u64 b1, .int .u64 b2, .int .u64 e1]) (by simp [results, Try.results106, go_sem, c4]) rfl ⟨by rw [HD.out.1, HD.out.2.1, HD.out.2.2.1, HD.out.2.2.2], ?_⟩
    repeat (refine Below.setCell ?_ (by first | omega | (simp; done) | (simp; omega)) _)
    exact hB
set_option maxRecDepth 100000 in
set_option maxHeartbeats 4000000 in
theorem bbelow_any (x y : Nat) (w : World) (hx : x < 340282366920938463463374607431768211456) (hy : y < 340282366920938463463374607431768211456) :
    Calls Try.prog 108 #[.agg #[.int .u64 (dg x 0), .int .u64 (dg x 1), .int .u64 (dg x 2), .int .u64 (dg x 3)], .agg #[.int .u64 (dg y 0), .int .u64 (dg y 1), .int .u64 (dg y 2), .int .u64 (dg y 3)]] w fun e w' => e = .returned (.bool (decide (x < y))) ∧ Below w.heap.size w w' := by
  have HX := Lib.hid (dg_sum x hx)
  have HY := Lib.hid (dg_sum y hy)
  clear hx hy
  have lx0 := dg_lt x 0
  have lx1 := dg_lt x 1
  have lx2 := dg_lt x 2
  have lx3 := dg_lt x 3
  have ly0 := dg_lt y 0
  have ly1 := dg_lt y 1
  have ly2 := dg_lt y 2
  have ly3 := dg_lt y 3
  generalize dg x 0 = x0 at *
  generalize dg x 1 = x1 at *
  generalize dg x 2 = x2 at *
  generalize dg x 3 = x3 at *
  generalize dg y 0 = y0 at *
  generalize dg y 1 = y1 at *
  generalize dg y 2 = y2 at *
  generalize dg y 3 = y3 at *
  go_enter Try.func108, Try.ntmps108
  go_wp2
  refine wp_loop_rounds 5 ?_
  rw [rounds_succ]
  go_wp2
  by_cases h3 : x3 = y3
  case neg =>
    have q : ((x3 : Int) != (y3 : Int)) = true := by simp; omega
    have H : Hid (decide (x < y) = decide (x3 < y3)) := by
      show _ = _
      have h1 := HX.out
      have h2 := HY.out
      exact decide_eq_decide.2 (by omega)
    clear h3
    go_quiet (fail)
    go_wp2
    go_quiet (fail)
    go_wp2
    go_ret
    exact ⟨by rw [H.out]; try rfl, by (repeat (refine bd ?_ _)); exact ba2 _ _ _⟩
  have q3 : ((x3 : Int) != (y3 : Int)) = false := by simp; omega
  have G3 := Lib.hid h3
  clear h3
  go_quiet (fail)
  go_wp2
  rw [rounds_succ]
  go_wp2
  by_cases h2 : x2 = y2
  case neg =>
    have q : ((x2 : Int) != (y2 : Int)) = true := by simp; omega
    have H : Hid (decide (x < y) = decide (x2 < y2)) := by
      show _ = _
      have h1 := HX.out
      have h2 := HY.out
      have g3 := G3.out
      exact decide_eq_decide.2 (by omega)
    clear h2
    go_quiet (fail)
    go_wp2
    go_quiet (fail)
    go_wp2
    go_ret
    exact ⟨by rw [H.out]; try rfl, by (repeat (refine bd ?_ _)); exact ba2 _ _ _⟩
  have q2 : ((x2 : Int) != (y2 : Int)) = false := by simp; omega
  have G2 := Lib.hid h2
  clear h2
  go_quiet (fail)
  go_wp2
  rw [rounds_succ]
  go_wp2
  by_cases h1 : x1 = y1
  case neg =>
    have q : ((x1 : Int) != (y1 : Int)) = true := by simp; omega
    have H : Hid (decide (x < y) = decide (x1 < y1)) := by
      show _ = _
      have h1 := HX.out
      have h2 := HY.out
      have g3 := G3.out
      have g2 := G2.out
      exact decide_eq_decide.2 (by omega)
    clear h1
    go_quiet (fail)
    go_wp2
    go_quiet (fail)
    go_wp2
    go_ret
    exact ⟨by rw [H.out]; try rfl, by (repeat (refine bd ?_ _)); exact ba2 _ _ _⟩
  have q1 : ((x1 : Int) != (y1 : Int)) = false := by simp; omega
  have G1 := Lib.hid h1
  clear h1
  go_quiet (fail)
  go_wp2
  rw [rounds_succ]
  go_wp2
  by_cases h0 : x0 = y0
  case neg =>
    have q : ((x0 : Int) != (y0 : Int)) = true := by simp; omega
    have H : Hid (decide (x < y) = decide (x0 < y0)) := by
      show _ = _
      have h1 := HX.out
      have h2 := HY.out
      have g3 := G3.out
      have g2 := G2.out
      have g1 := G1.out
      exact decide_eq_decide.2 (by omega)
    clear h0
    go_quiet (fail)
    go_wp2
    go_quiet (fail)
    go_wp2
    go_ret
    exact ⟨by rw [H.out]; try rfl, by (repeat (refine bd ?_ _)); exact ba2 _ _ _⟩
  have q0 : ((x0 : Int) != (y0 : Int)) = false := by simp; omega
  have G0 := Lib.hid h0
  clear h0
  go_quiet (fail)
  go_wp2
  rw [rounds_succ]
  go_wp2
  go_ret
  have H : decide (x < y) = false := by
    have h1 := HX.out
    have h2 := HY.out
    have g3 := G3.out
    have g2 := G2.out
    have g1 := G1.out
    have g0 := G0.out
    have g0 := G0.out
    have g1 := G1.out
    have g2 := G2.out
    have g3 := G3.out
    simp
    omega
  exact ⟨by rw [H]; try rfl, by (repeat (refine bd ?_ _)); exact ba2 _ _ _⟩

theorem rfrboth_any (an ad bn bd : Int) (w : World) (h1 : i64 an) (h2 : i64 ad) (h3 : i64 bn) (h4 : i64 bd) :
    Calls Try.prog 104 #[.agg #[.int .i64 an, .int .i64 ad], .agg #[.int .i64 bn, .int .i64 bd]] w fun e w' => e = .returned (.int .i64 (fboth an ad bn bd)) ∧ Below w.heap.size w w' := by
  by_cases p : fchk an ad = 0
  · have H := Lib.hid (fboth_0 (bn := bn) (bd := bd) p)
    have b1 : (fchk an ad != 0) = false := by simp [p]
    clear p
    go_enter Try.func104, Try.ntmps104
    go_wp2_with fail
    refine (rcheck_any _ _ _ h1 h2).mono ?_
    rintro e w1 ⟨rfl, hb1⟩
    obtain ⟨c1, f1⟩ := bcell hb1
    have z1 := (hb1).size
    try simp at z1
    try simp at c1
    try simp at f1
    have z1a : w.heap.size < w1.heap.size := by omega
    have z1b : w.heap.size + 1 < w1.heap.size := by omega
    go_wp2_with fail
    refine (rcheck_any _ _ _ h3 h4).mono ?_
    rintro e w2 ⟨rfl, hb2⟩
    go_wp2
    go_ret
    exact ⟨by rw [H.out]; try rfl, below_to (below_to (ba2 _ _ _) hb1) hb2⟩
  · have H := Lib.hid (fboth_1 (bn := bn) (bd := bd) p)
    have b1 : (fchk an ad != 0) = true := by simp [p]
    clear p
    go_enter Try.func104, Try.ntmps104
    go_wp2_with fail
    refine (rcheck_any _ _ _ h1 h2).mono ?_
    rintro e w1 ⟨rfl, hb1⟩
    obtain ⟨c1, f1⟩ := bcell hb1
    have z1 := (hb1).size
    try simp at z1
    try simp at c1
    try simp at f1
    have z1a : w.heap.size < w1.heap.size := by omega
    have z1b : w.heap.size + 1 < w1.heap.size := by omega
    go_wp2_with fail
    refine (rcheck_any _ _ _ h1 h2).mono ?_
    rintro e w2 ⟨rfl, hb2⟩
    go_wp2
    go_ret
    exact ⟨by rw [H.out]; try rfl, below_to (below_to (ba2 _ _ _) hb1) hb2⟩

end Go.Proofs.Ythlcmlngmcoknaa

/- What is proved here: small forms of the contracts of Product and abs; the order of two fractions decides their equality. Condition: 64-bit numbers. -/
namespace Go.Proofs.Ythlcmlngmcoknaa
open Go.RowKit

theorem product_of (m n : Int) (a b : Nat) (w : World) (hm : m = a) (hn : n = b) (ha : a ≤ 18446744073709551615) (hb : b ≤ 18446744073709551615) :
    Calls Try.prog 106 #[.int .u64 m, .int .u64 n] w fun e w' => e = .returned (.agg #[.int .u64 (dg (a * b) 0), .int .u64 (dg (a * b) 1), .int .u64 (dg (a * b) 2), .int .u64 (dg (a * b) 3)]) ∧ Below w.heap.size w w' := by
  subst hm hn; exact product_any a b w ha hb
theorem abs_grow (n : Int) (w : World) (h1 : -9223372036854775808 ≤ n) (h2 : n ≤ 9223372036854775807) :
    Calls Try.prog 103 #[.int .i64 n] w fun e w' => e = .returned (.int .u64 (n.natAbs : Int)) ∧ Below w.heap.size w w' :=
  (abs_any n w h1 h2).mono fun e w' ⟨he, hw⟩ => ⟨he, by subst hw; exact Below.refl _ _⟩

theorem fcmp_self (n d : Int) : fcmp n d n d = 0 := by unfold fcmp; rw [if_neg (by omega), if_pos rfl]
theorem fcmp_eq {an ad bn bd : Int} (h1 : fchk an ad = 0) (h2 : fchk bn bd = 0) (h : fcmp an ad bn bd = 0) : an = bn ∧ ad = bd := by
  obtain ⟨u1, u2, u3, u4, u5⟩ := fok_of h1
  obtain ⟨v1, v2, v3, v4, v5⟩ := fok_of h2
  have he : an * bd = bn * ad := by
    unfold fcmp at h; split at h
    · omega
    · split at h
      · assumption
      · omega
  have hn : an.natAbs * bd.natAbs = bn.natAbs * ad.natAbs := by rw [← Int.natAbs_mul, ← Int.natAbs_mul, he]
  have d1 : bd.natAbs ∣ ad.natAbs := by
    have : bd.natAbs ∣ bn.natAbs * ad.natAbs := ⟨an.natAbs, by rw [← hn, Nat.mul_comm]⟩
    exact (Nat.Coprime.dvd_of_dvd_mul_left (Nat.Coprime.symm v5) this)
  have d2 : ad.natAbs ∣ bd.natAbs := by
    have : ad.natAbs ∣ an.natAbs * bd.natAbs := ⟨bn.natAbs, by rw [hn, Nat.mul_comm]⟩
    exact (Nat.Coprime.dvd_of_dvd_mul_left (Nat.Coprime.symm u5) this)
  have e1 := Nat.dvd_antisymm d1 d2
  have e2 : ad = bd := by omega
  subst e2
  exact ⟨Int.eq_of_mul_eq_mul_right (by omega) he, rfl⟩
theorem fcmp_cases (an ad bn bd : Int) : fcmp an ad bn bd = -1 ∨ fcmp an ad bn bd = 0 ∨ fcmp an ad bn bd = 1 := by
  unfold fcmp; split
  · simp
  · split <;> simp

end Go.Proofs.Ythlcmlngmcoknaa

/- What is proved here: what feasible witnesses, their worth, gaps and certificates come to. No program in sight. -/
namespace Go.Proofs.Ythlcmlngmcoknaa
open Go.RowKit

/-- Whether a list is a witness for a fit with m equations. -/
def witB (m : Nat) (y : List (Int × Int)) : Bool := fvalid y && decide (y.length = m)
theorem witB_len {m : Nat} {y : List (Int × Int)} (h : ¬ y.length = m) : witB m y = false := by simp [witB, h]
theorem witB_bad {m : Nat} {y : List (Int × Int)} (h : fvalid y = false) : witB m y = false := by simp [witB, h]
theorem witB_ok {m : Nat} {y : List (Int × Int)} (h : fvalid y = true) : witB m y = decide (y.length = m) := by simp [witB, h]
theorem witB_of {m : Nat} {y : List (Int × Int)} (h : witB m y = true) : y.length = m ∧ ∀ i (h : i < y.length), fchk y[i].1 y[i].2 = 0 := by
  simp only [witB, Bool.and_eq_true, decide_eq_true_eq] at h
  exact ⟨h.2, fun i hi => fvalid_get h.1 i hi⟩
/-- The error of a fit, a cost and a witness. -/
def dcheck (A : List (List Int)) (B : List Int) (c : Int) (y : List (Int × Int)) : Int := if scheck A B c = 0 then (if witB A.length y = true then 0 else 2) else scheck A B c
theorem dcheck_c {A : List (List Int)} {B : List Int} {c : Int} {y : List (Int × Int)} (h : ¬ scheck A B c = 0) : dcheck A B c y = scheck A B c := if_neg h
theorem dcheck_2 {A : List (List Int)} {B : List Int} {c : Int} {y : List (Int × Int)} (h : scheck A B c = 0) (h' : witB A.length y = false) : dcheck A B c y = 2 := by unfold dcheck; rw [if_pos h, if_neg (by rw [h']; decide)]
theorem dcheck_0 {A : List (List Int)} {B : List Int} {c : Int} {y : List (Int × Int)} (h : scheck A B c = 0) (h' : witB A.length y = true) : dcheck A B c y = 0 := by unfold dcheck; rw [if_pos h, if_pos h']
theorem dcheck_of {A : List (List Int)} {B : List Int} {c : Int} {y : List (Int × Int)} (h : dcheck A B c y = 0) : scheck A B c = 0 ∧ witB A.length y = true := by
  unfold dcheck at h
  split at h
  · rename_i h1
    split at h
    · rename_i h2; exact ⟨h1, h2⟩
    · cases h
  · rename_i h1; exact absurd h h1
theorem FitY.ofC {A : List (List Int)} {B : List Int} {y : List (Int × Int)} (h : ncheck A B = 0) (hw : witB A.length y = true) : FitY A y (A.getD 0 []).length := by
  have f := fit_of h
  obtain ⟨h1, h2⟩ := witB_of hw
  exact ⟨f.rows.1, ⟨by have := f.rows; omega, by have := f.cols; omega⟩, h1, f.wide, fun i hi k hk => by have := f.coef i hi k hk; omega, h2⟩
/-- Whether no sum is greater than the cost. -/
def feasB (l : List (Int × Int)) (c : Int) (k : Nat) : Bool := (List.range k).all fun j => !decide (fcmp c 1 (l.getD j (0, 0)).1 (l.getD j (0, 0)).2 = -1)
theorem feasB_succ {l : List (Int × Int)} {c : Int} {k : Nat} (h1 : k < l.length) (h : feasB l c k = true) (hn : ¬ fcmp c 1 l[k].1 l[k].2 = -1) : feasB l c (k + 1) = true := by
  unfold feasB at *
  rw [List.range_succ, List.all_append, h]
  simp only [List.all_cons, List.all_nil, getD_get h1, hn]
  rfl
theorem feasB_not {l : List (Int × Int)} {c : Int} {k n : Nat} (hk : k < n) (h1 : k < l.length) (hn : fcmp c 1 l[k].1 l[k].2 = -1) : feasB l c n = false := by
  unfold feasB
  rw [List.all_eq_false]
  refine ⟨k, List.mem_range.2 hk, ?_⟩
  simp only [getD_get h1, hn]
  decide
def dfeas (A : List (List Int)) (B : List Int) (c : Int) (y : List (Int × Int)) : Bool × Int :=
  if dcheck A B c y = 0 then (if (dsums A y (A.getD 0 []).length).2 = 0 then (feasB (dsums A y (A.getD 0 []).length).1 c (dsums A y (A.getD 0 []).length).1.length, 0) else (false, (dsums A y (A.getD 0 []).length).2)) else (false, dcheck A B c y)
theorem dfeas_c {A : List (List Int)} {B : List Int} {c : Int} {y : List (Int × Int)} (h : ¬ dcheck A B c y = 0) : dfeas A B c y = (false, dcheck A B c y) := if_neg h
theorem dfeas_1 {A : List (List Int)} {B : List Int} {c : Int} {y : List (Int × Int)} (h : dcheck A B c y = 0) (h' : ¬ (dsums A y (A.getD 0 []).length).2 = 0) : dfeas A B c y = (false, (dsums A y (A.getD 0 []).length).2) := by unfold dfeas; rw [if_pos h, if_neg h']
theorem dfeas_0 {A : List (List Int)} {B : List Int} {c : Int} {y : List (Int × Int)} (h : dcheck A B c y = 0) (h' : (dsums A y (A.getD 0 []).length).2 = 0) : dfeas A B c y = (feasB (dsums A y (A.getD 0 []).length).1 c (dsums A y (A.getD 0 []).length).1.length, 0) := by unfold dfeas; rw [if_pos h, if_pos h']
/-- What the sum of the products of two lists adds up. -/
def prodT (a b : List (Int × Int)) (i : Nat) : (Int × Int) × (Int × Int) := (a.getD i (0, 0), b.getD i (0, 0))
theorem prod_succ {a b : List (Int × Int)} {k : Nat} (ha : k < a.length) (hb : k < b.length) (h : (gsum (prodT a b) k).e = 0) : gsum (prodT a b) (k + 1) = fplus (gsum (prodT a b) k).n (gsum (prodT a b) k).d a[k].1 a[k].2 b[k].1 b[k].2 := by
  rw [gsum_succ h]; simp [prodT, List.getD, ha, hb]
theorem prod_ok {a b : List (Int × Int)} {k : Nat} (hk : k ≤ a.length) (hb : a.length ≤ b.length) (va : ∀ i (h : i < a.length), fchk a[i].1 a[i].2 = 0) (vb : ∀ i (h : i < b.length), fchk b[i].1 b[i].2 = 0) : FOk (gsum (prodT a b) k) :=
  gsum_FOk k fun j hj => by
    have h1 : j < a.length := by omega
    have h2 : j < b.length := by omega
    simp only [prodT, getD_get h1, getD_get h2]
    exact ⟨va j h1, vb j h2⟩
/-- Right sides as fractions. -/
def rights (B : List Int) : List (Int × Int) := B.map fun b => (b, 1)
theorem rights_len (B : List Int) : (rights B).length = B.length := by simp [rights]
theorem rights_get {B : List Int} {i : Nat} (h : i < B.length) : (rights B)[i]? = some (B[i], 1) := by simp [rights, h]
theorem rights_val {B : List Int} (hB : ∀ i (h : i < B.length), -1000 ≤ B[i] ∧ B[i] ≤ 1000) : ∀ i (h : i < (rights B).length), fchk (rights B)[i].1 (rights B)[i].2 = 0 := by
  intro i hi
  have h1 : i < B.length := by rw [rights_len] at hi; exact hi
  have e : (rights B)[i] = (B[i], 1) := by
    have := rights_get h1
    simpa [hi] using this
  rw [e]; exact fchk_small (hB i h1).1 (hB i h1).2
/-- The worth: g is the sum with the right sides, s that of the squares. -/
def dval (g s : FR) : FR := if g.e = 0 then (if s.e = 0 then (if (fmul s.n s.d 1 2).e = 0 then fsub g.n g.d (fmul s.n s.d 1 2).n (fmul s.n s.d 1 2).d else ⟨0, 0, 16⟩) else ⟨0, 0, s.e⟩) else ⟨0, 0, g.e⟩
theorem dval_g {g s : FR} (h : ¬ g.e = 0) : dval g s = ⟨0, 0, g.e⟩ := if_neg h
theorem dval_s {g s : FR} (h : g.e = 0) (h' : ¬ s.e = 0) : dval g s = ⟨0, 0, s.e⟩ := by unfold dval; rw [if_pos h, if_neg h']
theorem dval_h {g s : FR} (h : g.e = 0) (h' : s.e = 0) (h2 : ¬ (fmul s.n s.d 1 2).e = 0) : dval g s = ⟨0, 0, 16⟩ := by unfold dval; rw [if_pos h, if_pos h', if_neg h2]
theorem dval_0 {g s : FR} (h : g.e = 0) (h' : s.e = 0) (h2 : (fmul s.n s.d 1 2).e = 0) : dval g s = fsub g.n g.d (fmul s.n s.d 1 2).n (fmul s.n s.d 1 2).d := by unfold dval; rw [if_pos h, if_pos h', if_pos h2]
def dworth (A : List (List Int)) (B : List Int) (y : List (Int × Int)) : FR := if dcheck A B 0 y = 0 then dval (gsum (prodT y (rights B)) y.length) (gsum (prodT y y) y.length) else ⟨0, 0, dcheck A B 0 y⟩
theorem dworth_c {A : List (List Int)} {B : List Int} {y : List (Int × Int)} (h : ¬ dcheck A B 0 y = 0) : dworth A B y = ⟨0, 0, dcheck A B 0 y⟩ := if_neg h
theorem dworth_0 {A : List (List Int)} {B : List Int} {y : List (Int × Int)} (h : dcheck A B 0 y = 0) : dworth A B y = dval (gsum (prodT y (rights B)) y.length) (gsum (prodT y y) y.length) := if_pos h
theorem dworth_ok {A : List (List Int)} {B : List Int} {y : List (Int × Int)} (h : (dworth A B y).e = 0) : fchk (dworth A B y).n (dworth A B y).d = 0 := by
  by_cases hc : dcheck A B 0 y = 0
  · obtain ⟨hs, hw⟩ := dcheck_of hc
    obtain ⟨hn, _⟩ := scheck_of hs
    have f := fit_of hn
    obtain ⟨wl, wv⟩ := witB_of hw
    have rv := rights_val (B := B) fun i hi => by have := f.side i hi; omega
    have g1 := prod_ok (a := y) (b := rights B) (k := y.length) (Nat.le_refl _) (by rw [rights_len, f.right, wl]; exact Nat.le_refl _) wv rv
    have s1 := prod_ok (a := y) (b := y) (k := y.length) (Nat.le_refl _) (Nat.le_refl _) wv wv
    rw [dworth_0 hc] at h ⊢
    by_cases h1 : (gsum (prodT y (rights B)) y.length).e = 0
    · by_cases h2 : (gsum (prodT y y) y.length).e = 0
      · have m1 := fmul_FOk (s1.v h2) (show fchk 1 2 = 0 by decide)
        by_cases h3 : (fmul (gsum (prodT y y) y.length).n (gsum (prodT y y) y.length).d 1 2).e = 0
        · rw [dval_0 h1 h2 h3] at h ⊢
          exact (fsub_FOk (g1.v h1) (m1.v h3)).v h
        · rw [dval_h h1 h2 h3] at h; cases h
      · rw [dval_s h1 h2] at h; exact absurd h h2
    · rw [dval_g h1] at h; exact absurd h h1
  · rw [dworth_c hc] at h; exact absurd h hc
theorem sCost_ok {A : List (List Int)} {B : List Int} {c : Int} {x : List (Int × Int)} (h : (sCost A B c x).e = 0) : fchk (sCost A B c x).n (sCost A B c x).d = 0 := by
  by_cases hc : scheck A B c = 0
  · obtain ⟨_, c1, c2⟩ := scheck_of hc
    rw [sCost_0 hc] at h ⊢
    by_cases h1 : (nValue A B x).e = 0
    · by_cases h2 : (sBright x).e = 0
      · have m1 := fmul_FOk (nValue_ok h1).2 (show fchk 1 2 = 0 by decide)
        have m2 := fmul_FOk (fchk_small (a := c) (by omega) c2) (sBright_ok h2)
        by_cases h3 : (fmul (nValue A B x).n (nValue A B x).d 1 2).e = 0
        · by_cases h4 : (fmul c 1 (sBright x).n (sBright x).d).e = 0
          · rw [price_0 h1 h2 h3 h4] at h ⊢
            exact (fadd_FOk (m1.v h3) (m2.v h4)).v h
          · rw [price_m h1 h2 h3 h4] at h; cases h
        · rw [price_h h1 h2 h3] at h; cases h
      · rw [price_b h1 h2] at h; exact absurd h h2
    · rw [price_v h1] at h; exact absurd h h1
  · rw [sCost_c hc] at h; exact absurd h hc
/-- A point and a witness. -/
def bothB (A : List (List Int)) (x y : List (Int × Int)) : Bool := pointB (A.getD 0 []).length x && witB A.length y
def dgap (A : List (List Int)) (B : List Int) (c : Int) (x y : List (Int × Int)) : FR :=
  if scheck A B c = 0 then (if bothB A x y = true then (if (sCost A B c x).e = 0 then (if (dworth A B y).e = 0 then fsub (sCost A B c x).n (sCost A B c x).d (dworth A B y).n (dworth A B y).d else ⟨0, 0, (dworth A B y).e⟩) else ⟨0, 0, (sCost A B c x).e⟩) else ⟨0, 0, 2⟩) else ⟨0, 0, scheck A B c⟩
section
variable {A : List (List Int)} {B : List Int} {c : Int} {x y : List (Int × Int)}
theorem dgap_c (h : ¬ scheck A B c = 0) : dgap A B c x y = ⟨0, 0, scheck A B c⟩ := if_neg h
theorem dgap_2 (h : scheck A B c = 0) (h' : bothB A x y = false) : dgap A B c x y = ⟨0, 0, 2⟩ := by unfold dgap; rw [if_pos h, if_neg (by rw [h']; decide)]
theorem dgap_p (h : scheck A B c = 0) (h' : bothB A x y = true) (h1 : ¬ (sCost A B c x).e = 0) : dgap A B c x y = ⟨0, 0, (sCost A B c x).e⟩ := by unfold dgap; rw [if_pos h, if_pos h', if_neg h1]
theorem dgap_w (h : scheck A B c = 0) (h' : bothB A x y = true) (h1 : (sCost A B c x).e = 0) (h2 : ¬ (dworth A B y).e = 0) : dgap A B c x y = ⟨0, 0, (dworth A B y).e⟩ := by unfold dgap; rw [if_pos h, if_pos h', if_pos h1, if_neg h2]
theorem dgap_0 (h : scheck A B c = 0) (h' : bothB A x y = true) (h1 : (sCost A B c x).e = 0) (h2 : (dworth A B y).e = 0) : dgap A B c x y = fsub (sCost A B c x).n (sCost A B c x).d (dworth A B y).n (dworth A B y).d := by unfold dgap; rw [if_pos h, if_pos h', if_pos h1, if_pos h2]
def daccept (A : List (List Int)) (B : List Int) (c : Int) (x y : List (Int × Int)) (gn gd : Int) : Bool × Int :=
  if scheck A B c = 0 then (if bothB A x y = true then (if fchk gn gd = 0 then (if (dfeas A B c y).2 = 0 then (if (dgap A B c x y).e = 0 then ((dfeas A B c y).1 && (decide ((dgap A B c x y).n = gn) && decide ((dgap A B c x y).d = gd)), 0) else (false, (dgap A B c x y).e)) else (false, (dfeas A B c y).2)) else (false, 8)) else (false, 2)) else (false, scheck A B c)
variable {gn gd : Int}
theorem dacc_c (h : ¬ scheck A B c = 0) : daccept A B c x y gn gd = (false, scheck A B c) := if_neg h
theorem dacc_2 (h : scheck A B c = 0) (h' : bothB A x y = false) : daccept A B c x y gn gd = (false, 2) := by unfold daccept; rw [if_pos h, if_neg (by rw [h']; decide)]
theorem dacc_8 (h : scheck A B c = 0) (h' : bothB A x y = true) (h1 : ¬ fchk gn gd = 0) : daccept A B c x y gn gd = (false, 8) := by unfold daccept; rw [if_pos h, if_pos h', if_neg h1]
theorem dacc_f (h : scheck A B c = 0) (h' : bothB A x y = true) (h1 : fchk gn gd = 0) (h2 : ¬ (dfeas A B c y).2 = 0) : daccept A B c x y gn gd = (false, (dfeas A B c y).2) := by unfold daccept; rw [if_pos h, if_pos h', if_pos h1, if_neg h2]
theorem dacc_g (h : scheck A B c = 0) (h' : bothB A x y = true) (h1 : fchk gn gd = 0) (h2 : (dfeas A B c y).2 = 0) (h3 : ¬ (dgap A B c x y).e = 0) : daccept A B c x y gn gd = (false, (dgap A B c x y).e) := by unfold daccept; rw [if_pos h, if_pos h', if_pos h1, if_pos h2, if_neg h3]
theorem dacc_0 (h : scheck A B c = 0) (h' : bothB A x y = true) (h1 : fchk gn gd = 0) (h2 : (dfeas A B c y).2 = 0) (h3 : (dgap A B c x y).e = 0) : daccept A B c x y gn gd = ((dfeas A B c y).1 && (decide ((dgap A B c x y).n = gn) && decide ((dgap A B c x y).d = gd)), 0) := by unfold daccept; rw [if_pos h, if_pos h', if_pos h1, if_pos h2, if_pos h3]
end
end Go.Proofs.Ythlcmlngmcoknaa

/- What is proved here: the contracts of sparse.ready, sparse.whole and fringeref38.Check. Condition: a system whose lists can be read. -/
namespace Go.Proofs.Ythlcmlngmcoknaa
open Go.RowKit

theorem swhole_any (n : Int) (w : World) : Calls Try.prog 145 #[.int .i64 n] w fun e w' => e = .returned (.agg #[.int .i64 n, .int .i64 1]) ∧ Below w.heap.size w w' := by
  go_enter Try.func145, Try.ntmps145
  go_wp2
  have oR := Own.new w 78 [.int .i64 n, .int .i64 1]
  have hB := ba1 w (.cells #[.int .i64 n, .int .i64 1] 78)
  refine bp_gen' (fun W => Own W _ _ _ ∧ Below w.heap.size w W) ⟨oR, hB⟩ ?_
  rintro wz ⟨oz, bz⟩
  obtain ⟨rz, fz⟩ := oz.rules
  clear oz
  refine bodyPost_ret (v := .agg #[.int .i64 n, .int .i64 1]) (by simp [results, Try.results145, go_sem, rz]) rfl ⟨rfl, ?_⟩
  exact bz
set_option maxRecDepth 100000 in
set_option maxHeartbeats 4000000 in
theorem sready_any (A : List (List Int)) (B : List Int) (c : Int) (va vb : Value) (w : World) (hA : SS w va A) (hB : SI w vb B) :
    Calls Try.prog 133 #[.agg #[va, vb], .int .i64 c] w fun e w' => e = .returned (.int .i64 (scheck A B c)) ∧ Below w.heap.size w w' := by
  go_enter Try.func133, Try.ntmps133
  have oS := Own.new w 25 [va, vb]
  have hy := ba1 w (.cells #[va, vb] 25)
  replace hA := hA.below hy
  replace hB := hB.below hy
  obtain ⟨rS, fS⟩ := oS.rules
  have zS := oS.lt
  go_wp2_with fail
  refine (ncheck_any A B _ _ _ hA hB).mono ?_
  rintro e y1 ⟨rfl, hq⟩
  clear rS fS zS
  replace oS := oS.below hq
  replace hA := hA.below hq
  replace hB := hB.below hq
  replace hy := below_to hy hq
  clear hq
  obtain ⟨rS, fS⟩ := oS.rules
  have zS := oS.lt
  by_cases h0 : ncheck A B = 0
  case neg =>
    have HV := Lib.hid (scheck_c (c := c) h0)
    have b1 : (ncheck A B != 0) = true := by simpa using h0
    clear h0 hA hB
    go_wp2
    go_ret
    exact ⟨by rw [HV.out]; try rfl, hy⟩
  have b1 : (ncheck A B != 0) = false := by simp [h0]
  by_cases h1 : c < 0
  · have HV := Lib.hid (scheck_2 h0 (.inl h1))
    have b2 : decide (c < 0) = true := by simpa using h1
    clear h0 hA hB
    go_wp2
    go_ret
    exact ⟨by rw [HV.out]; try rfl, hy⟩
  have b2 : decide (c < 0) = false := by simpa using h1
  by_cases h2 : 1000 < c
  · have HV := Lib.hid (scheck_2 h0 (.inr h2))
    have b3 : decide (1000 < c) = true := by simpa using h2
    clear h0 hA hB
    go_wp2
    go_ret
    exact ⟨by rw [HV.out]; try rfl, hy⟩
  have b3 : decide (1000 < c) = false := by simpa using h2
  have HV := Lib.hid (scheck_0 (c := c) h0 (by omega) (by omega))
  clear h0 hA hB
  go_wp2
  go_ret
  exact ⟨by rw [HV.out]; try rfl, hy⟩
set_option maxRecDepth 100000 in
set_option maxHeartbeats 4000000 in
theorem rscheck_any (A : List (List Int)) (B : List Int) (c : Int) (va vb : Value) (w : World) (hA : SS w va A) (hB : SI w vb B) :
    Calls Try.prog 43 #[.agg #[va, vb], .int .i64 c] w fun e w' => e = .returned (.int .i64 (scheck A B c)) ∧ Below w.heap.size w w' := by
  go_enter Try.func43, Try.ntmps43
  have oS := Own.new w 25 [va, vb]
  have hy := ba1 w (.cells #[va, vb] 25)
  replace hA := hA.below hy
  replace hB := hB.below hy
  obtain ⟨rS, fS⟩ := oS.rules
  have zS := oS.lt
  go_wp2_with fail
  refine (rncheck_any A B _ _ _ hA hB).mono ?_
  rintro e y1 ⟨rfl, hq⟩
  clear rS fS zS
  replace oS := oS.below hq
  replace hA := hA.below hq
  replace hB := hB.below hq
  replace hy := below_to hy hq
  clear hq
  obtain ⟨rS, fS⟩ := oS.rules
  have zS := oS.lt
  by_cases h0 : ncheck A B = 0
  case neg =>
    have HV := Lib.hid (scheck_c (c := c) h0)
    have b1 : (ncheck A B != 0) = true := by simpa using h0
    clear h0 hA hB
    go_wp2
    go_ret
    exact ⟨by rw [HV.out]; try rfl, hy⟩
  have b1 : (ncheck A B != 0) = false := by simp [h0]
  by_cases h1 : c < 0
  · have HV := Lib.hid (scheck_2 h0 (.inl h1))
    have b2 : decide (c < 0) = true := by simpa using h1
    clear h0 hA hB
    go_wp2
    go_ret
    exact ⟨by rw [HV.out]; try rfl, hy⟩
  have b2 : decide (c < 0) = false := by simpa using h1
  by_cases h2 : 1000 < c
  · have HV := Lib.hid (scheck_2 h0 (.inr h2))
    have b3 : decide (1000 < c) = true := by simpa using h2
    clear h0 hA hB
    go_wp2
    go_ret
    exact ⟨by rw [HV.out]; try rfl, hy⟩
  have b3 : decide (1000 < c) = false := by simpa using h2
  have HV := Lib.hid (scheck_0 (c := c) h0 (by omega) (by omega))
  clear h0 hA hB
  go_wp2
  go_ret
  exact ⟨by rw [HV.out]; try rfl, hy⟩
end Go.Proofs.Ythlcmlngmcoknaa

/- What is proved here: the contract of frac.Make. Condition: the numbers are 64-bit integers. -/
namespace Go.Proofs.Ythlcmlngmcoknaa
open Go.RowKit

set_option maxHeartbeats 800000 in
theorem make_any (num den : Int) (w : World) (h1 : i64 num) (h2 : i64 den) :
    Calls Try.prog 114 #[.int .i64 num, .int .i64 den] w fun e w' => e = .returned (.tuple #[.agg #[.int .i64 (fmk num den).n, .int .i64 (fmk num den).d], .int .i64 (fmk num den).e]) ∧ Below w.heap.size w w' := by
  by_cases h : den = 0
  · subst h
    rw [fmk_0]
    go_enter Try.func114, Try.ntmps114
    go_wp2
    exact bodyPost_ret (v := .tuple #[.agg #[.int .i64 0, .int .i64 0], .int .i64 18]) (by simp [results, Try.results114, go_sem]) rfl ⟨rfl, ba1 _ _⟩
  · have H := Lib.hid (fmk_ne (num := num) h)
    obtain ⟨n1, n2⟩ := h1
    obtain ⟨d1, d2⟩ := h2
    have b1 : (den == 0) = false := by simpa using h
    have hg : 0 < Nat.gcd num.natAbs den.natAbs := Nat.gcd_pos_of_pos_right _ (by omega)
    have hgl : Nat.gcd num.natAbs den.natAbs ≤ den.natAbs := Nat.gcd_le_right _ (by omega)
    have na : num.natAbs ≤ 9223372036854775808 := by omega
    have da : den.natAbs ≤ 9223372036854775808 := by omega
    have q1 := quo_bd num.natAbs (Nat.gcd num.natAbs den.natAbs) na
    have q2 := quo_bd den.natAbs (Nat.gcd num.natAbs den.natAbs) da
    have e1 := wrap_quo num.natAbs (Nat.gcd num.natAbs den.natAbs) na
    have e2 := wrap_quo den.natAbs (Nat.gcd num.natAbs den.natAbs) da
    generalize hgg : Nat.gcd num.natAbs den.natAbs = g at *
    have HG := Lib.hid hgg
    have g0 : ((g : Int) == 0) = false := by simp; omega
    have g1 : ¬ ((g : Int) = 0) := by omega
    clear hgg h
    go_enter Try.func114, Try.ntmps114
    go_wp2_with fail
    refine (size_any _ _ (by omega) (by omega)).mono ?_
    rintro e _ ⟨rfl, rfl⟩
    go_wp2_with fail
    refine (size_any _ _ (by omega) (by omega)).mono ?_
    rintro e _ ⟨rfl, rfl⟩
    go_wp2_with fail
    refine (gcd_any _ _ _ (by omega) (by omega)).mono ?_
    rintro e w1 ⟨rfl, nd, rfl⟩
    rw [HG.out]
    go_wp2_with fail
    refine wp_region_st [.t [0, 1, 2, 3, 4, 5, 6, 7, 8, 9, 10], .f 11, .t [12, 13]] [14, 15] (by kernel_rfl) (by kernel_rfl) (fun _ _ _ _ _ h => h) ?_
    refine wpX_t ?_
    try simp only [opsAt, List.getElem?_toArray, List.getElem?_cons_zero, List.getElem?_cons_succ, Option.getD_some]
    repeat (go_big_quiet_step (fail))
    refine wpQuiet_nil ?_
    refine wpX_f rfl rfl (fun K' hK' => ?_)
    go_simp
    refine (build_any _ _ _ _ (by omega) (by omega) (by omega) (by omega)).mono ?_
    rintro e w1 ⟨rfl, hb1⟩
    refine hK' _ _ (grow_of (below_to ((Below.refl _ _).drew) hb1)) ?_
    clear hK' K'
    obtain ⟨c1, f1⟩ := bcell hb1
    have z1 := (hb1).size
    try simp at z1
    try simp at c1
    try simp at f1
    refine wpX_t ?_
    try simp only [opsAt, List.getElem?_toArray, List.getElem?_cons_zero, List.getElem?_cons_succ, Option.getD_some]
    repeat (go_big_quiet_step (fail))
    refine wpQuiet_nil ?_
    refine wpX_nil ?_
    try simp only [opsAt, List.getElem?_toArray, List.getElem?_cons_zero, List.getElem?_cons_succ, Option.getD_some]
    go_wp2
    generalize hr : bld (!decide (num < 0) == decide (den < 0)) (↑num.natAbs / ↑g) (↑den.natAbs / ↑g) = r at *
    have HR : Hid (fmk num den = r) := by show _ = _; rw [H.out, ← hr]; rfl
    clear hr H
    refine bodyPost_ret (v := .tuple #[.agg #[.int .i64 r.n, .int .i64 r.d], .int .i64 r.e]) (by simp [results, Try.results114, go_sem, c1]) rfl ⟨by rw [HR.out], ?_⟩
    repeat (refine Below.setCell ?_ (by first | omega | (simp; done) | (simp; omega)) _)
    exact below_to (ba1 _ _) (below_to (below_drewN _ _) hb1)

end Go.Proofs.Ythlcmlngmcoknaa

/- What is proved here: a row of fractions of the call's own that is written over. No condition. -/
namespace Go.Proofs.Ythlcmlngmcoknaa
open Go.RowKit

/-- A row of the call's own that is not empty, as a block. -/
theorem owns_open {w : World} {B : Nat} {T : TypeId} {u : Value} {xs : List (Int × Int)} (h : w.ownsRow B T 2 u xs.length (fcs xs)) (h0 : 0 < xs.length) :
    ∃ G cap rest, u = .slice (some ⟨G, 0, none⟩) xs.length cap ∧ B ≤ G ∧ Own w G T (fcs xs ++ rest) ∧ xs.length ≤ cap ∧ cap ≤ maxLen ∧ (fcs xs ++ rest).length = cap * 2 := by
  obtain ⟨hl, h2⟩ := h
  rcases h2 with ⟨_, h2⟩ | ⟨g, cap, cur, h3, hg, hh, h4, h5, h6, h7⟩
  · omega
  · refine ⟨g, cap, cur.toList.drop (xs.length * 2), h3, hg, ?_, h4, h5, ?_⟩
    · unfold Own; rw [hh, ← h7, List.take_append_drop]
    · rw [← h7, List.take_append_drop]; simpa using h6
theorem owns_shut {w : World} {B : Nat} {T : TypeId} {xs : List (Int × Int)} {rest : List Value} {G cap : Nat} (h : Own w G T (fcs xs ++ rest)) (hB : B ≤ G) (h4 : xs.length ≤ cap) (h5 : cap ≤ maxLen) (h6 : (fcs xs ++ rest).length = cap * 2) :
    w.ownsRow B T 2 (.slice (some ⟨G, 0, none⟩) xs.length cap) xs.length (fcs xs) :=
  ⟨fcs_len xs, .inr ⟨G, cap, (fcs xs ++ rest).toArray, rfl, hB, h, h4, h5, by simpa using h6, by rw [List.toList_toArray, ← fcs_len, List.take_left']; rfl⟩⟩
theorem fcs_at {xs : List (Int × Int)} {k : Nat} (rest : List Value) (h : k < xs.length) : (fcs xs ++ rest)[k * 2]? = some (.int .i64 xs[k].1) ∧ (fcs xs ++ rest)[k * 2 + 1]? = some (.int .i64 xs[k].2) := by
  obtain ⟨h1, h2⟩ := fcs_get xs k h
  have hl := fcs_len xs
  rw [List.getElem?_append_left (by omega), List.getElem?_append_left (by omega)]
  exact ⟨h1, h2⟩
theorem fcs_put {xs : List (Int × Int)} {k : Nat} (rest : List Value) (h : k < xs.length) (p : Int × Int) : ((fcs xs ++ rest).set (k * 2) (.int .i64 p.1)).set (k * 2 + 1) (.int .i64 p.2) = fcs (xs.set k p) ++ rest := by
  have hl := fcs_len xs
  rw [List.set_append_left _ _ (by omega), List.set_append_left _ _ (by rw [List.length_set]; omega), fcs_set]
/-- A row that is written over from the left. -/
theorem over_set {rs g : List (Int × Int)} {m : Nat} (p : Int × Int) (h : rs.length = m) (hm : m < g.length) : (rs ++ g.drop m).set m p = (rs ++ [p]) ++ g.drop (m + 1) := by
  rw [List.set_append_right _ _ (by omega), h, Nat.sub_self, List.drop_eq_getElem_cons hm, List.set_cons_zero, List.append_assoc]
  rfl
theorem over_get {rs g : List (Int × Int)} {m : Nat} (h : rs.length = m) (hm : m < g.length) : (rs ++ g.drop m)[m]'(by simp; omega) = g[m] := by
  rw [List.getElem_append_right (by omega)]
  simp [h]
theorem over_len {rs g : List (Int × Int)} {m : Nat} (h : rs.length = m) (hm : m ≤ g.length) : (rs ++ g.drop m).length = g.length := by simp; omega
end Go.Proofs.Ythlcmlngmcoknaa

/- What is proved here: plain facts on rows that are written over. No program in sight. -/
namespace Go.Proofs.Ythlcmlngmcoknaa
open Go.RowKit

theorem fr_neg {n d : Int} (h : fchk n d = 0) : -9223372036854775807 ≤ n ∧ n ≤ 9223372036854775807 := by
  have h2 := (Q_ok h).2.2.1
  have h3 := (Q_ok h).1
  rw [h3] at h2
  omega
/-- A row that is written over from the left by another one. -/
theorem neg_set {r : List (Int × Int)} {m : Nat} (hm : m < r.length) : ((negs r).take m ++ r.drop m).set m (-r[m].1, r[m].2) = (negs r).take (m + 1) ++ r.drop (m + 1) := by
  have h1 : ((negs r).take m).length = m := by simp [negs]; omega
  rw [over_set _ h1 hm]
  congr 1
  rw [List.take_add_one, negs_get hm]
  rfl
theorem neg_get {r : List (Int × Int)} {m : Nat} (hm : m < r.length) : ((negs r).take m ++ r.drop m)[m]'(by simp [negs]; omega) = r[m] := by
  have h1 : ((negs r).take m).length = m := by simp [negs]; omega
  exact over_get h1 hm
theorem neg_len {r : List (Int × Int)} {m : Nat} (hm : m ≤ r.length) : ((negs r).take m ++ r.drop m).length = r.length := by simp [negs]; omega
/-- The first number of a fraction of a row is stored. -/
theorem fcs_put1 {xs : List (Int × Int)} {k : Nat} (rest : List Value) (h : k < xs.length) (v : Int) : (fcs xs ++ rest).set (k * 2) (.int .i64 v) = fcs (xs.set k (v, xs[k].2)) ++ rest := by
  rw [← fcs_put rest h (v, xs[k].2)]
  have hl := fcs_len xs
  have h2 := (fcs_at rest h).2
  have h3 : ((fcs xs ++ rest).set (k * 2) (.int .i64 v))[k * 2 + 1]? = some (.int .i64 xs[k].2) := by
    rw [List.getElem?_set_ne (by omega)]; exact h2
  obtain ⟨h4, h5⟩ := List.getElem?_eq_some_iff.1 h3
  rw [← h5, List.set_getElem_self]
end Go.Proofs.Ythlcmlngmcoknaa
