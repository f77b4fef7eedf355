/- What is proved here: contracts of functions and plain facts, several texts in one; each one says ahead what it proves, and its conditions. -/
import Derived.Test.YtpjhiojdnebgoaaC04
import Derived.Test.YtpjhiojdnebgoaaC09
import Derived.LoopN
import Derived.Test.YtpjhiojdnebgoaaC05
/- What is proved here: the contracts of the reference's big, Small and lowest. Condition: the numbers are 64-bit integers. -/
namespace Go.Proofs.Ytpjhiojdnebgoaa
open Go.RowKit

/-- A digit to the base 2^32. -/
def dg (x i : Nat) : Nat := x / 4294967296 ^ i % 4294967296
theorem dg_lt (x i : Nat) : dg x i < 4294967296 := Nat.mod_lt _ (by decide)
theorem dg_of {x a b c d : Nat} (ha : a < 4294967296) (hb : b < 4294967296) (hc : c < 4294967296) (hd : d < 4294967296) (h : x = a + b * 4294967296 + c * 18446744073709551616 + d * 79228162514264337593543950336) :
    dg x 0 = a ∧ dg x 1 = b ∧ dg x 2 = c ∧ dg x 3 = d := by
  unfold dg
  refine ⟨?_, ?_, ?_, ?_⟩
  · rw [show 4294967296 ^ 0 = 1 from rfl]; omega
  · rw [show 4294967296 ^ 1 = 4294967296 from rfl]; omega
  · rw [show 4294967296 ^ 2 = 18446744073709551616 from rfl]; omega
  · rw [show 4294967296 ^ 3 = 79228162514264337593543950336 from rfl]; omega
theorem dg_sum (x : Nat) (h : x < 340282366920938463463374607431768211456) : x = dg x 0 + dg x 1 * 4294967296 + dg x 2 * 18446744073709551616 + dg x 3 * 79228162514264337593543950336 := by
  unfold dg
  rw [show 4294967296 ^ 0 = 1 from rfl, show 4294967296 ^ 1 = 4294967296 from rfl, show 4294967296 ^ 2 = 18446744073709551616 from rfl, show 4294967296 ^ 3 = 79228162514264337593543950336 from rfl]
  omega
theorem dg_small {n : Nat} (h : n ≤ 18446744073709551615) : dg n 0 = n % 4294967296 ∧ dg n 1 = n / 4294967296 ∧ dg n 2 = 0 ∧ dg n 3 = 0 := dg_of (by omega) (by omega) (by omega) (by omega) (by omega)

theorem big_any (n : Nat) (w : World) (h : n ≤ 18446744073709551615) :
    Calls Try.prog 99 #[.int .u64 n] w fun e w' => e = .returned (.agg #[.int .u64 (dg n 0), .int .u64 (dg n 1), .int .u64 (dg n 2), .int .u64 (dg n 3)]) ∧ Below w.heap.size w w' := by
  have H := Lib.hid (dg_small h)
  have r1 := and32 n (by omega)
  have r2 : (n : Int) / 4294967296 = ((n / 4294967296 : Nat) : Int) := rfl
  generalize n % 4294967296 = a at *
  generalize n / 4294967296 = b at *
  go_enter Try.func99, Try.ntmps99
  go_wp2
  refine bodyPost_ret (v := .agg #[.int .u64 a, .int .u64 b, .int .u64 0, .int .u64 0]) (by simp [results, Try.results99, go_sem]) rfl ⟨by rw [H.out.1, H.out.2.1, H.out.2.2.1, H.out.2.2.2]; rfl, ?_⟩
  repeat (refine Below.setCell ?_ (by first | omega | (simp; done) | (simp; omega)) _)
  exact ba1 _ _

set_option maxHeartbeats 800000 in
theorem small_any (x : Nat) (w : World) (hx : x < 340282366920938463463374607431768211456) :
    Calls Try.prog 100 #[.agg #[.int .u64 (dg x 0), .int .u64 (dg x 1), .int .u64 (dg x 2), .int .u64 (dg x 3)]] w fun e w' => e = .returned (.tuple #[.int .i64 (x % 9223372036854775808 : Nat), .bool (decide (x ≤ 1000000000000000000))]) ∧ Below w.heap.size w w' := by
  have HS := Lib.hid (dg_sum x hx)
  have l0 := dg_lt x 0
  have l1 := dg_lt x 1
  have l2 := dg_lt x 2
  have l3 := dg_lt x 3
  generalize dg x 0 = a at *
  generalize dg x 1 = b at *
  generalize dg x 2 = c at *
  generalize dg x 3 = d at *
  have r1 := or32 a b l0 l1
  have r2 := and63 (b * 4294967296 + a) (by omega)
  have hm : (b * 4294967296 + a) % 9223372036854775808 = x % 9223372036854775808 := by have := HS.out; omega
  rw [hm] at r2
  have hn : b * 4294967296 + a < 18446744073709551616 := by omega
  generalize hN : b * 4294967296 + a = N at *
  have HN := Lib.hid hN
  have HX : Hid (x = N + c * 18446744073709551616 + d * 79228162514264337593543950336) := by show x = _; have := HS.out; omega
  have hM : x % 9223372036854775808 < 9223372036854775808 := Nat.mod_lt _ (by decide)
  generalize x % 9223372036854775808 = M at *
  clear hN hm hx
  by_cases hc : c = 0
  · subst hc
    by_cases hd : d = 0
    · subst hd
      have H : Hid (decide (x ≤ 1000000000000000000) = decide ((N : Int) ≤ 1000000000000000000)) := by
        show _ = _
        have := HX.out
        exact decide_eq_decide.2 (by omega)
      go_enter Try.func100, Try.ntmps100
      go_wp2
      go_ret2
      exact ⟨by rw [H.out]; try rfl, ba1 _ _⟩
    · have b1 : ((d : Int) == 0) = false := by simpa using hd
      have H : Hid (decide (x ≤ 1000000000000000000) = false) := by show _ = _; have := HX.out; simp; omega
      clear hd
      go_enter Try.func100, Try.ntmps100
      go_wp2
      go_ret2
      exact ⟨by rw [H.out]; try rfl, ba1 _ _⟩
  · have b1 : ((c : Int) == 0) = false := by simpa using hc
    have H : Hid (decide (x ≤ 1000000000000000000) = false) := by show _ = _; have := HX.out; simp; omega
    clear hc
    go_enter Try.func100, Try.ntmps100
    go_wp2
    go_ret2
    exact ⟨by rw [H.out]; try rfl, ba1 _ _⟩

set_option maxHeartbeats 800000 in
theorem lowest_any (neg : Bool) (x y : Nat) (w : World) (hx : x < 340282366920938463463374607431768211456) (hy : y < 340282366920938463463374607431768211456) :
    Calls Try.prog 70 #[.bool neg, .agg #[.int .u64 (dg x 0), .int .u64 (dg x 1), .int .u64 (dg x 2), .int .u64 (dg x 3)], .agg #[.int .u64 (dg y 0), .int .u64 (dg y 1), .int .u64 (dg y 2), .int .u64 (dg y 3)]] w fun e w' =>
      e = .returned (.tuple #[.agg #[.int .i64 (bld neg x y).n, .int .i64 (bld neg x y).d], .int .i64 (bld neg x y).e]) ∧ Below w.heap.size w w' := by
  have mx : x ≤ 1000000000000000000 → x % 9223372036854775808 = x := fun h => Nat.mod_eq_of_lt (by omega)
  have my : y ≤ 1000000000000000000 → y % 9223372036854775808 = y := fun h => Nat.mod_eq_of_lt (by omega)
  have MX := Lib.hid mx
  have MY := Lib.hid my
  clear mx my
  have LX : Hid (x % 9223372036854775808 < 9223372036854775808) := Nat.mod_lt _ (by decide)
  have LY : Hid (y % 9223372036854775808 < 9223372036854775808) := Nat.mod_lt _ (by decide)
  by_cases h : x ≤ 1000000000000000000 ∧ y ≤ 1000000000000000000
  · obtain ⟨h1, h2⟩ := h
    have b1 : decide (x ≤ 1000000000000000000) = true := by simpa using h1
    have b2 : decide (y ≤ 1000000000000000000) = true := by simpa using h2
    have H := Lib.hid (bld_yes (neg := neg) (num := x) (den := y) (by omega))
    cases neg
    · go_enter Try.func70, Try.ntmps70
      go_wp2_with fail
      refine (small_any x _ hx).mono ?_
      rintro e w1 ⟨rfl, hb1⟩
      rw [MX.out h1]
      obtain ⟨c1, f1⟩ := bcell hb1
      have z1 := (hb1).size
      try simp at z1
      try simp at c1
      try simp at f1
      have z1a : w.heap.size < w1.heap.size := by omega
      have z1b : w.heap.size + 1 < w1.heap.size := by omega
      have z1c : w.heap.size + 1 + 1 < w1.heap.size := by omega
      go_wp2_with fail
      refine (small_any y _ hy).mono ?_
      rintro e w2 ⟨rfl, hb2⟩
      rw [MY.out h2]
      obtain ⟨c2, f2⟩ := bcell hb2
      have z2 := (hb2).size
      try simp at z2
      try simp at c2
      try simp at f2
      have z2a : w.heap.size < w2.heap.size := by omega
      have z2b : w.heap.size + 1 < w2.heap.size := by omega
      have z2c : w.heap.size + 1 + 1 < w2.heap.size := by omega
      go_wp2
      refine bodyPost_ret (v := .tuple #[.agg #[.int .i64 x, .int .i64 y], .int .i64 0]) (by simp [results, Try.results70, go_sem, c1, c2, z1c]) rfl ⟨by rw [H.out]; try rfl, ?_⟩
      repeat (refine Below.setCell ?_ (by first | omega | (simp; done) | (simp; omega)) _)
      exact below_to (below_to (ba3 _ _ _ _) hb1) hb2
    · go_enter Try.func70, Try.ntmps70
      go_wp2_with fail
      refine (small_any x _ hx).mono ?_
      rintro e w1 ⟨rfl, hb1⟩
      rw [MX.out h1]
      obtain ⟨c1, f1⟩ := bcell hb1
      have z1 := (hb1).size
      try simp at z1
      try simp at c1
      try simp at f1
      have z1a : w.heap.size < w1.heap.size := by omega
      have z1b : w.heap.size + 1 < w1.heap.size := by omega
      have z1c : w.heap.size + 1 + 1 < w1.heap.size := by omega
      go_wp2_with fail
      refine (small_any y _ hy).mono ?_
      rintro e w2 ⟨rfl, hb2⟩
      rw [MY.out h2]
      obtain ⟨c2, f2⟩ := bcell hb2
      have z2 := (hb2).size
      try simp at z2
      try simp at c2
      try simp at f2
      have z2a : w.heap.size < w2.heap.size := by omega
      have z2b : w.heap.size + 1 < w2.heap.size := by omega
      have z2c : w.heap.size + 1 + 1 < w2.heap.size := by omega
      go_wp2
      refine bodyPost_ret (v := .tuple #[.agg #[.int .i64 (-x), .int .i64 y], .int .i64 0]) (by simp [results, Try.results70, go_sem, c1, c2, z1c]) rfl ⟨by rw [H.out]; try rfl, ?_⟩
      repeat (refine Below.setCell ?_ (by first | omega | (simp; done) | (simp; omega)) _)
      exact below_to (below_to (ba3 _ _ _ _) hb1) hb2
  · have H := Lib.hid (bld_no (neg := neg) (num := x) (den := y) (by omega))
    by_cases h1 : x ≤ 1000000000000000000
    · have b1 : decide (x ≤ 1000000000000000000) = true := by simpa using h1
      have b2 : decide (y ≤ 1000000000000000000) = false := by simp; omega
      clear h h1
      go_enter Try.func70, Try.ntmps70
      go_wp2_with fail
      refine (small_any x _ hx).mono ?_
      rintro e w1 ⟨rfl, hb1⟩
      obtain ⟨c1, f1⟩ := bcell hb1
      have z1 := (hb1).size
      try simp at z1
      try simp at c1
      try simp at f1
      have z1a : w.heap.size < w1.heap.size := by omega
      have z1b : w.heap.size + 1 < w1.heap.size := by omega
      have z1c : w.heap.size + 1 + 1 < w1.heap.size := by omega
      go_wp2_with fail
      refine (small_any y _ hy).mono ?_
      rintro e w2 ⟨rfl, hb2⟩
      obtain ⟨c2, f2⟩ := bcell hb2
      have z2 := (hb2).size
      try simp at z2
      try simp at c2
      try simp at f2
      have z2a : w.heap.size < w2.heap.size := by omega
      have z2b : w.heap.size + 1 < w2.heap.size := by omega
      have z2c : w.heap.size + 1 + 1 < w2.heap.size := by omega
      go_wp2
      refine bodyPost_ret (v := .tuple #[.agg #[.int .i64 0, .int .i64 0], .int .i64 16]) (by simp [results, Try.results70, go_sem, c1, c2, z1c]) rfl ⟨by rw [H.out]; try rfl, ?_⟩
      repeat (refine Below.setCell ?_ (by first | omega | (simp; done) | (simp; omega)) _)
      exact below_to (below_to (ba3 _ _ _ _) hb1) hb2
    · have b1 : decide (x ≤ 1000000000000000000) = false := by simp; omega
      clear h h1
      go_enter Try.func70, Try.ntmps70
      go_wp2_with fail
      refine (small_any x _ hx).mono ?_
      rintro e w1 ⟨rfl, hb1⟩
      obtain ⟨c1, f1⟩ := bcell hb1
      have z1 := (hb1).size
      try simp at z1
      try simp at c1
      try simp at f1
      have z1a : w.heap.size < w1.heap.size := by omega
      have z1b : w.heap.size + 1 < w1.heap.size := by omega
      have z1c : w.heap.size + 1 + 1 < w1.heap.size := by omega
      go_wp2_with fail
      refine (small_any y _ hy).mono ?_
      rintro e w2 ⟨rfl, hb2⟩
      obtain ⟨c2, f2⟩ := bcell hb2
      have z2 := (hb2).size
      try simp at z2
      try simp at c2
      try simp at f2
      have z2a : w.heap.size < w2.heap.size := by omega
      have z2b : w.heap.size + 1 < w2.heap.size := by omega
      have z2c : w.heap.size + 1 + 1 < w2.heap.size := by omega
      go_wp2
      refine bodyPost_ret (v := .tuple #[.agg #[.int .i64 0, .int .i64 0], .int .i64 16]) (by simp [results, Try.results70, go_sem, c1, c2, z1c]) rfl ⟨by rw [H.out]; try rfl, ?_⟩
      repeat (refine Below.setCell ?_ (by first | omega | (simp; done) | (simp; omega)) _)
      exact below_to (below_to (ba3 _ _ _ _) hb1) hb2

theorem big_of (m : Int) (n : Nat) (w : World) (hm : m = n) (h : n ≤ 18446744073709551615) :
    Calls Try.prog 99 #[.int .u64 m] w fun e w' => e = .returned (.agg #[.int .u64 (dg n 0), .int .u64 (dg n 1), .int .u64 (dg n 2), .int .u64 (dg n 3)]) ∧ Below w.heap.size w w' := by
  subst hm; exact big_any n w h
theorem mul_bd {a b : Nat} (ha : a < 4294967296) (hb : b < 4294967296) : 0 ≤ (a : Int) * b ∧ (a : Int) * b ≤ 18446744065119617025 := by
  have h := Nat.mul_le_mul (show a ≤ 4294967295 by omega) (show b ≤ 4294967295 by omega)
  rw [← Int.natCast_mul]
  generalize a * b = c at *
  omega
theorem and32' (z : Int) (n : Nat) (hz : z = n) (hn : n < 18446744073709551616) : bits BinOp.and IntKind.u64 z 4294967295 = ((n % 4294967296 : Nat) : Int) := by subst hz; exact and32 n hn

/-- The steps of a product of two numbers of two digits. -/
structure Prod4 (x0 x1 y0 y1 : Nat) where
  a0 : Nat
  c0 : Nat
  a1 : Nat
  c1 : Nat
  b1 : Nat
  e0 : Nat
  b2 : Nat
  e1 : Nat
  l0 : a0 < 4294967296
  l1 : a1 < 4294967296
  l2 : b1 < 4294967296
  l3 : b2 < 4294967296
  m0 : c0 < 4294967296
  m1 : c1 < 4294967296
  m2 : e0 < 4294967296
  m3 : e1 < 4294967296
  r1 : bits BinOp.and IntKind.u64 ((x0 : Int) * y0) 4294967295 = a0
  r2 : ((x0 : Int) * y0) / 4294967296 = c0
  r3 : bits BinOp.and IntKind.u64 ((c0 : Int) + (x0 : Int) * y1) 4294967295 = a1
  r4 : ((c0 : Int) + (x0 : Int) * y1) / 4294967296 = c1
  r5 : bits BinOp.and IntKind.u64 ((a1 : Int) + (x1 : Int) * y0) 4294967295 = b1
  r6 : ((a1 : Int) + (x1 : Int) * y0) / 4294967296 = e0
  r7 : bits BinOp.and IntKind.u64 ((e0 : Int) + ((c1 : Int) + (x1 : Int) * y1)) 4294967295 = b2
  r8 : ((e0 : Int) + ((c1 : Int) + (x1 : Int) * y1)) / 4294967296 = e1
  total : (x0 + x1 * 4294967296) * (y0 + y1 * 4294967296) = a0 + b1 * 4294967296 + b2 * 18446744073709551616 + e1 * 79228162514264337593543950336
theorem step32 (p : Nat) (h : p < 18446744073709551616) : p % 4294967296 < 4294967296 ∧ p / 4294967296 < 4294967296 ∧ p = p % 4294967296 + p / 4294967296 * 4294967296 := by omega
theorem prod4 {x0 x1 y0 y1 : Nat} (hx0 : x0 < 4294967296) (hx1 : x1 < 4294967296) (hy0 : y0 < 4294967296) (hy1 : y1 < 4294967296) : Nonempty (Prod4 x0 x1 y0 y1) := by
  have p00 := Nat.mul_le_mul (show x0 ≤ 4294967295 by omega) (show y0 ≤ 4294967295 by omega)
  have p01 := Nat.mul_le_mul (show x0 ≤ 4294967295 by omega) (show y1 ≤ 4294967295 by omega)
  have p10 := Nat.mul_le_mul (show x1 ≤ 4294967295 by omega) (show y0 ≤ 4294967295 by omega)
  have p11 := Nat.mul_le_mul (show x1 ≤ 4294967295 by omega) (show y1 ≤ 4294967295 by omega)
  have hd : (x0 + x1 * 4294967296) * (y0 + y1 * 4294967296) = x0 * y0 + (x0 * y1) * 4294967296 + (x1 * y0) * 4294967296 + (x1 * y1) * 18446744073709551616 := by
    rw [Nat.add_mul, Nat.mul_add, Nat.mul_add]
    rw [show x0 * (y1 * 4294967296) = (x0 * y1) * 4294967296 from (Nat.mul_assoc _ _ _).symm]
    rw [show x1 * 4294967296 * y0 = (x1 * y0) * 4294967296 from by rw [Nat.mul_assoc, Nat.mul_comm 4294967296 y0, Nat.mul_assoc]]
    rw [show x1 * 4294967296 * (y1 * 4294967296) = (x1 * y1) * 18446744073709551616 from by
      rw [Nat.mul_assoc, ← Nat.mul_assoc 4294967296 y1, Nat.mul_comm 4294967296 y1, Nat.mul_assoc y1, ← Nat.mul_assoc x1]]
    omega
  have q00 : (x0 : Int) * y0 = ((x0 * y0 : Nat) : Int) := (Int.natCast_mul _ _).symm
  have q01 : (x0 : Int) * y1 = ((x0 * y1 : Nat) : Int) := (Int.natCast_mul _ _).symm
  have q10 : (x1 : Int) * y0 = ((x1 * y0 : Nat) : Int) := (Int.natCast_mul _ _).symm
  have q11 : (x1 : Int) * y1 = ((x1 * y1 : Nat) : Int) := (Int.natCast_mul _ _).symm
  generalize x0 * y0 = P00 at *
  generalize x0 * y1 = P01 at *
  generalize x1 * y0 = P10 at *
  generalize x1 * y1 = P11 at *
  obtain ⟨s1, s2, s3⟩ := step32 P00 (by omega)
  generalize ha0 : P00 % 4294967296 = a0 at *
  generalize hc0 : P00 / 4294967296 = c0 at *
  obtain ⟨s4, s5, s6⟩ := step32 (c0 + P01) (by omega)
  generalize ha1 : (c0 + P01) % 4294967296 = a1 at *
  generalize hc1 : (c0 + P01) / 4294967296 = c1 at *
  obtain ⟨s7, s8, s9⟩ := step32 (a1 + P10) (by omega)
  generalize hb1 : (a1 + P10) % 4294967296 = b1 at *
  generalize he0 : (a1 + P10) / 4294967296 = e0 at *
  obtain ⟨t1, t2, t3⟩ := step32 (e0 + (c1 + P11)) (by omega)
  generalize hb2 : (e0 + (c1 + P11)) % 4294967296 = b2 at *
  generalize he1 : (e0 + (c1 + P11)) / 4294967296 = e1 at *
  exact ⟨⟨a0, c0, a1, c1, b1, e0, b2, e1, s1, s4, s7, t1, s2, s5, s8, t2,
    by rw [q00, and32 _ (by omega), ha0], by rw [q00]; omega,
    by rw [q01, and32' _ (c0 + P01) (by omega) (by omega), ha1], by rw [q01]; omega,
    by rw [q10, and32' _ (a1 + P10) (by omega) (by omega), hb1], by rw [q10]; omega,
    by rw [q11, and32' _ (e0 + (c1 + P11)) (by omega) (by omega), hb2], by rw [q11]; omega, by rw [hd]; omega⟩⟩


end Go.Proofs.Ytpjhiojdnebgoaa

/- What is proved here: the contract of a comparison of two lists of fractions. Condition: two slices of fractions. -/
namespace Go.Proofs.Ytpjhiojdnebgoaa
open Go.RowKit

theorem take_eq {xs ys : List (Int × Int)} {k : Nat} (h1 : k < xs.length) (h2 : k < ys.length) (h : xs.take k = ys.take k) (e1 : xs[k].1 = ys[k].1) (e2 : xs[k].2 = ys[k].2) : xs.take (k + 1) = ys.take (k + 1) := by
  rw [List.take_succ_eq_append_getElem h1, List.take_succ_eq_append_getElem h2, h]
  rw [Prod.ext e1 e2]
theorem take_ne {xs ys : List (Int × Int)} {k : Nat} (h1 : k < xs.length) (h2 : k < ys.length) (e : ¬ (xs[k].1 = ys[k].1 ∧ xs[k].2 = ys[k].2)) : decide (xs = ys) = false := by
  refine decide_eq_false fun h => e ?_
  subst h
  exact ⟨rfl, rfl⟩
set_option maxRecDepth 100000 in
set_option maxHeartbeats 4000000 in
theorem rsame_any (xs ys : List (Int × Int)) (u v : Value) (w : World) (hs : SF w u xs) (ht : SF w v ys) :
    Calls Try.prog 17 #[u, v] w fun e w' => e = .returned (.bool (decide (xs = ys))) ∧ Below w.heap.size w w' := by
  have hs0 := Lib.hid hs
  have ht0 := Lib.hid ht
  obtain ⟨ad, cap, rfl, h1, h2, _⟩ := hs.open
  obtain ⟨ad', cap', rfl, h1', h2', _⟩ := ht.open
  clear hs ht
  by_cases hl : xs.length = ys.length
  case neg =>
    have b1 : ((xs.length : Int) != (ys.length : Int)) = true := by simp; omega
    have HV : Hid (decide (xs = ys) = false) := decide_eq_false fun h => hl (by rw [h])
    clear hl
    go_enter Try.func17, Try.ntmps17
    go_wp2
    go_ret
    exact ⟨by rw [HV.out]; try rfl, Below.refl _ _⟩
  have b1 : ((xs.length : Int) != (ys.length : Int)) = false := by simp; omega
  have HL := Lib.hid hl
  have hl' : ys.length ≤ xs.length := by omega
  have hl'' : xs.length ≤ ys.length := by omega
  clear hl
  go_enter Try.func17, Try.ntmps17
  go_wp2
  go_loopw [5] (fun i wr => ∃ k : Nat, k ≤ xs.length ∧ i = .int .i64 k ∧ Hid (xs.take k = ys.take k) ∧ Below w.heap.size w wr) (fun i _ => xs.length - (intOf i).toNat)
  case atStart => exact ⟨0, Nat.zero_le _, rfl, rfl, Below.refl _ _⟩
  case round =>
    obtain ⟨k, hk, rfl, hv, hB⟩ := hrel
    by_cases hlt : k < xs.length
    · have hlt' : k < ys.length := by omega
      obtain ⟨_, _, e, _, _, H⟩ := (hs0.out.below hB).open
      cases e
      obtain ⟨b, off, rfl, c1, c2⟩ := H.out k hlt
      obtain ⟨_, _, e, _, _, H'⟩ := (ht0.out.below hB).open
      cases e
      obtain ⟨b', off', rfl, c1', c2'⟩ := H'.out k hlt'
      clear H H'
      have TE := Lib.hid (take_eq hlt hlt' hv.out)
      have TN := Lib.hid (take_ne hlt hlt')
      generalize xs[k].1 = n at *
      generalize xs[k].2 = d at *
      generalize ys[k].1 = n' at *
      generalize ys[k].2 = d' at *
      by_cases e1 : n = n'
      · by_cases e2 : d = d'
        · have HV := Lib.hid (TE.out e1 e2)
          subst e1 e2
          clear TE TN
          go_wp2
          go_quiet (fail)
          go_wp2
          go_roundw
          case rel => exact ⟨k + 1, by omega, by go_num, HV, bd hB _⟩
          case measure => simp [intOf]; try omega
        · have HV := Lib.hid (TN.out fun h => e2 h.2)
          have q2 : (d == d') = false := by simpa using e2
          subst e1
          clear TE TN e2
          go_wp2
          go_quiet (fail)
          go_wp2
          go_ret
          exact ⟨by rw [HV.out]; try rfl, bd hB _⟩
      · have HV := Lib.hid (TN.out fun h => e1 h.1)
        have q1 : (n == n') = false := by simpa using e1
        clear TE TN e1
        go_wp2
        go_quiet (fail)
        go_wp2
        go_ret
        exact ⟨by rw [HV.out]; try rfl, bd hB _⟩
    · have HV : Hid (decide (xs = ys) = true) := by
        have := hv.out
        have hl := HL.out
        rw [List.take_of_length_le (by omega), List.take_of_length_le (by omega)] at this
        exact decide_eq_true this
      go_wp2
      go_ret
      exact ⟨by rw [HV.out]; try rfl, hB⟩
end Go.Proofs.Ytpjhiojdnebgoaa
