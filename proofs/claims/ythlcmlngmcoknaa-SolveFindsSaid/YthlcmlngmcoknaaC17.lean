/- What is proved here: contracts of functions and plain facts, several texts in one; each one says ahead what it proves, and its conditions. -/
import Derived.Test.YthlcmlngmcoknaaC07
import Derived.Test.YthlcmlngmcoknaaC13
import Derived.LoopN
import Derived.Test.YthlcmlngmcoknaaC09
import Derived.Test.YthlcmlngmcoknaaC02
import Derived.Test.YthlcmlngmcoknaaC08
import Derived.Test.YthlcmlngmcoknaaC01
/- What is proved here: the contracts of the reference's big, Small and lowest. Condition: the numbers are 64-bit integers. -/
namespace Go.Proofs.Ythlcmlngmcoknaa
open Go.RowKit

/-- A digit to the base 2^32. -/
def dg (x i : Nat) : Nat := x / 4294967296 ^ i % 4294967296
theorem dg_lt (x i : Nat) : dg x i < 4294967296 := Nat.mod_lt _ (by decide)
theorem dg_of {x a b c d : Nat} (ha : a < 4294967296) (hb : b < 4294967296) (hc : c < 4294967296) (hd : d < 4294967296) (h : x = a + b * 4294967296 + c * 18446744073709551616 + d * 79228162514264337593543950336) :
    dg x 0 = a ∧ dg x 1 = b ∧ dg x 2 = c ∧ dg x 3 = d := by
  unfold dg
  refine ⟨?_, ?_, ?_, ?_⟩
  · rw [show 4294967296 ^ 0 = 1 from rfl]; omega
  · rw [show 4294967296 ^ 1 = 4294967296 from rfl]; omega
  · rw [show 4294967296 ^ 2 = 18446744073709551616 from rfl]; omega
  · rw [show 4294967296 ^ 3 = 79228162514264337593543950336 from rfl]; omega
theorem dg_sum (x : Nat) (h : x < 340282366920938463463374607431768211456) : x = dg x 0 + dg x 1 * 4294967296 + dg x 2 * 18446744073709551616 + dg x 3 * 79228162514264337593543950336 := by
  unfold dg
  rw [show 4294967296 ^ 0 = 1 from rfl, show 4294967296 ^ 1 = 4294967296 from rfl, show 4294967296 ^ 2 = 18446744073709551616 from rfl, show 4294967296 ^ 3 = 79228162514264337593543950336 from rfl]
  omega
theorem dg_small {n : Nat} (h : n ≤ 18446744073709551615) : dg n 0 = n % 4294967296 ∧ dg n 1 = n / 4294967296 ∧ dg n 2 = 0 ∧ dg n 3 = 0 := dg_of (by omega) (by omega) (by omega) (by omega) (by omega)

theorem big_any (n : Nat) (w : World) (h : n ≤ 18446744073709551615) :
    Calls Try.prog 151 #[.int .u64 n] w fun e w' => e = .returned (.agg #[.int .u64 (dg n 0), .int .u64 (dg n 1), .int .u64 (dg n 2), .int .u64 (dg n 3)]) ∧ Below w.heap.size w w' := by
  have H := Lib.hid (dg_small h)
  have r1 := and32 n (by omega)
  have r2 : (n : Int) / 4294967296 = ((n / 4294967296 : Nat) : Int) := rfl
  generalize n % 4294967296 = a at *
  generalize n / 4294967296 = b at *
  go_enter Try.func151, Try.ntmps151
  go_wp2
  refine bodyPost_ret (v := .agg #[.int .u64 a, .int .u64 b, .int .u64 0, .int .u64 0]) (by simp [results, Try.results151, go_sem]) rfl ⟨by rw [H.out.1, H.out.2.1, H.out.2.2.1, H.out.2.2.2]; rfl, ?_⟩
  repeat (refine Below.setCell ?_ (by first | omega | (simp; done) | (simp; omega)) _)
  exact ba1 _ _

set_option maxHeartbeats 800000 in
theorem small_any (x : Nat) (w : World) (hx : x < 340282366920938463463374607431768211456) :
    Calls Try.prog 150 #[.agg #[.int .u64 (dg x 0), .int .u64 (dg x 1), .int .u64 (dg x 2), .int .u64 (dg x 3)]] w fun e w' => e = .returned (.tuple #[.int .i64 (x % 9223372036854775808 : Nat), .bool (decide (x ≤ 1000000000000000000))]) ∧ Below w.heap.size w w' := by
  have HS := Lib.hid (dg_sum x hx)
  have l0 := dg_lt x 0
  have l1 := dg_lt x 1
  have l2 := dg_lt x 2
  have l3 := dg_lt x 3
  generalize dg x 0 = a at *
  generalize dg x 1 = b at *
  generalize dg x 2 = c at *
  generalize dg x 3 = d at *
  have r1 := or32 a b l0 l1
  have r2 := and63 (b * 4294967296 + a) (by omega)
  have hm : (b * 4294967296 + a) % 9223372036854775808 = x % 9223372036854775808 := by have := HS.out; omega
  rw [hm] at r2
  have hn : b * 4294967296 + a < 18446744073709551616 := by omega
  generalize hN : b * 4294967296 + a = N at *
  have HN := Lib.hid hN
  have HX : Hid (x = N + c * 18446744073709551616 + d * 79228162514264337593543950336) := by show x = _; have := HS.out; omega
  have hM : x % 9223372036854775808 < 9223372036854775808 := Nat.mod_lt _ (by decide)
  generalize x % 9223372036854775808 = M at *
  clear hN hm hx
  by_cases hc : c = 0
  · subst hc
    by_cases hd : d = 0
    · subst hd
      have H : Hid (decide (x ≤ 1000000000000000000) = decide ((N : Int) ≤ 1000000000000000000)) := by
        show _ = _
        have := HX.out
        exact decide_eq_decide.2 (by omega)
      go_enter Try.func150, Try.ntmps150
      go_wp2
      go_ret2
      exact ⟨by rw [H.out]; try rfl, ba1 _ _⟩
    · have b1 : ((d : Int) == 0) = false := by simpa using hd
      have H : Hid (decide (x ≤ 1000000000000000000) = false) := by show _ = _; have := HX.out; simp; omega
      clear hd
      go_enter Try.func150, Try.ntmps150
      go_wp2
      go_ret2
      exact ⟨by rw [H.out]; try rfl, ba1 _ _⟩
  · have b1 : ((c : Int) == 0) = false := by simpa using hc
    have H : Hid (decide (x ≤ 1000000000000000000) = false) := by show _ = _; have := HX.out; simp; omega
    clear hc
    go_enter Try.func150, Try.ntmps150
    go_wp2
    go_ret2
    exact ⟨by rw [H.out]; try rfl, ba1 _ _⟩

set_option maxHeartbeats 800000 in
theorem lowest_any (neg : Bool) (x y : Nat) (w : World) (hx : x < 340282366920938463463374607431768211456) (hy : y < 340282366920938463463374607431768211456) :
    Calls Try.prog 105 #[.bool neg, .agg #[.int .u64 (dg x 0), .int .u64 (dg x 1), .int .u64 (dg x 2), .int .u64 (dg x 3)], .agg #[.int .u64 (dg y 0), .int .u64 (dg y 1), .int .u64 (dg y 2), .int .u64 (dg y 3)]] w fun e w' =>
      e = .returned (.tuple #[.agg #[.int .i64 (bld neg x y).n, .int .i64 (bld neg x y).d], .int .i64 (bld neg x y).e]) ∧ Below w.heap.size w w' := by
  have mx : x ≤ 1000000000000000000 → x % 9223372036854775808 = x := fun h => Nat.mod_eq_of_lt (by omega)
  have my : y ≤ 1000000000000000000 → y % 9223372036854775808 = y := fun h => Nat.mod_eq_of_lt (by omega)
  have MX := Lib.hid mx
  have MY := Lib.hid my
  clear mx my
  have LX : Hid (x % 9223372036854775808 < 9223372036854775808) := Nat.mod_lt _ (by decide)
  have LY : Hid (y % 9223372036854775808 < 9223372036854775808) := Nat.mod_lt _ (by decide)
  by_cases h : x ≤ 1000000000000000000 ∧ y ≤ 1000000000000000000
  · obtain ⟨h1, h2⟩ := h
    have b1 : decide (x ≤ 1000000000000000000) = true := by simpa using h1
    have b2 : decide (y ≤ 1000000000000000000) = true := by simpa using h2
    have H := Lib.hid (bld_yes (neg := neg) (num := x) (den := y) (by omega))
    cases neg
    · go_enter Try.func105, Try.ntmps105
      go_wp2_with fail
      refine (small_any x _ hx).mono ?_
      rintro e w1 ⟨rfl, hb1⟩
      rw [MX.out h1]
      obtain ⟨c1, f1⟩ := bcell hb1
      have z1 := (hb1).size
      try simp at z1
      try simp at c1
      try simp at f1
      have z1a : w.heap.size < w1.heap.size := by omega
      have z1b : w.heap.size + 1 < w1.heap.size := by omega
      have z1c : w.heap.size + 1 + 1 < w1.heap.size := by omega
      go_wp2_with fail
      refine (small_any y _ hy).mono ?_
      rintro e w2 ⟨rfl, hb2⟩
      rw [MY.out h2]
      obtain ⟨c2, f2⟩ := bcell hb2
      have z2 := (hb2).size
      try simp at z2
      try simp at c2
      try simp at f2
      have z2a : w.heap.size < w2.heap.size := by omega
      have z2b : w.heap.size + 1 < w2.heap.size := by omega
      have z2c : w.heap.size + 1 + 1 < w2.heap.size := by omega
      go_wp2
      refine bodyPost_ret (v := .tuple #[.agg #[.int .i64 x, .int .i64 y], .int .i64 0]) (by simp [results, Try.results105, go_sem, c1, c2, z1c]) rfl ⟨by rw [H.out]; try rfl, ?_⟩
      repeat (refine Below.setCell ?_ (by first | omega | (simp; done) | (simp; omega)) _)
      exact below_to (below_to (ba3 _ _ _ _) hb1) hb2
    · go_enter Try.func105, Try.ntmps105
      go_wp2_with fail
      refine (small_any x _ hx).mono ?_
      rintro e w1 ⟨rfl, hb1⟩
      rw [MX.out h1]
      obtain ⟨c1, f1⟩ := bcell hb1
      have z1 := (hb1).size
      try simp at z1
      try simp at c1
      try simp at f1
      have z1a : w.heap.size < w1.heap.size := by omega
      have z1b : w.heap.size + 1 < w1.heap.size := by omega
      have z1c : w.heap.size + 1 + 1 < w1.heap.size := by omega
      go_wp2_with fail
      refine (small_any y _ hy).mono ?_
      rintro e w2 ⟨rfl, hb2⟩
      rw [MY.out h2]
      obtain ⟨c2, f2⟩ := bcell hb2
      have z2 := (hb2).size
      try simp at z2
      try simp at c2
      try simp at f2
      have z2a : w.heap.size < w2.heap.size := by omega
      have z2b : w.heap.size + 1 < w2.heap.size := by omega
      have z2c : w.heap.size + 1 + 1 < w2.heap.size := by omega
      go_wp2
      refine bodyPost_ret (v := .tuple #[.agg #[.int .i64 (-x), .int .i64 y], .int .i64 0]) (by simp [results, Try.results105, go_sem, c1, c2, z1c]) rfl ⟨by rw [H.out]; try rfl, ?_⟩
      repeat (refine Below.setCell ?_ (by first | omega | (simp; done) | (simp; omega)) _)
      exact below_to (below_to (ba3 _ _ _ _) hb1) hb2
  · have H := Lib.hid (bld_no (neg := neg) (num := x) (den := y) (by omega))
    by_cases h1 : x ≤ 1000000000000000000
    · have b1 : decide (x ≤ 1000000000000000000) = true := by simpa using h1
      have b2 : decide (y ≤ 1000000000000000000) = false := by simp; omega
      clear h h1
      go_enter Try.func105, Try.ntmps105
      go_wp2_with fail
      refine (small_any x _ hx).mono ?_
      rintro e w1 ⟨rfl, hb1⟩
      obtain ⟨c1, f1⟩ := bcell hb1
      have z1 := (hb1).size
      try simp at z1
      try simp at c1
      try simp at f1
      have z1a : w.heap.size < w1.heap.size := by omega
      have z1b : w.heap.size + 1 < w1.heap.size := by omega
      have z1c : w.heap.size + 1 + 1 < w1.heap.size := by omega
      go_wp2_with fail
      refine (small_any y _ hy).mono ?_
      rintro e w2 ⟨rfl, hb2⟩
      obtain ⟨c2, f2⟩ := bcell hb2
      have z2 := (hb2).size
      try simp at z2
      try simp at c2
      try simp at f2
      have z2a : w.heap.size < w2.heap.size := by omega
      have z2b : w.heap.size + 1 < w2.heap.size := by omega
      have z2c : w.heap.size + 1 + 1 < w2.heap.size := by omega
      go_wp2
      refine bodyPost_ret (v := .tuple #[.agg #[.int .i64 0, .int .i64 0], .int .i64 16]) (by simp [results, Try.results105, go_sem, c1, c2, z1c]) rfl ⟨by rw [H.out]; try rfl, ?_⟩
      repeat (refine Below.setCell ?_ (by first | omega | (simp; done) | (simp; omega)) _)
      exact below_to (below_to (ba3 _ _ _ _) hb1) hb2
    · have b1 : decide (x ≤ 1000000000000000000) = false := by simp; omega
      clear h h1
      go_enter Try.func105, Try.ntmps105
      go_wp2_with fail
      refine (small_any x _ hx).mono ?_
      rintro e w1 ⟨rfl, hb1⟩
      obtain ⟨c1, f1⟩ := bcell hb1
      have z1 := (hb1).size
      try simp at z1
      try simp at c1
      try simp at f1
      have z1a : w.heap.size < w1.heap.size := by omega
      have z1b : w.heap.size + 1 < w1.heap.size := by omega
      have z1c : w.heap.size + 1 + 1 < w1.heap.size := by omega
      go_wp2_with fail
      refine (small_any y _ hy).mono ?_
      rintro e w2 ⟨rfl, hb2⟩
      obtain ⟨c2, f2⟩ := bcell hb2
      have z2 := (hb2).size
      try simp at z2
      try simp at c2
      try simp at f2
      have z2a : w.heap.size < w2.heap.size := by omega
      have z2b : w.heap.size + 1 < w2.heap.size := by omega
      have z2c : w.heap.size + 1 + 1 < w2.heap.size := by omega
      go_wp2
      refine bodyPost_ret (v := .tuple #[.agg #[.int .i64 0, .int .i64 0], .int .i64 16]) (by simp [results, Try.results105, go_sem, c1, c2, z1c]) rfl ⟨by rw [H.out]; try rfl, ?_⟩
      repeat (refine Below.setCell ?_ (by first | omega | (simp; done) | (simp; omega)) _)
      exact below_to (below_to (ba3 _ _ _ _) hb1) hb2

theorem big_of (m : Int) (n : Nat) (w : World) (hm : m = n) (h : n ≤ 18446744073709551615) :
    Calls Try.prog 151 #[.int .u64 m] w fun e w' => e = .returned (.agg #[.int .u64 (dg n 0), .int .u64 (dg n 1), .int .u64 (dg n 2), .int .u64 (dg n 3)]) ∧ Below w.heap.size w w' := by
  subst hm; exact big_any n w h
theorem mul_bd {a b : Nat} (ha : a < 4294967296) (hb : b < 4294967296) : 0 ≤ (a : Int) * b ∧ (a : Int) * b ≤ 18446744065119617025 := by
  have h := Nat.mul_le_mul (show a ≤ 4294967295 by omega) (show b ≤ 4294967295 by omega)
  rw [← Int.natCast_mul]
  generalize a * b = c at *
  omega
theorem and32' (z : Int) (n : Nat) (hz : z = n) (hn : n < 18446744073709551616) : bits BinOp.and IntKind.u64 z 4294967295 = ((n % 4294967296 : Nat) : Int) := by subst hz; exact and32 n hn

/-- The steps of a product of two numbers of two digits. -/
structure Prod4 (x0 x1 y0 y1 : Nat) where
  a0 : Nat
  c0 : Nat
  a1 : Nat
  c1 : Nat
  b1 : Nat
  e0 : Nat
  b2 : Nat
  e1 : Nat
  l0 : a0 < 4294967296
  l1 : a1 < 4294967296
  l2 : b1 < 4294967296
  l3 : b2 < 4294967296
  m0 : c0 < 4294967296
  m1 : c1 < 4294967296
  m2 : e0 < 4294967296
  m3 : e1 < 4294967296
  r1 : bits BinOp.and IntKind.u64 ((x0 : Int) * y0) 4294967295 = a0
  r2 : ((x0 : Int) * y0) / 4294967296 = c0
  r3 : bits BinOp.and IntKind.u64 ((c0 : Int) + (x0 : Int) * y1) 4294967295 = a1
  r4 : ((c0 : Int) + (x0 : Int) * y1) / 4294967296 = c1
  r5 : bits BinOp.and IntKind.u64 ((a1 : Int) + (x1 : Int) * y0) 4294967295 = b1
  r6 : ((a1 : Int) + (x1 : Int) * y0) / 4294967296 = e0
  r7 : bits BinOp.and IntKind.u64 ((e0 : Int) + ((c1 : Int) + (x1 : Int) * y1)) 4294967295 = b2
  r8 : ((e0 : Int) + ((c1 : Int) + (x1 : Int) * y1)) / 4294967296 = e1
  total : (x0 + x1 * 4294967296) * (y0 + y1 * 4294967296) = a0 + b1 * 4294967296 + b2 * 18446744073709551616 + e1 * 79228162514264337593543950336
theorem step32 (p : Nat) (h : p < 18446744073709551616) : p % 4294967296 < 4294967296 ∧ p / 4294967296 < 4294967296 ∧ p = p % 4294967296 + p / 4294967296 * 4294967296 := by omega
theorem prod4 {x0 x1 y0 y1 : Nat} (hx0 : x0 < 4294967296) (hx1 : x1 < 4294967296) (hy0 : y0 < 4294967296) (hy1 : y1 < 4294967296) : Nonempty (Prod4 x0 x1 y0 y1) := by
  have p00 := Nat.mul_le_mul (show x0 ≤ 4294967295 by omega) (show y0 ≤ 4294967295 by omega)
  have p01 := Nat.mul_le_mul (show x0 ≤ 4294967295 by omega) (show y1 ≤ 4294967295 by omega)
  have p10 := Nat.mul_le_mul (show x1 ≤ 4294967295 by omega) (show y0 ≤ 4294967295 by omega)
  have p11 := Nat.mul_le_mul (show x1 ≤ 4294967295 by omega) (show y1 ≤ 4294967295 by omega)
  have hd : (x0 + x1 * 4294967296) * (y0 + y1 * 4294967296) = x0 * y0 + (x0 * y1) * 4294967296 + (x1 * y0) * 4294967296 + (x1 * y1) * 18446744073709551616 := by
    rw [Nat.add_mul, Nat.mul_add, Nat.mul_add]
    rw [show x0 * (y1 * 4294967296) = (x0 * y1) * 4294967296 from (Nat.mul_assoc _ _ _).symm]
    rw [show x1 * 4294967296 * y0 = (x1 * y0) * 4294967296 from by rw [Nat.mul_assoc, Nat.mul_comm 4294967296 y0, Nat.mul_assoc]]
    rw [show x1 * 4294967296 * (y1 * 4294967296) = (x1 * y1) * 18446744073709551616 from by
      rw [Nat.mul_assoc, ← Nat.mul_assoc 4294967296 y1, Nat.mul_comm 4294967296 y1, Nat.mul_assoc y1, ← Nat.mul_assoc x1]]
    omega
  have q00 : (x0 : Int) * y0 = ((x0 * y0 : Nat) : Int) := (Int.natCast_mul _ _).symm
  have q01 : (x0 : Int) * y1 = ((x0 * y1 : Nat) : Int) := (Int.natCast_mul _ _).symm
  have q10 : (x1 : Int) * y0 = ((x1 * y0 : Nat) : Int) := (Int.natCast_mul _ _).symm
  have q11 : (x1 : Int) * y1 = ((x1 * y1 : Nat) : Int) := (Int.natCast_mul _ _).symm
  generalize x0 * y0 = P00 at *
  generalize x0 * y1 = P01 at *
  generalize x1 * y0 = P10 at *
  generalize x1 * y1 = P11 at *
  obtain ⟨s1, s2, s3⟩ := step32 P00 (by omega)
  generalize ha0 : P00 % 4294967296 = a0 at *
  generalize hc0 : P00 / 4294967296 = c0 at *
  obtain ⟨s4, s5, s6⟩ := step32 (c0 + P01) (by omega)
  generalize ha1 : (c0 + P01) % 4294967296 = a1 at *
  generalize hc1 : (c0 + P01) / 4294967296 = c1 at *
  obtain ⟨s7, s8, s9⟩ := step32 (a1 + P10) (by omega)
  generalize hb1 : (a1 + P10) % 4294967296 = b1 at *
  generalize he0 : (a1 + P10) / 4294967296 = e0 at *
  obtain ⟨t1, t2, t3⟩ := step32 (e0 + (c1 + P11)) (by omega)
  generalize hb2 : (e0 + (c1 + P11)) % 4294967296 = b2 at *
  generalize he1 : (e0 + (c1 + P11)) / 4294967296 = e1 at *
  exact ⟨⟨a0, c0, a1, c1, b1, e0, b2, e1, s1, s4, s7, t1, s2, s5, s8, t2,
    by rw [q00, and32 _ (by omega), ha0], by rw [q00]; omega,
    by rw [q01, and32' _ (c0 + P01) (by omega) (by omega), ha1], by rw [q01]; omega,
    by rw [q10, and32' _ (a1 + P10) (by omega) (by omega), hb1], by rw [q10]; omega,
    by rw [q11, and32' _ (e0 + (c1 + P11)) (by omega) (by omega), hb2], by rw [q11]; omega, by rw [hd]; omega⟩⟩


end Go.Proofs.Ythlcmlngmcoknaa

/- What is proved here: the contract of fringeref29.Check. Condition: a system whose lists can be read. -/
namespace Go.Proofs.Ythlcmlngmcoknaa
open Go.RowKit

set_option maxRecDepth 100000 in
set_option maxHeartbeats 4000000 in
theorem rocheck_any (A : List (List Int)) (B : List Int) (va vb : Value) (w : World) (hA : SS w va A) (hB : SI w vb B) :
    Calls Try.prog 13 #[.agg #[va, vb]] w fun e w' => e = .returned (.int .i64 (ocheck A B)) ∧ Below w.heap.size w w' := by
  have hA0 := Lib.hid hA
  have hB0 := Lib.hid hB
  obtain ⟨ada, capa, rfl, ha1, ha2, _⟩ := hA.open
  obtain ⟨adb, capb, rfl, hb1, hb2, _⟩ := hB.open
  clear hA hB
  by_cases h0 : 6 < A.length
  · have HV := Lib.hid (ocheck_4 (B := B) h0)
    go_enter Try.func13, Try.ntmps13
    have oS := Own.new w 25 [.slice ada A.length capa, .slice adb B.length capb]
    obtain ⟨rS, fS⟩ := oS.rules
    have zS := oS.lt
    go_wp2
    go_ret
    exact ⟨by rw [HV.out]; try rfl, ba1 _ _⟩
  have H0 := Lib.hid h0
  go_enter Try.func13, Try.ntmps13
  have oS := Own.new w 25 [.slice ada A.length capa, .slice adb B.length capb]
  have hy := ba1 w (.cells #[.slice ada A.length capa, .slice adb B.length capb] 25)
  have sA := Lib.hid (hA0.out.below hy)
  have sB := Lib.hid (hB0.out.below hy)
  clear hA0 hB0
  go_wp2_with fail
  generalize w.alloc (.cells #[.slice ada A.length capa, .slice adb B.length capb] 25) = y at *
  obtain ⟨rS, fS⟩ := oS.rules
  have zS := oS.lt
  go_wp2
  go_loop [3] (fun i => ∃ k : Nat, k ≤ A.length ∧ i = .int .i64 k ∧ Hid (((A.take k).all fun r => decide (r.length ≤ 6)) = true)) (fun i => A.length - (intOf i).toNat)
  case atStart => exact ⟨0, Nat.zero_le _, rfl, rfl⟩
  case round =>
    obtain ⟨k, hk, rfl, hv⟩ := hrel
    by_cases hlt : k < A.length
    · obtain ⟨_, _, e, _, _, H⟩ := sA.out.open
      cases e
      obtain ⟨b, off, ad', cap', rfl, c1, c2, c3, _⟩ := H.out k hlt
      clear H
      by_cases hz : 6 < A[k].length
      · have HV := Lib.hid (ocheck_4' (B := B) H0.out hlt hz)
        generalize A[k].length = m at *
        go_wp2
        go_ret
        exact ⟨by rw [HV.out]; try rfl, hy⟩
      · have HV := Lib.hid (all_take (p := fun r => decide (r.length ≤ 6)) hlt hv.out (by simp; omega))
        generalize A[k].length = m at *
        go_wp2
        go_round
        case rel => exact ⟨k + 1, by omega, by go_num, HV⟩
        case measure => simp [intOf]; try omega
    · have H1 := Lib.hid (all_end hlt hv.out)
      clear hv
      by_cases hz0 : A.length = 0
      · have HV := Lib.hid (ocheck_8 (B := B) H0.out H1.out (.inl hz0))
        have q1 : ((A.length : Int) == 0) = true := by rw [hz0]; rfl
        clear hz0
        go_wp2
        go_ret
        exact ⟨by rw [HV.out]; try rfl, hy⟩
      have q1 : ((A.length : Int) == 0) = false := by simpa using hz0
      have l1 : 0 < A.length := by omega
      obtain ⟨_, _, e, _, _, H⟩ := sA.out.open
      cases e
      obtain ⟨b, off, ad0, cap0, rfl, d1, d2, d3, _⟩ := H.out 0 l1
      rw [Nat.add_zero] at d1
      have H := Lib.hid H
      have G0 := Lib.hid (getD_get (d := []) l1)
      by_cases hz2 : A[0].length = 0
      · have HV := Lib.hid (ocheck_8 (B := B) H0.out H1.out (.inr (.inl (by rw [G0.out]; exact hz2))))
        have q3 : ((A[0].length : Int) == 0) = true := by rw [hz2]; rfl
        clear hz2 hz0
        generalize A[0].length = m at *
        go_wp2
        go_ret
        exact ⟨by rw [HV.out]; try rfl, hy⟩
      have q3 : ((A[0].length : Int) == 0) = false := by simpa using hz2
      by_cases hz1 : B.length ≠ A.length
      · have HV := Lib.hid (ocheck_8 H0.out H1.out (.inr (.inr hz1)))
        have q2 : ((B.length : Int) != (A.length : Int)) = true := by simp; omega
        clear hz1 hz2 hz0
        generalize A[0].length = m at *
        go_wp2
        go_ret
        exact ⟨by rw [HV.out]; try rfl, hy⟩
      have q2 : ((B.length : Int) != (A.length : Int)) = false := by simp; omega
      have l2 : B.length ≤ A.length := by omega
      have l3 : A.length ≤ B.length := by omega
      have H2 : Hid (¬ (A.length = 0 ∨ (A.getD 0 []).length = 0 ∨ B.length ≠ A.length)) := by
        show ¬ _
        rw [G0.out]; omega
      have G1 : Hid ((A.getD 0 []).length = A[0].length) := by show _ = _; rw [G0.out]
      clear hz2 hz1 hz0 G0
      generalize A[0].length = n at *
      go_wp2
      clear rS fS zS d1 H
      go_loopw [4] (fun i wr => ∃ k : Nat, k ≤ A.length ∧ i = .int .i64 k ∧ Hid (((A.take k).all fun r => orow n r) = true) ∧ Hid (((B.take k).all orgt) = true) ∧ Below y.heap.size y wr) (fun i _ => A.length - (intOf i).toNat)
      case atStart => exact ⟨0, Nat.zero_le _, rfl, rfl, rfl, Below.refl _ _⟩
      case round =>
        obtain ⟨k, hk, rfl, hv, hu, hB⟩ := hrel
        rename World => W
        replace oS := oS.below hB
        have sA' := Lib.hid (sA.out.below hB)
        have sB' := Lib.hid (sB.out.below hB)
        obtain ⟨rS, fS⟩ := oS.rules
        have zS := oS.lt
        by_cases hlt : k < A.length
        · obtain ⟨_, _, e, _, _, H⟩ := sA'.out.open
          cases e
          obtain ⟨_, _, ad0', cap0', e, d1, d2', d3', _⟩ := H.out 0 l1
          cases e
          rw [Nat.add_zero] at d1
          obtain ⟨b', off', ad', cap', e, c1, c2, c3, s1⟩ := H.out k hlt
          cases e
          clear H
          obtain ⟨_, _, e, _, _, HB⟩ := sB'.out.open
          cases e
          have hkB : k < B.length := by omega
          obtain ⟨b2, off2, rfl, c4⟩ := HB.out k hkB
          clear HB
          have X8 := Lib.hid (fun h => ocheck_8' H0.out H1.out H2.out (.inl h))
          have Y8 := Lib.hid (fun h => ocheck_8' H0.out H1.out H2.out (.inr (all_not hkB h)))
          have XT := Lib.hid (fun h => all_take (p := fun r => orow n r) hlt hv.out h)
          have YT := Lib.hid (fun h => all_take (p := orgt) hkB hu.out h)
          have XN := Lib.hid (fun h => all_not (p := fun r => orow n r) hlt h)
          have N0 : Hid (A[0].length = n) := by show _ = _; rw [← G1.out, getD_get l1]
          rw [N0.out] at d1 d2' d3'
          by_cases hw : A[k].length = n
          case neg =>
            have HV := Lib.hid (X8.out (by rw [G1.out]; exact XN.out (by simp [orow, hw])))
            have q5 : ((A[k].length : Int) != (n : Int)) = true := by simp; omega
            clear hw X8 Y8 XT YT XN s1
            generalize A[k].length = m at *
            go_wp2
            go_quiet (fail)
            go_wp2
            go_ret
            exact ⟨by rw [HV.out]; try rfl, bd (below_to hy hB) _⟩
          have q5 : ((A[k].length : Int) != (n : Int)) = false := by simp; omega
          have HW := Lib.hid hw
          have l4 : A[k].length ≤ n := by omega
          have l5 : n ≤ A[k].length := by omega
          have S1 := Lib.hid s1
          clear hw s1
          generalize A[k] = row at *
          generalize B[k] = bk at *
          by_cases hb1 : bk < -99
          · have HV := Lib.hid (Y8.out (by simp [orgt]; omega))
            have q6 : decide (bk < -99) = true := by simpa using hb1
            clear X8 Y8 XT YT XN
            go_wp2
            go_quiet (fail)
            go_wp2
            go_ret
            exact ⟨by rw [HV.out]; try rfl, bd (below_to hy hB) _⟩
          have q6 : decide (bk < -99) = false := by simpa using hb1
          by_cases hb2 : 99 < bk
          · have HV := Lib.hid (Y8.out (by simp [orgt]; omega))
            have q7 : decide (99 < bk) = true := by simpa using hb2
            clear X8 Y8 XT YT XN
            go_wp2
            go_quiet (fail)
            go_wp2
            go_ret
            exact ⟨by rw [HV.out]; try rfl, bd (below_to hy hB) _⟩
          have q7 : decide (99 < bk) = false := by simpa using hb2
          have YT' := Lib.hid (YT.out (by simp [orgt]; omega))
          clear Y8 YT
          go_wp2
          go_quiet (fail)
          go_wp2
          have hB' := bd hB nq
          have S1' := Lib.hid (S1.out.below (below_drewN W nq))
          have c1' : (W.drewN nq).cell? ⟨b, off + k, none⟩ = some (.slice ad' row.length cap') := c1
          replace oS := oS.drewN nq
          clear rS fS zS S1 c1 c4 d1
          generalize W.drewN nq = W' at *
          obtain ⟨rS, fS⟩ := oS.rules
          have zS := oS.lt
          go_loop [5] (fun i => ∃ j : Nat, j ≤ row.length ∧ i = .int .i64 j ∧ Hid (((row.take j).all fun a => decide (-9 ≤ a) && decide (a ≤ 9)) = true)) (fun i => row.length - (intOf i).toNat)
          case atStart => exact ⟨0, Nat.zero_le _, rfl, rfl⟩
          case round =>
            obtain ⟨j, hj, rfl, hr⟩ := hrel
            by_cases hjl : j < row.length
            · obtain ⟨_, _, e, _, _, HR⟩ := S1'.out.open
              cases e
              obtain ⟨b3, off3, rfl, c5⟩ := HR.out j hjl
              clear HR
              have RT := Lib.hid (fun h => all_take (p := fun a => decide (-9 ≤ a) && decide (a ≤ 9)) hjl hr.out h)
              have RN := Lib.hid (fun h => all_not (p := fun a => decide (-9 ≤ a) && decide (a ≤ 9)) hjl h)
              generalize row[j] = aj at *
              by_cases ha1 : aj < -9
              · have HV := Lib.hid (X8.out (by rw [G1.out]; exact XN.out (by unfold orow; rw [RN.out (by simp; omega)]; simp)))
                have q8 : decide (aj < -9) = true := by simpa using ha1
                clear X8 XT XN RT RN
                go_wp2
                go_ret
                exact ⟨by rw [HV.out]; try rfl, below_to hy hB'⟩
              have q8 : decide (aj < -9) = false := by simpa using ha1
              by_cases ha2 : 9 < aj
              · have HV := Lib.hid (X8.out (by rw [G1.out]; exact XN.out (by unfold orow; rw [RN.out (by simp; omega)]; simp)))
                have q9 : decide (9 < aj) = true := by simpa using ha2
                clear X8 XT XN RT RN
                go_wp2
                go_ret
                exact ⟨by rw [HV.out]; try rfl, below_to hy hB'⟩
              have q9 : decide (9 < aj) = false := by simpa using ha2
              have HV := Lib.hid (RT.out (by simp; omega))
              clear X8 XT XN RT RN
              go_wp2
              go_round
              case rel => exact ⟨j + 1, by omega, by go_num, HV⟩
              case measure => simp [intOf]; try omega
            · have HV := Lib.hid (XT.out (by unfold orow; rw [all_end hjl hr.out, HW.out]; simp))
              clear X8 XT XN
              go_wp2
              go_roundw
              case rel => exact ⟨k + 1, by omega, by go_num, HV, YT', hB'⟩
              case measure => simp [intOf]; try omega
        · have HV := Lib.hid (ocheck_0 H0.out H1.out H2.out (by rw [G1.out]; exact all_end hlt hv.out) (all_end (xs := B) (k := k) (by omega) hu.out))
          go_wp2
          go_ret
          exact ⟨by rw [HV.out]; try rfl, below_to hy hB⟩
end Go.Proofs.Ythlcmlngmcoknaa

/- What is proved here: sums of products of fractions, and lists of such sums, are the rational ones where no error comes. No program in sight. Condition: as each theorem says. -/
namespace Go.Proofs.Ythlcmlngmcoknaa
open Go.RowKit

/-- A fraction as a rational number. -/
def qq (p : Int × Int) : Rat := Rat.divInt p.1 p.2
/-- A rational number as a fraction. -/
def up (x : Rat) : Int × Int := (x.num, (x.den : Int))
def uf (x : Rat) : FR := ⟨x.num, (x.den : Int), 0⟩
theorem qq_up (x : Rat) : qq (up x) = x := Q_self x
theorem up_qq {p : Int × Int} (h : fchk p.1 p.2 = 0) : up (qq p) = p := by obtain ⟨h1, h2, _⟩ := Q_ok h; exact Prod.ext h1 h2
theorem up_chk {x : Rat} (h : inr x) : fchk (up x).1 (up x).2 = 0 := fchk_inr h
theorem qq_inr {p : Int × Int} (h : fchk p.1 p.2 = 0) : inr (qq p) := (Q_ok h).2.2
theorem qq_int (n : Int) : qq (n, 1) = (n : Rat) := by unfold qq; rw [Rat.divInt_eq_div]; grind
theorem qq_00 : qq (0, 0) = 0 := by unfold qq; simp
theorem pack_val {x : Rat} (h : (pack x).e = 0) : inr x ∧ pack x = uf x := ⟨pack_e.1 h, pack_ok (pack_e.1 h)⟩
theorem fmul_qq {a b : Int × Int} (h1 : fchk a.1 a.2 = 0) (h2 : fchk b.1 b.2 = 0) : fmul a.1 a.2 b.1 b.2 = pack (qq a * qq b) := by rw [fmul_0 (fboth_of h1 h2), fmulV_pack h1 h2]; rfl
theorem fadd_qq {a b : Int × Int} (h1 : fchk a.1 a.2 = 0) (h2 : fchk b.1 b.2 = 0) : fadd a.1 a.2 b.1 b.2 = pack (qq a + qq b) := by rw [fadd_0 (fboth_of h1 h2)]; rfl
theorem fsub_qq {a b : Int × Int} (h1 : fchk a.1 a.2 = 0) (h2 : fchk b.1 b.2 = 0) : fsub a.1 a.2 b.1 b.2 = pack (qq a - qq b) := by rw [fsub_0 (fboth_of h1 h2)]; rfl
theorem fplus_go {s : Rat} {a b : Int × Int} (hs : inr s) (h1 : fchk a.1 a.2 = 0) (h2 : fchk b.1 b.2 = 0) (hp : inr (qq a * qq b)) (ht : inr (s + qq a * qq b)) :
    fplus (uf s).n (uf s).d a.1 a.2 b.1 b.2 = uf (s + qq a * qq b) := by
  have hm := fmul_qq h1 h2
  rw [pack_ok hp] at hm
  rw [fplus_0 (by rw [hm]), hm]
  have := fadd_qq (a := up s) (b := up (qq a * qq b)) (up_chk hs) (up_chk hp)
  rw [qq_up, qq_up, pack_ok ht] at this
  exact this
theorem fplus_val {s : Rat} {a b : Int × Int} (hs : inr s) (h1 : fchk a.1 a.2 = 0) (h2 : fchk b.1 b.2 = 0) (he : (fplus (uf s).n (uf s).d a.1 a.2 b.1 b.2).e = 0) :
    inr (s + qq a * qq b) ∧ fplus (uf s).n (uf s).d a.1 a.2 b.1 b.2 = uf (s + qq a * qq b) := by
  have hm := fmul_qq h1 h2
  by_cases hp : inr (qq a * qq b)
  · by_cases ht : inr (s + qq a * qq b)
    · exact ⟨ht, fplus_go hs h1 h2 hp ht⟩
    · exfalso
      rw [pack_ok hp] at hm
      rw [fplus_0 (by rw [hm]), hm] at he
      have := fadd_qq (a := up s) (b := up (qq a * qq b)) (up_chk hs) (up_chk hp)
      rw [qq_up, qq_up, pack_no ht] at this
      have he' : (fadd (up s).1 (up s).2 (up (qq a * qq b)).1 (up (qq a * qq b)).2).e = 0 := he
      rw [this] at he'
      cases he'
  · exfalso
    rw [pack_no hp] at hm
    rw [fplus_1 (by rw [hm]; decide), hm] at he
    cases he
/-- What a sum of products adds up, as a rational number. -/
def tq (t : Nat → (Int × Int) × (Int × Int)) (j : Nat) : Rat := qq (t j).1 * qq (t j).2
/-- The fractions of a sum of products are valid. -/
def tval (t : Nat → (Int × Int) × (Int × Int)) (k : Nat) : Prop := ∀ j, j < k → fchk (t j).1.1 (t j).1.2 = 0 ∧ fchk (t j).2.1 (t j).2.2 = 0
theorem inr_0 : inr 0 := by decide
theorem gsum_go {t : Nat → (Int × Int) × (Int × Int)} : ∀ k, tval t k → (∀ j, j < k → inr (tq t j)) → (∀ j, j ≤ k → inr (sm (tq t) j)) → gsum t k = uf (sm (tq t) k)
  | 0, _, _, _ => rfl
  | k + 1, hv, hp, hs => by
    have ih := gsum_go k (fun j hj => hv j (by omega)) (fun j hj => hp j (by omega)) (fun j hj => hs j (by omega))
    obtain ⟨h1, h2⟩ := hv k (by omega)
    rw [gsum_succ (by rw [ih]; rfl), ih, sm_succ]
    exact fplus_go (hs k (by omega)) h1 h2 (hp k (by omega)) (by have := hs (k + 1) (by omega); rw [sm_succ] at this; exact this)
theorem gsum_val {t : Nat → (Int × Int) × (Int × Int)} : ∀ k, tval t k → (gsum t k).e = 0 → inr (sm (tq t) k) ∧ gsum t k = uf (sm (tq t) k)
  | 0, _, _ => ⟨inr_0, rfl⟩
  | k + 1, hv, he => by
    have he' : (gsum t k).e = 0 := by
      apply Classical.byContradiction
      intro h
      rw [gsum_stop h (k + 1) (by omega)] at he
      exact h he
    obtain ⟨i1, i2⟩ := gsum_val k (fun j hj => hv j (by omega)) he'
    obtain ⟨h1, h2⟩ := hv k (by omega)
    rw [gsum_succ he', i2] at he ⊢
    rw [sm_succ]
    exact fplus_val i1 h1 h2 he
theorem sm_more {f : Nat → Rat} {n : Nat} : ∀ N, n ≤ N → (∀ j, n ≤ j → f j = 0) → sm f N = sm f n
  | 0, h, _ => by obtain rfl : n = 0 := by omega
                  rfl
  | N + 1, h, hz => by
    rcases Nat.lt_or_ge n (N + 1) with h1 | h1
    · rw [sm_succ, sm_more N (by omega) hz, hz N (by omega)]; grind
    · obtain rfl : n = N + 1 := by omega
      rfl
/-- The numbers of a list of rows without an error. -/
theorem rows_each {f : Nat → FR} : ∀ m, (rowsOf f m).2 = 0 → ∀ i, i < m → (f i).e = 0 ∧ (rowsOf f m).1[i]? = some ((f i).n, (f i).d)
  | 0, _, i, hi => by omega
  | m + 1, h, i, hi => by
    by_cases h1 : (rowsOf f m).2 = 0
    · by_cases h2 : (f m).e = 0
      · rw [rows_succ h1 h2]
        have hl := rows_len m h1
        rcases Nat.lt_or_ge i m with h3 | h3
        · obtain ⟨h4, h5⟩ := rows_each m h1 i h3
          exact ⟨h4, by rw [List.getElem?_append_left (by omega)]; exact h5⟩
        · obtain rfl : i = m := by omega
          exact ⟨h2, by rw [List.getElem?_append_right (by omega), hl]; simp⟩
      · rw [rows_err h1 h2] at h; exact absurd h h2
    · rw [rows_stop h1 (m + 1) (by omega)] at h; exact absurd h h1
/-- A list of rows has no error where none of them has one. -/
theorem rows_go {f : Nat → FR} : ∀ m, (∀ i, i < m → (f i).e = 0) → (rowsOf f m).2 = 0
  | 0, _ => rfl
  | m + 1, h => by rw [rows_succ (rows_go m fun i hi => h i (by omega)) (h m (by omega))]
theorem rows_list {f : Nat → FR} {g : Nat → Rat} {m : Nat} (h : ∀ i, i < m → f i = uf (g i)) : rowsOf f m = ((List.range m).map fun i => up (g i), 0) := by
  have h0 : (rowsOf f m).2 = 0 := rows_go (f := f) m fun i hi => by rw [h i hi]; rfl
  have hl := rows_len m h0
  refine Prod.ext (List.ext_getElem? fun i => ?_) h0
  rcases Nat.lt_or_ge i m with hi | hi
  · rw [(rows_each m h0 i hi).2, h i hi, List.getElem?_map, List.getElem?_range hi]; rfl
  · rw [List.getElem?_eq_none (by omega), List.getElem?_eq_none (by simp; omega)]
theorem inr_frac {a b : Int} (hb : 0 < b) (h1 : b ≤ 1000000000000000000) (h2 : -1000000000000000000 ≤ a) (h3 : a ≤ 1000000000000000000) : inr ((a : Rat) / (b : Rat)) := by
  rw [← Rat.divInt_eq_div]
  have := (fmk_ok (num := a) (den := b) (by omega) h1 h2 h3).1
  rw [fmk_pack (by omega)] at this
  exact pack_e.1 this
theorem fmk_uf {a b : Int} (hb : 0 < b) (h1 : b ≤ 1000000000000000000) (h2 : -1000000000000000000 ≤ a) (h3 : a ≤ 1000000000000000000) : fmk a b = uf ((a : Rat) / (b : Rat)) := by
  have := inr_frac hb h1 h2 h3
  rw [fmk_pack (by omega), ← Rat.divInt_eq_div] at *
  exact pack_ok this
theorem sm_div (u : Nat → Int) (D : Int) : ∀ k, sm (fun j => ((u j : Int) : Rat) / (D : Rat)) k = ((si u k : Int) : Rat) / (D : Rat)
  | 0 => by rw [sm_zero]; show (0 : Rat) = ((0 : Int) : Rat) / _; rw [Rat.div_def]; show (0 : Rat) = 0 * _; grind
  | k + 1 => by rw [sm_succ, sm_div u D k, si_succ, Rat.intCast_add, Rat.div_def, Rat.div_def, Rat.div_def]; grind
theorem mul_div' (a n D : Int) : (a : Rat) * ((n : Rat) / (D : Rat)) = ((a * n : Int) : Rat) / (D : Rat) := by
  rw [Rat.intCast_mul, Rat.div_def, Rat.div_def]; grind
end Go.Proofs.Ythlcmlngmcoknaa

/- What is proved here: rank, solutions, bases and refutations of a system of layer 29, in plain Lean. No program in sight. Condition: a valid system. -/
namespace Go.Proofs.Ythlcmlngmcoknaa
open Go.RowKit

/-- A matrix of whole numbers with its right sides behind it. -/
def oM (A : List (List Int)) (B : List Int) (i j : Nat) : Int := if j < (A.getD 0 []).length then cel A i j else B.getD i 0
def oA (A : List (List Int)) (B : List Int) (i j : Nat) : Rat := ((oM A B i j : Int) : Rat)
/-- The reduced rows of a system. -/
def ored (A : List (List Int)) (B : List Int) : Rd := red A.length (oA A B) (A.getD 0 []).length
/-- The matrix for a refutation. -/
def tM (A : List (List Int)) (B : List Int) (t r : Nat) : Int := if r = A.length then (if t = (A.getD 0 []).length then 1 else 0) else oM A B r t
def tred (A : List (List Int)) (B : List Int) : Rd := red ((A.getD 0 []).length + 1) (trn A.length (A.getD 0 []).length (oA A B)) A.length
theorem tM_trn (A : List (List Int)) (B : List Int) (t r : Nat) : trn A.length (A.getD 0 []).length (oA A B) t r = ((tM A B t r : Int) : Rat) := by
  unfold trn tM oA
  split
  · split <;> rfl
  · rfl
def solvB (n w : Nat) (s : Rd) : Bool := (List.range n).all fun i => decide (i < s.bnd.length) || decide (s.R i w = 0)
theorem solvB_iff {n w : Nat} {s : Rd} : solvB n w s = true ↔ s.solv n w := by
  unfold solvB Rd.solv
  rw [List.all_eq_true]
  constructor
  · intro h i h1 h2
    have := h i (List.mem_range.2 h2)
    simp only [Bool.or_eq_true, decide_eq_true_eq] at this
    rcases this with h3 | h3
    · omega
    · exact h3
  · intro h i hi
    simp only [Bool.or_eq_true, decide_eq_true_eq]
    rcases Nat.lt_or_ge i s.bnd.length with h3 | h3
    · exact Or.inl h3
    · exact Or.inr (h i h3 (List.mem_range.1 hi))
def freeB (s : Rd) (f : Nat) : Bool := (List.range s.bnd.length).all fun i => decide (s.bnd.getD i 0 ≠ f)
theorem freeB_iff {s : Rd} {f : Nat} : freeB s f = true ↔ s.free f := by
  unfold freeB Rd.free
  rw [List.all_eq_true]
  constructor
  · intro h i hi; simpa using h i (List.mem_range.2 hi)
  · intro h i hi; simpa using h i (List.mem_range.1 hi)
/-- The plain solution as a list. -/
def plist (w : Nat) (s : Rd) : List (Int × Int) := (List.range w).map fun c => up (s.pl w c)
def frow (w : Nat) (s : Rd) (f : Nat) : List (Int × Int) := (List.range w).map fun c => up (s.fr f c)
/-- The basis of the first f columns. -/
def blist (w : Nat) (s : Rd) (f : Nat) : List (List (Int × Int)) := ((List.range f).filter fun k => freeB s k).map fun k => frow w s k
theorem blist_free {w : Nat} {s : Rd} {f : Nat} (h : freeB s f = true) : blist w s (f + 1) = blist w s f ++ [frow w s f] := by
  unfold blist; rw [List.range_succ, List.filter_append, List.map_append]; simp [h]
theorem blist_bound {w : Nat} {s : Rd} {f : Nat} (h : freeB s f = false) : blist w s (f + 1) = blist w s f := by
  unfold blist; rw [List.range_succ, List.filter_append, List.map_append]; simp [h]
def oRank (A : List (List Int)) (B : List Int) : Int × Int := if ocheck A B ≠ 0 then (0, ocheck A B) else (((ored A B).bnd.length : Int), 0)
def oSolve (A : List (List Int)) (B : List Int) : List (Int × Int) × List (List (Int × Int)) × Int :=
  if ocheck A B ≠ 0 then ([], [], ocheck A B) else if solvB A.length (A.getD 0 []).length (ored A B) = false then ([], [], 6)
  else (plist (A.getD 0 []).length (ored A B), blist (A.getD 0 []).length (ored A B) (A.getD 0 []).length, 0)
def oRefute (A : List (List Int)) (B : List Int) : List (Int × Int) × Int :=
  if ocheck A B ≠ 0 then ([], ocheck A B) else if solvB ((A.getD 0 []).length + 1) A.length (tred A B) = false then ([], 6)
  else (plist A.length (tred A B), 0)
section
variable {A : List (List Int)} {B : List Int}
theorem oRank_c (h : ¬ ocheck A B = 0) : oRank A B = (0, ocheck A B) := if_pos h
theorem oRank_0 (h : ocheck A B = 0) : oRank A B = (((ored A B).bnd.length : Int), 0) := if_neg (by simp [h])
theorem oSolve_c (h : ¬ ocheck A B = 0) : oSolve A B = ([], [], ocheck A B) := if_pos h
theorem oSolve_6 (h : ocheck A B = 0) (h' : solvB A.length (A.getD 0 []).length (ored A B) = false) : oSolve A B = ([], [], 6) := by unfold oSolve; rw [if_neg (by simp [h]), if_pos h']
theorem oSolve_0 (h : ocheck A B = 0) (h' : solvB A.length (A.getD 0 []).length (ored A B) = true) : oSolve A B = (plist (A.getD 0 []).length (ored A B), blist (A.getD 0 []).length (ored A B) (A.getD 0 []).length, 0) := by
  unfold oSolve; rw [if_neg (by simp [h]), if_neg (by rw [h']; decide)]
theorem oRefute_c (h : ¬ ocheck A B = 0) : oRefute A B = ([], ocheck A B) := if_pos h
theorem oRefute_6 (h : ocheck A B = 0) (h' : solvB ((A.getD 0 []).length + 1) A.length (tred A B) = false) : oRefute A B = ([], 6) := by unfold oRefute; rw [if_neg (by simp [h]), if_pos h']
theorem oRefute_0 (h : ocheck A B = 0) (h' : solvB ((A.getD 0 []).length + 1) A.length (tred A B) = true) : oRefute A B = (plist A.length (tred A B), 0) := by unfold oRefute; rw [if_neg (by simp [h]), if_neg (by rw [h']; decide)]
theorem oM_lo (h : Sys A B (A.getD 0 []).length) {i j : Nat} (hi : i < A.length) (hj : j < (A.getD 0 []).length) : -9 ≤ oM A B i j ∧ oM A B i j ≤ 9 := by
  have hw := h.wide i hi
  unfold oM
  rw [if_pos hj, cel_get hi (by omega)]
  exact h.coef i hi j (by omega)
theorem oM_hi (h : Sys A B (A.getD 0 []).length) {i : Nat} (hi : i < A.length) : oM A B i (A.getD 0 []).length = B.getD i 0 ∧ -99 ≤ oM A B i (A.getD 0 []).length ∧ oM A B i (A.getD 0 []).length ≤ 99 := by
  have hB : i < B.length := by rw [h.right]; exact hi
  have e : oM A B i (A.getD 0 []).length = B.getD i 0 := if_neg (by omega)
  rw [e, getD_get hB]
  exact ⟨rfl, h.side i hB⟩
theorem siz_int {X x : Int} (h1 : -X ≤ x) (h2 : x ≤ X) : siz (X : Rat) (x : Rat) := ⟨by rw [← Rat.intCast_neg]; exact Rat.intCast_le_intCast.2 h1, Rat.intCast_le_intCast.2 h2⟩
theorem tame_o (h : Sys A B (A.getD 0 []).length) : Tame A.length (A.getD 0 []).length (oA A B) 7 11 where
  pos := by decide
  n7 := by have := h.rows; omega
  w6 := h.cols.2
  big := .inl ⟨by decide, by have := h.rows; omega, h.rows.2⟩
  el := fun r j hr hj => by
    rw [if_neg (by have := h.rows; omega)]
    obtain ⟨a, b⟩ := oM_lo h hr hj
    exact siz_int (X := 9) a b
  right := fun r hr => by
    rw [if_neg (by have := h.rows; omega)]
    obtain ⟨_, a, b⟩ := oM_hi h hr
    have e : (11 : Rat) * 9 = ((99 : Int) : Rat) := by decide +kernel
    rw [e]
    exact siz_int a b
theorem tame_t (h : Sys A B (A.getD 0 []).length) : Tame ((A.getD 0 []).length + 1) A.length (trn A.length (A.getD 0 []).length (oA A B)) (A.getD 0 []).length (1 / 99) where
  pos := by decide +kernel
  n7 := by have := h.cols; omega
  w6 := h.rows.2
  big := .inr (by decide +kernel)
  el := fun t r ht hr => by
    have e : trn A.length (A.getD 0 []).length (oA A B) t r = oA A B r t := by unfold trn; rw [if_neg (by omega)]
    rw [e]
    by_cases hw : t = (A.getD 0 []).length
    · rw [if_pos hw, hw]
      obtain ⟨_, a, b⟩ := oM_hi h hr
      exact siz_int (X := 99) a b
    · rw [if_neg hw]
      obtain ⟨a, b⟩ := oM_lo h hr (j := t) (by omega)
      exact siz_int (X := 9) a b
  right := fun t ht => by
    have e : trn A.length (A.getD 0 []).length (oA A B) t A.length = if t = (A.getD 0 []).length then 1 else 0 := by unfold trn; rw [if_pos rfl]
    rw [e]
    by_cases hw : t = (A.getD 0 []).length
    · rw [if_pos hw, if_pos hw]; constructor <;> decide +kernel
    · rw [if_neg hw, if_neg hw]; constructor <;> decide +kernel
theorem whl_o (A : List (List Int)) (B : List Int) (n w : Nat) : Whl n w (oA A B) := fun r j _ _ => ⟨_, rfl⟩
theorem whl_t (A : List (List Int)) (B : List Int) (n w : Nat) : Whl n w (trn A.length (A.getD 0 []).length (oA A B)) := fun r j _ _ => ⟨tM A B r j, tM_trn A B r j⟩
end
end Go.Proofs.Ythlcmlngmcoknaa

/- What is proved here: plain solutions, combinations of the basis and refutations are accepted; either a solution or a refutation; ranks; other rows with the same solutions; in plain Lean. No program in sight. Condition: a valid system. -/
namespace Go.Proofs.Ythlcmlngmcoknaa
open Go.RowKit

theorem rat_whole {x : Rat} {r : Int} : (x.num = r ∧ (x.den : Int) = 1) ↔ x = (r : Rat) := by
  constructor
  · rintro ⟨h1, h2⟩
    rw [← Rat.num_divInt_den x, h1, h2]
    exact qq_int r
  · rintro rfl; exact ⟨rfl, rfl⟩
/-- Sums over one denominator. -/
theorem osums_iff {a : List Int} {x : List (Int × Int)} {r : Int} {D U : Int} {u : Nat → Int} (hD : 0 < D) (hD2 : D ≤ 1000000000000000000) (hl : a.length ≤ 7) (ha : ∀ i (h : i < a.length), -99 ≤ a[i] ∧ a[i] ≤ 99)
    (hx : ∀ j, j < a.length → x.getD j (0, 0) = up ((u j : Rat) / (D : Rat))) (hu : ∀ j, j < a.length → -U ≤ u j ∧ u j ≤ U) (hU : 0 ≤ U) (hU2 : U ≤ 1000000000000000) :
    osums a x r = true ↔ sm (fun j => ((a.getD j 0 : Int) : Rat) * ((u j : Rat) / (D : Rat))) a.length = (r : Rat) := by
  have ag : ∀ j, j < a.length → -99 ≤ a.getD j 0 ∧ a.getD j 0 ≤ 99 := fun j hj => by rw [getD_get hj]; exact ha j hj
  have au : ∀ j, j < a.length → -(99 * U) ≤ a.getD j 0 * u j ∧ a.getD j 0 * u j ≤ 99 * U := fun j hj => by
    obtain ⟨a1, a2⟩ := ag j hj
    obtain ⟨u1, u2⟩ := hu j hj
    generalize a.getD j 0 = p at *
    generalize u j = q at *
    constructor
    · have h1 := Int.mul_nonneg (show 0 ≤ 99 - p by omega) (show 0 ≤ U + q by omega)
      have h2 := Int.mul_nonneg (show 0 ≤ 99 + p by omega) (show 0 ≤ U + q by omega)
      have h3 := Int.mul_nonneg (show 0 ≤ 99 - p by omega) (show 0 ≤ U - q by omega)
      have h4 := Int.mul_nonneg (show 0 ≤ 99 + p by omega) (show 0 ≤ U - q by omega)
      grind
    · have h1 := Int.mul_nonneg (show 0 ≤ 99 - p by omega) (show 0 ≤ U + q by omega)
      have h2 := Int.mul_nonneg (show 0 ≤ 99 + p by omega) (show 0 ≤ U + q by omega)
      have h3 := Int.mul_nonneg (show 0 ≤ 99 - p by omega) (show 0 ≤ U - q by omega)
      have h4 := Int.mul_nonneg (show 0 ≤ 99 + p by omega) (show 0 ≤ U - q by omega)
      grind
  have inx : ∀ j, j < a.length → inr ((u j : Rat) / (D : Rat)) := fun j hj => by have := hu j hj; exact inr_frac hD hD2 (by omega) (by omega)
  have tqe : ∀ j, j < a.length → tq (dotT a x) j = ((a.getD j 0 * u j : Int) : Rat) / (D : Rat) := fun j hj => by
    unfold tq dotT
    rw [hx j hj, qq_int, qq_up, mul_div']
  have tv : tval (dotT a x) a.length := fun j hj => by
    unfold dotT
    rw [hx j hj]
    have := ag j hj
    exact ⟨fchk_small (a := a.getD j 0) (by omega) (by omega), up_chk (inx j hj)⟩
  have sme : ∀ k, k ≤ a.length → sm (tq (dotT a x)) k = ((si (fun j => a.getD j 0 * u j) k : Int) : Rat) / (D : Rat) := fun k hk => by
    rw [← sm_div]
    exact sm_congr k fun j hj => tqe j (by omega)
  have hg : gsum (dotT a x) a.length = uf (sm (tq (dotT a x)) a.length) := by
    refine gsum_go _ tv (fun j hj => ?_) fun k hk => ?_
    · rw [tqe j hj]; have := au j hj; exact inr_frac hD hD2 (by omega) (by omega)
    · rw [sme k hk]
      have h1 := si_le (f := fun j => a.getD j 0 * u j) (B := 99 * U) k fun i hi => (au i (by omega)).2
      have h2 := si_ge (f := fun j => a.getD j 0 * u j) (B := -(99 * U)) k fun i hi => (au i (by omega)).1
      have k7 : (k : Int) ≤ 7 := by omega
      have k0 : (0 : Int) ≤ k := by omega
      have b1 := Int.mul_le_mul_of_nonneg_right k7 (show 0 ≤ 99 * U by omega)
      rw [Int.mul_neg] at h2
      exact inr_frac hD hD2 (by omega) (by omega)
  have e : sm (tq (dotT a x)) a.length = sm (fun j => ((a.getD j 0 : Int) : Rat) * ((u j : Rat) / (D : Rat))) a.length := sm_congr _ fun j hj => by rw [tqe j hj, mul_div']
  unfold osums
  rw [hg, e]
  show (decide ((0 : Int) = 0) && decide (_ = r) && decide (_ = (1 : Int))) = true ↔ _
  rw [← rat_whole]
  simp [uf]
/-- A quotient by the leading determinant. -/
def quo (L x : Rat) : Prop := whl (L * x) ∧ siz 4300000000 (L * x)
theorem quo_0 (L : Rat) : quo L 0 := by
  have : L * 0 = 0 := by grind
  unfold quo; rw [this]; exact ⟨whl_0, by constructor <;> decide⟩
theorem quo_neg {L x : Rat} (h : quo L x) : quo L (-x) := by
  obtain ⟨⟨z, hz⟩, h2⟩ := h
  have : L * -x = -(L * x) := by grind
  unfold quo; rw [this]
  refine ⟨⟨-z, by rw [hz, Rat.intCast_neg]⟩, ?_⟩
  obtain ⟨a, b⟩ := h2
  constructor <;> grind
/-- Quotients by one number as fractions over a number greater than 0. -/
theorem quo_all {L : Rat} (h0 : L ≠ 0) (hw : whl L) (hs : siz 4300000000 L) : ∃ D : Int, 0 < D ∧ D ≤ 4300000000 ∧ ∀ x, quo L x → ∃ u : Int, x = (u : Rat) / (D : Rat) ∧ -4300000000 ≤ u ∧ u ≤ 4300000000 := by
  obtain ⟨l, rfl⟩ := hw
  obtain ⟨s1, s2⟩ := cast_siz (x := l) (X := 4300000000) hs
  have l0 : l ≠ 0 := fun h => h0 (by rw [h]; rfl)
  rcases Int.lt_or_le 0 l with hp | hp
  · refine ⟨l, hp, s2, fun x hx => ?_⟩
    obtain ⟨⟨z, hz⟩, h2⟩ := hx
    rw [hz] at h2
    obtain ⟨t1, t2⟩ := cast_siz (x := z) (X := 4300000000) h2
    exact ⟨z, by rw [← hz]; grind, t1, t2⟩
  · refine ⟨-l, by omega, by omega, fun x hx => ?_⟩
    obtain ⟨⟨z, hz⟩, h2⟩ := hx
    rw [hz] at h2
    obtain ⟨t1, t2⟩ := cast_siz (x := z) (X := 4300000000) h2
    exact ⟨-z, by rw [Rat.intCast_neg, Rat.intCast_neg, ← hz]; grind, by omega, by omega⟩
section
variable {n w : Nat} {A0 : Nat → Nat → Rat} {c : Nat} {s : Rd} {ρ : Nat} {γ : Rat}
theorem RInv.pl_at (h : RInv n A0 w s) (c : Nat) : (∃ i, i < s.bnd.length ∧ s.bnd.getD i 0 = c ∧ s.pl w c = s.R i w) ∨ (s.free c ∧ s.pl w c = 0) := by
  by_cases hf : s.free c
  · right; exact ⟨hf, sm_0 _ fun i hi => if_neg (hf i hi)⟩
  · left
    unfold Rd.free at hf
    obtain ⟨m, hm⟩ := Classical.not_forall.1 hf
    obtain ⟨hm1, hm2⟩ : m < s.bnd.length ∧ s.bnd.getD m 0 = c := by
      by_cases h1 : m < s.bnd.length
      · exact ⟨h1, Classical.byContradiction fun h2 => hm fun _ => h2⟩
      · exact absurd (fun h2 => absurd h2 h1) hm
    refine ⟨m, hm1, hm2, ?_⟩
    unfold Rd.pl
    rw [sm_single hm1 fun i hi hne => if_neg fun e => hne (h.inj hi hm1 (by rw [e, hm2])), if_pos hm2]
theorem RInv.fr_at (h : RInv n A0 w s) {f : Nat} (c : Nat) : (c = f ∧ s.fr f c = 1) ∨ (∃ i, i < s.bnd.length ∧ s.bnd.getD i 0 = c ∧ s.fr f c = - s.R i f) ∨ (s.free c ∧ s.fr f c = 0) := by
  by_cases hcf : c = f
  · left; exact ⟨hcf, by unfold Rd.fr; rw [if_pos hcf]⟩
  right
  have e : s.fr f c = - sm (fun i => if s.bnd.getD i 0 = c then s.R i f else 0) s.bnd.length := by unfold Rd.fr; rw [if_neg hcf]
  by_cases hf : s.free c
  · right; refine ⟨hf, ?_⟩; rw [e, sm_0 _ fun i hi => if_neg (hf i hi)]; grind
  · left
    unfold Rd.free at hf
    obtain ⟨m, hm⟩ := Classical.not_forall.1 hf
    obtain ⟨hm1, hm2⟩ : m < s.bnd.length ∧ s.bnd.getD m 0 = c := by
      by_cases h1 : m < s.bnd.length
      · exact ⟨h1, Classical.byContradiction fun h2 => hm fun _ => h2⟩
      · exact absurd (fun h2 => absurd h2 h1) hm
    refine ⟨m, hm1, hm2, ?_⟩
    rw [e, sm_single hm1 fun i hi hne => if_neg fun e' => hne (h.inj hi hm1 (by rw [e', hm2])), if_pos hm2]
theorem RInv.quoR (h : RInv n A0 w s) (t : Tame n w A0 ρ γ) (hw : Whl n w A0) {i j : Nat} (hi : i < n) (hj : j ≤ w) : quo s.lead (s.R i j) :=
  ⟨(h.wholes hw (Nat.le_refl _)).2 i j hi hj, (h.tame t (Nat.le_refl _)).2.2 i j hi hj⟩
theorem RInv.quo_pl (h : RInv n A0 w s) (t : Tame n w A0 ρ γ) (hw : Whl n w A0) (c : Nat) : quo s.lead (s.pl w c) := by
  rcases h.pl_at c with ⟨i, hi, _, e⟩ | ⟨_, e⟩
  · rw [e]; exact h.quoR t hw (by have := h.le; omega) (Nat.le_refl _)
  · rw [e]; exact quo_0 _
theorem RInv.quo_fr (h : RInv n A0 w s) (t : Tame n w A0 ρ γ) (hw : Whl n w A0) {f : Nat} (hf : f ≤ w) (c : Nat) : quo s.lead (s.fr f c) := by
  rcases h.fr_at (f := f) c with ⟨_, e⟩ | ⟨i, hi, _, e⟩ | ⟨_, e⟩
  · rw [e]
    have : s.lead * 1 = s.lead := by grind
    unfold quo; rw [this]
    exact ⟨(h.wholes hw (Nat.le_refl _)).1, (h.tame t (Nat.le_refl _)).1⟩
  · rw [e]; exact quo_neg (h.quoR t hw (by have := h.le; omega) hf)
  · rw [e]; exact quo_0 _
theorem RInv.den (h : RInv n A0 w s) (t : Tame n w A0 ρ γ) (hw : Whl n w A0) : ∃ D : Int, 0 < D ∧ D ≤ 4300000000 ∧ ∀ x, quo s.lead x → ∃ u : Int, x = (u : Rat) / (D : Rat) ∧ -4300000000 ≤ u ∧ u ≤ 4300000000 :=
  quo_all h.lead (h.wholes hw (Nat.le_refl _)).1 (h.tame t (Nat.le_refl _)).1
end
theorem plist_len (w : Nat) (s : Rd) : (plist w s).length = w := by simp [plist]
theorem plist_get {w : Nat} {s : Rd} {c : Nat} (hc : c < w) : (plist w s).getD c (0, 0) = up (s.pl w c) := by
  unfold plist; rw [List.getD_eq_getElem?_getD, List.getElem?_map, List.getElem?_range hc]; rfl
theorem frow_len (w : Nat) (s : Rd) (f : Nat) : (frow w s f).length = w := by simp [frow]
theorem frow_get {w : Nat} {s : Rd} {f c : Nat} (hc : c < w) : (frow w s f).getD c (0, 0) = up (s.fr f c) := by
  unfold frow; rw [List.getD_eq_getElem?_getD, List.getElem?_map, List.getElem?_range hc]; rfl
theorem frB_map {g : Nat → Rat} {w : Nat} (h : ∀ c, c < w → inr (g c)) : frB ((List.range w).map fun c => up (g c)) w = true := by
  unfold frB
  simp only [List.length_map, List.length_range, decide_true, Bool.and_true]
  rw [List.all_eq_true]
  intro p hp
  obtain ⟨c, hc, rfl⟩ := List.mem_map.1 hp
  simpa using up_chk (h c (List.mem_range.1 hc))
theorem quo_inr {D : Int} {x : Rat} (h1 : 0 < D) (h2 : D ≤ 4300000000) (h : ∃ u : Int, x = (u : Rat) / (D : Rat) ∧ -4300000000 ≤ u ∧ u ≤ 4300000000) : inr x := by
  obtain ⟨u, rfl, a, b⟩ := h
  exact inr_frac h1 (by omega) (by omega) (by omega)
end Go.Proofs.Ythlcmlngmcoknaa

/- What is proved here: the contract of frac.Make. Condition: the numbers are 64-bit integers. -/
namespace Go.Proofs.Ythlcmlngmcoknaa
open Go.RowKit

set_option maxHeartbeats 800000 in
theorem make_any (num den : Int) (w : World) (h1 : i64 num) (h2 : i64 den) :
    Calls Try.prog 114 #[.int .i64 num, .int .i64 den] w fun e w' => e = .returned (.tuple #[.agg #[.int .i64 (fmk num den).n, .int .i64 (fmk num den).d], .int .i64 (fmk num den).e]) ∧ Below w.heap.size w w' := by
  by_cases h : den = 0
  · subst h
    rw [fmk_0]
    go_enter Try.func114, Try.ntmps114
    go_wp2
    exact bodyPost_ret (v := .tuple #[.agg #[.int .i64 0, .int .i64 0], .int .i64 18]) (by simp [results, Try.results114, go_sem]) rfl ⟨rfl, ba1 _ _⟩
  · have H := Lib.hid (fmk_ne (num := num) h)
    obtain ⟨n1, n2⟩ := h1
    obtain ⟨d1, d2⟩ := h2
    have b1 : (den == 0) = false := by simpa using h
    have hg : 0 < Nat.gcd num.natAbs den.natAbs := Nat.gcd_pos_of_pos_right _ (by omega)
    have hgl : Nat.gcd num.natAbs den.natAbs ≤ den.natAbs := Nat.gcd_le_right _ (by omega)
    have na : num.natAbs ≤ 9223372036854775808 := by omega
    have da : den.natAbs ≤ 9223372036854775808 := by omega
    have q1 := quo_bd num.natAbs (Nat.gcd num.natAbs den.natAbs) na
    have q2 := quo_bd den.natAbs (Nat.gcd num.natAbs den.natAbs) da
    have e1 := wrap_quo num.natAbs (Nat.gcd num.natAbs den.natAbs) na
    have e2 := wrap_quo den.natAbs (Nat.gcd num.natAbs den.natAbs) da
    generalize hgg : Nat.gcd num.natAbs den.natAbs = g at *
    have HG := Lib.hid hgg
    have g0 : ((g : Int) == 0) = false := by simp; omega
    have g1 : ¬ ((g : Int) = 0) := by omega
    clear hgg h
    go_enter Try.func114, Try.ntmps114
    go_wp2_with fail
    refine (size_any _ _ (by omega) (by omega)).mono ?_
    rintro e _ ⟨rfl, rfl⟩
    go_wp2_with fail
    refine (size_any _ _ (by omega) (by omega)).mono ?_
    rintro e _ ⟨rfl, rfl⟩
    go_wp2_with fail
    refine (gcd_any _ _ _ (by omega) (by omega)).mono ?_
    rintro e w1 ⟨rfl, nd, rfl⟩
    rw [HG.out]
    go_wp2_with fail
    refine wp_region_st [.t [0, 1, 2, 3, 4, 5, 6, 7, 8, 9, 10], .f 11, .t [12, 13]] [14, 15] (by kernel_rfl) (by kernel_rfl) (fun _ _ _ _ _ h => h) ?_
    refine wpX_t ?_
    try simp only [opsAt, List.getElem?_toArray, List.getElem?_cons_zero, List.getElem?_cons_succ, Option.getD_some]
    repeat (go_big_quiet_step (fail))
    refine wpQuiet_nil ?_
    refine wpX_f rfl rfl (fun K' hK' => ?_)
    go_simp
    refine (build_any _ _ _ _ (by omega) (by omega) (by omega) (by omega)).mono ?_
    rintro e w1 ⟨rfl, hb1⟩
    refine hK' _ _ (grow_of (below_to ((Below.refl _ _).drew) hb1)) ?_
    clear hK' K'
    obtain ⟨c1, f1⟩ := bcell hb1
    have z1 := (hb1).size
    try simp at z1
    try simp at c1
    try simp at f1
    refine wpX_t ?_
    try simp only [opsAt, List.getElem?_toArray, List.getElem?_cons_zero, List.getElem?_cons_succ, Option.getD_some]
    repeat (go_big_quiet_step (fail))
    refine wpQuiet_nil ?_
    refine wpX_nil ?_
    try simp only [opsAt, List.getElem?_toArray, List.getElem?_cons_zero, List.getElem?_cons_succ, Option.getD_some]
    go_wp2
    generalize hr : bld (!decide (num < 0) == decide (den < 0)) (↑num.natAbs / ↑g) (↑den.natAbs / ↑g) = r at *
    have HR : Hid (fmk num den = r) := by show _ = _; rw [H.out, ← hr]; rfl
    clear hr H
    refine bodyPost_ret (v := .tuple #[.agg #[.int .i64 r.n, .int .i64 r.d], .int .i64 r.e]) (by simp [results, Try.results114, go_sem, c1]) rfl ⟨by rw [HR.out], ?_⟩
    repeat (refine Below.setCell ?_ (by first | omega | (simp; done) | (simp; omega)) _)
    exact below_to (ba1 _ _) (below_to (below_drewN _ _) hb1)

end Go.Proofs.Ythlcmlngmcoknaa

/- What is proved here: a row of fractions of the call's own that is written over. No condition. -/
namespace Go.Proofs.Ythlcmlngmcoknaa
open Go.RowKit

/-- A row of the call's own that is not empty, as a block. -/
theorem owns_open {w : World} {B : Nat} {T : TypeId} {u : Value} {xs : List (Int × Int)} (h : w.ownsRow B T 2 u xs.length (fcs xs)) (h0 : 0 < xs.length) :
    ∃ G cap rest, u = .slice (some ⟨G, 0, none⟩) xs.length cap ∧ B ≤ G ∧ Own w G T (fcs xs ++ rest) ∧ xs.length ≤ cap ∧ cap ≤ maxLen ∧ (fcs xs ++ rest).length = cap * 2 := by
  obtain ⟨hl, h2⟩ := h
  rcases h2 with ⟨_, h2⟩ | ⟨g, cap, cur, h3, hg, hh, h4, h5, h6, h7⟩
  · omega
  · refine ⟨g, cap, cur.toList.drop (xs.length * 2), h3, hg, ?_, h4, h5, ?_⟩
    · unfold Own; rw [hh, ← h7, List.take_append_drop]
    · rw [← h7, List.take_append_drop]; simpa using h6
theorem owns_shut {w : World} {B : Nat} {T : TypeId} {xs : List (Int × Int)} {rest : List Value} {G cap : Nat} (h : Own w G T (fcs xs ++ rest)) (hB : B ≤ G) (h4 : xs.length ≤ cap) (h5 : cap ≤ maxLen) (h6 : (fcs xs ++ rest).length = cap * 2) :
    w.ownsRow B T 2 (.slice (some ⟨G, 0, none⟩) xs.length cap) xs.length (fcs xs) :=
  ⟨fcs_len xs, .inr ⟨G, cap, (fcs xs ++ rest).toArray, rfl, hB, h, h4, h5, by simpa using h6, by rw [List.toList_toArray, ← fcs_len, List.take_left']; rfl⟩⟩
theorem fcs_at {xs : List (Int × Int)} {k : Nat} (rest : List Value) (h : k < xs.length) : (fcs xs ++ rest)[k * 2]? = some (.int .i64 xs[k].1) ∧ (fcs xs ++ rest)[k * 2 + 1]? = some (.int .i64 xs[k].2) := by
  obtain ⟨h1, h2⟩ := fcs_get xs k h
  have hl := fcs_len xs
  rw [List.getElem?_append_left (by omega), List.getElem?_append_left (by omega)]
  exact ⟨h1, h2⟩
theorem fcs_put {xs : List (Int × Int)} {k : Nat} (rest : List Value) (h : k < xs.length) (p : Int × Int) : ((fcs xs ++ rest).set (k * 2) (.int .i64 p.1)).set (k * 2 + 1) (.int .i64 p.2) = fcs (xs.set k p) ++ rest := by
  have hl := fcs_len xs
  rw [List.set_append_left _ _ (by omega), List.set_append_left _ _ (by rw [List.length_set]; omega), fcs_set]
/-- A row that is written over from the left. -/
theorem over_set {rs g : List (Int × Int)} {m : Nat} (p : Int × Int) (h : rs.length = m) (hm : m < g.length) : (rs ++ g.drop m).set m p = (rs ++ [p]) ++ g.drop (m + 1) := by
  rw [List.set_append_right _ _ (by omega), h, Nat.sub_self, List.drop_eq_getElem_cons hm, List.set_cons_zero, List.append_assoc]
  rfl
theorem over_get {rs g : List (Int × Int)} {m : Nat} (h : rs.length = m) (hm : m < g.length) : (rs ++ g.drop m)[m]'(by simp; omega) = g[m] := by
  rw [List.getElem_append_right (by omega)]
  simp [h]
theorem over_len {rs g : List (Int × Int)} {m : Nat} (h : rs.length = m) (hm : m ≤ g.length) : (rs ++ g.drop m).length = g.length := by simp; omega
end Go.Proofs.Ythlcmlngmcoknaa

/- What is proved here: slices of known numbers and fractions that were just made. No condition but the sizes. -/
namespace Go.Proofs.Ythlcmlngmcoknaa
open Go.RowKit

theorem si_of_own {w : World} {g : Nat} {T : TypeId} (xs : List Int) (n : Nat) (hn : xs.length = n) (hm : n ≤ 1000) (h : Own w g T (xs.map (Value.int .i64))) : SI w (.slice (some ⟨g, 0, none⟩) n n) xs := by
  unfold SI; rw [hn]
  exact h.sl n (Nat.le_refl _) (by omega) _ ⟨[], by simp⟩
theorem sf_of_own {w : World} {g : Nat} {T : TypeId} (xs : List (Int × Int)) (n : Nat) (hn : xs.length = n) (hm : n ≤ 1000) (h : Own w g T (fcs xs)) : SF w (.slice (some ⟨g, 0, none⟩) n n) xs := by
  unfold SF; rw [hn]
  exact h.sl n (Nat.le_refl _) (by omega) _ ⟨[], by simp⟩
theorem ss_nil (w : World) : SS w (.slice none 0 0) [] := ⟨[], rfl, ⟨none, 0, rfl, Nat.le_refl _, by decide, fun i x hx => by simp at hx⟩, fun i h => by simp at h⟩
theorem si_nil (w : World) : SI w (.slice none 0 0) [] := ⟨none, 0, rfl, Nat.le_refl _, by decide, fun i x hx => by simp at hx⟩
theorem ss_of_own {w : World} {g : Nat} {T : TypeId} (xss : List (List Int)) (vs : List Value) (n : Nat) (hn : xss.length = n) (hv : vs.length = n) (hm : n ≤ 1000) (h : Own w g T vs) (hr : ∀ i (h : i < xss.length) (h' : i < vs.length), SI w vs[i] xss[i]) : SS w (.slice (some ⟨g, 0, none⟩) n n) xss := by
  refine ⟨vs, by omega, ?_, hr⟩
  rw [hn]
  exact h.sl n (Nat.le_refl _) (by omega) _ ⟨[], by simp⟩
theorem fi_of (xs : List (Int × Int)) (h : (xs.all fun p => decide (-9223372036854775808 ≤ p.1) && decide (p.1 ≤ 9223372036854775807) && (decide (-9223372036854775808 ≤ p.2) && decide (p.2 ≤ 9223372036854775807))) = true) : FI xs := by
  intro p hp
  have := List.all_eq_true.1 h p hp
  simp only [Bool.and_eq_true, decide_eq_true_eq] at this
  exact ⟨⟨this.1.1, this.1.2⟩, ⟨this.2.1, this.2.2⟩⟩
theorem own_4th (w : World) (T : TypeId) (cs : List Value) (o1 o2 o3 : Obj) : Own ((((w.alloc o1).alloc o2).alloc o3).alloc (.cells cs.toArray T (0, 0))) (w.heap.size + 1 + 1 + 1) T cs := by
  have h := own_third (w.alloc o1) T cs o2 o3
  rw [show (w.alloc o1).heap.size = w.heap.size + 1 from by simp] at h
  exact h
theorem own_fifth (w : World) (T : TypeId) (cs : List Value) (o1 o2 o3 o4 : Obj) : Own (((((w.alloc o1).alloc o2).alloc o3).alloc o4).alloc (.cells cs.toArray T (0, 0))) (w.heap.size + 1 + 1 + 1 + 1) T cs := by
  have h := own_4th (w.alloc o1) T cs o2 o3 o4
  rw [show (w.alloc o1).heap.size = w.heap.size + 1 from by simp] at h
  exact h
theorem own_sixth (w : World) (T : TypeId) (cs : List Value) (o1 o2 o3 o4 o5 : Obj) : Own ((((((w.alloc o1).alloc o2).alloc o3).alloc o4).alloc o5).alloc (.cells cs.toArray T (0, 0))) (w.heap.size + 1 + 1 + 1 + 1 + 1) T cs := by
  have h := own_fifth (w.alloc o1) T cs o2 o3 o4 o5
  rw [show (w.alloc o1).heap.size = w.heap.size + 1 from by simp] at h
  exact h
theorem ba5 (w : World) (o1 o2 o3 o4 o5 : Obj) : Below w.heap.size w (((((w.alloc o1).alloc o2).alloc o3).alloc o4).alloc o5) := (ba4 w o1 o2 o3 o4).alloc (by simp; omega) _
theorem ba6 (w : World) (o1 o2 o3 o4 o5 o6 : Obj) : Below w.heap.size w ((((((w.alloc o1).alloc o2).alloc o3).alloc o4).alloc o5).alloc o6) := (ba5 w o1 o2 o3 o4 o5).alloc (by simp; omega) _
theorem fr_is {a : FR} {x y z : Int} (h : a.n = x ∧ a.d = y ∧ a.e = z) : a = ⟨x, y, z⟩ := by
  obtain ⟨h1, h2, h3⟩ := h
  cases a; simp_all
/-- A system that a call returns. -/
def sys_post (w : World) (A : List (List Int)) (B : List Int) (e : Ending) (w' : World) : Prop := ∃ va vb, e = .returned (.agg #[va, vb]) ∧ SS w' va A ∧ SI w' vb B ∧ Below w.heap.size w w'
/-- Fractions that a call returns. -/
def fracs_post (w : World) (xs : List (Int × Int)) (e : Ending) (w' : World) : Prop := ∃ u, e = .returned u ∧ SF w' u xs ∧ Below w.heap.size w w'
end Go.Proofs.Ythlcmlngmcoknaa

/- What is proved here: either a solution or a refutation; ranks; other rows with the same solutions; in plain Lean. No program in sight. Condition: a valid system. -/
namespace Go.Proofs.Ythlcmlngmcoknaa
open Go.RowKit

section
variable {A : List (List Int)} {B : List Int}
theorem o_inv (A : List (List Int)) (B : List Int) : RInv A.length (oA A B) (A.getD 0 []).length (ored A B) := red_inv _ _ _
theorem t_inv (A : List (List Int)) (B : List Int) : RInv ((A.getD 0 []).length + 1) (trn A.length (A.getD 0 []).length (oA A B)) A.length (tred A B) := red_inv _ _ _
theorem sys_row (_h : Sys A B (A.getD 0 []).length) {i j : Nat} (_hi : i < A.length) (hj : j < (A.getD 0 []).length) : (A.getD i []).getD j 0 = oM A B i j := by
  unfold oM cel; rw [if_pos hj]
/-- A list over one denominator is a solution. -/
theorem oacc_of (h : Sys A B (A.getD 0 []).length) {g : Nat → Rat} {D U : Int} {u : Nat → Int} (hD : 0 < D) (hD2 : D ≤ 1000000000000000000) (hu : ∀ c, c < (A.getD 0 []).length → g c = (u c : Rat) / (D : Rat) ∧ -U ≤ u c ∧ u c ≤ U) (hU : 0 ≤ U) (hU2 : U ≤ 1000000000000000)
    (hs : ∀ i, i < A.length → sm (fun j => oA A B i j * g j) (A.getD 0 []).length = oA A B i (A.getD 0 []).length) : oacc A B ((List.range (A.getD 0 []).length).map fun c => up (g c)) A.length = true := by
  unfold oacc
  rw [List.all_eq_true]
  intro i hi
  have hi := List.mem_range.1 hi
  have hw := h.wide i hi
  have hr := h.right
  have hB : i < B.length := by omega
  have lg : (A.getD i []).length = (A.getD 0 []).length := by rw [getD_get hi]; exact hw
  have cf : ∀ k (hk : k < (A.getD i []).length), -99 ≤ (A.getD i [])[k] ∧ (A.getD i [])[k] ≤ 99 := fun k hk => by
    have hk' : k < A[i].length := by omega
    have e : (A.getD i [])[k] = A[i][k] := by
      have q := getD_get (d := ([] : List Int)) hi
      revert hk; rw [q]; intro _; rfl
    rw [e]; have := h.coef i hi k hk'; omega
  have hxs : ∀ j, j < (A.getD i []).length → ((List.range (A.getD 0 []).length).map fun c => up (g c)).getD j (0, 0) = up ((u j : Rat) / (D : Rat)) := fun j hj => by
    rw [List.getD_eq_getElem?_getD, List.getElem?_map, List.getElem?_range (by omega)]
    show up (g j) = _
    rw [(hu j (by omega)).1]
  have := osums_iff (a := A.getD i []) (x := (List.range (A.getD 0 []).length).map fun c => up (g c)) (r := B.getD i 0) (u := u) hD hD2 (by have := h.cols; omega) cf hxs (fun j hj => (hu j (by omega)).2) hU hU2
  rw [this, lg]
  have e := hs i hi
  have e2 : oA A B i (A.getD 0 []).length = ((B.getD i 0 : Int) : Rat) := by unfold oA; rw [(oM_hi h hi).1]
  rw [← e2, ← e]
  refine sm_congr _ fun j hj => ?_
  rw [sys_row h hi hj, (hu j hj).1]; rfl
theorem pl_row (_h : Sys A B (A.getD 0 []).length) (hs : solvB A.length (A.getD 0 []).length (ored A B) = true) {i : Nat} (hi : i < A.length) :
    sm (fun j => oA A B i j * (ored A B).pl (A.getD 0 []).length j) (A.getD 0 []).length = oA A B i (A.getD 0 []).length := by
  have := (o_inv A B).plain (solvB_iff.1 hs) i hi
  rw [sm_succ] at this
  have e : (ored A B).plx (A.getD 0 []).length (A.getD 0 []).length = -1 := by unfold Rd.plx; rw [if_pos rfl]
  have e2 : sm (fun j => oA A B i j * (ored A B).plx (A.getD 0 []).length j) (A.getD 0 []).length = sm (fun j => oA A B i j * (ored A B).pl (A.getD 0 []).length j) (A.getD 0 []).length := sm_congr _ fun j hj => by
    unfold Rd.plx; rw [if_neg (by omega)]
  rw [e, e2] at this
  grind
/-- The plain solution is accepted. -/
theorem accept_plain (hc : ocheck A B = 0) (hs : solvB A.length (A.getD 0 []).length (ored A B) = true) : oaccept A B (plist (A.getD 0 []).length (ored A B)) = (true, 0) := by
  have h := sys_of hc
  have R := o_inv A B
  obtain ⟨D, d1, d2, d3⟩ := R.den (tame_o h) (whl_o A B _ _)
  have key : ∀ c, ∃ u : Int, (ored A B).pl (A.getD 0 []).length c = (u : Rat) / (D : Rat) ∧ -4300000000 ≤ u ∧ u ≤ 4300000000 := fun c => d3 _ (R.quo_pl (tame_o h) (whl_o A B _ _) c)
  obtain ⟨u, hu⟩ := Classical.axiomOfChoice key
  have hf : frB (plist (A.getD 0 []).length (ored A B)) (A.getD 0 []).length = true := frB_map fun c _ => quo_inr d1 d2 (key c)
  rw [oaccept_0 hc hf]
  have := oacc_of h (g := (ored A B).pl (A.getD 0 []).length) (D := D) (U := 4300000000) (u := u) d1 (by omega) (fun c _ => hu c) (by omega) (by omega) fun i hi => pl_row h hs hi
  exact congrArg (fun b => (b, (0 : Int))) this
theorem tl_row (h : Sys A B (A.getD 0 []).length) (hs : solvB ((A.getD 0 []).length + 1) A.length (tred A B) = true) {t : Nat} (ht : t ≤ (A.getD 0 []).length) :
    sm (fun r => oA A B r t * (tred A B).pl A.length r) A.length = if t = (A.getD 0 []).length then 1 else 0 := by
  have := (t_inv A B).plain (solvB_iff.1 hs) t (by omega)
  rw [sm_succ] at this
  have e : (tred A B).plx A.length A.length = -1 := by unfold Rd.plx; rw [if_pos rfl]
  have e2 : sm (fun r => trn A.length (A.getD 0 []).length (oA A B) t r * (tred A B).plx A.length r) A.length = sm (fun r => oA A B r t * (tred A B).pl A.length r) A.length := sm_congr _ fun r hr => by
    unfold Rd.plx trn; rw [if_neg (by omega), if_neg (by omega)]
  have e3 : trn A.length (A.getD 0 []).length (oA A B) t A.length = if t = (A.getD 0 []).length then 1 else 0 := by unfold trn; rw [if_pos rfl]
  rw [e, e2, e3] at this
  grind
/-- The plain refutation holds. -/
theorem holds_plain (hc : ocheck A B = 0) (hs : solvB ((A.getD 0 []).length + 1) A.length (tred A B) = true) : oholds A B (plist A.length (tred A B)) = (true, 0) := by
  have h := sys_of hc
  have R := t_inv A B
  obtain ⟨D, d1, d2, d3⟩ := R.den (tame_t h) (whl_t A B _ _)
  have key : ∀ c, ∃ u : Int, (tred A B).pl A.length c = (u : Rat) / (D : Rat) ∧ -4300000000 ≤ u ∧ u ≤ 4300000000 := fun c => d3 _ (R.quo_pl (tame_t h) (whl_t A B _ _) c)
  obtain ⟨u, hu⟩ := Classical.axiomOfChoice key
  have hf : frB (plist A.length (tred A B)) A.length = true := frB_map fun c _ => quo_inr d1 d2 (key c)
  rw [oholds_0 hc hf]
  have hxs : ∀ j, j < A.length → (plist A.length (tred A B)).getD j (0, 0) = up ((u j : Rat) / (D : Rat)) := fun j hj => by rw [plist_get hj, (hu j).1]
  have one : ∀ (a : List Int) (r : Int) (t : Nat), a.length = A.length → t ≤ (A.getD 0 []).length → (∀ j, j < A.length → a.getD j 0 = oM A B j t) → (∀ i (hi : i < a.length), -99 ≤ a[i] ∧ a[i] ≤ 99) → ((if t = (A.getD 0 []).length then 1 else 0) = (r : Rat)) → osums a (plist A.length (tred A B)) r = true := fun a r t hl ht ha hb hr => by
    have := osums_iff (a := a) (x := plist A.length (tred A B)) (r := r) (U := 4300000000) (u := u) d1 (by omega) (by have := h.rows; omega) hb (fun j hj => hxs j (by omega)) (fun j _ => (hu j).2) (by omega) (by omega)
    rw [this, hl, ← hr, ← tl_row h hs ht]
    refine sm_congr _ fun j hj => ?_
    rw [ha j hj, (hu j).1]; rfl
  have h0 : oh0 A (plist A.length (tred A B)) (A.getD 0 []).length = true := by
    unfold oh0
    rw [List.all_eq_true]
    intro t ht
    have ht := List.mem_range.1 ht
    have cg : ∀ j, j < A.length → (ocol A t).getD j 0 = oM A B j t := fun j hj => by
      unfold ocol; rw [List.getD_eq_getElem?_getD, List.getElem?_map, List.getElem?_eq_getElem hj]
      show A[j].getD t 0 = _
      rw [← sys_row h hj ht, getD_get hj]
    refine one (ocol A t) 0 t (ocol_len A t) (by omega) cg (fun i hi => ?_) (by rw [if_neg (by omega)]; rfl)
    have hi' : i < A.length := by rw [ocol_len] at hi; exact hi
    have := oM_lo h hi' ht
    rw [← cg i hi', getD_get hi] at this
    omega
  have h1 : osums B (plist A.length (tred A B)) 1 = true := one B 1 (A.getD 0 []).length h.right (Nat.le_refl _) (fun j hj => (oM_hi h hj).1.symm) (fun i hi => h.side i hi) (by rw [if_pos rfl]; rfl)
  rw [h0, h1]; rfl
/-- Either a solution, or a refutation. -/
theorem either_o (A : List (List Int)) (B : List Int) : solvB A.length (A.getD 0 []).length (ored A B) = true ↔ ¬ solvB ((A.getD 0 []).length + 1) A.length (tred A B) = true := by
  rw [solvB_iff, solvB_iff]
  exact either (o_inv A B) (t_inv A B)
/-- Systems with the same solutions have the same results. -/
theorem oSolve_same {A' : List (List Int)} {B' : List Int} (h : ocheck A B = 0) (h' : ocheck A' B' = 0) (hw : (A'.getD 0 []).length = (A.getD 0 []).length) (hk : ∀ x, ker A.length ((A.getD 0 []).length + 1) (oA A B) x ↔ ker A'.length ((A.getD 0 []).length + 1) (oA A' B') x) : oSolve A' B' = oSolve A B := by
  have R' : RInv A'.length (oA A' B') (A.getD 0 []).length (ored A' B') := by have := o_inv A' B'; rw [hw] at this; exact this
  obtain ⟨k1, k2, k3, k4⟩ := same_ker (o_inv A B) R' hk
  have e1 : solvB A'.length (A'.getD 0 []).length (ored A' B') = solvB A.length (A.getD 0 []).length (ored A B) := by
    rw [Bool.eq_iff_iff, solvB_iff, solvB_iff, hw]; exact k1.symm
  cases hs : solvB A.length (A.getD 0 []).length (ored A B) with
  | false => rw [oSolve_6 h hs, oSolve_6 h' (by rw [e1]; exact hs)]
  | true =>
    have s0 := solvB_iff.1 hs
    rw [oSolve_0 h hs, oSolve_0 h' (by rw [e1]; exact hs), hw]
    have p1 : plist (A.getD 0 []).length (ored A' B') = plist (A.getD 0 []).length (ored A B) := by
      unfold plist
      refine List.map_congr_left fun c hc => ?_
      rw [k3 s0 c (List.mem_range.1 hc)]
    have f1 : ∀ f, f < (A.getD 0 []).length → freeB (ored A' B') f = freeB (ored A B) f := fun f hf => by
      rw [Bool.eq_iff_iff, freeB_iff, freeB_iff]; exact (k2 f hf).symm
    have b1 : blist (A.getD 0 []).length (ored A' B') (A.getD 0 []).length = blist (A.getD 0 []).length (ored A B) (A.getD 0 []).length := by
      unfold blist
      have e : (List.range (A.getD 0 []).length).filter (fun k => freeB (ored A' B') k) = (List.range (A.getD 0 []).length).filter (fun k => freeB (ored A B) k) := List.filter_congr fun f hf => f1 f (List.mem_range.1 hf)
      rw [e]
      refine List.map_congr_left fun f hf => ?_
      obtain ⟨hf1, hf2⟩ := List.mem_filter.1 hf
      unfold frow
      refine List.map_congr_left fun c hc => ?_
      rw [k4 f (List.mem_range.1 hf1) (freeB_iff.1 hf2) c (List.mem_range.1 hc)]
    rw [p1, b1]
end
/-- As many free columns as there are columns, less the bound ones. -/
theorem free_count (n : Nat) (A : Nat → Nat → Rat) : ∀ c, ((List.range c).filter fun k => freeB (red n A c) k).length + (red n A c).bnd.length = c
  | 0 => rfl
  | c + 1 => by
    have ih := free_count n A c
    have hi := red_inv n A c
    have keep : ∀ s : Rd, s.bnd = (red n A c).bnd → ((List.range (c + 1)).filter fun k => freeB s k).length + s.bnd.length = c + 1 := fun s hs => by
      have e : ∀ k, freeB s k = freeB (red n A c) k := fun k => by unfold freeB; rw [hs]
      have ec : freeB (red n A c) c = true := freeB_iff.2 fun i h => by have := hi.blt i h; omega
      have e2 : (List.range (c + 1)).filter (fun k => freeB s k) = (List.range c).filter (fun k => freeB (red n A c) k) ++ [c] := by
        rw [List.range_succ, List.filter_append]
        rw [List.filter_congr (q := fun k => freeB (red n A c) k) fun k _ => e k]
        simp [e, ec]
      rw [e2, List.length_append, hs]
      simp; omega
    show ((List.range (c + 1)).filter fun k => freeB ((red n A c).step n c) k).length + ((red n A c).step n c).bnd.length = c + 1
    by_cases h1 : n ≤ (red n A c).bnd.length
    · exact keep _ (by unfold Rd.step; rw [if_pos h1])
    by_cases h2 : fnd (red n A c).R c (n - (red n A c).bnd.length) (red n A c).bnd.length = n
    · exact keep _ (by unfold Rd.step; rw [if_neg h1, if_pos h2])
    obtain ⟨hb, _⟩ := step_at (s := red n A c) (c := c) h1 h2
    generalize (red n A c).step n c = s' at *
    have ec : freeB s' c = false := by
      rw [← Bool.not_eq_true, freeB_iff]
      intro hf
      refine hf (red n A c).bnd.length (by rw [hb, List.length_append]; simp) ?_
      rw [hb]; exact getD_end
    have ek : ∀ k, k < c → freeB s' k = freeB (red n A c) k := fun k hk => by
      rw [Bool.eq_iff_iff, freeB_iff, freeB_iff]
      constructor
      · intro hf i hi
        have := hf i (by rw [hb, List.length_append]; omega)
        rw [hb, getD_app hi] at this
        exact this
      · intro hf i hi
        rw [hb] at hi ⊢
        rcases Nat.lt_or_ge i (red n A c).bnd.length with h3 | h3
        · rw [getD_app h3]; exact hf i h3
        · obtain rfl : i = (red n A c).bnd.length := by rw [List.length_append] at hi; simp at hi; omega
          rw [getD_end]; omega
    have e2 : (List.range (c + 1)).filter (fun k => freeB s' k) = (List.range c).filter (fun k => freeB (red n A c) k) := by
      rw [List.range_succ, List.filter_append]
      rw [List.filter_congr (q := fun k => freeB (red n A c) k) fun k hk => ek k (List.mem_range.1 hk)]
      simp [ec]
    rw [e2, hb, List.length_append]
    simp; omega
theorem blist_len (n w : Nat) (A : Nat → Nat → Rat) : (blist w (red n A w) w).length = w - (red n A w).bnd.length := by
  have := free_count n A w
  unfold blist
  rw [List.length_map]
  omega
end Go.Proofs.Ythlcmlngmcoknaa

/- What is proved here: the contract of fringeref01.Of. No condition. -/
namespace Go.Proofs.Ythlcmlngmcoknaa
open Go.RowKit

theorem rof_any (n : Int) (w : World) : Calls Try.prog 45 #[.int .i64 n] w fun e w' => e = .returned (.agg #[.int .i64 n, .int .i64 1]) ∧ Below w.heap.size w w' := by
  go_enter Try.func45, Try.ntmps45
  go_wp2
  have oR := Own.new w 78 [.int .i64 n, .int .i64 1]
  have hB := ba1 w (.cells #[.int .i64 n, .int .i64 1] 78)
  refine bp_gen' (fun W => Own W _ _ _ ∧ Below w.heap.size w W) ⟨oR, hB⟩ ?_
  rintro wz ⟨oz, bz⟩
  obtain ⟨rz, fz⟩ := oz.rules
  clear oz
  refine bodyPost_ret (v := .agg #[.int .i64 n, .int .i64 1]) (by simp [results, Try.results45, go_sem, rz]) rfl ⟨rfl, ?_⟩
  exact bz
end Go.Proofs.Ythlcmlngmcoknaa
