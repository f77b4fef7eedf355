/- What is proved here: contracts of functions and plain facts, several texts in one; each one says ahead what it proves, and its conditions. -/
import Derived.Test.YthlcmlngmcoknaaC34
import Derived.Test.YthlcmlngmcoknaaC30
import Derived.Test.YthlcmlngmcoknaaC08
/- What is proved here: the contracts of the reference's sum and rest of numbers of four digits. Condition: the sum has four digits; what is subtracted is not greater. -/
namespace Go.Proofs.Ythlcmlngmcoknaa
open Go.RowKit

/-- The steps of a sum. -/
structure Sum4 (x0 x1 x2 x3 y0 y1 y2 y3 : Nat) where
  s0 : Nat
  s1 : Nat
  s2 : Nat
  s3 : Nat
  c1 : Nat
  c2 : Nat
  c3 : Nat
  c4 : Nat
  l0 : s0 < 4294967296
  l1 : s1 < 4294967296
  l2 : s2 < 4294967296
  l3 : s3 < 4294967296
  m1 : c1 < 4294967296
  m2 : c2 < 4294967296
  m3 : c3 < 4294967296
  r0 : bits BinOp.and IntKind.u64 ((x0 : Int) + y0) 4294967295 = s0
  t0 : ((x0 : Int) + y0) / 4294967296 = c1
  r1 : bits BinOp.and IntKind.u64 ((c1 : Int) + ((x1 : Int) + y1)) 4294967295 = s1
  t1 : ((c1 : Int) + ((x1 : Int) + y1)) / 4294967296 = c2
  r2 : bits BinOp.and IntKind.u64 ((c2 : Int) + ((x2 : Int) + y2)) 4294967295 = s2
  t2 : ((c2 : Int) + ((x2 : Int) + y2)) / 4294967296 = c3
  r3 : bits BinOp.and IntKind.u64 ((c3 : Int) + ((x3 : Int) + y3)) 4294967295 = s3
  t3 : ((c3 : Int) + ((x3 : Int) + y3)) / 4294967296 = c4
  total : (x0 + x1 * 4294967296 + x2 * 18446744073709551616 + x3 * 79228162514264337593543950336) + (y0 + y1 * 4294967296 + y2 * 18446744073709551616 + y3 * 79228162514264337593543950336) = s0 + s1 * 4294967296 + s2 * 18446744073709551616 + s3 * 79228162514264337593543950336 + c4 * 340282366920938463463374607431768211456
theorem sum4 {x0 x1 x2 x3 y0 y1 y2 y3 : Nat} (a0 : x0 < 4294967296) (a1 : x1 < 4294967296) (a2 : x2 < 4294967296) (a3 : x3 < 4294967296) (b0 : y0 < 4294967296) (b1 : y1 < 4294967296) (b2 : y2 < 4294967296) (b3 : y3 < 4294967296) : Nonempty (Sum4 x0 x1 x2 x3 y0 y1 y2 y3) := by
  obtain ⟨p0, q0, e0⟩ := step32 (x0 + y0) (by omega)
  generalize hs0 : (x0 + y0) % 4294967296 = s0 at *
  generalize hc1 : (x0 + y0) / 4294967296 = c1 at *
  obtain ⟨p1, q1, e1⟩ := step32 (c1 + (x1 + y1)) (by omega)
  generalize hs1 : (c1 + (x1 + y1)) % 4294967296 = s1 at *
  generalize hc2 : (c1 + (x1 + y1)) / 4294967296 = c2 at *
  obtain ⟨p2, q2, e2⟩ := step32 (c2 + (x2 + y2)) (by omega)
  generalize hs2 : (c2 + (x2 + y2)) % 4294967296 = s2 at *
  generalize hc3 : (c2 + (x2 + y2)) / 4294967296 = c3 at *
  obtain ⟨p3, q3, e3⟩ := step32 (c3 + (x3 + y3)) (by omega)
  generalize hs3 : (c3 + (x3 + y3)) % 4294967296 = s3 at *
  generalize hc4 : (c3 + (x3 + y3)) / 4294967296 = c4 at *
  exact ⟨{ s0 := s0, s1 := s1, s2 := s2, s3 := s3, c1 := c1, c2 := c2, c3 := c3, c4 := c4, l0 := p0, l1 := p1, l2 := p2, l3 := p3, m1 := q0, m2 := q1, m3 := q2
           r0 := by rw [and32' _ (x0 + y0) (by omega) (by omega), hs0]
           t0 := by omega
           r1 := by rw [and32' _ (c1 + (x1 + y1)) (by omega) (by omega), hs1]
           t1 := by omega
           r2 := by rw [and32' _ (c2 + (x2 + y2)) (by omega) (by omega), hs2]
           t2 := by omega
           r3 := by rw [and32' _ (c3 + (x3 + y3)) (by omega) (by omega), hs3]
           t3 := by omega
           total := by omega }⟩
/-- The steps of a difference. -/
structure Rest4 (x0 x1 x2 x3 y0 y1 y2 y3 : Nat) where
  s0 : Nat
  s1 : Nat
  s2 : Nat
  s3 : Nat
  z0 : Nat
  z1 : Nat
  z2 : Nat
  z3 : Nat
  c1 : Nat
  c2 : Nat
  c3 : Nat
  c4 : Nat
  l0 : s0 < 4294967296
  l1 : s1 < 4294967296
  l2 : s2 < 4294967296
  l3 : s3 < 4294967296
  n0 : (z0 : Int) ≤ 8589934591
  n1 : (z1 : Int) ≤ 8589934591
  n2 : (z2 : Int) ≤ 8589934591
  n3 : (z3 : Int) ≤ 8589934591
  m1 : c1 ≤ 1
  m2 : c2 ≤ 1
  m3 : c3 ≤ 1
  e0 : (x0 : Int) + 4294967295 + 1 - y0 = z0
  e1 : (x1 : Int) + 4294967295 + 1 - y1 - c1 = z1
  e2 : (x2 : Int) + 4294967295 + 1 - y2 - c2 = z2
  e3 : (x3 : Int) + 4294967295 + 1 - y3 - c3 = z3
  r0 : bits BinOp.and IntKind.u64 (z0 : Int) 4294967295 = s0
  t0 : (1 : Int) - (z0 : Int) / 4294967296 = c1
  r1 : bits BinOp.and IntKind.u64 (z1 : Int) 4294967295 = s1
  t1 : (1 : Int) - (z1 : Int) / 4294967296 = c2
  r2 : bits BinOp.and IntKind.u64 (z2 : Int) 4294967295 = s2
  t2 : (1 : Int) - (z2 : Int) / 4294967296 = c3
  r3 : bits BinOp.and IntKind.u64 (z3 : Int) 4294967295 = s3
  t3 : (1 : Int) - (z3 : Int) / 4294967296 = c4
  total : (x0 + x1 * 4294967296 + x2 * 18446744073709551616 + x3 * 79228162514264337593543950336) + c4 * 340282366920938463463374607431768211456 = s0 + s1 * 4294967296 + s2 * 18446744073709551616 + s3 * 79228162514264337593543950336 + (y0 + y1 * 4294967296 + y2 * 18446744073709551616 + y3 * 79228162514264337593543950336)
theorem rest4 {x0 x1 x2 x3 y0 y1 y2 y3 : Nat} (a0 : x0 < 4294967296) (a1 : x1 < 4294967296) (a2 : x2 < 4294967296) (a3 : x3 < 4294967296) (b0 : y0 < 4294967296) (b1 : y1 < 4294967296) (b2 : y2 < 4294967296) (b3 : y3 < 4294967296) : Nonempty (Rest4 x0 x1 x2 x3 y0 y1 y2 y3) := by
  obtain ⟨z0, hz0⟩ : ∃ z, z = x0 + 4294967296 - y0 := ⟨_, rfl⟩
  obtain ⟨c1, hc1⟩ : ∃ c, c = 1 - z0 / 4294967296 := ⟨_, rfl⟩
  obtain ⟨z1, hz1⟩ : ∃ z, z = x1 + 4294967296 - y1 - c1 := ⟨_, rfl⟩
  obtain ⟨c2, hc2⟩ : ∃ c, c = 1 - z1 / 4294967296 := ⟨_, rfl⟩
  obtain ⟨z2, hz2⟩ : ∃ z, z = x2 + 4294967296 - y2 - c2 := ⟨_, rfl⟩
  obtain ⟨c3, hc3⟩ : ∃ c, c = 1 - z2 / 4294967296 := ⟨_, rfl⟩
  obtain ⟨z3, hz3⟩ : ∃ z, z = x3 + 4294967296 - y3 - c3 := ⟨_, rfl⟩
  obtain ⟨c4, hc4⟩ : ∃ c, c = 1 - z3 / 4294967296 := ⟨_, rfl⟩
  exact ⟨{ s0 := z0 % 4294967296, s1 := z1 % 4294967296, s2 := z2 % 4294967296, s3 := z3 % 4294967296, z0 := z0, z1 := z1, z2 := z2, z3 := z3, c1 := c1, c2 := c2, c3 := c3, c4 := c4, l0 := by omega, l1 := by omega, l2 := by omega, l3 := by omega, m1 := by omega, m2 := by omega, m3 := by omega
           n0 := by omega, n1 := by omega, n2 := by omega, n3 := by omega
           e0 := by omega, e1 := by omega, e2 := by omega, e3 := by omega
           r0 := and32 z0 (by omega)
           t0 := by omega
           r1 := and32 z1 (by omega)
           t1 := by omega
           r2 := and32 z2 (by omega)
           t2 := by omega
           r3 := and32 z3 (by omega)
           t3 := by omega
           total := by omega }⟩

set_option maxRecDepth 100000 in
set_option maxHeartbeats 8000000 in
theorem rsum_any (x y : Nat) (w : World) (hx : x < 340282366920938463463374607431768211456) (hy : y < 340282366920938463463374607431768211456) (h : x + y < 340282366920938463463374607431768211456) :
    Calls Try.prog 107 #[.agg #[.int .u64 (dg x 0), .int .u64 (dg x 1), .int .u64 (dg x 2), .int .u64 (dg x 3)], .agg #[.int .u64 (dg y 0), .int .u64 (dg y 1), .int .u64 (dg y 2), .int .u64 (dg y 3)]] w fun e w' => e = .returned (.agg #[.int .u64 (dg (x + y) 0), .int .u64 (dg (x + y) 1), .int .u64 (dg (x + y) 2), .int .u64 (dg (x + y) 3)]) ∧ Below w.heap.size w w' := by
  have HX := dg_sum x hx
  have HY := dg_sum y hy
  have lx0 := dg_lt x 0
  have lx1 := dg_lt x 1
  have lx2 := dg_lt x 2
  have lx3 := dg_lt x 3
  have ly0 := dg_lt y 0
  have ly1 := dg_lt y 1
  have ly2 := dg_lt y 2
  have ly3 := dg_lt y 3
  generalize dg x 0 = x0 at *
  generalize dg x 1 = x1 at *
  generalize dg x 2 = x2 at *
  generalize dg x 3 = x3 at *
  generalize dg y 0 = y0 at *
  generalize dg y 1 = y1 at *
  generalize dg y 2 = y2 at *
  generalize dg y 3 = y3 at *
  obtain ⟨p⟩ := sum4 lx0 lx1 lx2 lx3 ly0 ly1 ly2 ly3
  obtain ⟨s0, s1, s2, s3, c1, c2, c3, c4, l0, l1, l2, l3, m1, m2, m3, r0, t0, r1, t1, r2, t2, r3, t3, tot⟩ := p
  have HD := Lib.hid (dg_of (x := (x + y)) l0 l1 l2 l3 (by omega))
  clear HX HY tot hx hy h
  go_enter Try.func107, Try.ntmps107
  have oA := (own_first w 151 [.int .u64 x0, .int .u64 x1, .int .u64 x2, .int .u64 x3] (.cells #[.int .u64 y0, .int .u64 y1, .int .u64 y2, .int .u64 y3] 151)).alloc (.cells #[.int .u64 0, .int .u64 0, .int .u64 0, .int .u64 0] 151)
  have oB := (own_second w 151 [.int .u64 y0, .int .u64 y1, .int .u64 y2, .int .u64 y3] (.cells #[.int .u64 x0, .int .u64 x1, .int .u64 x2, .int .u64 x3] 151)).alloc (.cells #[.int .u64 0, .int .u64 0, .int .u64 0, .int .u64 0] 151)
  have oR := own_third w 151 [.int .u64 0, .int .u64 0, .int .u64 0, .int .u64 0] (.cells #[.int .u64 x0, .int .u64 x1, .int .u64 x2, .int .u64 x3] 151) (.cells #[.int .u64 y0, .int .u64 y1, .int .u64 y2, .int .u64 y3] 151)
  have hB := ba3 w (.cells #[.int .u64 x0, .int .u64 x1, .int .u64 x2, .int .u64 x3] 151) (.cells #[.int .u64 y0, .int .u64 y1, .int .u64 y2, .int .u64 y3] 151) (.cells #[.int .u64 0, .int .u64 0, .int .u64 0, .int .u64 0] 151)
  go_wp2_with fail
  generalize ((w.alloc (.cells #[.int .u64 x0, .int .u64 x1, .int .u64 x2, .int .u64 x3] 151)).alloc (.cells #[.int .u64 y0, .int .u64 y1, .int .u64 y2, .int .u64 y3] 151)).alloc (.cells #[.int .u64 0, .int .u64 0, .int .u64 0, .int .u64 0] 151) = y00 at *
  obtain ⟨rA, fA⟩ := oA.rules
  have zA := oA.lt
  obtain ⟨rB, fB⟩ := oB.rules
  have zB := oB.lt
  obtain ⟨rR, fR⟩ := oR.rules
  have zR := oR.lt
  refine wp_loop_rounds 5 ?_
  rw [rounds_succ]
  go_wp2
  go_quiet (fail)
  clear rA fA zA rB fB zB rR fR zR
  replace oA := oA.drewN nq
  replace oB := oB.drewN nq
  replace oR := oR.drewN nq
  replace hB := bd hB nq
  generalize World.drewN y00 nq = y01 at *
  obtain ⟨rA, fA⟩ := oA.rules
  have zA := oA.lt
  obtain ⟨rB, fB⟩ := oB.rules
  have zB := oB.lt
  obtain ⟨rR, fR⟩ := oR.rules
  have zR := oR.lt
  go_wp2
  refine rounds_gen (fun W => Own W w.heap.size 151 [.int .u64 s0, .int .u64 x1, .int .u64 x2, .int .u64 x3] ∧ Own W (w.heap.size + 1) 151 [.int .u64 y0, .int .u64 y1, .int .u64 y2, .int .u64 y3] ∧ Own W (w.heap.size + 1 + 1) 151 [.int .u64 0, .int .u64 0, .int .u64 0, .int .u64 0] ∧ Below w.heap.size w W) ⟨oA.set 0 _, oB.other (by omega) 0 _, oR.other (by omega) 0 _, Below.setCell hB (by first | omega | (simp; done)) _⟩ ?_
  clear rA fA zA rB fB zB rR fR zR oA oB oR hB
  rintro y10 ⟨oA, oB, oR, hB⟩
  obtain ⟨rA, fA⟩ := oA.rules
  have zA := oA.lt
  obtain ⟨rB, fB⟩ := oB.rules
  have zB := oB.lt
  obtain ⟨rR, fR⟩ := oR.rules
  have zR := oR.lt
  rw [rounds_succ]
  go_wp2
  go_quiet (fail)
  clear rA fA zA rB fB zB rR fR zR
  replace oA := oA.drewN nq
  replace oB := oB.drewN nq
  replace oR := oR.drewN nq
  replace hB := bd hB nq
  generalize World.drewN y10 nq = y11 at *
  obtain ⟨rA, fA⟩ := oA.rules
  have zA := oA.lt
  obtain ⟨rB, fB⟩ := oB.rules
  have zB := oB.lt
  obtain ⟨rR, fR⟩ := oR.rules
  have zR := oR.lt
  go_wp2
  refine rounds_gen (fun W => Own W w.heap.size 151 [.int .u64 s0, .int .u64 s1, .int .u64 x2, .int .u64 x3] ∧ Own W (w.heap.size + 1) 151 [.int .u64 y0, .int .u64 y1, .int .u64 y2, .int .u64 y3] ∧ Own W (w.heap.size + 1 + 1) 151 [.int .u64 0, .int .u64 0, .int .u64 0, .int .u64 0] ∧ Below w.heap.size w W) ⟨oA.set 1 _, oB.other (by omega) 1 _, oR.other (by omega) 1 _, Below.setCell hB (by first | omega | (simp; done)) _⟩ ?_
  clear rA fA zA rB fB zB rR fR zR oA oB oR hB
  rintro y20 ⟨oA, oB, oR, hB⟩
  obtain ⟨rA, fA⟩ := oA.rules
  have zA := oA.lt
  obtain ⟨rB, fB⟩ := oB.rules
  have zB := oB.lt
  obtain ⟨rR, fR⟩ := oR.rules
  have zR := oR.lt
  rw [rounds_succ]
  go_wp2
  go_quiet (fail)
  clear rA fA zA rB fB zB rR fR zR
  replace oA := oA.drewN nq
  replace oB := oB.drewN nq
  replace oR := oR.drewN nq
  replace hB := bd hB nq
  generalize World.drewN y20 nq = y21 at *
  obtain ⟨rA, fA⟩ := oA.rules
  have zA := oA.lt
  obtain ⟨rB, fB⟩ := oB.rules
  have zB := oB.lt
  obtain ⟨rR, fR⟩ := oR.rules
  have zR := oR.lt
  go_wp2
  refine rounds_gen (fun W => Own W w.heap.size 151 [.int .u64 s0, .int .u64 s1, .int .u64 s2, .int .u64 x3] ∧ Own W (w.heap.size + 1) 151 [.int .u64 y0, .int .u64 y1, .int .u64 y2, .int .u64 y3] ∧ Own W (w.heap.size + 1 + 1) 151 [.int .u64 0, .int .u64 0, .int .u64 0, .int .u64 0] ∧ Below w.heap.size w W) ⟨oA.set 2 _, oB.other (by omega) 2 _, oR.other (by omega) 2 _, Below.setCell hB (by first | omega | (simp; done)) _⟩ ?_
  clear rA fA zA rB fB zB rR fR zR oA oB oR hB
  rintro y30 ⟨oA, oB, oR, hB⟩
  obtain ⟨rA, fA⟩ := oA.rules
  have zA := oA.lt
  obtain ⟨rB, fB⟩ := oB.rules
  have zB := oB.lt
  obtain ⟨rR, fR⟩ := oR.rules
  have zR := oR.lt
  rw [rounds_succ]
  go_wp2
  go_quiet (fail)
  clear rA fA zA rB fB zB rR fR zR
  replace oA := oA.drewN nq
  replace oB := oB.drewN nq
  replace oR := oR.drewN nq
  replace hB := bd hB nq
  generalize World.drewN y30 nq = y31 at *
  obtain ⟨rA, fA⟩ := oA.rules
  have zA := oA.lt
  obtain ⟨rB, fB⟩ := oB.rules
  have zB := oB.lt
  obtain ⟨rR, fR⟩ := oR.rules
  have zR := oR.lt
  go_wp2
  refine rounds_gen (fun W => Own W w.heap.size 151 [.int .u64 s0, .int .u64 s1, .int .u64 s2, .int .u64 s3] ∧ Own W (w.heap.size + 1) 151 [.int .u64 y0, .int .u64 y1, .int .u64 y2, .int .u64 y3] ∧ Own W (w.heap.size + 1 + 1) 151 [.int .u64 0, .int .u64 0, .int .u64 0, .int .u64 0] ∧ Below w.heap.size w W) ⟨oA.set 3 _, oB.other (by omega) 3 _, oR.other (by omega) 3 _, Below.setCell hB (by first | omega | (simp; done)) _⟩ ?_
  clear rA fA zA rB fB zB rR fR zR oA oB oR hB
  rintro y40 ⟨oA, oB, oR, hB⟩
  obtain ⟨rA, fA⟩ := oA.rules
  have zA := oA.lt
  obtain ⟨rB, fB⟩ := oB.rules
  have zB := oB.lt
  obtain ⟨rR, fR⟩ := oR.rules
  have zR := oR.lt
  rw [rounds_succ]
  go_wp2
  refine bp_gen' (fun W => Own W (w.heap.size + 1 + 1) 151 [.int .u64 s0, .int .u64 s1, .int .u64 s2, .int .u64 s3] ∧ Below w.heap.size w W) ⟨((((oR.set 0 (.int .u64 s0)).set 1 (.int .u64 s1)).set 2 (.int .u64 s2)).set 3 (.int .u64 s3)), ?_⟩ ?_
  · repeat (refine Below.setCell ?_ (by first | omega | (simp; done) | (simp; omega)) _)
    exact hB
  rintro wz ⟨oz, bz⟩
  obtain ⟨rz, fz⟩ := oz.rules
  clear oz
  refine bodyPost_ret (v := .agg #[.int .u64 s0, .int .u64 s1, .int .u64 s2, .int .u64 s3]) (by simp [results, Try.results107, go_sem, rz]) rfl ⟨by rw [HD.out.1, HD.out.2.1, HD.out.2.2.1, HD.out.2.2.2], ?_⟩
  repeat (refine Below.setCell ?_ (by first | omega | (simp; done) | (simp; omega)) _)
  exact bz
set_option maxRecDepth 100000 in
set_option maxHeartbeats 8000000 in
theorem rrest_any (x y : Nat) (w : World) (hx : x < 340282366920938463463374607431768211456) (hy : y < 340282366920938463463374607431768211456) (h : y ≤ x) :
    Calls Try.prog 109 #[.agg #[.int .u64 (dg x 0), .int .u64 (dg x 1), .int .u64 (dg x 2), .int .u64 (dg x 3)], .agg #[.int .u64 (dg y 0), .int .u64 (dg y 1), .int .u64 (dg y 2), .int .u64 (dg y 3)]] w fun e w' => e = .returned (.agg #[.int .u64 (dg (x - y) 0), .int .u64 (dg (x - y) 1), .int .u64 (dg (x - y) 2), .int .u64 (dg (x - y) 3)]) ∧ Below w.heap.size w w' := by
  have HX := dg_sum x hx
  have HY := dg_sum y hy
  have lx0 := dg_lt x 0
  have lx1 := dg_lt x 1
  have lx2 := dg_lt x 2
  have lx3 := dg_lt x 3
  have ly0 := dg_lt y 0
  have ly1 := dg_lt y 1
  have ly2 := dg_lt y 2
  have ly3 := dg_lt y 3
  generalize dg x 0 = x0 at *
  generalize dg x 1 = x1 at *
  generalize dg x 2 = x2 at *
  generalize dg x 3 = x3 at *
  generalize dg y 0 = y0 at *
  generalize dg y 1 = y1 at *
  generalize dg y 2 = y2 at *
  generalize dg y 3 = y3 at *
  obtain ⟨p⟩ := rest4 lx0 lx1 lx2 lx3 ly0 ly1 ly2 ly3
  have HD := Lib.hid (dg_of (x := (x - y)) p.l0 p.l1 p.l2 p.l3 (by have tot := p.total; have l0 := p.l0; have l1 := p.l1; have l2 := p.l2; have l3 := p.l3; omega))
  clear HX HY
  obtain ⟨s0, s1, s2, s3, z0, z1, z2, z3, c1, c2, c3, c4, l0, l1, l2, l3, n0, n1, n2, n3, m1, m2, m3, e0, e1, e2, e3, r0, t0, r1, t1, r2, t2, r3, t3, tot⟩ := p
  replace HD : Hid (dg (x - y) 0 = s0 ∧ dg (x - y) 1 = s1 ∧ dg (x - y) 2 = s2 ∧ dg (x - y) 3 = s3) := HD
  have E0 := Lib.hid e0
  have E1 := Lib.hid e1
  have E2 := Lib.hid e2
  have E3 := Lib.hid e3
  clear tot hx hy h e0 e1 e2 e3
  go_enter Try.func109, Try.ntmps109
  have oA := (own_first w 151 [.int .u64 x0, .int .u64 x1, .int .u64 x2, .int .u64 x3] (.cells #[.int .u64 y0, .int .u64 y1, .int .u64 y2, .int .u64 y3] 151)).alloc (.cells #[.int .u64 0, .int .u64 0, .int .u64 0, .int .u64 0] 151)
  have oB := (own_second w 151 [.int .u64 y0, .int .u64 y1, .int .u64 y2, .int .u64 y3] (.cells #[.int .u64 x0, .int .u64 x1, .int .u64 x2, .int .u64 x3] 151)).alloc (.cells #[.int .u64 0, .int .u64 0, .int .u64 0, .int .u64 0] 151)
  have oR := own_third w 151 [.int .u64 0, .int .u64 0, .int .u64 0, .int .u64 0] (.cells #[.int .u64 x0, .int .u64 x1, .int .u64 x2, .int .u64 x3] 151) (.cells #[.int .u64 y0, .int .u64 y1, .int .u64 y2, .int .u64 y3] 151)
  have hB := ba3 w (.cells #[.int .u64 x0, .int .u64 x1, .int .u64 x2, .int .u64 x3] 151) (.cells #[.int .u64 y0, .int .u64 y1, .int .u64 y2, .int .u64 y3] 151) (.cells #[.int .u64 0, .int .u64 0, .int .u64 0, .int .u64 0] 151)
  go_wp2_with fail
  generalize ((w.alloc (.cells #[.int .u64 x0, .int .u64 x1, .int .u64 x2, .int .u64 x3] 151)).alloc (.cells #[.int .u64 y0, .int .u64 y1, .int .u64 y2, .int .u64 y3] 151)).alloc (.cells #[.int .u64 0, .int .u64 0, .int .u64 0, .int .u64 0] 151) = y00 at *
  obtain ⟨rA, fA⟩ := oA.rules
  have zA := oA.lt
  obtain ⟨rB, fB⟩ := oB.rules
  have zB := oB.lt
  obtain ⟨rR, fR⟩ := oR.rules
  have zR := oR.lt
  refine wp_loop_rounds 5 ?_
  rw [rounds_succ]
  go_wp2
  go_quiet (fail)
  clear rA fA zA rB fB zB rR fR zR
  replace oA := oA.drewN nq
  replace oB := oB.drewN nq
  replace oR := oR.drewN nq
  replace hB := bd hB nq
  generalize World.drewN y00 nq = y01 at *
  obtain ⟨rA, fA⟩ := oA.rules
  have zA := oA.lt
  obtain ⟨rB, fB⟩ := oB.rules
  have zB := oB.lt
  obtain ⟨rR, fR⟩ := oR.rules
  have zR := oR.lt
  rw [E0.out]
  go_wp2
  refine rounds_gen (fun W => Own W w.heap.size 151 [.int .u64 s0, .int .u64 x1, .int .u64 x2, .int .u64 x3] ∧ Own W (w.heap.size + 1) 151 [.int .u64 y0, .int .u64 y1, .int .u64 y2, .int .u64 y3] ∧ Own W (w.heap.size + 1 + 1) 151 [.int .u64 0, .int .u64 0, .int .u64 0, .int .u64 0] ∧ Below w.heap.size w W) ⟨oA.set 0 _, oB.other (by omega) 0 _, oR.other (by omega) 0 _, Below.setCell hB (by first | omega | (simp; done)) _⟩ ?_
  clear rA fA zA rB fB zB rR fR zR oA oB oR hB
  rintro y10 ⟨oA, oB, oR, hB⟩
  obtain ⟨rA, fA⟩ := oA.rules
  have zA := oA.lt
  obtain ⟨rB, fB⟩ := oB.rules
  have zB := oB.lt
  obtain ⟨rR, fR⟩ := oR.rules
  have zR := oR.lt
  rw [rounds_succ]
  go_wp2
  go_quiet (fail)
  clear rA fA zA rB fB zB rR fR zR
  replace oA := oA.drewN nq
  replace oB := oB.drewN nq
  replace oR := oR.drewN nq
  replace hB := bd hB nq
  generalize World.drewN y10 nq = y11 at *
  obtain ⟨rA, fA⟩ := oA.rules
  have zA := oA.lt
  obtain ⟨rB, fB⟩ := oB.rules
  have zB := oB.lt
  obtain ⟨rR, fR⟩ := oR.rules
  have zR := oR.lt
  rw [E1.out]
  go_wp2
  refine rounds_gen (fun W => Own W w.heap.size 151 [.int .u64 s0, .int .u64 s1, .int .u64 x2, .int .u64 x3] ∧ Own W (w.heap.size + 1) 151 [.int .u64 y0, .int .u64 y1, .int .u64 y2, .int .u64 y3] ∧ Own W (w.heap.size + 1 + 1) 151 [.int .u64 0, .int .u64 0, .int .u64 0, .int .u64 0] ∧ Below w.heap.size w W) ⟨oA.set 1 _, oB.other (by omega) 1 _, oR.other (by omega) 1 _, Below.setCell hB (by first | omega | (simp; done)) _⟩ ?_
  clear rA fA zA rB fB zB rR fR zR oA oB oR hB
  rintro y20 ⟨oA, oB, oR, hB⟩
  obtain ⟨rA, fA⟩ := oA.rules
  have zA := oA.lt
  obtain ⟨rB, fB⟩ := oB.rules
  have zB := oB.lt
  obtain ⟨rR, fR⟩ := oR.rules
  have zR := oR.lt
  rw [rounds_succ]
  go_wp2
  go_quiet (fail)
  clear rA fA zA rB fB zB rR fR zR
  replace oA := oA.drewN nq
  replace oB := oB.drewN nq
  replace oR := oR.drewN nq
  replace hB := bd hB nq
  generalize World.drewN y20 nq = y21 at *
  obtain ⟨rA, fA⟩ := oA.rules
  have zA := oA.lt
  obtain ⟨rB, fB⟩ := oB.rules
  have zB := oB.lt
  obtain ⟨rR, fR⟩ := oR.rules
  have zR := oR.lt
  rw [E2.out]
  go_wp2
  refine rounds_gen (fun W => Own W w.heap.size 151 [.int .u64 s0, .int .u64 s1, .int .u64 s2, .int .u64 x3] ∧ Own W (w.heap.size + 1) 151 [.int .u64 y0, .int .u64 y1, .int .u64 y2, .int .u64 y3] ∧ Own W (w.heap.size + 1 + 1) 151 [.int .u64 0, .int .u64 0, .int .u64 0, .int .u64 0] ∧ Below w.heap.size w W) ⟨oA.set 2 _, oB.other (by omega) 2 _, oR.other (by omega) 2 _, Below.setCell hB (by first | omega | (simp; done)) _⟩ ?_
  clear rA fA zA rB fB zB rR fR zR oA oB oR hB
  rintro y30 ⟨oA, oB, oR, hB⟩
  obtain ⟨rA, fA⟩ := oA.rules
  have zA := oA.lt
  obtain ⟨rB, fB⟩ := oB.rules
  have zB := oB.lt
  obtain ⟨rR, fR⟩ := oR.rules
  have zR := oR.lt
  rw [rounds_succ]
  go_wp2
  go_quiet (fail)
  clear rA fA zA rB fB zB rR fR zR
  replace oA := oA.drewN nq
  replace oB := oB.drewN nq
  replace oR := oR.drewN nq
  replace hB := bd hB nq
  generalize World.drewN y30 nq = y31 at *
  obtain ⟨rA, fA⟩ := oA.rules
  have zA := oA.lt
  obtain ⟨rB, fB⟩ := oB.rules
  have zB := oB.lt
  obtain ⟨rR, fR⟩ := oR.rules
  have zR := oR.lt
  rw [E3.out]
  go_wp2
  refine rounds_gen (fun W => Own W w.heap.size 151 [.int .u64 s0, .int .u64 s1, .int .u64 s2, .int .u64 s3] ∧ Own W (w.heap.size + 1) 151 [.int .u64 y0, .int .u64 y1, .int .u64 y2, .int .u64 y3] ∧ Own W (w.heap.size + 1 + 1) 151 [.int .u64 0, .int .u64 0, .int .u64 0, .int .u64 0] ∧ Below w.heap.size w W) ⟨oA.set 3 _, oB.other (by omega) 3 _, oR.other (by omega) 3 _, Below.setCell hB (by first | omega | (simp; done)) _⟩ ?_
  clear rA fA zA rB fB zB rR fR zR oA oB oR hB
  rintro y40 ⟨oA, oB, oR, hB⟩
  obtain ⟨rA, fA⟩ := oA.rules
  have zA := oA.lt
  obtain ⟨rB, fB⟩ := oB.rules
  have zB := oB.lt
  obtain ⟨rR, fR⟩ := oR.rules
  have zR := oR.lt
  rw [rounds_succ]
  go_wp2
  refine bp_gen' (fun W => Own W (w.heap.size + 1 + 1) 151 [.int .u64 s0, .int .u64 s1, .int .u64 s2, .int .u64 s3] ∧ Below w.heap.size w W) ⟨((((oR.set 0 (.int .u64 s0)).set 1 (.int .u64 s1)).set 2 (.int .u64 s2)).set 3 (.int .u64 s3)), ?_⟩ ?_
  · repeat (refine Below.setCell ?_ (by first | omega | (simp; done) | (simp; omega)) _)
    exact hB
  rintro wz ⟨oz, bz⟩
  obtain ⟨rz, fz⟩ := oz.rules
  clear oz
  refine bodyPost_ret (v := .agg #[.int .u64 s0, .int .u64 s1, .int .u64 s2, .int .u64 s3]) (by simp [results, Try.results109, go_sem, rz]) rfl ⟨by rw [HD.out.1, HD.out.2.1, HD.out.2.2.1, HD.out.2.2.2], ?_⟩
  repeat (refine Below.setCell ?_ (by first | omega | (simp; done) | (simp; omega)) _)
  exact bz
end Go.Proofs.Ythlcmlngmcoknaa
