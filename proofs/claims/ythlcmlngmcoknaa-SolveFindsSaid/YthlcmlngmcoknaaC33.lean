/- What is proved here: contracts of functions and plain facts, several texts in one; each one says ahead what it proves, and its conditions. -/
import Derived.Test.YthlcmlngmcoknaaC32
import Derived.Test.YthlcmlngmcoknaaC08
import Derived.Deep.DeepCutAuto
/- What is proved here: the contract of the reference's Mul of layer 1. Condition: the numbers are 64-bit integers. -/
namespace Go.Proofs.Ythlcmlngmcoknaa
open Go.RowKit

theorem mul64_lt {a b : Nat} (ha : a ≤ 9223372036854775808) (hb : b ≤ 9223372036854775808) : a * b < 340282366920938463463374607431768211456 := by
  have := Nat.mul_le_mul ha hb
  omega
set_option maxRecDepth 100000 in
set_option maxHeartbeats 16000000 in
theorem rmul_any (an ad bn bd : Int) (w : World) (h1 : i64 an) (h2 : i64 ad) (h3 : i64 bn) (h4 : i64 bd) :
    Calls Try.prog 47 #[.agg #[.int .i64 an, .int .i64 ad], .agg #[.int .i64 bn, .int .i64 bd]] w fun e w' => e = .returned (.tuple #[.agg #[.int .i64 (fmul an ad bn bd).n, .int .i64 (fmul an ad bn bd).d], .int .i64 (fmul an ad bn bd).e]) ∧ Below w.heap.size w w' := by
  by_cases hb : fboth an ad bn bd = 0
  case neg =>
    have HV := Lib.hid (fmul_8 hb)
    have b1 : (fboth an ad bn bd != 0) = true := by simpa using hb
    go_enter Try.func47, Try.ntmps47
    have oA := (own_first w 78 [.int .i64 an, .int .i64 ad] (.cells #[.int .i64 bn, .int .i64 bd] 78)).alloc (.cells #[.int .i64 0, .int .i64 0] 78)
    have oB := (own_second w 78 [.int .i64 bn, .int .i64 bd] (.cells #[.int .i64 an, .int .i64 ad] 78)).alloc (.cells #[.int .i64 0, .int .i64 0] 78)
    have oR := own_third w 78 [.int .i64 0, .int .i64 0] (.cells #[.int .i64 an, .int .i64 ad] 78) (.cells #[.int .i64 bn, .int .i64 bd] 78)
    go_wp2_with fail
    refine (rfrboth_any _ _ _ _ _ h1 h2 h3 h4).mono ?_
    rintro e w1 ⟨rfl, hb1⟩
    replace oA := oA.below hb1
    replace oB := oB.below hb1
    replace oR := oR.below hb1
    have hB := below_to (ba3 _ _ _ _) hb1
    clear hb1
    obtain ⟨rA, fA⟩ := oA.rules
    obtain ⟨rB, fB⟩ := oB.rules
    obtain ⟨rR, fR⟩ := oR.rules
    have zA := oA.lt
    have zB := oB.lt
    have zR := oR.lt
    go_wp2_with fail
    refine (rfrboth_any _ _ _ _ _ h1 h2 h3 h4).mono ?_
    rintro e w2 ⟨rfl, hb2⟩
    clear rA fA zA rB fB zB rR fR zR
    replace oA := oA.below hb2
    replace oB := oB.below hb2
    replace oR := oR.below hb2
    replace hB := below_to hB hb2
    clear hb2
    obtain ⟨rA, fA⟩ := oA.rules
    obtain ⟨rB, fB⟩ := oB.rules
    obtain ⟨rR, fR⟩ := oR.rules
    have zA := oA.lt
    have zB := oB.lt
    have zR := oR.lt
    generalize fboth an ad bn bd = fe at *
    go_wp2
    refine bp_gen' (fun W => Own W (w.heap.size + 1 + 1) 78 [.int .i64 0, .int .i64 0] ∧ Below w.heap.size w W) ⟨(oR.set 0 (.int .i64 0)).set 1 (.int .i64 0), ?_⟩ ?_
    · repeat (refine Below.setCell ?_ (by first | omega | (simp; done) | (simp; omega)) _)
      exact hB
    rintro wz ⟨oz, bz⟩
    obtain ⟨rz, fz⟩ := oz.rules
    clear oz
    refine bodyPost_ret (v := .tuple #[.agg #[.int .i64 0, .int .i64 0], .int .i64 fe]) (by simp [results, Try.results47, go_sem, rz]) rfl ⟨by rw [HV.out], ?_⟩
    repeat (refine Below.setCell ?_ (by first | omega | (simp; done) | (simp; omega)) _)
    exact bz
  obtain ⟨c1, c2⟩ := fboth_ok hb
  obtain ⟨k1, k2, k3, k4, _⟩ := fok_of c1
  obtain ⟨l1, l2, l3, l4, _⟩ := fok_of c2
  have HV0 := Lib.hid (fmul_0 hb)
  obtain ⟨A, rfl⟩ := Int.eq_ofNat_of_zero_le (show 0 ≤ ad by omega)
  obtain ⟨B, rfl⟩ := Int.eq_ofNat_of_zero_le (show 0 ≤ bd by omega)
  have na : an.natAbs ≤ 9223372036854775808 := by omega
  have nb : bn.natAbs ≤ 9223372036854775808 := by omega
  have e1 := wrap_quo an.natAbs (Nat.gcd an.natAbs B) na
  have e2 := wrap_quo bn.natAbs (Nat.gcd bn.natAbs A) nb
  have e3 := wrap_quo A (Nat.gcd bn.natAbs A) (by omega)
  have e4 := wrap_quo B (Nat.gcd an.natAbs B) (by omega)
  have d1 := Nat.div_le_self an.natAbs (Nat.gcd an.natAbs B)
  have d2 := Nat.div_le_self bn.natAbs (Nat.gcd bn.natAbs A)
  have d3 := Nat.div_le_self A (Nat.gcd bn.natAbs A)
  have d4 := Nat.div_le_self B (Nat.gcd an.natAbs B)
  have q1 : (an.natAbs : Int) / ((Nat.gcd an.natAbs B : Nat) : Int) = ((an.natAbs / Nat.gcd an.natAbs B : Nat) : Int) := (Int.natCast_ediv _ _).symm
  have q2 : (bn.natAbs : Int) / ((Nat.gcd bn.natAbs A : Nat) : Int) = ((bn.natAbs / Nat.gcd bn.natAbs A : Nat) : Int) := (Int.natCast_ediv _ _).symm
  have q3 : (A : Int) / ((Nat.gcd bn.natAbs A : Nat) : Int) = ((A / Nat.gcd bn.natAbs A : Nat) : Int) := (Int.natCast_ediv _ _).symm
  have q4 : (B : Int) / ((Nat.gcd an.natAbs B : Nat) : Int) = ((B / Nat.gcd an.natAbs B : Nat) : Int) := (Int.natCast_ediv _ _).symm
  have gp : 0 < Nat.gcd an.natAbs B := Nat.gcd_pos_of_pos_right _ (by omega)
  have hp : 0 < Nat.gcd bn.natAbs A := Nat.gcd_pos_of_pos_right _ (by omega)
  have HV : Hid (fmul an A bn B = bld (decide (an < 0) != decide (bn < 0)) ((an.natAbs / Nat.gcd an.natAbs B * (bn.natAbs / Nat.gcd bn.natAbs A) : Nat) : Int) ((A / Nat.gcd bn.natAbs A * (B / Nat.gcd an.natAbs B) : Nat) : Int)) := by
    show _ = _
    rw [HV0.out]; rfl
  have b1 : (fboth an A bn B != 0) = false := by simp [hb]
  have HB := Lib.hid hb
  clear hb HV0 c1 c2
  generalize hgg : Nat.gcd an.natAbs B = g at *
  generalize hhh : Nat.gcd bn.natAbs A = h at *
  have HG := Lib.hid hgg
  have HH := Lib.hid hhh
  have g0 : ((g : Int) == 0) = false := by simp; omega
  have g1 : ¬ ((g : Int) = 0) := by omega
  have h0 : ((h : Int) == 0) = false := by simp; omega
  have h1' : ¬ ((h : Int) = 0) := by omega
  clear hgg hhh
  generalize an.natAbs / g = u1 at *
  generalize bn.natAbs / h = u2 at *
  generalize A / h = u3 at *
  generalize B / g = u4 at *
  go_enter Try.func47, Try.ntmps47
  have oA := (own_first w 78 [.int .i64 an, .int .i64 A] (.cells #[.int .i64 bn, .int .i64 B] 78)).alloc (.cells #[.int .i64 0, .int .i64 0] 78)
  have oB := (own_second w 78 [.int .i64 bn, .int .i64 B] (.cells #[.int .i64 an, .int .i64 A] 78)).alloc (.cells #[.int .i64 0, .int .i64 0] 78)
  have oR := own_third w 78 [.int .i64 0, .int .i64 0] (.cells #[.int .i64 an, .int .i64 A] 78) (.cells #[.int .i64 bn, .int .i64 B] 78)
  go_wp2_with fail
  refine (rfrboth_any _ _ _ _ _ h1 h2 h3 h4).mono ?_
  rintro e w1 ⟨rfl, hb1⟩
  replace oA := oA.below hb1
  replace oB := oB.below hb1
  replace oR := oR.below hb1
  have hB := below_to (ba3 _ _ _ _) hb1
  clear hb1
  obtain ⟨rA, fA⟩ := oA.rules
  obtain ⟨rB, fB⟩ := oB.rules
  obtain ⟨rR, fR⟩ := oR.rules
  have zA := oA.lt
  have zB := oB.lt
  have zR := oR.lt
  go_wp2
  go_quiet (first | (go_at_call 103; exact Calls.quiet_same (abs_any _ _ (by omega) (by omega))) | (go_at_call 102; exact Calls.quiet_of (rgcd_any _ _ _ (by omega) (by omega))))
  rw [HG.out, HH.out]
  go_wp2
  clear rA fA zA rB fB zB rR fR zR
  replace oA := oA.drewN nq
  replace oB := oB.drewN nq
  replace oR := oR.drewN nq
  replace hB := bd hB nq
  generalize w1.drewN nq = y at *
  obtain ⟨rA, fA⟩ := oA.rules
  obtain ⟨rB, fB⟩ := oB.rules
  obtain ⟨rR, fR⟩ := oR.rules
  have zA := oA.lt
  have zB := oB.lt
  have zR := oR.lt
  have gl := @grow_lt
  go_wp2_with fail
  refine wp_region_st [.t [0, 1, 2, 3, 4, 5, 6, 7, 8, 10, 12, 13, 15, 18, 19, 20, 21, 22, 23, 24, 25, 26, 27], .f 9, .t [11], .f 14, .t [16], .f 17, .f 28, .f 29, .t [30, 31]] [32, 33] (by kernel_rfl) (by kernel_rfl) (fun _ _ _ _ _ h => h) ?_
  refine wpX_t ?_
  try simp only [opsAt, List.getElem?_toArray, List.getElem?_cons_zero, List.getElem?_cons_succ, Option.getD_some]
  repeat (go_big_quiet_step (fail))
  refine wpQuiet_nil ?_
  refine wpX_f rfl rfl (fun K' hK' => ?_)
  go_simp
  refine (abs_any _ _ (by omega) (by omega)).mono ?_
  rintro e _ ⟨rfl, rfl⟩
  refine hK' _ _ (grow_of (by first | exact (Below.refl _ _).drew | assumption)) ?_
  clear hK' K'
  refine wpX_t ?_
  try simp only [opsAt, List.getElem?_toArray, List.getElem?_cons_zero, List.getElem?_cons_succ, Option.getD_some]
  repeat (go_big_quiet_step (fail))
  refine wpQuiet_nil ?_
  refine wpX_f rfl rfl (fun K' hK' => ?_)
  go_simp
  refine (abs_any _ _ (by omega) (by omega)).mono ?_
  rintro e _ ⟨rfl, rfl⟩
  refine hK' _ _ (grow_of (by first | exact (Below.refl _ _).drew | assumption)) ?_
  clear hK' K'
  refine wpX_t ?_
  try simp only [opsAt, List.getElem?_toArray, List.getElem?_cons_zero, List.getElem?_cons_succ, Option.getD_some]
  repeat (go_big_quiet_step (fail))
  refine wpQuiet_nil ?_
  refine wpX_f rfl rfl (fun K' hK' => ?_)
  go_simp
  refine (product_any u1 u2 _ (by omega) (by omega)).mono ?_
  rintro e w3 ⟨rfl, hb3⟩
  refine hK' _ _ (grow_of (below_to ((Below.refl _ _).drew) hb3)) ?_
  clear hK' K'
  refine wpX_f rfl rfl (fun K' hK' => ?_)
  go_simp
  refine (product_any u3 u4 _ (by omega) (by omega)).mono ?_
  rintro e w4 ⟨rfl, hb4⟩
  refine hK' _ _ (grow_of (below_to (below_to ((Below.refl _ _).drew) hb3) hb4)) ?_
  clear hK' K'
  refine wpX_f rfl rfl (fun K' hK' => ?_)
  go_simp
  refine (lowest_any _ (u1 * u2) (u3 * u4) _ (mul64_lt (by omega) (by omega)) (mul64_lt (by omega) (by omega))).mono ?_
  rintro e w5 ⟨rfl, hb5⟩
  refine hK' _ _ (grow_of (below_to (below_to (below_to ((Below.refl _ _).drew) hb3) hb4) hb5)) ?_
  clear hK' K'
  refine wpX_t ?_
  try simp only [opsAt, List.getElem?_toArray, List.getElem?_cons_zero, List.getElem?_cons_succ, Option.getD_some]
  repeat (go_big_quiet_step (fail))
  refine wpQuiet_nil ?_
  refine wpX_nil ?_
  try simp only [opsAt, List.getElem?_toArray, List.getElem?_cons_zero, List.getElem?_cons_succ, Option.getD_some]
  clear gl
  clear rA fA zA rB fB zB rR fR zR
  replace oA := (((oA.drew).below hb3).below hb4).below hb5
  replace oB := (((oB.drew).below hb3).below hb4).below hb5
  replace oR := (((oR.drew).below hb3).below hb4).below hb5
  replace hB := below_to (below_to (below_to (hB.drew) hb3) hb4) hb5
  clear hb3 hb4 hb5
  obtain ⟨rA, fA⟩ := oA.rules
  obtain ⟨rB, fB⟩ := oB.rules
  obtain ⟨rR, fR⟩ := oR.rules
  have zA := oA.lt
  have zB := oB.lt
  have zR := oR.lt
  generalize hr : bld (!decide (an < 0) == decide (bn < 0)) ((u1 : Int) * (u2 : Int)) ((u3 : Int) * (u4 : Int)) = r at *
  have HR : Hid (fmul an A bn B = r) := by show _ = _; rw [HV.out, ← hr, Int.natCast_mul, Int.natCast_mul]; try rfl
  clear hr HV
  go_wp2
  refine bp_gen' (fun W => Own W (w.heap.size + 1 + 1) 78 [.int .i64 r.n, .int .i64 r.d] ∧ Below w.heap.size w W) ⟨(oR.set 0 (.int .i64 r.n)).set 1 (.int .i64 r.d), ?_⟩ ?_
  · repeat (refine Below.setCell ?_ (by first | omega | (simp; done) | (simp; omega)) _)
    exact hB
  rintro wz ⟨oz, bz⟩
  obtain ⟨rz, fz⟩ := oz.rules
  clear oz
  refine bodyPost_ret (v := .tuple #[.agg #[.int .i64 r.n, .int .i64 r.d], .int .i64 r.e]) (by simp [results, Try.results47, go_sem, rz]) rfl ⟨by rw [HR.out], ?_⟩
  repeat (refine Below.setCell ?_ (by first | omega | (simp; done) | (simp; omega)) _)
  exact bz
end Go.Proofs.Ythlcmlngmcoknaa
