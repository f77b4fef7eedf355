/- What is proved here: contracts of functions and plain facts, several texts in one; each one says ahead what it proves, and its conditions. -/
import Derived.Test.YthlcmlngmcoknaaC05
import Derived.Deep.DeepCutAuto
/- What is proved here: the contracts of frac.product and frac.Mul. Condition: 64-bit numbers; product is asked of numbers within 10^18. -/
namespace Go.Proofs.Ythlcmlngmcoknaa
open Go.RowKit

theorem high_no {X Y : Nat} {neg : Bool} (h : ¬ X / 18446744073709551616 = 0 ∨ ¬ Y / 18446744073709551616 = 0) : bld neg (X : Int) (Y : Int) = ⟨0, 0, 16⟩ := bld_no (by omega)
set_option maxRecDepth 100000 in
set_option maxHeartbeats 8000000 in
theorem fproduct_any (an ad bn bd : Int) (w : World) (a1 : -1000000000000000000 ≤ an) (a2 : an ≤ 1000000000000000000) (a3 : 1 ≤ ad) (a4 : ad ≤ 1000000000000000000) (b1 : -1000000000000000000 ≤ bn) (b2 : bn ≤ 1000000000000000000) (b3 : 1 ≤ bd) (b4 : bd ≤ 1000000000000000000) :
    Calls Try.prog 156 #[.agg #[.int .i64 an, .int .i64 ad], .agg #[.int .i64 bn, .int .i64 bd]] w fun e w' => e = .returned (.tuple #[.agg #[.int .i64 (fmulV an ad bn bd).n, .int .i64 (fmulV an ad bn bd).d], .int .i64 (fmulV an ad bn bd).e]) ∧ Below w.heap.size w w' := by
  obtain ⟨A, rfl⟩ := Int.eq_ofNat_of_zero_le (show 0 ≤ ad by omega)
  obtain ⟨B, rfl⟩ := Int.eq_ofNat_of_zero_le (show 0 ≤ bd by omega)
  have na : an.natAbs ≤ 9223372036854775808 := by omega
  have nb : bn.natAbs ≤ 9223372036854775808 := by omega
  have e1 := wrap_quo an.natAbs (Nat.gcd an.natAbs B) na
  have e2 := wrap_quo bn.natAbs (Nat.gcd bn.natAbs A) nb
  have e3 := wrap_quo A (Nat.gcd bn.natAbs A) (by omega)
  have e4 := wrap_quo B (Nat.gcd an.natAbs B) (by omega)
  have d1 := Nat.div_le_self an.natAbs (Nat.gcd an.natAbs B)
  have d2 := Nat.div_le_self bn.natAbs (Nat.gcd bn.natAbs A)
  have d3 := Nat.div_le_self A (Nat.gcd bn.natAbs A)
  have d4 := Nat.div_le_self B (Nat.gcd an.natAbs B)
  have q1 : (an.natAbs : Int) / ((Nat.gcd an.natAbs B : Nat) : Int) = ((an.natAbs / Nat.gcd an.natAbs B : Nat) : Int) := (Int.natCast_ediv _ _).symm
  have q2 : (bn.natAbs : Int) / ((Nat.gcd bn.natAbs A : Nat) : Int) = ((bn.natAbs / Nat.gcd bn.natAbs A : Nat) : Int) := (Int.natCast_ediv _ _).symm
  have q3 : (A : Int) / ((Nat.gcd bn.natAbs A : Nat) : Int) = ((A / Nat.gcd bn.natAbs A : Nat) : Int) := (Int.natCast_ediv _ _).symm
  have q4 : (B : Int) / ((Nat.gcd an.natAbs B : Nat) : Int) = ((B / Nat.gcd an.natAbs B : Nat) : Int) := (Int.natCast_ediv _ _).symm
  have gp : 0 < Nat.gcd an.natAbs B := Nat.gcd_pos_of_pos_right _ (by omega)
  have hp : 0 < Nat.gcd bn.natAbs A := Nat.gcd_pos_of_pos_right _ (by omega)
  have HV : Hid (fmulV an A bn B = bld (decide (an < 0) != decide (bn < 0)) ((an.natAbs / Nat.gcd an.natAbs B * (bn.natAbs / Nat.gcd bn.natAbs A) : Nat) : Int) ((A / Nat.gcd bn.natAbs A * (B / Nat.gcd an.natAbs B) : Nat) : Int)) := rfl
  generalize hgg : Nat.gcd an.natAbs B = g at *
  generalize hhh : Nat.gcd bn.natAbs A = h at *
  have HG := Lib.hid hgg
  have HH := Lib.hid hhh
  have g0 : ((g : Int) == 0) = false := by simp; omega
  have g1 : ¬ ((g : Int) = 0) := by omega
  have h0 : ((h : Int) == 0) = false := by simp; omega
  have h1' : ¬ ((h : Int) = 0) := by omega
  clear hgg hhh
  generalize an.natAbs / g = u1 at *
  generalize bn.natAbs / h = u2 at *
  generalize A / h = u3 at *
  generalize B / g = u4 at *
  go_enter Try.func156, Try.ntmps156
  have oA := (own_first w 78 [.int .i64 an, .int .i64 A] (.cells #[.int .i64 bn, .int .i64 B] 78)).alloc (.cells #[.int .i64 0, .int .i64 0] 78)
  have oB := (own_second w 78 [.int .i64 bn, .int .i64 B] (.cells #[.int .i64 an, .int .i64 A] 78)).alloc (.cells #[.int .i64 0, .int .i64 0] 78)
  have oR := own_third w 78 [.int .i64 0, .int .i64 0] (.cells #[.int .i64 an, .int .i64 A] 78) (.cells #[.int .i64 bn, .int .i64 B] 78)
  have hB := ba3 w (.cells #[.int .i64 an, .int .i64 A] 78) (.cells #[.int .i64 bn, .int .i64 B] 78) (.cells #[.int .i64 0, .int .i64 0] 78)
  go_wp2
  generalize ((w.alloc (.cells #[.int .i64 an, .int .i64 A] 78)).alloc (.cells #[.int .i64 bn, .int .i64 B] 78)).alloc (.cells #[.int .i64 0, .int .i64 0] 78) = y0 at *
  obtain ⟨rA, fA⟩ := oA.rules
  have zA := oA.lt
  obtain ⟨rB, fB⟩ := oB.rules
  have zB := oB.lt
  obtain ⟨rR, fR⟩ := oR.rules
  have zR := oR.lt
  go_quiet ((go_at_call 153; exact Calls.quiet_same (size_any _ _ (by omega) (by omega))))
  rw [Int.natAbs_natCast, Int.natAbs_natCast]
  clear rA fA zA rB fB zB rR fR zR
  replace oA := oA.drewN nq
  replace oB := oB.drewN nq
  replace oR := oR.drewN nq
  replace hB := bd hB nq
  generalize World.drewN y0 nq = y1 at *
  obtain ⟨rA, fA⟩ := oA.rules
  have zA := oA.lt
  obtain ⟨rB, fB⟩ := oB.rules
  have zB := oB.lt
  obtain ⟨rR, fR⟩ := oR.rules
  have zR := oR.lt
  go_wp2_with fail
  refine (gcd_any _ _ _ (by omega) (by omega)).mono ?_
  rintro e _ ⟨rfl, nr, rfl⟩
  rw [HG.out]
  clear rA fA zA rB fB zB rR fR zR
  replace oA := oA.drewN nr
  replace oB := oB.drewN nr
  replace oR := oR.drewN nr
  replace hB := bd hB nr
  generalize World.drewN y1 nr = y2 at *
  obtain ⟨rA, fA⟩ := oA.rules
  have zA := oA.lt
  obtain ⟨rB, fB⟩ := oB.rules
  have zB := oB.lt
  obtain ⟨rR, fR⟩ := oR.rules
  have zR := oR.lt
  go_wp2_with fail
  refine (gcd_any _ _ _ (by omega) (by omega)).mono ?_
  rintro e _ ⟨rfl, ns, rfl⟩
  rw [HH.out]
  clear rA fA zA rB fB zB rR fR zR
  replace oA := oA.drewN ns
  replace oB := oB.drewN ns
  replace oR := oR.drewN ns
  replace hB := bd hB ns
  generalize World.drewN y2 ns = y3 at *
  obtain ⟨rA, fA⟩ := oA.rules
  have zA := oA.lt
  obtain ⟨rB, fB⟩ := oB.rules
  have zB := oB.lt
  obtain ⟨rR, fR⟩ := oR.rules
  have zR := oR.lt
  have X1 : Hid (u1 ≤ 18446744073709551615) := by show _ ≤ _; omega
  have X2 : Hid (u2 ≤ 18446744073709551615) := by show _ ≤ _; omega
  have X3 : Hid (u3 ≤ 18446744073709551615) := by show _ ≤ _; omega
  have X4 : Hid (u4 ≤ 18446744073709551615) := by show _ ≤ _; omega
  by_cases hz : u1 * u2 / 18446744073709551616 = 0 ∧ u3 * u4 / 18446744073709551616 = 0
  · obtain ⟨hz1, hz2⟩ := hz
    have K1 : Hid (((u1 * u2 / 18446744073709551616 : Nat) : Int) = 0) := by show _ = _; omega
    have K2 : Hid (((u3 * u4 / 18446744073709551616 : Nat) : Int) = 0) := by show _ = _; omega
    have M1 : Hid (((u1 * u2 % 18446744073709551616 : Nat) : Int) = ((u1 * u2 : Nat) : Int)) := by show _ = _; omega
    have M2 : Hid (((u3 * u4 % 18446744073709551616 : Nat) : Int) = ((u3 * u4 : Nat) : Int)) := by show _ = _; omega
    have w1 : ((u1 * u2 : Nat) : Int) ≤ 18446744073709551615 := by omega
    have w2 : ((u3 * u4 : Nat) : Int) ≤ 18446744073709551615 := by omega
    clear hz1 hz2
    obtain ⟨p, hp'⟩ : ∃ p, p = u1 * u2 := ⟨_, rfl⟩
    obtain ⟨q, hq'⟩ : ∃ q, q = u3 * u4 := ⟨_, rfl⟩
    have HP1 : Hid (((u1 * u2 % 18446744073709551616 : Nat) : Int) = (p : Int)) := by show _ = _; rw [M1.out, hp']
    have HP2 : Hid (((u3 * u4 % 18446744073709551616 : Nat) : Int) = (q : Int)) := by show _ = _; rw [M2.out, hq']
    rw [← hp'] at w1 HV
    rw [← hq'] at w2 HV
    clear hp' hq' M1 M2
    go_wp2
    go_quiet ((go_at_call 161; exact Calls.quiet_same (mul64_as u1 u2 0 p _ X1.out X2.out K1.out HP1.out)))
    clear rA fA zA rB fB zB rR fR zR
    replace oA := oA.drewN nq
    replace oB := oB.drewN nq
    replace oR := oR.drewN nq
    replace hB := bd hB nq
    generalize World.drewN y3 nq = y4 at *
    obtain ⟨rA, fA⟩ := oA.rules
    have zA := oA.lt
    obtain ⟨rB, fB⟩ := oB.rules
    have zB := oB.lt
    obtain ⟨rR, fR⟩ := oR.rules
    have zR := oR.lt
    go_wp2
    go_quiet ((go_at_call 161; exact Calls.quiet_same (mul64_as u3 u4 0 q _ X3.out X4.out K2.out HP2.out)))
    clear rA fA zA rB fB zB rR fR zR
    replace oA := oA.drewN nq
    replace oB := oB.drewN nq
    replace oR := oR.drewN nq
    replace hB := bd hB nq
    generalize World.drewN y4 nq = y5 at *
    obtain ⟨rA, fA⟩ := oA.rules
    have zA := oA.lt
    obtain ⟨rB, fB⟩ := oB.rules
    have zB := oB.lt
    obtain ⟨rR, fR⟩ := oR.rules
    have zR := oR.lt
    go_wp2_with fail
    refine (build_any _ _ _ _ (by omega) w1 (by omega) w2).mono ?_
    rintro e y6 ⟨rfl, hb⟩
    clear rA fA zA rB fB zB rR fR zR
    replace oA := oA.below hb
    replace oB := oB.below hb
    replace oR := oR.below hb
    replace hB := below_to hB hb
    clear hb
    obtain ⟨rA, fA⟩ := oA.rules
    have zA := oA.lt
    obtain ⟨rB, fB⟩ := oB.rules
    have zB := oB.lt
    obtain ⟨rR, fR⟩ := oR.rules
    have zR := oR.lt
    generalize hr : bld (!decide (an < 0) == decide (bn < 0)) (p : Int) (q : Int) = r at *
    have HR : Hid (fmulV an A bn B = r) := by show _ = _; rw [HV.out, ← hr]; try rfl
    clear hr HV
    go_wp2
    refine bp_gen' (fun W => Own W (w.heap.size + 1 + 1) 78 [.int .i64 r.n, .int .i64 r.d] ∧ Below w.heap.size w W) ⟨(oR.set 0 (.int .i64 r.n)).set 1 (.int .i64 r.d), ?_⟩ ?_
    · repeat (refine Below.setCell ?_ (by first | omega | (simp; done) | (simp; omega)) _)
      exact hB
    rintro wz ⟨oz, bz⟩
    obtain ⟨rz, fz⟩ := oz.rules
    clear oz
    refine bodyPost_ret (v := .tuple #[.agg #[.int .i64 r.n, .int .i64 r.d], .int .i64 r.e]) (by simp [results, Try.results156, go_sem, rz]) rfl ⟨by rw [HR.out], ?_⟩
    repeat (refine Below.setCell ?_ (by first | omega | (simp; done) | (simp; omega)) _)
    exact bz
  · have HN : Hid (fmulV an A bn B = ⟨0, 0, 16⟩) := by show _ = _; rw [HV.out, high_no (by omega)]
    obtain ⟨ph, hph⟩ : ∃ p, p = u1 * u2 / 18446744073709551616 := ⟨_, rfl⟩
    obtain ⟨qh, hqh⟩ : ∃ p, p = u3 * u4 / 18446744073709551616 := ⟨_, rfl⟩
    obtain ⟨pl, hpl⟩ : ∃ p, p = u1 * u2 % 18446744073709551616 := ⟨_, rfl⟩
    obtain ⟨ql, hql⟩ : ∃ p, p = u3 * u4 % 18446744073709551616 := ⟨_, rfl⟩
    rw [← hph, ← hqh] at hz
    have K1 : Hid (((u1 * u2 / 18446744073709551616 : Nat) : Int) = (ph : Int)) := by show _ = _; rw [hph]
    have K2 : Hid (((u3 * u4 / 18446744073709551616 : Nat) : Int) = (qh : Int)) := by show _ = _; rw [hqh]
    have L1 : Hid (((u1 * u2 % 18446744073709551616 : Nat) : Int) = (pl : Int)) := by show _ = _; rw [hpl]
    have L2 : Hid (((u3 * u4 % 18446744073709551616 : Nat) : Int) = (ql : Int)) := by show _ = _; rw [hql]
    clear hph hqh hpl hql HV
    by_cases hz1 : ph = 0
    · subst hz1
      have bz : ((qh : Int) != 0) = true := by simp; omega
      clear hz
      go_wp2
      go_quiet ((go_at_call 161; exact Calls.quiet_same (mul64_as u1 u2 0 pl _ X1.out X2.out K1.out L1.out)))
      clear rA fA zA rB fB zB rR fR zR
      replace oA := oA.drewN nq
      replace oB := oB.drewN nq
      replace oR := oR.drewN nq
      replace hB := bd hB nq
      generalize World.drewN y3 nq = y4 at *
      obtain ⟨rA, fA⟩ := oA.rules
      have zA := oA.lt
      obtain ⟨rB, fB⟩ := oB.rules
      have zB := oB.lt
      obtain ⟨rR, fR⟩ := oR.rules
      have zR := oR.lt
      go_wp2
      go_quiet ((go_at_call 161; exact Calls.quiet_same (mul64_as u3 u4 qh ql _ X3.out X4.out K2.out L2.out)))
      clear rA fA zA rB fB zB rR fR zR
      replace oA := oA.drewN nq
      replace oB := oB.drewN nq
      replace oR := oR.drewN nq
      replace hB := bd hB nq
      generalize World.drewN y4 nq = y5 at *
      obtain ⟨rA, fA⟩ := oA.rules
      have zA := oA.lt
      obtain ⟨rB, fB⟩ := oB.rules
      have zB := oB.lt
      obtain ⟨rR, fR⟩ := oR.rules
      have zR := oR.lt
      go_wp2
      refine bp_gen' (fun W => Own W (w.heap.size + 1 + 1) 78 [.int .i64 0, .int .i64 0] ∧ Below w.heap.size w W) ⟨(oR.set 0 (.int .i64 0)).set 1 (.int .i64 0), ?_⟩ ?_
      · repeat (refine Below.setCell ?_ (by first | omega | (simp; done) | (simp; omega)) _)
        exact hB
      rintro wz ⟨oz, bz⟩
      obtain ⟨rz, fz⟩ := oz.rules
      clear oz
      refine bodyPost_ret (v := .tuple #[.agg #[.int .i64 0, .int .i64 0], .int .i64 16]) (by simp [results, Try.results156, go_sem, rz]) rfl ⟨by rw [HN.out], ?_⟩
      repeat (refine Below.setCell ?_ (by first | omega | (simp; done) | (simp; omega)) _)
      exact bz
    · have bz : ((ph : Int) != 0) = true := by simp; omega
      clear hz hz1
      go_wp2
      go_quiet ((go_at_call 161; exact Calls.quiet_same (mul64_as u1 u2 ph pl _ X1.out X2.out K1.out L1.out)))
      clear rA fA zA rB fB zB rR fR zR
      replace oA := oA.drewN nq
      replace oB := oB.drewN nq
      replace oR := oR.drewN nq
      replace hB := bd hB nq
      generalize World.drewN y3 nq = y4 at *
      obtain ⟨rA, fA⟩ := oA.rules
      have zA := oA.lt
      obtain ⟨rB, fB⟩ := oB.rules
      have zB := oB.lt
      obtain ⟨rR, fR⟩ := oR.rules
      have zR := oR.lt
      go_wp2
      go_quiet ((go_at_call 161; exact Calls.quiet_same (mul64_as u3 u4 qh ql _ X3.out X4.out K2.out L2.out)))
      clear rA fA zA rB fB zB rR fR zR
      replace oA := oA.drewN nq
      replace oB := oB.drewN nq
      replace oR := oR.drewN nq
      replace hB := bd hB nq
      generalize World.drewN y4 nq = y5 at *
      obtain ⟨rA, fA⟩ := oA.rules
      have zA := oA.lt
      obtain ⟨rB, fB⟩ := oB.rules
      have zB := oB.lt
      obtain ⟨rR, fR⟩ := oR.rules
      have zR := oR.lt
      go_wp2
      refine bp_gen' (fun W => Own W (w.heap.size + 1 + 1) 78 [.int .i64 0, .int .i64 0] ∧ Below w.heap.size w W) ⟨(oR.set 0 (.int .i64 0)).set 1 (.int .i64 0), ?_⟩ ?_
      · repeat (refine Below.setCell ?_ (by first | omega | (simp; done) | (simp; omega)) _)
        exact hB
      rintro wz ⟨oz, bz⟩
      obtain ⟨rz, fz⟩ := oz.rules
      clear oz
      refine bodyPost_ret (v := .tuple #[.agg #[.int .i64 0, .int .i64 0], .int .i64 16]) (by simp [results, Try.results156, go_sem, rz]) rfl ⟨by rw [HN.out], ?_⟩
      repeat (refine Below.setCell ?_ (by first | omega | (simp; done) | (simp; omega)) _)
      exact bz
end Go.Proofs.Ythlcmlngmcoknaa

/- What is proved here: the contract of frac.Mul. Condition: 64-bit numbers. -/
namespace Go.Proofs.Ythlcmlngmcoknaa
open Go.RowKit

set_option maxRecDepth 100000 in
set_option maxHeartbeats 4000000 in
theorem fmul_any (an ad bn bd : Int) (w : World) (h1 : i64 an) (h2 : i64 ad) (h3 : i64 bn) (h4 : i64 bd) :
    Calls Try.prog 118 #[.agg #[.int .i64 an, .int .i64 ad], .agg #[.int .i64 bn, .int .i64 bd]] w fun e w' => e = .returned (.tuple #[.agg #[.int .i64 (fmul an ad bn bd).n, .int .i64 (fmul an ad bn bd).d], .int .i64 (fmul an ad bn bd).e]) ∧ Below w.heap.size w w' := by
  by_cases hb : fboth an ad bn bd = 0
  case neg =>
    have HV := Lib.hid (fmul_8 hb)
    have b1 : (fboth an ad bn bd != 0) = true := by simpa using hb
    clear hb
    go_enter Try.func118, Try.ntmps118
    have oA := (own_first w 78 [.int .i64 an, .int .i64 ad] (.cells #[.int .i64 bn, .int .i64 bd] 78)).alloc (.cells #[.int .i64 0, .int .i64 0] 78)
    have oB := (own_second w 78 [.int .i64 bn, .int .i64 bd] (.cells #[.int .i64 an, .int .i64 ad] 78)).alloc (.cells #[.int .i64 0, .int .i64 0] 78)
    have oR := own_third w 78 [.int .i64 0, .int .i64 0] (.cells #[.int .i64 an, .int .i64 ad] 78) (.cells #[.int .i64 bn, .int .i64 bd] 78)
    have hB := ba3 w (.cells #[.int .i64 an, .int .i64 ad] 78) (.cells #[.int .i64 bn, .int .i64 bd] 78) (.cells #[.int .i64 0, .int .i64 0] 78)
    go_wp2_with fail
    generalize ((w.alloc (.cells #[.int .i64 an, .int .i64 ad] 78)).alloc (.cells #[.int .i64 bn, .int .i64 bd] 78)).alloc (.cells #[.int .i64 0, .int .i64 0] 78) = y0 at *
    obtain ⟨rA, fA⟩ := oA.rules
    have zA := oA.lt
    obtain ⟨rB, fB⟩ := oB.rules
    have zB := oB.lt
    obtain ⟨rR, fR⟩ := oR.rules
    have zR := oR.lt
    refine (frboth_any _ _ _ _ _ h1 h2 h3 h4).mono ?_
    rintro e y1 ⟨rfl, hq⟩
    clear rA fA zA rB fB zB rR fR zR
    replace oA := oA.below hq
    replace oB := oB.below hq
    replace oR := oR.below hq
    replace hB := below_to hB hq
    clear hq
    obtain ⟨rA, fA⟩ := oA.rules
    have zA := oA.lt
    obtain ⟨rB, fB⟩ := oB.rules
    have zB := oB.lt
    obtain ⟨rR, fR⟩ := oR.rules
    have zR := oR.lt
    generalize fboth an ad bn bd = fe at *
    go_wp2
    refine bp_gen' (fun W => Own W (w.heap.size + 1 + 1) 78 [.int .i64 0, .int .i64 0] ∧ Below w.heap.size w W) ⟨(oR.set 0 (.int .i64 0)).set 1 (.int .i64 0), ?_⟩ ?_
    · repeat (refine Below.setCell ?_ (by first | omega | (simp; done) | (simp; omega)) _)
      exact hB
    rintro wz ⟨oz, bz⟩
    obtain ⟨rz, fz⟩ := oz.rules
    clear oz
    refine bodyPost_ret (v := .tuple #[.agg #[.int .i64 0, .int .i64 0], .int .i64 fe]) (by simp [results, Try.results118, go_sem, rz]) rfl ⟨by rw [HV.out], ?_⟩
    repeat (refine Below.setCell ?_ (by first | omega | (simp; done) | (simp; omega)) _)
    exact bz
  obtain ⟨c1, c2⟩ := fboth_ok hb
  obtain ⟨k1, k2, k3, k4, _⟩ := fok_of c1
  obtain ⟨l1, l2, l3, l4, _⟩ := fok_of c2
  have HV := Lib.hid (fmul_0 hb)
  have b1 : (fboth an ad bn bd != 0) = false := by simp [hb]
  clear hb c1 c2
  go_enter Try.func118, Try.ntmps118
  have oA := (own_first w 78 [.int .i64 an, .int .i64 ad] (.cells #[.int .i64 bn, .int .i64 bd] 78)).alloc (.cells #[.int .i64 0, .int .i64 0] 78)
  have oB := (own_second w 78 [.int .i64 bn, .int .i64 bd] (.cells #[.int .i64 an, .int .i64 ad] 78)).alloc (.cells #[.int .i64 0, .int .i64 0] 78)
  have oR := own_third w 78 [.int .i64 0, .int .i64 0] (.cells #[.int .i64 an, .int .i64 ad] 78) (.cells #[.int .i64 bn, .int .i64 bd] 78)
  have hB := ba3 w (.cells #[.int .i64 an, .int .i64 ad] 78) (.cells #[.int .i64 bn, .int .i64 bd] 78) (.cells #[.int .i64 0, .int .i64 0] 78)
  go_wp2_with fail
  generalize ((w.alloc (.cells #[.int .i64 an, .int .i64 ad] 78)).alloc (.cells #[.int .i64 bn, .int .i64 bd] 78)).alloc (.cells #[.int .i64 0, .int .i64 0] 78) = y0 at *
  obtain ⟨rA, fA⟩ := oA.rules
  have zA := oA.lt
  obtain ⟨rB, fB⟩ := oB.rules
  have zB := oB.lt
  obtain ⟨rR, fR⟩ := oR.rules
  have zR := oR.lt
  refine (frboth_any _ _ _ _ _ h1 h2 h3 h4).mono ?_
  rintro e y1 ⟨rfl, hq⟩
  clear rA fA zA rB fB zB rR fR zR
  replace oA := oA.below hq
  replace oB := oB.below hq
  replace oR := oR.below hq
  replace hB := below_to hB hq
  clear hq
  obtain ⟨rA, fA⟩ := oA.rules
  have zA := oA.lt
  obtain ⟨rB, fB⟩ := oB.rules
  have zB := oB.lt
  obtain ⟨rR, fR⟩ := oR.rules
  have zR := oR.lt
  go_wp2_with fail
  refine (fproduct_any an ad bn bd _ k3 k4 k1 k2 l3 l4 l1 l2).mono ?_
  rintro e y2 ⟨rfl, hq⟩
  clear rA fA zA rB fB zB rR fR zR
  replace oA := oA.below hq
  replace oB := oB.below hq
  replace oR := oR.below hq
  replace hB := below_to hB hq
  clear hq
  obtain ⟨rA, fA⟩ := oA.rules
  have zA := oA.lt
  obtain ⟨rB, fB⟩ := oB.rules
  have zB := oB.lt
  obtain ⟨rR, fR⟩ := oR.rules
  have zR := oR.lt
  generalize fmulV an ad bn bd = r at *
  go_wp2
  refine bp_gen' (fun W => Own W (w.heap.size + 1 + 1) 78 [.int .i64 r.n, .int .i64 r.d] ∧ Below w.heap.size w W) ⟨(oR.set 0 (.int .i64 r.n)).set 1 (.int .i64 r.d), ?_⟩ ?_
  · repeat (refine Below.setCell ?_ (by first | omega | (simp; done) | (simp; omega)) _)
    exact hB
  rintro wz ⟨oz, bz⟩
  obtain ⟨rz, fz⟩ := oz.rules
  clear oz
  refine bodyPost_ret (v := .tuple #[.agg #[.int .i64 r.n, .int .i64 r.d], .int .i64 r.e]) (by simp [results, Try.results118, go_sem, rz]) rfl ⟨by rw [HV.out], ?_⟩
  repeat (refine Below.setCell ?_ (by first | omega | (simp; done) | (simp; omega)) _)
  exact bz
end Go.Proofs.Ythlcmlngmcoknaa
