/- What is proved here: contracts of functions and plain facts, several texts in one; each one says ahead what it proves, and its conditions. -/
import Derived.Test.YtpjhiojdnebgoaaC05
import Derived.Deep.DeepCutAuto
import Derived.Test.YtpjhiojdnebgoaaC23
import Derived.Test.YtpjhiojdnebgoaaC02
import Derived.Test.YtpjhiojdnebgoaaC15
/- What is proved here: the contracts of frac.product and frac.Mul. Condition: 64-bit numbers; product is asked of numbers within 10^18. -/
namespace Go.Proofs.Ytpjhiojdnebgoaa
open Go.RowKit

theorem high_no {X Y : Nat} {neg : Bool} (h : ¬ X / 18446744073709551616 = 0 ∨ ¬ Y / 18446744073709551616 = 0) : bld neg (X : Int) (Y : Int) = ⟨0, 0, 16⟩ := bld_no (by omega)
set_option maxRecDepth 100000 in
set_option maxHeartbeats 8000000 in
theorem fproduct_any (an ad bn bd : Int) (w : World) (a1 : -1000000000000000000 ≤ an) (a2 : an ≤ 1000000000000000000) (a3 : 1 ≤ ad) (a4 : ad ≤ 1000000000000000000) (b1 : -1000000000000000000 ≤ bn) (b2 : bn ≤ 1000000000000000000) (b3 : 1 ≤ bd) (b4 : bd ≤ 1000000000000000000) :
    Calls Try.prog 119 #[.agg #[.int .i64 an, .int .i64 ad], .agg #[.int .i64 bn, .int .i64 bd]] w fun e w' => e = .returned (.tuple #[.agg #[.int .i64 (fmulV an ad bn bd).n, .int .i64 (fmulV an ad bn bd).d], .int .i64 (fmulV an ad bn bd).e]) ∧ Below w.heap.size w w' := by
  obtain ⟨A, rfl⟩ := Int.eq_ofNat_of_zero_le (show 0 ≤ ad by omega)
  obtain ⟨B, rfl⟩ := Int.eq_ofNat_of_zero_le (show 0 ≤ bd by omega)
  have na : an.natAbs ≤ 9223372036854775808 := by omega
  have nb : bn.natAbs ≤ 9223372036854775808 := by omega
  have e1 := wrap_quo an.natAbs (Nat.gcd an.natAbs B) na
  have e2 := wrap_quo bn.natAbs (Nat.gcd bn.natAbs A) nb
  have e3 := wrap_quo A (Nat.gcd bn.natAbs A) (by omega)
  have e4 := wrap_quo B (Nat.gcd an.natAbs B) (by omega)
  have d1 := Nat.div_le_self an.natAbs (Nat.gcd an.natAbs B)
  have d2 := Nat.div_le_self bn.natAbs (Nat.gcd bn.natAbs A)
  have d3 := Nat.div_le_self A (Nat.gcd bn.natAbs A)
  have d4 := Nat.div_le_self B (Nat.gcd an.natAbs B)
  have q1 : (an.natAbs : Int) / ((Nat.gcd an.natAbs B : Nat) : Int) = ((an.natAbs / Nat.gcd an.natAbs B : Nat) : Int) := (Int.natCast_ediv _ _).symm
  have q2 : (bn.natAbs : Int) / ((Nat.gcd bn.natAbs A : Nat) : Int) = ((bn.natAbs / Nat.gcd bn.natAbs A : Nat) : Int) := (Int.natCast_ediv _ _).symm
  have q3 : (A : Int) / ((Nat.gcd bn.natAbs A : Nat) : Int) = ((A / Nat.gcd bn.natAbs A : Nat) : Int) := (Int.natCast_ediv _ _).symm
  have q4 : (B : Int) / ((Nat.gcd an.natAbs B : Nat) : Int) = ((B / Nat.gcd an.natAbs B : Nat) : Int) := (Int.natCast_ediv _ _).symm
  have gp : 0 < Nat.gcd an.natAbs B := Nat.gcd_pos_of_pos_right _ (by omega)
  have hp : 0 < Nat.gcd bn.natAbs A := Nat.gcd_pos_of_pos_right _ (by omega)
  have HV : Hid (fmulV an A bn B = bld (decide (an < 0) != decide (bn < 0)) ((an.natAbs / Nat.gcd an.natAbs B * (bn.natAbs / Nat.gcd bn.natAbs A) : Nat) : Int) ((A / Nat.gcd bn.natAbs A * (B / Nat.gcd an.natAbs B) : Nat) : Int)) := rfl
  generalize hgg : Nat.gcd an.natAbs B = g at *
  generalize hhh : Nat.gcd bn.natAbs A = h at *
  have HG := Lib.hid hgg
  have HH := Lib.hid hhh
  have g0 : ((g : Int) == 0) = false := by simp; omega
  have g1 : ¬ ((g : Int) = 0) := by omega
  have h0 : ((h : Int) == 0) = false := by simp; omega
  have h1' : ¬ ((h : Int) = 0) := by omega
  clear hgg hhh
  generalize an.natAbs / g = u1 at *
  generalize bn.natAbs / h = u2 at *
  generalize A / h = u3 at *
  generalize B / g = u4 at *
  go_enter Try.func119, Try.ntmps119
  have oA := (own_first w 24 [.int .i64 an, .int .i64 A] (.cells #[.int .i64 bn, .int .i64 B] 24)).alloc (.cells #[.int .i64 0, .int .i64 0] 24)
  have oB := (own_second w 24 [.int .i64 bn, .int .i64 B] (.cells #[.int .i64 an, .int .i64 A] 24)).alloc (.cells #[.int .i64 0, .int .i64 0] 24)
  have oR := own_third w 24 [.int .i64 0, .int .i64 0] (.cells #[.int .i64 an, .int .i64 A] 24) (.cells #[.int .i64 bn, .int .i64 B] 24)
  have hB := ba3 w (.cells #[.int .i64 an, .int .i64 A] 24) (.cells #[.int .i64 bn, .int .i64 B] 24) (.cells #[.int .i64 0, .int .i64 0] 24)
  go_wp2
  generalize ((w.alloc (.cells #[.int .i64 an, .int .i64 A] 24)).alloc (.cells #[.int .i64 bn, .int .i64 B] 24)).alloc (.cells #[.int .i64 0, .int .i64 0] 24) = y0 at *
  obtain ⟨rA, fA⟩ := oA.rules
  have zA := oA.lt
  obtain ⟨rB, fB⟩ := oB.rules
  have zB := oB.lt
  obtain ⟨rR, fR⟩ := oR.rules
  have zR := oR.lt
  go_quiet ((go_at_call 107; exact Calls.quiet_same (size_any _ _ (by omega) (by omega))))
  rw [Int.natAbs_natCast, Int.natAbs_natCast]
  clear rA fA zA rB fB zB rR fR zR
  replace oA := oA.drewN nq
  replace oB := oB.drewN nq
  replace oR := oR.drewN nq
  replace hB := bd hB nq
  generalize World.drewN y0 nq = y1 at *
  obtain ⟨rA, fA⟩ := oA.rules
  have zA := oA.lt
  obtain ⟨rB, fB⟩ := oB.rules
  have zB := oB.lt
  obtain ⟨rR, fR⟩ := oR.rules
  have zR := oR.lt
  go_wp2_with fail
  refine (gcd_any _ _ _ (by omega) (by omega)).mono ?_
  rintro e _ ⟨rfl, nr, rfl⟩
  rw [HG.out]
  clear rA fA zA rB fB zB rR fR zR
  replace oA := oA.drewN nr
  replace oB := oB.drewN nr
  replace oR := oR.drewN nr
  replace hB := bd hB nr
  generalize World.drewN y1 nr = y2 at *
  obtain ⟨rA, fA⟩ := oA.rules
  have zA := oA.lt
  obtain ⟨rB, fB⟩ := oB.rules
  have zB := oB.lt
  obtain ⟨rR, fR⟩ := oR.rules
  have zR := oR.lt
  go_wp2_with fail
  refine (gcd_any _ _ _ (by omega) (by omega)).mono ?_
  rintro e _ ⟨rfl, ns, rfl⟩
  rw [HH.out]
  clear rA fA zA rB fB zB rR fR zR
  replace oA := oA.drewN ns
  replace oB := oB.drewN ns
  replace oR := oR.drewN ns
  replace hB := bd hB ns
  generalize World.drewN y2 ns = y3 at *
  obtain ⟨rA, fA⟩ := oA.rules
  have zA := oA.lt
  obtain ⟨rB, fB⟩ := oB.rules
  have zB := oB.lt
  obtain ⟨rR, fR⟩ := oR.rules
  have zR := oR.lt
  have X1 : Hid (u1 ≤ 18446744073709551615) := by show _ ≤ _; omega
  have X2 : Hid (u2 ≤ 18446744073709551615) := by show _ ≤ _; omega
  have X3 : Hid (u3 ≤ 18446744073709551615) := by show _ ≤ _; omega
  have X4 : Hid (u4 ≤ 18446744073709551615) := by show _ ≤ _; omega
  by_cases hz : u1 * u2 / 18446744073709551616 = 0 ∧ u3 * u4 / 18446744073709551616 = 0
  · obtain ⟨hz1, hz2⟩ := hz
    have K1 : Hid (((u1 * u2 / 18446744073709551616 : Nat) : Int) = 0) := by show _ = _; omega
    have K2 : Hid (((u3 * u4 / 18446744073709551616 : Nat) : Int) = 0) := by show _ = _; omega
    have M1 : Hid (((u1 * u2 % 18446744073709551616 : Nat) : Int) = ((u1 * u2 : Nat) : Int)) := by show _ = _; omega
    have M2 : Hid (((u3 * u4 % 18446744073709551616 : Nat) : Int) = ((u3 * u4 : Nat) : Int)) := by show _ = _; omega
    have w1 : ((u1 * u2 : Nat) : Int) ≤ 18446744073709551615 := by omega
    have w2 : ((u3 * u4 : Nat) : Int) ≤ 18446744073709551615 := by omega
    clear hz1 hz2
    obtain ⟨p, hp'⟩ : ∃ p, p = u1 * u2 := ⟨_, rfl⟩
    obtain ⟨q, hq'⟩ : ∃ q, q = u3 * u4 := ⟨_, rfl⟩
    have HP1 : Hid (((u1 * u2 % 18446744073709551616 : Nat) : Int) = (p : Int)) := by show _ = _; rw [M1.out, hp']
    have HP2 : Hid (((u3 * u4 % 18446744073709551616 : Nat) : Int) = (q : Int)) := by show _ = _; rw [M2.out, hq']
    rw [← hp'] at w1 HV
    rw [← hq'] at w2 HV
    clear hp' hq' M1 M2
    go_wp2
    go_quiet ((go_at_call 113; exact Calls.quiet_same (mul64_as u1 u2 0 p _ X1.out X2.out K1.out HP1.out)))
    clear rA fA zA rB fB zB rR fR zR
    replace oA := oA.drewN nq
    replace oB := oB.drewN nq
    replace oR := oR.drewN nq
    replace hB := bd hB nq
    generalize World.drewN y3 nq = y4 at *
    obtain ⟨rA, fA⟩ := oA.rules
    have zA := oA.lt
    obtain ⟨rB, fB⟩ := oB.rules
    have zB := oB.lt
    obtain ⟨rR, fR⟩ := oR.rules
    have zR := oR.lt
    go_wp2
    go_quiet ((go_at_call 113; exact Calls.quiet_same (mul64_as u3 u4 0 q _ X3.out X4.out K2.out HP2.out)))
    clear rA fA zA rB fB zB rR fR zR
    replace oA := oA.drewN nq
    replace oB := oB.drewN nq
    replace oR := oR.drewN nq
    replace hB := bd hB nq
    generalize World.drewN y4 nq = y5 at *
    obtain ⟨rA, fA⟩ := oA.rules
    have zA := oA.lt
    obtain ⟨rB, fB⟩ := oB.rules
    have zB := oB.lt
    obtain ⟨rR, fR⟩ := oR.rules
    have zR := oR.lt
    go_wp2_with fail
    refine (build_any _ _ _ _ (by omega) w1 (by omega) w2).mono ?_
    rintro e y6 ⟨rfl, hb⟩
    clear rA fA zA rB fB zB rR fR zR
    replace oA := oA.below hb
    replace oB := oB.below hb
    replace oR := oR.below hb
    replace hB := below_to hB hb
    clear hb
    obtain ⟨rA, fA⟩ := oA.rules
    have zA := oA.lt
    obtain ⟨rB, fB⟩ := oB.rules
    have zB := oB.lt
    obtain ⟨rR, fR⟩ := oR.rules
    have zR := oR.lt
    generalize hr : bld (!decide (an < 0) == decide (bn < 0)) (p : Int) (q : Int) = r at *
    have HR : Hid (fmulV an A bn B = r) := by show _ = _; rw [HV.out, ← hr]; try rfl
    clear hr HV
    go_wp2
    refine bp_gen' (fun W => Own W (w.heap.size + 1 + 1) 24 [.int .i64 r.n, .int .i64 r.d] ∧ Below w.heap.size w W) ⟨(oR.set 0 (.int .i64 r.n)).set 1 (.int .i64 r.d), ?_⟩ ?_
    · repeat (refine Below.setCell ?_ (by first | omega | (simp; done) | (simp; omega)) _)
      exact hB
    rintro wz ⟨oz, bz⟩
    obtain ⟨rz, fz⟩ := oz.rules
    clear oz
    refine bodyPost_ret (v := .tuple #[.agg #[.int .i64 r.n, .int .i64 r.d], .int .i64 r.e]) (by simp [results, Try.results119, go_sem, rz]) rfl ⟨by rw [HR.out], ?_⟩
    repeat (refine Below.setCell ?_ (by first | omega | (simp; done) | (simp; omega)) _)
    exact bz
  · have HN : Hid (fmulV an A bn B = ⟨0, 0, 16⟩) := by show _ = _; rw [HV.out, high_no (by omega)]
    obtain ⟨ph, hph⟩ : ∃ p, p = u1 * u2 / 18446744073709551616 := ⟨_, rfl⟩
    obtain ⟨qh, hqh⟩ : ∃ p, p = u3 * u4 / 18446744073709551616 := ⟨_, rfl⟩
    obtain ⟨pl, hpl⟩ : ∃ p, p = u1 * u2 % 18446744073709551616 := ⟨_, rfl⟩
    obtain ⟨ql, hql⟩ : ∃ p, p = u3 * u4 % 18446744073709551616 := ⟨_, rfl⟩
    rw [← hph, ← hqh] at hz
    have K1 : Hid (((u1 * u2 / 18446744073709551616 : Nat) : Int) = (ph : Int)) := by show _ = _; rw [hph]
    have K2 : Hid (((u3 * u4 / 18446744073709551616 : Nat) : Int) = (qh : Int)) := by show _ = _; rw [hqh]
    have L1 : Hid (((u1 * u2 % 18446744073709551616 : Nat) : Int) = (pl : Int)) := by show _ = _; rw [hpl]
    have L2 : Hid (((u3 * u4 % 18446744073709551616 : Nat) : Int) = (ql : Int)) := by show _ = _; rw [hql]
    clear hph hqh hpl hql HV
    by_cases hz1 : ph = 0
    · subst hz1
      have bz : ((qh : Int) != 0) = true := by simp; omega
      clear hz
      go_wp2
      go_quiet ((go_at_call 113; exact Calls.quiet_same (mul64_as u1 u2 0 pl _ X1.out X2.out K1.out L1.out)))
      clear rA fA zA rB fB zB rR fR zR
      replace oA := oA.drewN nq
      replace oB := oB.drewN nq
      replace oR := oR.drewN nq
      replace hB := bd hB nq
      generalize World.drewN y3 nq = y4 at *
      obtain ⟨rA, fA⟩ := oA.rules
      have zA := oA.lt
      obtain ⟨rB, fB⟩ := oB.rules
      have zB := oB.lt
      obtain ⟨rR, fR⟩ := oR.rules
      have zR := oR.lt
      go_wp2
      go_quiet ((go_at_call 113; exact Calls.quiet_same (mul64_as u3 u4 qh ql _ X3.out X4.out K2.out L2.out)))
      clear rA fA zA rB fB zB rR fR zR
      replace oA := oA.drewN nq
      replace oB := oB.drewN nq
      replace oR := oR.drewN nq
      replace hB := bd hB nq
      generalize World.drewN y4 nq = y5 at *
      obtain ⟨rA, fA⟩ := oA.rules
      have zA := oA.lt
      obtain ⟨rB, fB⟩ := oB.rules
      have zB := oB.lt
      obtain ⟨rR, fR⟩ := oR.rules
      have zR := oR.lt
      go_wp2
      refine bp_gen' (fun W => Own W (w.heap.size + 1 + 1) 24 [.int .i64 0, .int .i64 0] ∧ Below w.heap.size w W) ⟨(oR.set 0 (.int .i64 0)).set 1 (.int .i64 0), ?_⟩ ?_
      · repeat (refine Below.setCell ?_ (by first | omega | (simp; done) | (simp; omega)) _)
        exact hB
      rintro wz ⟨oz, bz⟩
      obtain ⟨rz, fz⟩ := oz.rules
      clear oz
      refine bodyPost_ret (v := .tuple #[.agg #[.int .i64 0, .int .i64 0], .int .i64 16]) (by simp [results, Try.results119, go_sem, rz]) rfl ⟨by rw [HN.out], ?_⟩
      repeat (refine Below.setCell ?_ (by first | omega | (simp; done) | (simp; omega)) _)
      exact bz
    · have bz : ((ph : Int) != 0) = true := by simp; omega
      clear hz hz1
      go_wp2
      go_quiet ((go_at_call 113; exact Calls.quiet_same (mul64_as u1 u2 ph pl _ X1.out X2.out K1.out L1.out)))
      clear rA fA zA rB fB zB rR fR zR
      replace oA := oA.drewN nq
      replace oB := oB.drewN nq
      replace oR := oR.drewN nq
      replace hB := bd hB nq
      generalize World.drewN y3 nq = y4 at *
      obtain ⟨rA, fA⟩ := oA.rules
      have zA := oA.lt
      obtain ⟨rB, fB⟩ := oB.rules
      have zB := oB.lt
      obtain ⟨rR, fR⟩ := oR.rules
      have zR := oR.lt
      go_wp2
      go_quiet ((go_at_call 113; exact Calls.quiet_same (mul64_as u3 u4 qh ql _ X3.out X4.out K2.out L2.out)))
      clear rA fA zA rB fB zB rR fR zR
      replace oA := oA.drewN nq
      replace oB := oB.drewN nq
      replace oR := oR.drewN nq
      replace hB := bd hB nq
      generalize World.drewN y4 nq = y5 at *
      obtain ⟨rA, fA⟩ := oA.rules
      have zA := oA.lt
      obtain ⟨rB, fB⟩ := oB.rules
      have zB := oB.lt
      obtain ⟨rR, fR⟩ := oR.rules
      have zR := oR.lt
      go_wp2
      refine bp_gen' (fun W => Own W (w.heap.size + 1 + 1) 24 [.int .i64 0, .int .i64 0] ∧ Below w.heap.size w W) ⟨(oR.set 0 (.int .i64 0)).set 1 (.int .i64 0), ?_⟩ ?_
      · repeat (refine Below.setCell ?_ (by first | omega | (simp; done) | (simp; omega)) _)
        exact hB
      rintro wz ⟨oz, bz⟩
      obtain ⟨rz, fz⟩ := oz.rules
      clear oz
      refine bodyPost_ret (v := .tuple #[.agg #[.int .i64 0, .int .i64 0], .int .i64 16]) (by simp [results, Try.results119, go_sem, rz]) rfl ⟨by rw [HN.out], ?_⟩
      repeat (refine Below.setCell ?_ (by first | omega | (simp; done) | (simp; omega)) _)
      exact bz
end Go.Proofs.Ytpjhiojdnebgoaa

/- What is proved here: the contract of frac.Mul. Condition: 64-bit numbers. -/
namespace Go.Proofs.Ytpjhiojdnebgoaa
open Go.RowKit

set_option maxRecDepth 100000 in
set_option maxHeartbeats 4000000 in
theorem fmul_any (an ad bn bd : Int) (w : World) (h1 : i64 an) (h2 : i64 ad) (h3 : i64 bn) (h4 : i64 bd) :
    Calls Try.prog 95 #[.agg #[.int .i64 an, .int .i64 ad], .agg #[.int .i64 bn, .int .i64 bd]] w fun e w' => e = .returned (.tuple #[.agg #[.int .i64 (fmul an ad bn bd).n, .int .i64 (fmul an ad bn bd).d], .int .i64 (fmul an ad bn bd).e]) ∧ Below w.heap.size w w' := by
  by_cases hb : fboth an ad bn bd = 0
  case neg =>
    have HV := Lib.hid (fmul_8 hb)
    have b1 : (fboth an ad bn bd != 0) = true := by simpa using hb
    clear hb
    go_enter Try.func95, Try.ntmps95
    have oA := (own_first w 24 [.int .i64 an, .int .i64 ad] (.cells #[.int .i64 bn, .int .i64 bd] 24)).alloc (.cells #[.int .i64 0, .int .i64 0] 24)
    have oB := (own_second w 24 [.int .i64 bn, .int .i64 bd] (.cells #[.int .i64 an, .int .i64 ad] 24)).alloc (.cells #[.int .i64 0, .int .i64 0] 24)
    have oR := own_third w 24 [.int .i64 0, .int .i64 0] (.cells #[.int .i64 an, .int .i64 ad] 24) (.cells #[.int .i64 bn, .int .i64 bd] 24)
    have hB := ba3 w (.cells #[.int .i64 an, .int .i64 ad] 24) (.cells #[.int .i64 bn, .int .i64 bd] 24) (.cells #[.int .i64 0, .int .i64 0] 24)
    go_wp2_with fail
    generalize ((w.alloc (.cells #[.int .i64 an, .int .i64 ad] 24)).alloc (.cells #[.int .i64 bn, .int .i64 bd] 24)).alloc (.cells #[.int .i64 0, .int .i64 0] 24) = y0 at *
    obtain ⟨rA, fA⟩ := oA.rules
    have zA := oA.lt
    obtain ⟨rB, fB⟩ := oB.rules
    have zB := oB.lt
    obtain ⟨rR, fR⟩ := oR.rules
    have zR := oR.lt
    refine (frboth_any _ _ _ _ _ h1 h2 h3 h4).mono ?_
    rintro e y1 ⟨rfl, hq⟩
    clear rA fA zA rB fB zB rR fR zR
    replace oA := oA.below hq
    replace oB := oB.below hq
    replace oR := oR.below hq
    replace hB := below_to hB hq
    clear hq
    obtain ⟨rA, fA⟩ := oA.rules
    have zA := oA.lt
    obtain ⟨rB, fB⟩ := oB.rules
    have zB := oB.lt
    obtain ⟨rR, fR⟩ := oR.rules
    have zR := oR.lt
    generalize fboth an ad bn bd = fe at *
    go_wp2
    refine bp_gen' (fun W => Own W (w.heap.size + 1 + 1) 24 [.int .i64 0, .int .i64 0] ∧ Below w.heap.size w W) ⟨(oR.set 0 (.int .i64 0)).set 1 (.int .i64 0), ?_⟩ ?_
    · repeat (refine Below.setCell ?_ (by first | omega | (simp; done) | (simp; omega)) _)
      exact hB
    rintro wz ⟨oz, bz⟩
    obtain ⟨rz, fz⟩ := oz.rules
    clear oz
    refine bodyPost_ret (v := .tuple #[.agg #[.int .i64 0, .int .i64 0], .int .i64 fe]) (by simp [results, Try.results95, go_sem, rz]) rfl ⟨by rw [HV.out], ?_⟩
    repeat (refine Below.setCell ?_ (by first | omega | (simp; done) | (simp; omega)) _)
    exact bz
  obtain ⟨c1, c2⟩ := fboth_ok hb
  obtain ⟨k1, k2, k3, k4, _⟩ := fok_of c1
  obtain ⟨l1, l2, l3, l4, _⟩ := fok_of c2
  have HV := Lib.hid (fmul_0 hb)
  have b1 : (fboth an ad bn bd != 0) = false := by simp [hb]
  clear hb c1 c2
  go_enter Try.func95, Try.ntmps95
  have oA := (own_first w 24 [.int .i64 an, .int .i64 ad] (.cells #[.int .i64 bn, .int .i64 bd] 24)).alloc (.cells #[.int .i64 0, .int .i64 0] 24)
  have oB := (own_second w 24 [.int .i64 bn, .int .i64 bd] (.cells #[.int .i64 an, .int .i64 ad] 24)).alloc (.cells #[.int .i64 0, .int .i64 0] 24)
  have oR := own_third w 24 [.int .i64 0, .int .i64 0] (.cells #[.int .i64 an, .int .i64 ad] 24) (.cells #[.int .i64 bn, .int .i64 bd] 24)
  have hB := ba3 w (.cells #[.int .i64 an, .int .i64 ad] 24) (.cells #[.int .i64 bn, .int .i64 bd] 24) (.cells #[.int .i64 0, .int .i64 0] 24)
  go_wp2_with fail
  generalize ((w.alloc (.cells #[.int .i64 an, .int .i64 ad] 24)).alloc (.cells #[.int .i64 bn, .int .i64 bd] 24)).alloc (.cells #[.int .i64 0, .int .i64 0] 24) = y0 at *
  obtain ⟨rA, fA⟩ := oA.rules
  have zA := oA.lt
  obtain ⟨rB, fB⟩ := oB.rules
  have zB := oB.lt
  obtain ⟨rR, fR⟩ := oR.rules
  have zR := oR.lt
  refine (frboth_any _ _ _ _ _ h1 h2 h3 h4).mono ?_
  rintro e y1 ⟨rfl, hq⟩
  clear rA fA zA rB fB zB rR fR zR
  replace oA := oA.below hq
  replace oB := oB.below hq
  replace oR := oR.below hq
  replace hB := below_to hB hq
  clear hq
  obtain ⟨rA, fA⟩ := oA.rules
  have zA := oA.lt
  obtain ⟨rB, fB⟩ := oB.rules
  have zB := oB.lt
  obtain ⟨rR, fR⟩ := oR.rules
  have zR := oR.lt
  go_wp2_with fail
  refine (fproduct_any an ad bn bd _ k3 k4 k1 k2 l3 l4 l1 l2).mono ?_
  rintro e y2 ⟨rfl, hq⟩
  clear rA fA zA rB fB zB rR fR zR
  replace oA := oA.below hq
  replace oB := oB.below hq
  replace oR := oR.below hq
  replace hB := below_to hB hq
  clear hq
  obtain ⟨rA, fA⟩ := oA.rules
  have zA := oA.lt
  obtain ⟨rB, fB⟩ := oB.rules
  have zB := oB.lt
  obtain ⟨rR, fR⟩ := oR.rules
  have zR := oR.lt
  generalize fmulV an ad bn bd = r at *
  go_wp2
  refine bp_gen' (fun W => Own W (w.heap.size + 1 + 1) 24 [.int .i64 r.n, .int .i64 r.d] ∧ Below w.heap.size w W) ⟨(oR.set 0 (.int .i64 r.n)).set 1 (.int .i64 r.d), ?_⟩ ?_
  · repeat (refine Below.setCell ?_ (by first | omega | (simp; done) | (simp; omega)) _)
    exact hB
  rintro wz ⟨oz, bz⟩
  obtain ⟨rz, fz⟩ := oz.rules
  clear oz
  refine bodyPost_ret (v := .tuple #[.agg #[.int .i64 r.n, .int .i64 r.d], .int .i64 r.e]) (by simp [results, Try.results95, go_sem, rz]) rfl ⟨by rw [HV.out], ?_⟩
  repeat (refine Below.setCell ?_ (by first | omega | (simp; done) | (simp; omega)) _)
  exact bz
end Go.Proofs.Ytpjhiojdnebgoaa

/- What is proved here: the contract of frac.Div. Condition: 64-bit numbers. -/
namespace Go.Proofs.Ytpjhiojdnebgoaa
open Go.RowKit

set_option maxRecDepth 100000 in
set_option maxHeartbeats 4000000 in
theorem fdiv_any (an ad bn bd : Int) (w : World) (h1 : i64 an) (h2 : i64 ad) (h3 : i64 bn) (h4 : i64 bd) :
    Calls Try.prog 94 #[.agg #[.int .i64 an, .int .i64 ad], .agg #[.int .i64 bn, .int .i64 bd]] w fun e w' => e = .returned (.tuple #[.agg #[.int .i64 (fdiv an ad bn bd).n, .int .i64 (fdiv an ad bn bd).d], .int .i64 (fdiv an ad bn bd).e]) ∧ Below w.heap.size w w' := by
  by_cases hb : fboth an ad bn bd = 0
  case neg =>
    have HV := Lib.hid (fdiv_8 hb)
    have b1 : (fboth an ad bn bd != 0) = true := by simpa using hb
    clear hb
    go_enter Try.func94, Try.ntmps94
    have oA := (own_first w 24 [.int .i64 an, .int .i64 ad] (.cells #[.int .i64 bn, .int .i64 bd] 24)).alloc (.cells #[.int .i64 0, .int .i64 0] 24)
    have oB := (own_second w 24 [.int .i64 bn, .int .i64 bd] (.cells #[.int .i64 an, .int .i64 ad] 24)).alloc (.cells #[.int .i64 0, .int .i64 0] 24)
    have oR := own_third w 24 [.int .i64 0, .int .i64 0] (.cells #[.int .i64 an, .int .i64 ad] 24) (.cells #[.int .i64 bn, .int .i64 bd] 24)
    have hB := ba3 w (.cells #[.int .i64 an, .int .i64 ad] 24) (.cells #[.int .i64 bn, .int .i64 bd] 24) (.cells #[.int .i64 0, .int .i64 0] 24)
    go_wp2_with fail
    generalize ((w.alloc (.cells #[.int .i64 an, .int .i64 ad] 24)).alloc (.cells #[.int .i64 bn, .int .i64 bd] 24)).alloc (.cells #[.int .i64 0, .int .i64 0] 24) = y0 at *
    obtain ⟨rA, fA⟩ := oA.rules
    have zA := oA.lt
    obtain ⟨rB, fB⟩ := oB.rules
    have zB := oB.lt
    obtain ⟨rR, fR⟩ := oR.rules
    have zR := oR.lt
    refine (frboth_any _ _ _ _ _ h1 h2 h3 h4).mono ?_
    rintro e y1 ⟨rfl, hq⟩
    clear rA fA zA rB fB zB rR fR zR
    replace oA := oA.below hq
    replace oB := oB.below hq
    replace oR := oR.below hq
    replace hB := below_to hB hq
    clear hq
    obtain ⟨rA, fA⟩ := oA.rules
    have zA := oA.lt
    obtain ⟨rB, fB⟩ := oB.rules
    have zB := oB.lt
    obtain ⟨rR, fR⟩ := oR.rules
    have zR := oR.lt
    generalize fboth an ad bn bd = fe at *
    go_wp2
    refine bp_gen' (fun W => Own W (w.heap.size + 1 + 1) 24 [.int .i64 0, .int .i64 0] ∧ Below w.heap.size w W) ⟨(oR.set 0 (.int .i64 0)).set 1 (.int .i64 0), ?_⟩ ?_
    · repeat (refine Below.setCell ?_ (by first | omega | (simp; done) | (simp; omega)) _)
      exact hB
    rintro wz ⟨oz, bz⟩
    obtain ⟨rz, fz⟩ := oz.rules
    clear oz
    refine bodyPost_ret (v := .tuple #[.agg #[.int .i64 0, .int .i64 0], .int .i64 fe]) (by simp [results, Try.results94, go_sem, rz]) rfl ⟨by rw [HV.out], ?_⟩
    repeat (refine Below.setCell ?_ (by first | omega | (simp; done) | (simp; omega)) _)
    exact bz
  obtain ⟨c1, c2⟩ := fboth_ok hb
  obtain ⟨k1, k2, k3, k4, _⟩ := fok_of c1
  obtain ⟨l1, l2, l3, l4, _⟩ := fok_of c2
  have b1 : (fboth an ad bn bd != 0) = false := by simp [hb]
  by_cases hz : bn = 0
  · have HV := Lib.hid (fdiv_0 hb hz)
    have bz : (bn == 0) = true := by simpa using hz
    clear hb c1 c2 hz
    go_enter Try.func94, Try.ntmps94
    have oA := (own_first w 24 [.int .i64 an, .int .i64 ad] (.cells #[.int .i64 bn, .int .i64 bd] 24)).alloc (.cells #[.int .i64 0, .int .i64 0] 24)
    have oB := (own_second w 24 [.int .i64 bn, .int .i64 bd] (.cells #[.int .i64 an, .int .i64 ad] 24)).alloc (.cells #[.int .i64 0, .int .i64 0] 24)
    have oR := own_third w 24 [.int .i64 0, .int .i64 0] (.cells #[.int .i64 an, .int .i64 ad] 24) (.cells #[.int .i64 bn, .int .i64 bd] 24)
    have hB := ba3 w (.cells #[.int .i64 an, .int .i64 ad] 24) (.cells #[.int .i64 bn, .int .i64 bd] 24) (.cells #[.int .i64 0, .int .i64 0] 24)
    go_wp2_with fail
    generalize ((w.alloc (.cells #[.int .i64 an, .int .i64 ad] 24)).alloc (.cells #[.int .i64 bn, .int .i64 bd] 24)).alloc (.cells #[.int .i64 0, .int .i64 0] 24) = y0 at *
    obtain ⟨rA, fA⟩ := oA.rules
    have zA := oA.lt
    obtain ⟨rB, fB⟩ := oB.rules
    have zB := oB.lt
    obtain ⟨rR, fR⟩ := oR.rules
    have zR := oR.lt
    refine (frboth_any _ _ _ _ _ h1 h2 h3 h4).mono ?_
    rintro e y1 ⟨rfl, hq⟩
    clear rA fA zA rB fB zB rR fR zR
    replace oA := oA.below hq
    replace oB := oB.below hq
    replace oR := oR.below hq
    replace hB := below_to hB hq
    clear hq
    obtain ⟨rA, fA⟩ := oA.rules
    have zA := oA.lt
    obtain ⟨rB, fB⟩ := oB.rules
    have zB := oB.lt
    obtain ⟨rR, fR⟩ := oR.rules
    have zR := oR.lt
    go_wp2
    refine bp_gen' (fun W => Own W (w.heap.size + 1 + 1) 24 [.int .i64 0, .int .i64 0] ∧ Below w.heap.size w W) ⟨(oR.set 0 (.int .i64 0)).set 1 (.int .i64 0), ?_⟩ ?_
    · repeat (refine Below.setCell ?_ (by first | omega | (simp; done) | (simp; omega)) _)
      exact hB
    rintro wz ⟨oz, bz⟩
    obtain ⟨rz, fz⟩ := oz.rules
    clear oz
    refine bodyPost_ret (v := .tuple #[.agg #[.int .i64 0, .int .i64 0], .int .i64 18]) (by simp [results, Try.results94, go_sem, rz]) rfl ⟨by rw [HV.out], ?_⟩
    repeat (refine Below.setCell ?_ (by first | omega | (simp; done) | (simp; omega)) _)
    exact bz
  have HV0 := fdiv_1 hb hz
  have bz : (bn == 0) = false := by simpa using hz
  clear hb
  rcases Int.lt_or_gt_of_ne hz with hs | hs
  · have co := fchk_over' c2 hs
    have HV : Hid (fdiv an ad bn bd = fmulV an ad (-bd) (-bn)) := by show _ = _; rw [HV0, fmulV_pack c1 co, div_as_mul']
    clear HV0 hz c1 c2 co
    go_enter Try.func94, Try.ntmps94
    have oA := (own_first w 24 [.int .i64 an, .int .i64 ad] (.cells #[.int .i64 bn, .int .i64 bd] 24)).alloc (.cells #[.int .i64 0, .int .i64 0] 24)
    have oB := (own_second w 24 [.int .i64 bn, .int .i64 bd] (.cells #[.int .i64 an, .int .i64 ad] 24)).alloc (.cells #[.int .i64 0, .int .i64 0] 24)
    have oR := own_third w 24 [.int .i64 0, .int .i64 0] (.cells #[.int .i64 an, .int .i64 ad] 24) (.cells #[.int .i64 bn, .int .i64 bd] 24)
    have hB := ba3 w (.cells #[.int .i64 an, .int .i64 ad] 24) (.cells #[.int .i64 bn, .int .i64 bd] 24) (.cells #[.int .i64 0, .int .i64 0] 24)
    go_wp2_with fail
    generalize ((w.alloc (.cells #[.int .i64 an, .int .i64 ad] 24)).alloc (.cells #[.int .i64 bn, .int .i64 bd] 24)).alloc (.cells #[.int .i64 0, .int .i64 0] 24) = y0 at *
    obtain ⟨rA, fA⟩ := oA.rules
    have zA := oA.lt
    obtain ⟨rB, fB⟩ := oB.rules
    have zB := oB.lt
    obtain ⟨rR, fR⟩ := oR.rules
    have zR := oR.lt
    refine (frboth_any _ _ _ _ _ h1 h2 h3 h4).mono ?_
    rintro e y1 ⟨rfl, hq⟩
    clear rA fA zA rB fB zB rR fR zR
    replace oA := oA.below hq
    replace oB := oB.below hq
    replace oR := oR.below hq
    replace hB := below_to hB hq
    clear hq
    obtain ⟨rA, fA⟩ := oA.rules
    have zA := oA.lt
    obtain ⟨rB, fB⟩ := oB.rules
    have zB := oB.lt
    obtain ⟨rR, fR⟩ := oR.rules
    have zR := oR.lt
    have oO := Own.new y1 24 [.int .i64 0, .int .i64 0]
    go_wp2_with fail
    refine (fproduct_any an ad (-bd) (-bn) _ k3 k4 k1 k2 (by omega) (by omega) (by omega) (by omega)).mono ?_
    rintro e y2 ⟨rfl, hq⟩
    replace hq := below_to (ba1 y1 _) hq
    clear oO
    clear rA fA zA rB fB zB rR fR zR
    replace oA := oA.below hq
    replace oB := oB.below hq
    replace oR := oR.below hq
    replace hB := below_to hB hq
    clear hq
    obtain ⟨rA, fA⟩ := oA.rules
    have zA := oA.lt
    obtain ⟨rB, fB⟩ := oB.rules
    have zB := oB.lt
    obtain ⟨rR, fR⟩ := oR.rules
    have zR := oR.lt
    generalize fmulV an ad (-bd) (-bn) = r at *
    go_wp2
    refine bp_gen' (fun W => Own W (w.heap.size + 1 + 1) 24 [.int .i64 r.n, .int .i64 r.d] ∧ Below w.heap.size w W) ⟨(oR.set 0 (.int .i64 r.n)).set 1 (.int .i64 r.d), ?_⟩ ?_
    · repeat (refine Below.setCell ?_ (by first | omega | (simp; done) | (simp; omega)) _)
      exact hB
    rintro wz ⟨oz, bz⟩
    obtain ⟨rz, fz⟩ := oz.rules
    clear oz
    refine bodyPost_ret (v := .tuple #[.agg #[.int .i64 r.n, .int .i64 r.d], .int .i64 r.e]) (by simp [results, Try.results94, go_sem, rz]) rfl ⟨by rw [HV.out], ?_⟩
    repeat (refine Below.setCell ?_ (by first | omega | (simp; done) | (simp; omega)) _)
    exact bz
  · have co := fchk_over c2 hs
    have HV : Hid (fdiv an ad bn bd = fmulV an ad bd bn) := by show _ = _; rw [HV0, fmulV_pack c1 co, div_as_mul]
    clear HV0 hz c1 c2 co
    go_enter Try.func94, Try.ntmps94
    have oA := (own_first w 24 [.int .i64 an, .int .i64 ad] (.cells #[.int .i64 bn, .int .i64 bd] 24)).alloc (.cells #[.int .i64 0, .int .i64 0] 24)
    have oB := (own_second w 24 [.int .i64 bn, .int .i64 bd] (.cells #[.int .i64 an, .int .i64 ad] 24)).alloc (.cells #[.int .i64 0, .int .i64 0] 24)
    have oR := own_third w 24 [.int .i64 0, .int .i64 0] (.cells #[.int .i64 an, .int .i64 ad] 24) (.cells #[.int .i64 bn, .int .i64 bd] 24)
    have hB := ba3 w (.cells #[.int .i64 an, .int .i64 ad] 24) (.cells #[.int .i64 bn, .int .i64 bd] 24) (.cells #[.int .i64 0, .int .i64 0] 24)
    go_wp2_with fail
    generalize ((w.alloc (.cells #[.int .i64 an, .int .i64 ad] 24)).alloc (.cells #[.int .i64 bn, .int .i64 bd] 24)).alloc (.cells #[.int .i64 0, .int .i64 0] 24) = y0 at *
    obtain ⟨rA, fA⟩ := oA.rules
    have zA := oA.lt
    obtain ⟨rB, fB⟩ := oB.rules
    have zB := oB.lt
    obtain ⟨rR, fR⟩ := oR.rules
    have zR := oR.lt
    refine (frboth_any _ _ _ _ _ h1 h2 h3 h4).mono ?_
    rintro e y1 ⟨rfl, hq⟩
    clear rA fA zA rB fB zB rR fR zR
    replace oA := oA.below hq
    replace oB := oB.below hq
    replace oR := oR.below hq
    replace hB := below_to hB hq
    clear hq
    obtain ⟨rA, fA⟩ := oA.rules
    have zA := oA.lt
    obtain ⟨rB, fB⟩ := oB.rules
    have zB := oB.lt
    obtain ⟨rR, fR⟩ := oR.rules
    have zR := oR.lt
    have oO := Own.new y1 24 [.int .i64 0, .int .i64 0]
    go_wp2_with fail
    refine (fproduct_any an ad bd bn _ k3 k4 k1 k2 (by omega) (by omega) (by omega) (by omega)).mono ?_
    rintro e y2 ⟨rfl, hq⟩
    replace hq := below_to (ba1 y1 _) hq
    clear oO
    clear rA fA zA rB fB zB rR fR zR
    replace oA := oA.below hq
    replace oB := oB.below hq
    replace oR := oR.below hq
    replace hB := below_to hB hq
    clear hq
    obtain ⟨rA, fA⟩ := oA.rules
    have zA := oA.lt
    obtain ⟨rB, fB⟩ := oB.rules
    have zB := oB.lt
    obtain ⟨rR, fR⟩ := oR.rules
    have zR := oR.lt
    generalize fmulV an ad bd bn = r at *
    go_wp2
    refine bp_gen' (fun W => Own W (w.heap.size + 1 + 1) 24 [.int .i64 r.n, .int .i64 r.d] ∧ Below w.heap.size w W) ⟨(oR.set 0 (.int .i64 r.n)).set 1 (.int .i64 r.d), ?_⟩ ?_
    · repeat (refine Below.setCell ?_ (by first | omega | (simp; done) | (simp; omega)) _)
      exact hB
    rintro wz ⟨oz, bz⟩
    obtain ⟨rz, fz⟩ := oz.rules
    clear oz
    refine bodyPost_ret (v := .tuple #[.agg #[.int .i64 r.n, .int .i64 r.d], .int .i64 r.e]) (by simp [results, Try.results94, go_sem, rz]) rfl ⟨by rw [HV.out], ?_⟩
    repeat (refine Below.setCell ?_ (by first | omega | (simp; done) | (simp; omega)) _)
    exact bz
end Go.Proofs.Ytpjhiojdnebgoaa

/- What is proved here: the contracts of interp.isPart, interp.areLevels, fringeref15.Part, fringeref13.Levels and Long. Condition: 64-bit numbers, a slice that can be read. -/
namespace Go.Proofs.Ytpjhiojdnebgoaa
open Go.RowKit

set_option maxRecDepth 100000 in
set_option maxHeartbeats 4000000 in
theorem ipart_any (n d : Int) (w : World) (h1 : i64 n) (h2 : i64 d) :
    Calls Try.prog 54 #[.agg #[.int .i64 n, .int .i64 d]] w fun e w' => e = .returned (.bool (partB n d)) ∧ Below w.heap.size w w' := by
  have J1 := Lib.hid h1
  have J2 := Lib.hid h2
  clear h1 h2
  have HV : Hid (partB n d = (fchk n d == 0 && decide (0 ≤ n) && decide (n < d) && decide (d ≤ 16))) := rfl
  go_enter Try.func54, Try.ntmps54
  have oA := Own.new w 24 [.int .i64 n, .int .i64 d]
  have hB := ba1 w (.cells #[.int .i64 n, .int .i64 d] 24)
  obtain ⟨rA, fA⟩ := oA.rules
  have zA := oA.lt
  go_wp2_with fail
  refine (check_any n d _ J1.out J2.out).mono ?_
  rintro e y1 ⟨rfl, hq⟩
  clear rA fA zA
  replace oA := oA.below hq
  replace hB := below_to hB hq
  clear hq
  obtain ⟨rA, fA⟩ := oA.rules
  have zA := oA.lt
  by_cases g1 : fchk n d = 0
  case neg =>
    have b1 : (fchk n d == 0) = false := by simpa using g1
    clear g1
    go_wp2
    go_ret
    exact ⟨by rw [HV.out, b1]; simp, hB⟩
  have b1 : (fchk n d == 0) = true := by simpa using g1
  clear g1
  by_cases g2 : 0 ≤ n
  case neg =>
    have b2 : decide (0 ≤ n) = false := by simpa using g2
    go_wp2
    go_ret
    exact ⟨by rw [HV.out, b1, b2]; simp, hB⟩
  have b2 : decide (0 ≤ n) = true := by simpa using g2
  by_cases g3 : n < d
  case neg =>
    have b3 : decide (n < d) = false := by simpa using g3
    go_wp2
    go_ret
    exact ⟨by rw [HV.out, b1, b2, b3]; simp, hB⟩
  have b3 : decide (n < d) = true := by simpa using g3
  go_wp2
  go_ret
  exact ⟨by rw [HV.out, b1, b2, b3]; simp, hB⟩
set_option maxRecDepth 100000 in
set_option maxHeartbeats 4000000 in
theorem ripart_any (n d : Int) (w : World) (h1 : i64 n) (h2 : i64 d) :
    Calls Try.prog 29 #[.agg #[.int .i64 n, .int .i64 d]] w fun e w' => e = .returned (.bool (partB n d)) ∧ Below w.heap.size w w' := by
  have J1 := Lib.hid h1
  have J2 := Lib.hid h2
  clear h1 h2
  have HV : Hid (partB n d = (fchk n d == 0 && decide (0 ≤ n) && decide (n < d) && decide (d ≤ 16))) := rfl
  go_enter Try.func29, Try.ntmps29
  have oA := Own.new w 24 [.int .i64 n, .int .i64 d]
  have hB := ba1 w (.cells #[.int .i64 n, .int .i64 d] 24)
  obtain ⟨rA, fA⟩ := oA.rules
  have zA := oA.lt
  go_wp2_with fail
  refine (rcheck_any n d _ J1.out J2.out).mono ?_
  rintro e y1 ⟨rfl, hq⟩
  clear rA fA zA
  replace oA := oA.below hq
  replace hB := below_to hB hq
  clear hq
  obtain ⟨rA, fA⟩ := oA.rules
  have zA := oA.lt
  by_cases g1 : fchk n d = 0
  case neg =>
    have b1 : (fchk n d == 0) = false := by simpa using g1
    clear g1
    go_wp2
    go_ret
    exact ⟨by rw [HV.out, b1]; simp, hB⟩
  have b1 : (fchk n d == 0) = true := by simpa using g1
  clear g1
  by_cases g2 : 0 ≤ n
  case neg =>
    have b2 : decide (0 ≤ n) = false := by simpa using g2
    go_wp2
    go_ret
    exact ⟨by rw [HV.out, b1, b2]; simp, hB⟩
  have b2 : decide (0 ≤ n) = true := by simpa using g2
  by_cases g3 : n < d
  case neg =>
    have b3 : decide (n < d) = false := by simpa using g3
    go_wp2
    go_ret
    exact ⟨by rw [HV.out, b1, b2, b3]; simp, hB⟩
  have b3 : decide (n < d) = true := by simpa using g3
  go_wp2
  go_ret
  exact ⟨by rw [HV.out, b1, b2, b3]; simp, hB⟩
theorem longi_any (xs : List Int) (v : Value) (w : World) (hs : SI w v xs) :
    Calls Try.prog 14 #[v] w fun e w' => e = .returned (.bool (decide (300 < xs.length))) ∧ w = w' := by
  obtain ⟨ad, cap, rfl, h1, h2, _⟩ := hs.open
  clear hs
  go_enter Try.func14, Try.ntmps14
  go_wp2
  go_ret
  exact ⟨by simp; try omega, rfl⟩
set_option maxRecDepth 100000 in
set_option maxHeartbeats 4000000 in
theorem ilev_any (l : List Int) (v : Value) (w : World) (hs : SI w v l) :
    Calls Try.prog 48 #[v] w fun e w' => e = .returned (.bool (levB l)) ∧ Below w.heap.size w w' := by
  have S0 := Lib.hid hs
  obtain ⟨ad, cap, rfl, h1, h2, _⟩ := hs.open
  clear hs
  go_enter Try.func48, Try.ntmps48
  go_wp2
  go_loopw [7] (fun i wr => ∃ k : Nat, k ≤ l.length ∧ i = .int .i64 k ∧ Hid (levB (l.take k) = true) ∧ Below w.heap.size w wr) (fun i _ => l.length - (intOf i).toNat)
  case atStart => exact ⟨0, Nat.zero_le _, rfl, rfl, Below.refl _ _⟩
  case round =>
    obtain ⟨k, hk, rfl, hv, hW⟩ := hrel
    rename World => W
    by_cases hlt : k < l.length
    · obtain ⟨_, _, e, _, _, H⟩ := (S0.out.below hW).open
      cases e
      obtain ⟨b', off', rfl, c1⟩ := H.out k hlt
      clear H
      have XN := Lib.hid (fun h => lev_not hlt h)
      have XT := Lib.hid (fun h h' => lev_take hlt hv.out h h')
      generalize l[k] = x at *
      by_cases g1 : x < -1000000
      · have HV := Lib.hid (XN.out (.inl g1))
        clear XN XT
        go_wp2
        go_ret
        exact ⟨by rw [HV.out]; try rfl, hW⟩
      have b1 : decide (x < -1000000) = false := by simpa using g1
      by_cases g2 : 1000000 < x
      · have HV := Lib.hid (XN.out (.inr g2))
        clear XN XT
        go_wp2
        go_ret
        exact ⟨by rw [HV.out]; try rfl, hW⟩
      have b2 : decide (1000000 < x) = false := by simpa using g2
      have HV := Lib.hid (XT.out (by omega) (by omega))
      clear XN XT
      go_wp2
      go_roundw
      case rel => exact ⟨k + 1, by omega, by go_num, HV, hW⟩
      case measure => simp [intOf]; try omega
    · have HV := Lib.hid (lev_end hlt hv.out)
      go_wp2
      go_ret
      exact ⟨by rw [HV.out]; try rfl, hW⟩
set_option maxRecDepth 100000 in
set_option maxHeartbeats 4000000 in
theorem rilev_any (l : List Int) (v : Value) (w : World) (hs : SI w v l) :
    Calls Try.prog 28 #[v] w fun e w' => e = .returned (.int .i64 (levE l)) ∧ Below w.heap.size w w' := by
  have S0 := Lib.hid hs
  obtain ⟨ad, cap, rfl, h1, h2, _⟩ := hs.open
  clear hs
  by_cases hm : 256 < l.length
  · have HV : Hid (levE l = 4) := if_pos hm
    have b0 : decide (256 < (l.length : Int)) = true := by simp; omega
    go_enter Try.func28, Try.ntmps28
    go_wp2
    go_ret
    exact ⟨by rw [HV.out]; try rfl, Below.refl _ _⟩
  have HV : Hid (levE l = if levB l = false then 8 else 0) := if_neg hm
  have l0 : l.length ≤ 256 := by omega
  have b0 : decide (256 < (l.length : Int)) = false := by simp; omega
  go_enter Try.func28, Try.ntmps28
  go_wp2
  go_loopw [3] (fun i wr => ∃ k : Nat, k ≤ l.length ∧ i = .int .i64 k ∧ Hid (levB (l.take k) = true) ∧ Below w.heap.size w wr) (fun i _ => l.length - (intOf i).toNat)
  case atStart => exact ⟨0, Nat.zero_le _, rfl, rfl, Below.refl _ _⟩
  case round =>
    obtain ⟨k, hk, rfl, hv, hW⟩ := hrel
    rename World => W
    by_cases hlt : k < l.length
    · obtain ⟨_, _, e, _, _, H⟩ := (S0.out.below hW).open
      cases e
      obtain ⟨b', off', rfl, c1⟩ := H.out k hlt
      clear H
      have XN := Lib.hid (fun h => lev_not hlt h)
      have XT := Lib.hid (fun h h' => lev_take hlt hv.out h h')
      generalize l[k] = x at *
      by_cases g1 : x < -1000000
      · have HV2 := Lib.hid (XN.out (.inl g1))
        clear XN XT
        go_wp2
        go_ret
        exact ⟨by rw [HV.out, HV2.out]; try rfl, hW⟩
      have b1 : decide (x < -1000000) = false := by simpa using g1
      by_cases g2 : 1000000 < x
      · have HV2 := Lib.hid (XN.out (.inr g2))
        clear XN XT
        go_wp2
        go_ret
        exact ⟨by rw [HV.out, HV2.out]; try rfl, hW⟩
      have b2 : decide (1000000 < x) = false := by simpa using g2
      have HV2 := Lib.hid (XT.out (by omega) (by omega))
      clear XN XT
      go_wp2
      go_roundw
      case rel => exact ⟨k + 1, by omega, by go_num, HV2, hW⟩
      case measure => simp [intOf]; try omega
    · have HV2 := Lib.hid (lev_end hlt hv.out)
      go_wp2
      go_ret
      exact ⟨by rw [HV.out, HV2.out]; try rfl, hW⟩
end Go.Proofs.Ytpjhiojdnebgoaa

/- What is proved here: the contract of the reference's Mul of layer 1. Condition: the numbers are 64-bit integers. -/
namespace Go.Proofs.Ytpjhiojdnebgoaa
open Go.RowKit

theorem mul64_lt {a b : Nat} (ha : a ≤ 9223372036854775808) (hb : b ≤ 9223372036854775808) : a * b < 340282366920938463463374607431768211456 := by
  have := Nat.mul_le_mul ha hb
  omega
set_option maxRecDepth 100000 in
set_option maxHeartbeats 16000000 in
theorem rmul_any (an ad bn bd : Int) (w : World) (h1 : i64 an) (h2 : i64 ad) (h3 : i64 bn) (h4 : i64 bd) :
    Calls Try.prog 97 #[.agg #[.int .i64 an, .int .i64 ad], .agg #[.int .i64 bn, .int .i64 bd]] w fun e w' => e = .returned (.tuple #[.agg #[.int .i64 (fmul an ad bn bd).n, .int .i64 (fmul an ad bn bd).d], .int .i64 (fmul an ad bn bd).e]) ∧ Below w.heap.size w w' := by
  by_cases hb : fboth an ad bn bd = 0
  case neg =>
    have HV := Lib.hid (fmul_8 hb)
    have b1 : (fboth an ad bn bd != 0) = true := by simpa using hb
    go_enter Try.func97, Try.ntmps97
    have oA := (own_first w 24 [.int .i64 an, .int .i64 ad] (.cells #[.int .i64 bn, .int .i64 bd] 24)).alloc (.cells #[.int .i64 0, .int .i64 0] 24)
    have oB := (own_second w 24 [.int .i64 bn, .int .i64 bd] (.cells #[.int .i64 an, .int .i64 ad] 24)).alloc (.cells #[.int .i64 0, .int .i64 0] 24)
    have oR := own_third w 24 [.int .i64 0, .int .i64 0] (.cells #[.int .i64 an, .int .i64 ad] 24) (.cells #[.int .i64 bn, .int .i64 bd] 24)
    go_wp2_with fail
    refine (rfrboth_any _ _ _ _ _ h1 h2 h3 h4).mono ?_
    rintro e w1 ⟨rfl, hb1⟩
    replace oA := oA.below hb1
    replace oB := oB.below hb1
    replace oR := oR.below hb1
    have hB := below_to (ba3 _ _ _ _) hb1
    clear hb1
    obtain ⟨rA, fA⟩ := oA.rules
    obtain ⟨rB, fB⟩ := oB.rules
    obtain ⟨rR, fR⟩ := oR.rules
    have zA := oA.lt
    have zB := oB.lt
    have zR := oR.lt
    go_wp2_with fail
    refine (rfrboth_any _ _ _ _ _ h1 h2 h3 h4).mono ?_
    rintro e w2 ⟨rfl, hb2⟩
    clear rA fA zA rB fB zB rR fR zR
    replace oA := oA.below hb2
    replace oB := oB.below hb2
    replace oR := oR.below hb2
    replace hB := below_to hB hb2
    clear hb2
    obtain ⟨rA, fA⟩ := oA.rules
    obtain ⟨rB, fB⟩ := oB.rules
    obtain ⟨rR, fR⟩ := oR.rules
    have zA := oA.lt
    have zB := oB.lt
    have zR := oR.lt
    generalize fboth an ad bn bd = fe at *
    go_wp2
    refine bp_gen' (fun W => Own W (w.heap.size + 1 + 1) 24 [.int .i64 0, .int .i64 0] ∧ Below w.heap.size w W) ⟨(oR.set 0 (.int .i64 0)).set 1 (.int .i64 0), ?_⟩ ?_
    · repeat (refine Below.setCell ?_ (by first | omega | (simp; done) | (simp; omega)) _)
      exact hB
    rintro wz ⟨oz, bz⟩
    obtain ⟨rz, fz⟩ := oz.rules
    clear oz
    refine bodyPost_ret (v := .tuple #[.agg #[.int .i64 0, .int .i64 0], .int .i64 fe]) (by simp [results, Try.results97, go_sem, rz]) rfl ⟨by rw [HV.out], ?_⟩
    repeat (refine Below.setCell ?_ (by first | omega | (simp; done) | (simp; omega)) _)
    exact bz
  obtain ⟨c1, c2⟩ := fboth_ok hb
  obtain ⟨k1, k2, k3, k4, _⟩ := fok_of c1
  obtain ⟨l1, l2, l3, l4, _⟩ := fok_of c2
  have HV0 := Lib.hid (fmul_0 hb)
  obtain ⟨A, rfl⟩ := Int.eq_ofNat_of_zero_le (show 0 ≤ ad by omega)
  obtain ⟨B, rfl⟩ := Int.eq_ofNat_of_zero_le (show 0 ≤ bd by omega)
  have na : an.natAbs ≤ 9223372036854775808 := by omega
  have nb : bn.natAbs ≤ 9223372036854775808 := by omega
  have e1 := wrap_quo an.natAbs (Nat.gcd an.natAbs B) na
  have e2 := wrap_quo bn.natAbs (Nat.gcd bn.natAbs A) nb
  have e3 := wrap_quo A (Nat.gcd bn.natAbs A) (by omega)
  have e4 := wrap_quo B (Nat.gcd an.natAbs B) (by omega)
  have d1 := Nat.div_le_self an.natAbs (Nat.gcd an.natAbs B)
  have d2 := Nat.div_le_self bn.natAbs (Nat.gcd bn.natAbs A)
  have d3 := Nat.div_le_self A (Nat.gcd bn.natAbs A)
  have d4 := Nat.div_le_self B (Nat.gcd an.natAbs B)
  have q1 : (an.natAbs : Int) / ((Nat.gcd an.natAbs B : Nat) : Int) = ((an.natAbs / Nat.gcd an.natAbs B : Nat) : Int) := (Int.natCast_ediv _ _).symm
  have q2 : (bn.natAbs : Int) / ((Nat.gcd bn.natAbs A : Nat) : Int) = ((bn.natAbs / Nat.gcd bn.natAbs A : Nat) : Int) := (Int.natCast_ediv _ _).symm
  have q3 : (A : Int) / ((Nat.gcd bn.natAbs A : Nat) : Int) = ((A / Nat.gcd bn.natAbs A : Nat) : Int) := (Int.natCast_ediv _ _).symm
  have q4 : (B : Int) / ((Nat.gcd an.natAbs B : Nat) : Int) = ((B / Nat.gcd an.natAbs B : Nat) : Int) := (Int.natCast_ediv _ _).symm
  have gp : 0 < Nat.gcd an.natAbs B := Nat.gcd_pos_of_pos_right _ (by omega)
  have hp : 0 < Nat.gcd bn.natAbs A := Nat.gcd_pos_of_pos_right _ (by omega)
  have HV : Hid (fmul an A bn B = bld (decide (an < 0) != decide (bn < 0)) ((an.natAbs / Nat.gcd an.natAbs B * (bn.natAbs / Nat.gcd bn.natAbs A) : Nat) : Int) ((A / Nat.gcd bn.natAbs A * (B / Nat.gcd an.natAbs B) : Nat) : Int)) := by
    show _ = _
    rw [HV0.out]; rfl
  have b1 : (fboth an A bn B != 0) = false := by simp [hb]
  have HB := Lib.hid hb
  clear hb HV0 c1 c2
  generalize hgg : Nat.gcd an.natAbs B = g at *
  generalize hhh : Nat.gcd bn.natAbs A = h at *
  have HG := Lib.hid hgg
  have HH := Lib.hid hhh
  have g0 : ((g : Int) == 0) = false := by simp; omega
  have g1 : ¬ ((g : Int) = 0) := by omega
  have h0 : ((h : Int) == 0) = false := by simp; omega
  have h1' : ¬ ((h : Int) = 0) := by omega
  clear hgg hhh
  generalize an.natAbs / g = u1 at *
  generalize bn.natAbs / h = u2 at *
  generalize A / h = u3 at *
  generalize B / g = u4 at *
  go_enter Try.func97, Try.ntmps97
  have oA := (own_first w 24 [.int .i64 an, .int .i64 A] (.cells #[.int .i64 bn, .int .i64 B] 24)).alloc (.cells #[.int .i64 0, .int .i64 0] 24)
  have oB := (own_second w 24 [.int .i64 bn, .int .i64 B] (.cells #[.int .i64 an, .int .i64 A] 24)).alloc (.cells #[.int .i64 0, .int .i64 0] 24)
  have oR := own_third w 24 [.int .i64 0, .int .i64 0] (.cells #[.int .i64 an, .int .i64 A] 24) (.cells #[.int .i64 bn, .int .i64 B] 24)
  go_wp2_with fail
  refine (rfrboth_any _ _ _ _ _ h1 h2 h3 h4).mono ?_
  rintro e w1 ⟨rfl, hb1⟩
  replace oA := oA.below hb1
  replace oB := oB.below hb1
  replace oR := oR.below hb1
  have hB := below_to (ba3 _ _ _ _) hb1
  clear hb1
  obtain ⟨rA, fA⟩ := oA.rules
  obtain ⟨rB, fB⟩ := oB.rules
  obtain ⟨rR, fR⟩ := oR.rules
  have zA := oA.lt
  have zB := oB.lt
  have zR := oR.lt
  go_wp2
  go_quiet (first | (go_at_call 65; exact Calls.quiet_same (abs_any _ _ (by omega) (by omega))) | (go_at_call 63; exact Calls.quiet_of (rgcd_any _ _ _ (by omega) (by omega))))
  rw [HG.out, HH.out]
  go_wp2
  clear rA fA zA rB fB zB rR fR zR
  replace oA := oA.drewN nq
  replace oB := oB.drewN nq
  replace oR := oR.drewN nq
  replace hB := bd hB nq
  generalize w1.drewN nq = y at *
  obtain ⟨rA, fA⟩ := oA.rules
  obtain ⟨rB, fB⟩ := oB.rules
  obtain ⟨rR, fR⟩ := oR.rules
  have zA := oA.lt
  have zB := oB.lt
  have zR := oR.lt
  have gl := @grow_lt
  go_wp2_with fail
  refine wp_region_st [.t [0, 1, 2, 3, 4, 5, 6, 7, 8, 10, 12, 13, 15, 18, 19, 20, 21, 22, 23, 24, 25, 26, 27], .f 9, .t [11], .f 14, .t [16], .f 17, .f 28, .f 29, .t [30, 31]] [32, 33] (by kernel_rfl) (by kernel_rfl) (fun _ _ _ _ _ h => h) ?_
  refine wpX_t ?_
  try simp only [opsAt, List.getElem?_toArray, List.getElem?_cons_zero, List.getElem?_cons_succ, Option.getD_some]
  repeat (go_big_quiet_step (fail))
  refine wpQuiet_nil ?_
  refine wpX_f rfl rfl (fun K' hK' => ?_)
  go_simp
  refine (abs_any _ _ (by omega) (by omega)).mono ?_
  rintro e _ ⟨rfl, rfl⟩
  refine hK' _ _ (grow_of (by first | exact (Below.refl _ _).drew | assumption)) ?_
  clear hK' K'
  refine wpX_t ?_
  try simp only [opsAt, List.getElem?_toArray, List.getElem?_cons_zero, List.getElem?_cons_succ, Option.getD_some]
  repeat (go_big_quiet_step (fail))
  refine wpQuiet_nil ?_
  refine wpX_f rfl rfl (fun K' hK' => ?_)
  go_simp
  refine (abs_any _ _ (by omega) (by omega)).mono ?_
  rintro e _ ⟨rfl, rfl⟩
  refine hK' _ _ (grow_of (by first | exact (Below.refl _ _).drew | assumption)) ?_
  clear hK' K'
  refine wpX_t ?_
  try simp only [opsAt, List.getElem?_toArray, List.getElem?_cons_zero, List.getElem?_cons_succ, Option.getD_some]
  repeat (go_big_quiet_step (fail))
  refine wpQuiet_nil ?_
  refine wpX_f rfl rfl (fun K' hK' => ?_)
  go_simp
  refine (product_any u1 u2 _ (by omega) (by omega)).mono ?_
  rintro e w3 ⟨rfl, hb3⟩
  refine hK' _ _ (grow_of (below_to ((Below.refl _ _).drew) hb3)) ?_
  clear hK' K'
  refine wpX_f rfl rfl (fun K' hK' => ?_)
  go_simp
  refine (product_any u3 u4 _ (by omega) (by omega)).mono ?_
  rintro e w4 ⟨rfl, hb4⟩
  refine hK' _ _ (grow_of (below_to (below_to ((Below.refl _ _).drew) hb3) hb4)) ?_
  clear hK' K'
  refine wpX_f rfl rfl (fun K' hK' => ?_)
  go_simp
  refine (lowest_any _ (u1 * u2) (u3 * u4) _ (mul64_lt (by omega) (by omega)) (mul64_lt (by omega) (by omega))).mono ?_
  rintro e w5 ⟨rfl, hb5⟩
  refine hK' _ _ (grow_of (below_to (below_to (below_to ((Below.refl _ _).drew) hb3) hb4) hb5)) ?_
  clear hK' K'
  refine wpX_t ?_
  try simp only [opsAt, List.getElem?_toArray, List.getElem?_cons_zero, List.getElem?_cons_succ, Option.getD_some]
  repeat (go_big_quiet_step (fail))
  refine wpQuiet_nil ?_
  refine wpX_nil ?_
  try simp only [opsAt, List.getElem?_toArray, List.getElem?_cons_zero, List.getElem?_cons_succ, Option.getD_some]
  clear gl
  clear rA fA zA rB fB zB rR fR zR
  replace oA := (((oA.drew).below hb3).below hb4).below hb5
  replace oB := (((oB.drew).below hb3).below hb4).below hb5
  replace oR := (((oR.drew).below hb3).below hb4).below hb5
  replace hB := below_to (below_to (below_to (hB.drew) hb3) hb4) hb5
  clear hb3 hb4 hb5
  obtain ⟨rA, fA⟩ := oA.rules
  obtain ⟨rB, fB⟩ := oB.rules
  obtain ⟨rR, fR⟩ := oR.rules
  have zA := oA.lt
  have zB := oB.lt
  have zR := oR.lt
  generalize hr : bld (!decide (an < 0) == decide (bn < 0)) ((u1 : Int) * (u2 : Int)) ((u3 : Int) * (u4 : Int)) = r at *
  have HR : Hid (fmul an A bn B = r) := by show _ = _; rw [HV.out, ← hr, Int.natCast_mul, Int.natCast_mul]; try rfl
  clear hr HV
  go_wp2
  refine bp_gen' (fun W => Own W (w.heap.size + 1 + 1) 24 [.int .i64 r.n, .int .i64 r.d] ∧ Below w.heap.size w W) ⟨(oR.set 0 (.int .i64 r.n)).set 1 (.int .i64 r.d), ?_⟩ ?_
  · repeat (refine Below.setCell ?_ (by first | omega | (simp; done) | (simp; omega)) _)
    exact hB
  rintro wz ⟨oz, bz⟩
  obtain ⟨rz, fz⟩ := oz.rules
  clear oz
  refine bodyPost_ret (v := .tuple #[.agg #[.int .i64 r.n, .int .i64 r.d], .int .i64 r.e]) (by simp [results, Try.results97, go_sem, rz]) rfl ⟨by rw [HR.out], ?_⟩
  repeat (refine Below.setCell ?_ (by first | omega | (simp; done) | (simp; omega)) _)
  exact bz
end Go.Proofs.Ytpjhiojdnebgoaa
