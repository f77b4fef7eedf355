/- What is proved here: the law SparseLess returns true. Condition: a system that can be read, and two costs. -/
import Derived.Test.YtfoemacgmehpiaaC34
import Derived.Test.YtfoemacgmehpiaaC37
import Derived.Test.YtfoemacgmehpiaaC24
import Derived.Test.YtfoemacgmehpiaaC25
import Derived.Deep.DeepCutAuto
namespace Go.Proofs.Ytfoemacgmehpiaa
open Go.RowKit

set_option maxRecDepth 100000 in
set_option maxHeartbeats 16000000 in
theorem sparseLess_any (A : List (List Int)) (B : List Int) (c d : Int) (va vb : Value) (w : World) (hA : SS w va A) (hB : SI w vb B) :
    Calls Try.prog 5 #[.agg #[va, vb], .int .i64 c, .int .i64 d] w fun e w' => e = .returned (.bool true) ∧ Below w.heap.size w w' := by
  go_enter Try.func5, Try.ntmps5
  have oS := Own.new w 25 [va, vb]
  have hy := ba1 w (.cells #[va, vb] 25)
  replace hA := hA.below hy
  replace hB := hB.below hy
  obtain ⟨rS, fS⟩ := oS.rules
  have zS := oS.lt
  go_wp2_with fail
  refine (alive38_any _).mono ?_
  rintro e y1 ⟨rfl, hq⟩
  clear rS fS zS
  replace oS := oS.below hq
  replace hA := hA.below hq
  replace hB := hB.below hq
  replace hy := below_to hy hq
  clear hq
  obtain ⟨rS, fS⟩ := oS.rules
  have zS := oS.lt
  go_wp2_with fail
  refine (rngreat_any A B _ _ _ hA hB).mono ?_
  rintro e y2 ⟨rfl, hq⟩
  clear rS fS zS
  replace oS := oS.below hq
  replace hA := hA.below hq
  replace hB := hB.below hq
  replace hy := below_to hy hq
  clear hq
  obtain ⟨rS, fS⟩ := oS.rules
  have zS := oS.lt
  by_cases g1 : ngreat A B = true
  · rw [g1]
    clear g1 hA hB
    go_wp2
    go_ret
    exact ⟨by first | rfl | simp, hy⟩
  have g1' : ngreat A B = false := by simpa using g1
  rw [g1']
  clear g1 g1'
  go_wp2_with fail
  refine (rscheck_any A B c _ _ _ hA hB).mono ?_
  rintro e y3 ⟨rfl, hq⟩
  clear rS fS zS
  replace oS := oS.below hq
  replace hA := hA.below hq
  replace hB := hB.below hq
  replace hy := below_to hy hq
  clear hq
  obtain ⟨rS, fS⟩ := oS.rules
  have zS := oS.lt
  by_cases h0 : scheck A B c = 0
  case neg =>
    have q0 : (scheck A B c != 0) = true := by simpa using h0
    clear h0 hA hB
    go_wp2
    go_ret
    exact ⟨by first | rfl | simp, hy⟩
  rw [h0]
  go_wp2_with fail
  refine (rscheck_any A B d _ _ _ hA hB).mono ?_
  rintro e y4 ⟨rfl, hq⟩
  clear rS fS zS
  replace oS := oS.below hq
  replace hA := hA.below hq
  replace hB := hB.below hq
  replace hy := below_to hy hq
  clear hq
  obtain ⟨rS, fS⟩ := oS.rules
  have zS := oS.lt
  by_cases h1 : scheck A B d = 0
  case neg =>
    have q0 : (scheck A B d != 0) = true := by simpa using h1
    clear h0 h1 hA hB
    go_wp2
    go_ret
    exact ⟨by first | rfl | simp, hy⟩
  rw [h1]
  by_cases hcd : c ≤ d
  case neg =>
    have q0 : decide (d < c) = true := by simp; omega
    clear h0 h1 hA hB
    go_wp2
    go_ret
    exact ⟨by first | rfl | simp, hy⟩
  have q0 : decide (d < c) = false := by simp; omega
  obtain ⟨h9, c0, c1⟩ := scheck_of h0
  obtain ⟨_, d0, d1⟩ := scheck_of h1
  have hF := fit_of h9
  have HI := Lib.hid (sol_FI (c := c) hF c0 c1)
  have HJ := Lib.hid (sol_FI (c := d) hF d0 d1)
  have HS : Hid (sSolve A B c = (nsol A B c (A.getD 0 []).length, nS A B c, 0)) := if_pos h0
  have HT : Hid (sSolve A B d = (nsol A B d (A.getD 0 []).length, nS A B d, 0)) := if_pos h1
  have s1 := sol_s h0
  have s2 := sol_s h1
  have v1 := sol_ok h9 c0 c1
  have v2 := sol_ok h9 d0 d1
  have HBc : Hid (sBright (nsol A B c (A.getD 0 []).length) = uf (sm (nsx A B c) 3)) := s1.bright
  have HBd : Hid (sBright (nsol A B d (A.getD 0 []).length) = uf (sm (nsx A B d) 3)) := s2.bright
  have HVc : Hid (nValue A B (nsol A B c (A.getD 0 []).length) = uf (qval (fA A) (fB B) A.length (nsx A B c))) := v1.val
  have HVd : Hid (nValue A B (nsol A B d (A.getD 0 []).length) = uf (qval (fA A) (fB B) A.length (nsx A B d))) := v2.val
  have ib1 := Lib.hid (up_chk s1.bin)
  have ib2 := Lib.hid (up_chk s2.bin)
  have iv1 := Lib.hid (up_chk v1.vin)
  have iv2 := Lib.hid (up_chk v2.vin)
  have LF := less_fact h0 h1 hcd
  have F1 := (cmp_ge _ _).2 LF.1
  have F2 := (cmp_le _ _).2 LF.2
  have EQ : Hid (c = d → nsol A B c (A.getD 0 []).length = nsol A B d (A.getD 0 []).length) := fun h => by rw [h]
  clear s1 s2 v1 v2 LF h0 h1 h9 c0 c1 d0 d1 hF
  generalize nS A B c = st at *
  generalize nS A B d = su at *
  generalize nsol A B c (A.getD 0 []).length = X at *
  generalize nsol A B d (A.getD 0 []).length = Y at *
  generalize sm (nsx A B c) 3 = b1 at *
  generalize sm (nsx A B d) 3 = b2 at *
  generalize qval (fA A) (fB B) A.length (nsx A B c) = u1 at *
  generalize qval (fA A) (fB B) A.length (nsx A B d) = u2 at *
  unfold uf at HBc HBd HVc HVd
  unfold up at ib1 ib2 iv1 iv2
  simp only at ib1 ib2 iv1 iv2
  generalize b1.num = b1n at *
  generalize (b1.den : Int) = b1d at *
  generalize b2.num = b2n at *
  generalize (b2.den : Int) = b2d at *
  generalize u1.num = u1n at *
  generalize (u1.den : Int) = u1d at *
  generalize u2.num = u2n at *
  generalize (u2.den : Int) = u2d at *
  obtain ⟨m1, hm1⟩ : ∃ z, z = fcmp b1n b1d b2n b2d := ⟨_, rfl⟩
  obtain ⟨m2, hm2⟩ : ∃ z, z = fcmp u1n u1d u2n u2d := ⟨_, rfl⟩
  rw [← hm1] at F1
  rw [← hm2] at F2
  have M1 := Lib.hid hm1.symm
  have M2 := Lib.hid hm2.symm
  clear hm1 hm2
  have q1 : decide (0 ≤ m1) = true := by simpa using F1
  have q2 : decide (m2 ≤ 0) = true := by simpa using F2
  clear F1 F2
  go_wp2_with fail
  refine (spsolve_as A B c _ _ _ _ hA hB HS.out).mono ?_
  rintro e x1 ⟨u, rfl, sx, hq⟩
  clear rS fS zS
  replace oS := oS.below hq
  replace hA := hA.below hq
  replace hB := hB.below hq
  replace hy := below_to hy hq
  clear hq
  obtain ⟨rS, fS⟩ := oS.rules
  have zS := oS.lt
  have sx' : SF x1 u X := sx
  clear sx
  go_wp2_with fail
  refine (spsolve_as A B d _ _ _ _ hA hB HT.out).mono ?_
  rintro e x2 ⟨v, rfl, sy, hq⟩
  clear rS fS zS
  replace oS := oS.below hq
  replace hA := hA.below hq
  replace hB := hB.below hq
  replace sx' := sx'.below hq
  replace hy := below_to hy hq
  clear hq
  obtain ⟨rS, fS⟩ := oS.rules
  have zS := oS.lt
  have sy' : SF x2 v Y := sy
  clear sy
  go_wp2_with fail
  refine (sbright_as X _ _ _ sx' HI.out HBc.out).mono ?_
  rintro e x3 ⟨rfl, hq⟩
  clear rS fS zS
  replace oS := oS.below hq
  replace hA := hA.below hq
  replace hB := hB.below hq
  replace sx' := sx'.below hq
  replace sy' := sy'.below hq
  replace hy := below_to hy hq
  clear hq
  obtain ⟨rS, fS⟩ := oS.rules
  have zS := oS.lt
  go_upto_region 7 with fail
  have oC := Own.new x3 39 [.int .i64 b1n, .int .i64 b1d]
  have hq := ba1 x3 (.cells #[.int .i64 b1n, .int .i64 b1d] 39)
  clear rS fS zS
  replace oS := oS.below hq
  replace hA := hA.below hq
  replace hB := hB.below hq
  replace sx' := sx'.below hq
  replace sy' := sy'.below hq
  replace hy := below_to hy hq
  clear hq
  obtain ⟨bC, hbC⟩ : ∃ b, b = x3.heap.size := ⟨_, rfl⟩
  rw [← hbC] at oC ⊢
  clear hbC
  generalize x3.alloc (.cells #[.int .i64 b1n, .int .i64 b1d] 39) = x4 at *
  obtain ⟨rS, fS⟩ := oS.rules
  have zS := oS.lt
  obtain ⟨rC, fC⟩ := oC.rules
  have zC := oC.lt
  go_wp2_with fail
  refine (sbright_as Y _ _ _ sy' HJ.out HBd.out).mono ?_
  rintro e x5 ⟨rfl, hq⟩
  clear rS fS zS rC fC zC
  replace oS := oS.below hq
  replace oC := oC.below hq
  replace hA := hA.below hq
  replace hB := hB.below hq
  replace sx' := sx'.below hq
  replace sy' := sy'.below hq
  replace hy := below_to hy hq
  clear hq
  obtain ⟨rS, fS⟩ := oS.rules
  have zS := oS.lt
  obtain ⟨rC, fC⟩ := oC.rules
  have zC := oC.lt
  go_upto_region 8 with fail
  have oD := Own.new x5 39 [.int .i64 b2n, .int .i64 b2d]
  have hq := ba1 x5 (.cells #[.int .i64 b2n, .int .i64 b2d] 39)
  clear rS fS zS rC fC zC
  replace oS := oS.below hq
  replace oC := oC.below hq
  replace hA := hA.below hq
  replace hB := hB.below hq
  replace sx' := sx'.below hq
  replace sy' := sy'.below hq
  replace hy := below_to hy hq
  clear hq
  obtain ⟨bD, hbD⟩ : ∃ b, b = x5.heap.size := ⟨_, rfl⟩
  rw [← hbD] at oD ⊢
  clear hbD
  generalize x5.alloc (.cells #[.int .i64 b2n, .int .i64 b2d] 39) = x6 at *
  obtain ⟨rS, fS⟩ := oS.rules
  have zS := oS.lt
  obtain ⟨rC, fC⟩ := oC.rules
  have zC := oC.lt
  obtain ⟨rD, fD⟩ := oD.rules
  have zD := oD.lt
  go_wp2_with fail
  refine (nval_as A B X _ _ _ _ _ hA hB sx' HI.out HVc.out).mono ?_
  rintro e x7 ⟨rfl, hq⟩
  clear rS fS zS rC fC zC rD fD zD
  replace oS := oS.below hq
  replace oC := oC.below hq
  replace oD := oD.below hq
  replace hA := hA.below hq
  replace hB := hB.below hq
  replace sx' := sx'.below hq
  replace sy' := sy'.below hq
  replace hy := below_to hy hq
  clear hq
  obtain ⟨rS, fS⟩ := oS.rules
  have zS := oS.lt
  obtain ⟨rC, fC⟩ := oC.rules
  have zC := oC.lt
  obtain ⟨rD, fD⟩ := oD.rules
  have zD := oD.lt
  go_upto_region 9 with fail
  have oU := Own.new x7 39 [.int .i64 u1n, .int .i64 u1d]
  have hq := ba1 x7 (.cells #[.int .i64 u1n, .int .i64 u1d] 39)
  clear rS fS zS rC fC zC rD fD zD
  replace oS := oS.below hq
  replace oC := oC.below hq
  replace oD := oD.below hq
  replace hA := hA.below hq
  replace hB := hB.below hq
  replace sx' := sx'.below hq
  replace sy' := sy'.below hq
  replace hy := below_to hy hq
  clear hq
  obtain ⟨bU, hbU⟩ : ∃ b, b = x7.heap.size := ⟨_, rfl⟩
  rw [← hbU] at oU ⊢
  clear hbU
  generalize x7.alloc (.cells #[.int .i64 u1n, .int .i64 u1d] 39) = x8 at *
  obtain ⟨rS, fS⟩ := oS.rules
  have zS := oS.lt
  obtain ⟨rC, fC⟩ := oC.rules
  have zC := oC.lt
  obtain ⟨rD, fD⟩ := oD.rules
  have zD := oD.lt
  obtain ⟨rU, fU⟩ := oU.rules
  have zU := oU.lt
  go_wp2_with fail
  refine (nval_as A B Y _ _ _ _ _ hA hB sy' HJ.out HVd.out).mono ?_
  rintro e x9 ⟨rfl, hq⟩
  clear rS fS zS rC fC zC rD fD zD rU fU zU
  replace oS := oS.below hq
  replace oC := oC.below hq
  replace oD := oD.below hq
  replace oU := oU.below hq
  replace sx' := sx'.below hq
  replace sy' := sy'.below hq
  replace hy := below_to hy hq
  clear hq
  obtain ⟨rS, fS⟩ := oS.rules
  have zS := oS.lt
  obtain ⟨rC, fC⟩ := oC.rules
  have zC := oC.lt
  obtain ⟨rD, fD⟩ := oD.rules
  have zD := oD.lt
  obtain ⟨rU, fU⟩ := oU.rules
  have zU := oU.lt
  clear hA hB
  go_upto_region 10 with fail
  have oV := Own.new x9 39 [.int .i64 u2n, .int .i64 u2d]
  have hq := ba1 x9 (.cells #[.int .i64 u2n, .int .i64 u2d] 39)
  clear rS fS zS rC fC zC rD fD zD rU fU zU
  replace oS := oS.below hq
  replace oC := oC.below hq
  replace oD := oD.below hq
  replace oU := oU.below hq
  replace sx' := sx'.below hq
  replace sy' := sy'.below hq
  replace hy := below_to hy hq
  clear hq
  obtain ⟨bV, hbV⟩ : ∃ b, b = x9.heap.size := ⟨_, rfl⟩
  rw [← hbV] at oV ⊢
  clear hbV
  generalize x9.alloc (.cells #[.int .i64 u2n, .int .i64 u2d] 39) = z1 at *
  obtain ⟨rS, fS⟩ := oS.rules
  have zS := oS.lt
  obtain ⟨rC, fC⟩ := oC.rules
  have zC := oC.lt
  obtain ⟨rD, fD⟩ := oD.rules
  have zD := oD.lt
  obtain ⟨rU, fU⟩ := oU.rules
  have zU := oU.lt
  obtain ⟨rV, fV⟩ := oV.rules
  have zV := oV.lt
  go_wp2_with fail
  refine (cmp_as b1n b1d b2n b2d _ ib1.out ib2.out).mono ?_
  rintro e z2 ⟨rfl, hq⟩
  clear rS fS zS rC fC zC rD fD zD rU fU zU rV fV zV
  replace oS := oS.below hq
  replace oC := oC.below hq
  replace oD := oD.below hq
  replace oU := oU.below hq
  replace oV := oV.below hq
  replace sx' := sx'.below hq
  replace sy' := sy'.below hq
  replace hy := below_to hy hq
  clear hq
  obtain ⟨rS, fS⟩ := oS.rules
  have zS := oS.lt
  obtain ⟨rC, fC⟩ := oC.rules
  have zC := oC.lt
  obtain ⟨rD, fD⟩ := oD.rules
  have zD := oD.lt
  obtain ⟨rU, fU⟩ := oU.rules
  have zU := oU.lt
  obtain ⟨rV, fV⟩ := oV.rules
  have zV := oV.lt
  rw [M1.out]
  go_wp2_with fail
  refine (cmp_as u1n u1d u2n u2d _ iv1.out iv2.out).mono ?_
  rintro e z3 ⟨rfl, hq⟩
  clear rS fS zS rC fC zC rD fD zD rU fU zU rV fV zV
  replace oS := oS.below hq
  replace oC := oC.below hq
  replace oD := oD.below hq
  replace oU := oU.below hq
  replace oV := oV.below hq
  replace sx' := sx'.below hq
  replace sy' := sy'.below hq
  replace hy := below_to hy hq
  clear hq
  obtain ⟨rS, fS⟩ := oS.rules
  have zS := oS.lt
  obtain ⟨rC, fC⟩ := oC.rules
  have zC := oC.lt
  obtain ⟨rD, fD⟩ := oD.rules
  have zD := oD.lt
  obtain ⟨rU, fU⟩ := oU.rules
  have zU := oU.lt
  obtain ⟨rV, fV⟩ := oV.rules
  have zV := oV.lt
  rw [M2.out]
  by_cases he : c = d
  · have := EQ.out he
    subst he this
    have q5 : (c != c) = false := by simp
    go_wp2_with fail
    refine (rsame_true X _ _ _ sx' sy').mono ?_
    rintro e z4 ⟨rfl, hq⟩
    clear rS fS zS rC fC zC rD fD zD rU fU zU rV fV zV
    replace oS := oS.below hq
    replace oC := oC.below hq
    replace oD := oD.below hq
    replace oU := oU.below hq
    replace oV := oV.below hq
    replace hy := below_to hy hq
    clear hq
    obtain ⟨rS, fS⟩ := oS.rules
    have zS := oS.lt
    obtain ⟨rC, fC⟩ := oC.rules
    have zC := oC.lt
    obtain ⟨rD, fD⟩ := oD.rules
    have zD := oD.lt
    obtain ⟨rU, fU⟩ := oU.rules
    have zU := oU.lt
    obtain ⟨rV, fV⟩ := oV.rules
    have zV := oV.lt
    clear sx' sy'
    go_wp2
    go_ret
    exact ⟨by first | rfl | simp, hy⟩
  · have q5 : (c != d) = true := by simpa using he
    clear sx' sy'
    go_wp2
    go_ret
    exact ⟨by first | rfl | simp, hy⟩
end Go.Proofs.Ytfoemacgmehpiaa
