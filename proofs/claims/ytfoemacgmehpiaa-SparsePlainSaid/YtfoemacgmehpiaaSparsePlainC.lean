/- What is proved here: the law SparsePlain returns true. Condition: a system and a slice of fractions that can be read. -/
import Derived.Test.YtfoemacgmehpiaaC25
import Derived.Test.YtfoemacgmehpiaaC34
import Derived.Test.YtfoemacgmehpiaaC37
import Derived.Test.YtfoemacgmehpiaaC39
import Derived.Test.YtfoemacgmehpiaaC24
import Derived.Test.YtfoemacgmehpiaaC20
import Derived.Deep.DeepCutAuto
namespace Go.Proofs.Ytfoemacgmehpiaa
open Go.RowKit

theorem fadd2_as (an ad bn bd : Int) (r : FR) (w : World) (h1 : i64 an) (h2 : i64 ad) (h3 : i64 bn) (h4 : i64 bd) (hr : fadd an ad bn bd = r) :
    Calls Try.prog 34 #[.agg #[.int .i64 an, .int .i64 ad], .agg #[.int .i64 bn, .int .i64 bd]] w fun e w' => e = .returned (.tuple #[.agg #[.int .i64 r.n, .int .i64 r.d], .int .i64 r.e]) ∧ Below w.heap.size w w' := by
  subst hr; exact fadd_any an ad bn bd w h1 h2 h3 h4
theorem sCost_i64 (A : List (List Int)) (B : List Int) (c : Int) (x : List (Int × Int)) (h : (sCost A B c x).e = 0) : i64 (sCost A B c x).n ∧ i64 (sCost A B c x).d := fr_i64 (sCost_ok h)
set_option maxRecDepth 100000 in
set_option maxHeartbeats 16000000 in
theorem sparsePlain_any (A : List (List Int)) (B : List Int) (p : List (Int × Int)) (va vb vp : Value) (w : World) (hA : SS w va A) (hB : SI w vb B) (hp : SF w vp p) (ip : FI p) :
    Calls Try.prog 6 #[.agg #[va, vb], vp] w fun e w' => e = .returned (.bool true) ∧ Below w.heap.size w w' := by
  have IP := Lib.hid ip
  obtain ⟨adp, capp, rfl, hp1, hp2, _⟩ := hp.open
  clear ip
  go_enter Try.func6, Try.ntmps6
  have oS := Own.new w 25 [va, vb]
  have hy := ba1 w (.cells #[va, vb] 25)
  replace hA := hA.below hy
  replace hB := hB.below hy
  replace hp := hp.below hy
  obtain ⟨rS, fS⟩ := oS.rules
  have zS := oS.lt
  go_wp2_with fail
  refine (alive38_any _).mono ?_
  rintro e y1 ⟨rfl, hq⟩
  clear rS fS zS
  replace oS := oS.below hq
  replace hA := hA.below hq
  replace hB := hB.below hq
  replace hp := hp.below hq
  replace hy := below_to hy hq
  clear hq
  obtain ⟨rS, fS⟩ := oS.rules
  have zS := oS.lt
  go_wp2_with fail
  refine (rngreat_any A B _ _ _ hA hB).mono ?_
  rintro e y2 ⟨rfl, hq⟩
  clear rS fS zS
  replace oS := oS.below hq
  replace hA := hA.below hq
  replace hB := hB.below hq
  replace hp := hp.below hq
  replace hy := below_to hy hq
  clear hq
  obtain ⟨rS, fS⟩ := oS.rules
  have zS := oS.lt
  by_cases g1 : ngreat A B = true
  · rw [g1]
    clear g1 hA hB hp
    go_wp2
    go_ret
    exact ⟨by first | rfl | simp, hy⟩
  have g1' : ngreat A B = false := by simpa using g1
  rw [g1']
  clear g1 g1'
  go_wp2_with fail
  refine (rncheck_any A B _ _ _ hA hB).mono ?_
  rintro e y3 ⟨rfl, hq⟩
  clear rS fS zS
  replace oS := oS.below hq
  replace hA := hA.below hq
  replace hB := hB.below hq
  replace hp := hp.below hq
  replace hy := below_to hy hq
  clear hq
  obtain ⟨rS, fS⟩ := oS.rules
  have zS := oS.lt
  by_cases h0 : ncheck A B = 0
  case neg =>
    have q0 : (ncheck A B != 0) = true := by simpa using h0
    clear h0 hA hB hp
    go_wp2
    go_ret
    exact ⟨by first | rfl | simp, hy⟩
  rw [h0]
  by_cases g2 : 20 < (p.length : Int)
  · have q2 : decide (20 < (p.length : Int)) = true := by simpa using g2
    clear hA hB hp
    go_wp2
    go_ret
    exact ⟨by first | rfl | simp, hy⟩
  have q2 : decide (20 < (p.length : Int)) = false := by simpa using g2
  clear g2
  have HF := Lib.hid (fit_of h0)
  have HI := Lib.hid (sol_FI (c := 0) HF.out (Int.le_refl 0) (by decide))
  have HS : Hid (sSolve A B 0 = (nsol A B 0 (A.getD 0 []).length, nS A B 0, 0)) := if_pos (check_0 h0)
  have HN : Hid (nSolve A B 0 = (nsol A B 0 (A.getD 0 []).length, nS A B 0, 0)) := if_pos h0
  have CP := Lib.hid (cost_plain (x := p) h0)
  have FG := nGrad_FI A B p
  obtain ⟨G, hG⟩ : ∃ G, G = nGradient A B p := ⟨_, rfl⟩
  obtain ⟨O, hO⟩ : ∃ O, O = nOptimal A B p := ⟨_, rfl⟩
  have HG : Hid (nGradient A B p = G) := hG.symm
  have HO : Hid (nOptimal A B p = O) := hO.symm
  have HG2 : Hid (sSlope A B 0 p = G) := (slope_plain h0).trans hG.symm
  have HO2 : Hid (sOptimal A B 0 p = O) := (opt_plain h0).trans hO.symm
  rw [← hG] at FG
  have IC := Lib.hid (sCost_i64 A B 0 p)
  clear hG hO h0
  generalize (A.getD 0 []).length = n at *
  generalize nS A B 0 = st at *
  generalize nsol A B 0 n = X at *
  obtain ⟨ob, oe⟩ := O
  obtain ⟨gl, ge⟩ := G
  simp only at FG
  go_wp2_with fail
  refine (spsolve_as A B 0 _ _ _ _ hA hB HS.out).mono ?_
  rintro e y4 ⟨u, rfl, sx, hq⟩
  clear rS fS zS
  replace oS := oS.below hq
  replace hA := hA.below hq
  replace hB := hB.below hq
  replace hp := hp.below hq
  replace hy := below_to hy hq
  clear hq
  obtain ⟨rS, fS⟩ := oS.rules
  have zS := oS.lt
  have sx' : SF y4 u X := sx
  clear sx
  go_wp2_with fail
  refine (nsolve_as A B _ _ _ _ hA hB HN.out).mono ?_
  rintro e y5 ⟨u2, rfl, sx2, hq⟩
  clear rS fS zS
  replace oS := oS.below hq
  replace hA := hA.below hq
  replace hB := hB.below hq
  replace hp := hp.below hq
  replace sx' := sx'.below hq
  replace hy := below_to hy hq
  clear hq
  obtain ⟨rS, fS⟩ := oS.rules
  have zS := oS.lt
  have sx2' : SF y5 u2 X := sx2
  clear sx2
  go_wp2_with fail
  refine (rsame_true X _ _ _ sx' sx2').mono ?_
  rintro e y6 ⟨rfl, hq⟩
  clear rS fS zS
  replace oS := oS.below hq
  replace hA := hA.below hq
  replace hB := hB.below hq
  replace hp := hp.below hq
  replace hy := below_to hy hq
  clear hq
  obtain ⟨rS, fS⟩ := oS.rules
  have zS := oS.lt
  clear sx' sx2'
  go_wp2_with fail
  refine (sslope_as A B 0 p _ _ _ _ _ hA hB hp IP.out HG2.out).mono ?_
  rintro e y7 ⟨u3, rfl, sg, hq⟩
  clear rS fS zS
  replace oS := oS.below hq
  replace hA := hA.below hq
  replace hB := hB.below hq
  replace hp := hp.below hq
  replace hy := below_to hy hq
  clear hq
  obtain ⟨rS, fS⟩ := oS.rules
  have zS := oS.lt
  have sg' : SF y7 u3 gl := sg
  clear sg
  go_wp2_with fail
  refine (ngrad_as A B p _ _ _ _ _ hA hB hp IP.out HG.out).mono ?_
  rintro e y8 ⟨u4, rfl, sh, hq⟩
  clear rS fS zS
  replace oS := oS.below hq
  replace hA := hA.below hq
  replace hB := hB.below hq
  replace hp := hp.below hq
  replace sg' := sg'.below hq
  replace hy := below_to hy hq
  clear hq
  obtain ⟨rS, fS⟩ := oS.rules
  have zS := oS.lt
  have sh' : SF y8 u4 gl := sh
  clear sh
  go_wp2_with fail
  refine (sopt_as A B 0 p _ _ _ _ _ hA hB hp IP.out HO2.out).mono ?_
  rintro e y9 ⟨rfl, hq⟩
  clear rS fS zS
  replace oS := oS.below hq
  replace hA := hA.below hq
  replace hB := hB.below hq
  replace hp := hp.below hq
  replace sg' := sg'.below hq
  replace sh' := sh'.below hq
  replace hy := below_to hy hq
  clear hq
  obtain ⟨rS, fS⟩ := oS.rules
  have zS := oS.lt
  go_wp2_with fail
  refine (nopt_as A B p _ _ _ _ _ hA hB hp IP.out HO.out).mono ?_
  rintro e x1 ⟨rfl, hq⟩
  clear rS fS zS
  replace oS := oS.below hq
  replace hA := hA.below hq
  replace hB := hB.below hq
  replace hp := hp.below hq
  replace sg' := sg'.below hq
  replace sh' := sh'.below hq
  replace hy := below_to hy hq
  clear hq
  obtain ⟨rS, fS⟩ := oS.rules
  have zS := oS.lt
  obtain ⟨C, hC⟩ : ∃ C, C = sCost A B 0 p := ⟨_, rfl⟩
  obtain ⟨V, hV⟩ : ∃ V, V = nValue A B p := ⟨_, rfl⟩
  have HC : Hid (sCost A B 0 p = C) := hC.symm
  have HV : Hid (nValue A B p = V) := hV.symm
  rw [← hC] at CP IC
  rw [← hV] at CP
  clear hC hV
  obtain ⟨cn, cd, ce⟩ := C
  obtain ⟨vn, vd, ve⟩ := V
  simp only at CP IC
  go_wp2_with fail
  refine (scost_as A B 0 p _ _ _ _ _ hA hB hp IP.out HC.out).mono ?_
  rintro e x2 ⟨rfl, hq⟩
  clear rS fS zS
  replace oS := oS.below hq
  replace hA := hA.below hq
  replace hB := hB.below hq
  replace hp := hp.below hq
  replace sg' := sg'.below hq
  replace sh' := sh'.below hq
  replace hy := below_to hy hq
  clear hq
  obtain ⟨rS, fS⟩ := oS.rules
  have zS := oS.lt
  go_upto_region 13 with fail
  have oC := Own.new x2 39 [.int .i64 cn, .int .i64 cd]
  have hq := ba1 x2 (.cells #[.int .i64 cn, .int .i64 cd] 39)
  clear rS fS zS
  replace oS := oS.below hq
  replace hA := hA.below hq
  replace hB := hB.below hq
  replace hp := hp.below hq
  replace sg' := sg'.below hq
  replace sh' := sh'.below hq
  replace hy := below_to hy hq
  clear hq
  obtain ⟨bC, hbC⟩ : ∃ b, b = x2.heap.size := ⟨_, rfl⟩
  rw [← hbC] at oC ⊢
  clear hbC
  generalize x2.alloc (.cells #[.int .i64 cn, .int .i64 cd] 39) = x3 at *
  obtain ⟨rS, fS⟩ := oS.rules
  have zS := oS.lt
  obtain ⟨rC, fC⟩ := oC.rules
  have zC := oC.lt
  go_wp2_with fail
  refine (nval_as A B p _ _ _ _ _ hA hB hp IP.out HV.out).mono ?_
  rintro e x4 ⟨rfl, hq⟩
  clear rS fS zS rC fC zC
  replace oS := oS.below hq
  replace oC := oC.below hq
  replace sg' := sg'.below hq
  replace sh' := sh'.below hq
  replace hy := below_to hy hq
  clear hq
  obtain ⟨rS, fS⟩ := oS.rules
  have zS := oS.lt
  obtain ⟨rC, fC⟩ := oC.rules
  have zC := oC.lt
  clear hA hB hp
  go_upto_region 14 with fail
  have oV := Own.new x4 39 [.int .i64 vn, .int .i64 vd]
  have hq := ba1 x4 (.cells #[.int .i64 vn, .int .i64 vd] 39)
  clear rS fS zS rC fC zC
  replace oS := oS.below hq
  replace oC := oC.below hq
  replace sg' := sg'.below hq
  replace sh' := sh'.below hq
  replace hy := below_to hy hq
  clear hq
  obtain ⟨bV, hbV⟩ : ∃ b, b = x4.heap.size := ⟨_, rfl⟩
  rw [← hbV] at oV ⊢
  clear hbV
  generalize x4.alloc (.cells #[.int .i64 vn, .int .i64 vd] 39) = x5 at *
  obtain ⟨rS, fS⟩ := oS.rules
  have zS := oS.lt
  obtain ⟨rC, fC⟩ := oC.rules
  have zC := oC.lt
  obtain ⟨rV, fV⟩ := oV.rules
  have zV := oV.lt
  have b1 : (ge != ge) = false := by simp
  have b2 : (oe != oe) = false := by simp
  have b3 : (ob != ob) = false := by simp
  go_wp2_with fail
  refine (rsame_true gl _ _ _ sg' sh').mono ?_
  rintro e x6 ⟨rfl, hq⟩
  clear rS fS zS rC fC zC rV fV zV
  replace oS := oS.below hq
  replace oC := oC.below hq
  replace oV := oV.below hq
  replace hy := below_to hy hq
  clear hq
  obtain ⟨rS, fS⟩ := oS.rules
  have zS := oS.lt
  obtain ⟨rC, fC⟩ := oC.rules
  have zC := oC.lt
  obtain ⟨rV, fV⟩ := oV.rules
  have zV := oV.lt
  clear sg' sh'
  rcases CP.out with ⟨h1, h2⟩ | ⟨h1, h2⟩ | ⟨h1, h2, h3⟩
  · obtain rfl : ce = ve := h2
    have q5 : (ce != 0) = true := by simpa using h1
    have q6 : (ce == ce) = true := by simp
    go_wp2
    go_ret
    exact ⟨by first | rfl | simp, hy⟩
  · obtain rfl : ce = 16 := h2
    obtain rfl : ve = 0 := h1
    go_wp2
    go_ret
    exact ⟨by first | rfl | simp, hy⟩
  · obtain rfl : ce = 0 := h2
    obtain rfl : ve = 0 := h1
    have ic := IC.out rfl
    go_wp2_with fail
    refine (fadd2_as cn cd cn cd _ _ ic.1 ic.2 ic.1 ic.2 h3).mono ?_
    rintro e x7 ⟨rfl, hq⟩
    clear rS fS zS rC fC zC rV fV zV
    replace oS := oS.below hq
    replace oC := oC.below hq
    replace oV := oV.below hq
    replace hy := below_to hy hq
    clear hq
    obtain ⟨rS, fS⟩ := oS.rules
    have zS := oS.lt
    obtain ⟨rC, fC⟩ := oC.rules
    have zC := oC.lt
    obtain ⟨rV, fV⟩ := oV.rules
    have zV := oV.lt
    go_upto_region 19 with fail
    have oT := Own.new x7 39 [.int .i64 vn, .int .i64 vd]
    have hq := ba1 x7 (.cells #[.int .i64 vn, .int .i64 vd] 39)
    clear rS fS zS rC fC zC rV fV zV
    replace oS := oS.below hq
    replace oC := oC.below hq
    replace oV := oV.below hq
    replace hy := below_to hy hq
    clear hq
    obtain ⟨bT, hbT⟩ : ∃ b, b = x7.heap.size := ⟨_, rfl⟩
    rw [← hbT] at oT ⊢
    clear hbT
    generalize x7.alloc (.cells #[.int .i64 vn, .int .i64 vd] 39) = x8 at *
    obtain ⟨rS, fS⟩ := oS.rules
    have zS := oS.lt
    obtain ⟨rC, fC⟩ := oC.rules
    have zC := oC.lt
    obtain ⟨rV, fV⟩ := oV.rules
    have zV := oV.lt
    obtain ⟨rT, fT⟩ := oT.rules
    have zT := oT.lt
    go_wp2
    go_ret
    exact ⟨by first | rfl | simp, hy⟩
end Go.Proofs.Ytfoemacgmehpiaa
