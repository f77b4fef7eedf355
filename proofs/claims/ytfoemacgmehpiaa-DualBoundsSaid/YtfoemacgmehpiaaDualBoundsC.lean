/- What is proved here: the law DualBounds returns true. Condition: a system and two slices of fractions that can be read, and a cost. -/
import Derived.Test.YtfoemacgmehpiaaC46
import Derived.Test.YtfoemacgmehpiaaC48
import Derived.Test.YtfoemacgmehpiaaC24
import Derived.Test.YtfoemacgmehpiaaC25
import Derived.Deep.DeepCutAuto
namespace Go.Proofs.Ytfoemacgmehpiaa
open Go.RowKit

set_option maxRecDepth 100000 in
set_option maxHeartbeats 16000000 in
theorem dualBounds_any (A : List (List Int)) (B : List Int) (c : Int) (x y : List (Int × Int)) (va vb vx vy : Value) (w : World) (hA : SS w va A) (hB : SI w vb B) (hx : SF w vx x) (ix : FI x) (hz : SF w vy y) (iz : FI y) :
    Calls Try.prog 7 #[.agg #[va, vb], .int .i64 c, vx, vy] w fun e w' => e = .returned (.bool true) ∧ Below w.heap.size w w' := by
  have IX := Lib.hid ix
  have IY := Lib.hid iz
  obtain ⟨adx, capx, rfl, hx1, hx2, _⟩ := hx.open
  obtain ⟨ady, capy, rfl, hy1, hy2, _⟩ := hz.open
  clear ix iz
  go_enter Try.func7, Try.ntmps7
  have oS := Own.new w 25 [va, vb]
  have hy := ba1 w (.cells #[va, vb] 25)
  replace hA := hA.below hy
  replace hB := hB.below hy
  replace hx := hx.below hy
  replace hz := hz.below hy
  obtain ⟨rS, fS⟩ := oS.rules
  have zS := oS.lt
  go_wp2_with fail
  refine (alive39_any _).mono ?_
  rintro e y1 ⟨rfl, hq⟩
  clear rS fS zS
  replace oS := oS.below hq
  replace hA := hA.below hq
  replace hB := hB.below hq
  replace hx := hx.below hq
  replace hz := hz.below hq
  replace hy := below_to hy hq
  clear hq
  obtain ⟨rS, fS⟩ := oS.rules
  have zS := oS.lt
  go_wp2_with fail
  refine (rngreat_any A B _ _ _ hA hB).mono ?_
  rintro e y2 ⟨rfl, hq⟩
  clear rS fS zS
  replace oS := oS.below hq
  replace hA := hA.below hq
  replace hB := hB.below hq
  replace hx := hx.below hq
  replace hz := hz.below hq
  replace hy := below_to hy hq
  clear hq
  obtain ⟨rS, fS⟩ := oS.rules
  have zS := oS.lt
  by_cases g1 : ngreat A B = true
  · rw [g1]
    clear g1 hA hB hx hz
    go_wp2
    go_ret
    exact ⟨by first | rfl | simp, hy⟩
  have g1' : ngreat A B = false := by simpa using g1
  rw [g1']
  clear g1 g1'
  go_wp2_with fail
  refine (rscheck_any A B c _ _ _ hA hB).mono ?_
  rintro e y3 ⟨rfl, hq⟩
  clear rS fS zS
  replace oS := oS.below hq
  replace hA := hA.below hq
  replace hB := hB.below hq
  replace hx := hx.below hq
  replace hz := hz.below hq
  replace hy := below_to hy hq
  clear hq
  obtain ⟨rS, fS⟩ := oS.rules
  have zS := oS.lt
  by_cases h0 : scheck A B c = 0
  case neg =>
    have q0 : (scheck A B c != 0) = true := by simpa using h0
    clear h0 hA hB hx hz
    go_wp2
    go_ret
    exact ⟨by first | rfl | simp, hy⟩
  rw [h0]
  by_cases g2 : 20 < (x.length : Int)
  · have q2 : decide (20 < (x.length : Int)) = true := by simpa using g2
    clear hA hB hx hz
    go_wp2
    go_ret
    exact ⟨by first | rfl | simp, hy⟩
  have q2 : decide (20 < (x.length : Int)) = false := by simpa using g2
  clear g2
  by_cases g3 : 20 < (y.length : Int)
  · have q3 : decide (20 < (y.length : Int)) = true := by simpa using g3
    clear hA hB hx hz
    go_wp2
    go_ret
    exact ⟨by first | rfl | simp, hy⟩
  have q3 : decide (20 < (y.length : Int)) = false := by simpa using g3
  clear g3
  obtain ⟨h9, c0, c1⟩ := scheck_of h0
  have HF := Lib.hid (fit_of h9)
  have hl1 := HF.out.rows.1
  have H0 := Lib.hid h0
  have H9 := Lib.hid h9
  have HI := Lib.hid (sol_FI (c := c) HF.out c0 c1)
  have HS : Hid (sSolve A B c = (nsol A B c (A.getD 0 []).length, nS A B c, 0)) := if_pos h0
  have SL := sol_s h0
  have HL : Hid (sCost A B c (nsol A B c (A.getD 0 []).length) = uf (qprice (fA A) (fB B) A.length (c : Rat) (nsx A B c))) := SL.cost
  have LC := Lib.hid (up_chk SL.cin)
  have PI := Lib.hid (point_iff (x := x) h9)
  clear h0 h9 c0 c1 SL
  by_cases hb : pointB (A.getD 0 []).length x = true
  case neg =>
    have hb' : pointB (A.getD 0 []).length x = false := by simpa using hb
    go_wp2_with fail
    refine (rnpt_as A x false _ _ _ _ hA hx IX.out hl1 hb').mono ?_
    rintro e z1 ⟨rfl, hq⟩
    clear rS fS zS
    replace oS := oS.below hq
    replace hA := hA.below hq
    replace hB := hB.below hq
    replace hx := hx.below hq
    replace hz := hz.below hq
    replace hy := below_to hy hq
    clear hq
    obtain ⟨rS, fS⟩ := oS.rules
    have zS := oS.lt
    clear hA hB hx hz
    go_wp2
    go_ret
    exact ⟨by first | rfl | simp, hy⟩
  have HP := Lib.hid (PI.out.2 hb)
  go_wp2_with fail
  refine (rnpt_as A x true _ _ _ _ hA hx IX.out hl1 hb).mono ?_
  rintro e y4 ⟨rfl, hq⟩
  clear rS fS zS
  replace oS := oS.below hq
  replace hA := hA.below hq
  replace hB := hB.below hq
  replace hx := hx.below hq
  replace hz := hz.below hq
  replace hy := below_to hy hq
  clear hq
  obtain ⟨rS, fS⟩ := oS.rules
  have zS := oS.lt
  clear hb PI
  by_cases hw : witB A.length y = true
  case neg =>
    have hw' : witB A.length y = false := by simpa using hw
    go_wp2_with fail
    refine (rdwt_as A y false _ _ _ _ hA hz IY.out hw').mono ?_
    rintro e z1 ⟨rfl, hq⟩
    clear rS fS zS
    replace oS := oS.below hq
    replace hA := hA.below hq
    replace hB := hB.below hq
    replace hx := hx.below hq
    replace hz := hz.below hq
    replace hy := below_to hy hq
    clear hq
    obtain ⟨rS, fS⟩ := oS.rules
    have zS := oS.lt
    clear hA hB hx hz
    go_wp2
    go_ret
    exact ⟨by first | rfl | simp, hy⟩
  have HW := Lib.hid hw
  go_wp2_with fail
  refine (rdwt_as A y true _ _ _ _ hA hz IY.out hw).mono ?_
  rintro e y5 ⟨rfl, hq⟩
  clear rS fS zS
  replace oS := oS.below hq
  replace hA := hA.below hq
  replace hB := hB.below hq
  replace hx := hx.below hq
  replace hz := hz.below hq
  replace hy := below_to hy hq
  clear hq
  obtain ⟨rS, fS⟩ := oS.rules
  have zS := oS.lt
  clear hw
  have FE := dfeas_err H0.out HW.out
  have WE := (dworth_val H9.out HW.out).1
  have CE := cost_err H0.out HP.out
  have DV := dgap_val H0.out HP.out HW.out
  have DE := DV.1
  have DC : Hid ((dgap A B c x y).e = 0 → (sCost A B c x).e = 0) := fun h => (DV.2.1 h).1
  have BF := Lib.hid (fun h1 h2 h3 => bounds_fact (x := x) H0.out HW.out h1 h2 h3)
  clear DV H9
  obtain ⟨F, hF⟩ : ∃ F, F = dfeas A B c y := ⟨_, rfl⟩
  obtain ⟨W, hW⟩ : ∃ W, W = dworth A B y := ⟨_, rfl⟩
  obtain ⟨C, hC⟩ : ∃ C, C = sCost A B c x := ⟨_, rfl⟩
  obtain ⟨D, hD⟩ : ∃ D, D = dgap A B c x y := ⟨_, rfl⟩
  rw [← hF] at FE BF
  rw [← hW] at WE BF
  rw [← hC] at CE DC BF
  rw [← hD] at DE DC BF
  have HFe := Lib.hid hF.symm
  have HWo := Lib.hid hW.symm
  have HC := Lib.hid hC.symm
  have HD := Lib.hid hD.symm
  clear hF hW hC hD
  obtain ⟨fb, fe⟩ := F
  obtain ⟨wn, wd, we⟩ := W
  obtain ⟨cn, cd, ce⟩ := C
  obtain ⟨dn, dd, de⟩ := D
  simp only at FE WE CE DE DC BF
  have HP2 := Lib.hid (BF.out)
  clear BF
  go_wp2_with fail
  refine (dfeas_as A B c y _ _ _ _ _ hA hB hz IY.out HFe.out).mono ?_
  rintro e y6 ⟨rfl, hq⟩
  clear rS fS zS
  replace oS := oS.below hq
  replace hA := hA.below hq
  replace hB := hB.below hq
  replace hx := hx.below hq
  replace hz := hz.below hq
  replace hy := below_to hy hq
  clear hq
  obtain ⟨rS, fS⟩ := oS.rules
  have zS := oS.lt
  go_wp2_with fail
  refine (dworth_as A B y _ _ _ _ _ hA hB hz IY.out HWo.out).mono ?_
  rintro e y7 ⟨rfl, hq⟩
  clear rS fS zS
  replace oS := oS.below hq
  replace hA := hA.below hq
  replace hB := hB.below hq
  replace hx := hx.below hq
  replace hz := hz.below hq
  replace hy := below_to hy hq
  clear hq
  obtain ⟨rS, fS⟩ := oS.rules
  have zS := oS.lt
  go_upto_region 6 with fail
  have oW := Own.new y7 39 [.int .i64 wn, .int .i64 wd]
  have hq := ba1 y7 (.cells #[.int .i64 wn, .int .i64 wd] 39)
  clear rS fS zS
  replace oS := oS.below hq
  replace hA := hA.below hq
  replace hB := hB.below hq
  replace hx := hx.below hq
  replace hz := hz.below hq
  replace hy := below_to hy hq
  clear hq
  obtain ⟨bW, hbW⟩ : ∃ b, b = y7.heap.size := ⟨_, rfl⟩
  rw [← hbW] at oW ⊢
  clear hbW
  generalize y7.alloc (.cells #[.int .i64 wn, .int .i64 wd] 39) = y8 at *
  obtain ⟨rS, fS⟩ := oS.rules
  have zS := oS.lt
  obtain ⟨rW, fW⟩ := oW.rules
  have zW := oW.lt
  go_wp2_with fail
  refine (ranged_ok fe FE _).mono ?_
  rintro e y9 ⟨rfl, hq⟩
  clear rS fS zS rW fW zW
  replace oS := oS.below hq
  replace oW := oW.below hq
  replace hA := hA.below hq
  replace hB := hB.below hq
  replace hx := hx.below hq
  replace hz := hz.below hq
  replace hy := below_to hy hq
  clear hq
  obtain ⟨rS, fS⟩ := oS.rules
  have zS := oS.lt
  obtain ⟨rW, fW⟩ := oW.rules
  have zW := oW.lt
  go_wp2_with fail
  refine (ranged_ok we WE _).mono ?_
  rintro e u1 ⟨rfl, hq⟩
  clear rS fS zS rW fW zW
  replace oS := oS.below hq
  replace oW := oW.below hq
  replace hA := hA.below hq
  replace hB := hB.below hq
  replace hx := hx.below hq
  replace hz := hz.below hq
  replace hy := below_to hy hq
  clear hq
  obtain ⟨rS, fS⟩ := oS.rules
  have zS := oS.lt
  obtain ⟨rW, fW⟩ := oW.rules
  have zW := oW.lt
  rcases FE with rfl | rfl
  case inr =>
    clear hA hB hx hz
    go_wp2
    go_ret
    exact ⟨by first | rfl | simp, hy⟩
  rcases WE with rfl | rfl
  case inr =>
    clear hA hB hx hz
    go_wp2
    go_ret
    exact ⟨by first | rfl | simp, hy⟩
  cases fb
  case false =>
    clear hA hB hx hz
    go_wp2
    go_ret
    exact ⟨by first | rfl | simp, hy⟩
  obtain ⟨b1, b2, b3⟩ := HP2.out rfl rfl rfl
  have B1 := Lib.hid b1
  have B3 := Lib.hid (b3 HP.out)
  clear HP2 b1 b3
  unfold uf at HL
  unfold up at LC
  simp only at LC
  generalize qprice (fA A) (fB B) A.length (c : Rat) (nsx A B c) = lq at *
  generalize lq.num = ln at *
  generalize (lq.den : Int) = ld at *
  obtain ⟨m1, hm1⟩ : ∃ z, z = fcmp wn wd ln ld := ⟨_, rfl⟩
  rw [← hm1] at b2
  have M1 := Lib.hid hm1.symm
  clear hm1
  have q5 : decide (0 < m1) = false := by simpa using b2
  clear b2
  generalize nS A B c = st at *
  generalize nsol A B c (A.getD 0 []).length = X at *
  go_wp2_with fail
  refine (scost_as A B c x _ _ _ _ _ hA hB hx IX.out HC.out).mono ?_
  rintro e u2 ⟨rfl, hq⟩
  clear rS fS zS rW fW zW
  replace oS := oS.below hq
  replace oW := oW.below hq
  replace hA := hA.below hq
  replace hB := hB.below hq
  replace hx := hx.below hq
  replace hz := hz.below hq
  replace hy := below_to hy hq
  clear hq
  obtain ⟨rS, fS⟩ := oS.rules
  have zS := oS.lt
  obtain ⟨rW, fW⟩ := oW.rules
  have zW := oW.lt
  go_upto_region 11 with fail
  have oC := Own.new u2 39 [.int .i64 cn, .int .i64 cd]
  have hq := ba1 u2 (.cells #[.int .i64 cn, .int .i64 cd] 39)
  clear rS fS zS rW fW zW
  replace oS := oS.below hq
  replace oW := oW.below hq
  replace hA := hA.below hq
  replace hB := hB.below hq
  replace hx := hx.below hq
  replace hz := hz.below hq
  replace hy := below_to hy hq
  clear hq
  obtain ⟨bC, hbC⟩ : ∃ b, b = u2.heap.size := ⟨_, rfl⟩
  rw [← hbC] at oC ⊢
  clear hbC
  generalize u2.alloc (.cells #[.int .i64 cn, .int .i64 cd] 39) = u3 at *
  obtain ⟨rS, fS⟩ := oS.rules
  have zS := oS.lt
  obtain ⟨rW, fW⟩ := oW.rules
  have zW := oW.lt
  obtain ⟨rC, fC⟩ := oC.rules
  have zC := oC.lt
  go_wp2_with fail
  refine (dgap_as A B c x y _ _ _ _ _ _ hA hB hx IX.out hz IY.out HD.out).mono ?_
  rintro e u4 ⟨rfl, hq⟩
  clear rS fS zS rW fW zW rC fC zC
  replace oS := oS.below hq
  replace oW := oW.below hq
  replace oC := oC.below hq
  replace hA := hA.below hq
  replace hB := hB.below hq
  replace hy := below_to hy hq
  clear hq
  obtain ⟨rS, fS⟩ := oS.rules
  have zS := oS.lt
  obtain ⟨rW, fW⟩ := oW.rules
  have zW := oW.lt
  obtain ⟨rC, fC⟩ := oC.rules
  have zC := oC.lt
  clear hx hz
  go_upto_region 12 with fail
  have oD := Own.new u4 39 [.int .i64 dn, .int .i64 dd]
  have hq := ba1 u4 (.cells #[.int .i64 dn, .int .i64 dd] 39)
  clear rS fS zS rW fW zW rC fC zC
  replace oS := oS.below hq
  replace oW := oW.below hq
  replace oC := oC.below hq
  replace hA := hA.below hq
  replace hB := hB.below hq
  replace hy := below_to hy hq
  clear hq
  obtain ⟨bD, hbD⟩ : ∃ b, b = u4.heap.size := ⟨_, rfl⟩
  rw [← hbD] at oD ⊢
  clear hbD
  generalize u4.alloc (.cells #[.int .i64 dn, .int .i64 dd] 39) = u5 at *
  obtain ⟨rS, fS⟩ := oS.rules
  have zS := oS.lt
  obtain ⟨rW, fW⟩ := oW.rules
  have zW := oW.lt
  obtain ⟨rC, fC⟩ := oC.rules
  have zC := oC.lt
  obtain ⟨rD, fD⟩ := oD.rules
  have zD := oD.lt
  go_wp2_with fail
  refine (ranged_ok ce CE _).mono ?_
  rintro e u6 ⟨rfl, hq⟩
  clear rS fS zS rW fW zW rC fC zC rD fD zD
  replace oS := oS.below hq
  replace oW := oW.below hq
  replace oC := oC.below hq
  replace oD := oD.below hq
  replace hA := hA.below hq
  replace hB := hB.below hq
  replace hy := below_to hy hq
  clear hq
  obtain ⟨rS, fS⟩ := oS.rules
  have zS := oS.lt
  obtain ⟨rW, fW⟩ := oW.rules
  have zW := oW.lt
  obtain ⟨rC, fC⟩ := oC.rules
  have zC := oC.lt
  obtain ⟨rD, fD⟩ := oD.rules
  have zD := oD.lt
  go_wp2_with fail
  refine (ranged_ok de DE _).mono ?_
  rintro e u7 ⟨rfl, hq⟩
  clear rS fS zS rW fW zW rC fC zC rD fD zD
  replace oS := oS.below hq
  replace oW := oW.below hq
  replace oC := oC.below hq
  replace oD := oD.below hq
  replace hA := hA.below hq
  replace hB := hB.below hq
  replace hy := below_to hy hq
  clear hq
  obtain ⟨rS, fS⟩ := oS.rules
  have zS := oS.lt
  obtain ⟨rW, fW⟩ := oW.rules
  have zW := oW.lt
  obtain ⟨rC, fC⟩ := oC.rules
  have zC := oC.lt
  obtain ⟨rD, fD⟩ := oD.rules
  have zD := oD.lt
  rcases DE with rfl | rfl
  case inr =>
    rcases CE with rfl | rfl
    case inl =>
      go_wp2_with fail
      refine (spsolve_as A B c _ _ _ _ hA hB HS.out).mono ?_
      rintro e v1 ⟨u, rfl, sx, hq⟩
      clear rS fS zS rW fW zW rC fC zC rD fD zD
      replace oS := oS.below hq
      replace oW := oW.below hq
      replace oC := oC.below hq
      replace oD := oD.below hq
      replace hA := hA.below hq
      replace hB := hB.below hq
      replace hy := below_to hy hq
      clear hq
      obtain ⟨rS, fS⟩ := oS.rules
      have zS := oS.lt
      obtain ⟨rW, fW⟩ := oW.rules
      have zW := oW.lt
      obtain ⟨rC, fC⟩ := oC.rules
      have zC := oC.lt
      obtain ⟨rD, fD⟩ := oD.rules
      have zD := oD.lt
      have sx' : SF v1 u X := sx
      clear sx
      go_wp2_with fail
      refine (scost_as A B c X _ _ _ _ _ hA hB sx' HI.out HL.out).mono ?_
      rintro e v2 ⟨rfl, hq⟩
      clear rS fS zS rW fW zW rC fC zC rD fD zD
      replace oS := oS.below hq
      replace oW := oW.below hq
      replace oC := oC.below hq
      replace oD := oD.below hq
      replace hy := below_to hy hq
      clear hq
      obtain ⟨rS, fS⟩ := oS.rules
      have zS := oS.lt
      obtain ⟨rW, fW⟩ := oW.rules
      have zW := oW.lt
      obtain ⟨rC, fC⟩ := oC.rules
      have zC := oC.lt
      obtain ⟨rD, fD⟩ := oD.rules
      have zD := oD.lt
      clear hA hB sx'
      go_upto_region 16 with fail
      have oL := Own.new v2 39 [.int .i64 ln, .int .i64 ld]
      have hq := ba1 v2 (.cells #[.int .i64 ln, .int .i64 ld] 39)
      clear rS fS zS rW fW zW rC fC zC rD fD zD
      replace oS := oS.below hq
      replace oW := oW.below hq
      replace oC := oC.below hq
      replace oD := oD.below hq
      replace hy := below_to hy hq
      clear hq
      obtain ⟨bL, hbL⟩ : ∃ b, b = v2.heap.size := ⟨_, rfl⟩
      rw [← hbL] at oL ⊢
      clear hbL
      generalize v2.alloc (.cells #[.int .i64 ln, .int .i64 ld] 39) = v3 at *
      obtain ⟨rS, fS⟩ := oS.rules
      have zS := oS.lt
      obtain ⟨rW, fW⟩ := oW.rules
      have zW := oW.lt
      obtain ⟨rC, fC⟩ := oC.rules
      have zC := oC.lt
      obtain ⟨rD, fD⟩ := oD.rules
      have zD := oD.lt
      obtain ⟨rL, fL⟩ := oL.rules
      have zL := oL.lt
      go_wp2_with fail
      refine (cmp_as wn wd ln ld _ B1.out LC.out).mono ?_
      rintro e v4 ⟨rfl, hq⟩
      clear rS fS zS rW fW zW rC fC zC rD fD zD rL fL zL
      replace oS := oS.below hq
      replace oW := oW.below hq
      replace oC := oC.below hq
      replace oD := oD.below hq
      replace oL := oL.below hq
      replace hy := below_to hy hq
      clear hq
      obtain ⟨rS, fS⟩ := oS.rules
      have zS := oS.lt
      obtain ⟨rW, fW⟩ := oW.rules
      have zW := oW.lt
      obtain ⟨rC, fC⟩ := oC.rules
      have zC := oC.lt
      obtain ⟨rD, fD⟩ := oD.rules
      have zD := oD.lt
      obtain ⟨rL, fL⟩ := oL.rules
      have zL := oL.lt
      rw [M1.out]
      go_wp2
      go_ret
      exact ⟨by first | rfl | simp, hy⟩
    case inr =>
      go_wp2_with fail
      refine (spsolve_as A B c _ _ _ _ hA hB HS.out).mono ?_
      rintro e v1 ⟨u, rfl, sx, hq⟩
      clear rS fS zS rW fW zW rC fC zC rD fD zD
      replace oS := oS.below hq
      replace oW := oW.below hq
      replace oC := oC.below hq
      replace oD := oD.below hq
      replace hA := hA.below hq
      replace hB := hB.below hq
      replace hy := below_to hy hq
      clear hq
      obtain ⟨rS, fS⟩ := oS.rules
      have zS := oS.lt
      obtain ⟨rW, fW⟩ := oW.rules
      have zW := oW.lt
      obtain ⟨rC, fC⟩ := oC.rules
      have zC := oC.lt
      obtain ⟨rD, fD⟩ := oD.rules
      have zD := oD.lt
      have sx' : SF v1 u X := sx
      clear sx
      go_wp2_with fail
      refine (scost_as A B c X _ _ _ _ _ hA hB sx' HI.out HL.out).mono ?_
      rintro e v2 ⟨rfl, hq⟩
      clear rS fS zS rW fW zW rC fC zC rD fD zD
      replace oS := oS.below hq
      replace oW := oW.below hq
      replace oC := oC.below hq
      replace oD := oD.below hq
      replace hy := below_to hy hq
      clear hq
      obtain ⟨rS, fS⟩ := oS.rules
      have zS := oS.lt
      obtain ⟨rW, fW⟩ := oW.rules
      have zW := oW.lt
      obtain ⟨rC, fC⟩ := oC.rules
      have zC := oC.lt
      obtain ⟨rD, fD⟩ := oD.rules
      have zD := oD.lt
      clear hA hB sx'
      go_upto_region 16 with fail
      have oL := Own.new v2 39 [.int .i64 ln, .int .i64 ld]
      have hq := ba1 v2 (.cells #[.int .i64 ln, .int .i64 ld] 39)
      clear rS fS zS rW fW zW rC fC zC rD fD zD
      replace oS := oS.below hq
      replace oW := oW.below hq
      replace oC := oC.below hq
      replace oD := oD.below hq
      replace hy := below_to hy hq
      clear hq
      obtain ⟨bL, hbL⟩ : ∃ b, b = v2.heap.size := ⟨_, rfl⟩
      rw [← hbL] at oL ⊢
      clear hbL
      generalize v2.alloc (.cells #[.int .i64 ln, .int .i64 ld] 39) = v3 at *
      obtain ⟨rS, fS⟩ := oS.rules
      have zS := oS.lt
      obtain ⟨rW, fW⟩ := oW.rules
      have zW := oW.lt
      obtain ⟨rC, fC⟩ := oC.rules
      have zC := oC.lt
      obtain ⟨rD, fD⟩ := oD.rules
      have zD := oD.lt
      obtain ⟨rL, fL⟩ := oL.rules
      have zL := oL.lt
      go_wp2_with fail
      refine (cmp_as wn wd ln ld _ B1.out LC.out).mono ?_
      rintro e v4 ⟨rfl, hq⟩
      clear rS fS zS rW fW zW rC fC zC rD fD zD rL fL zL
      replace oS := oS.below hq
      replace oW := oW.below hq
      replace oC := oC.below hq
      replace oD := oD.below hq
      replace oL := oL.below hq
      replace hy := below_to hy hq
      clear hq
      obtain ⟨rS, fS⟩ := oS.rules
      have zS := oS.lt
      obtain ⟨rW, fW⟩ := oW.rules
      have zW := oW.lt
      obtain ⟨rC, fC⟩ := oC.rules
      have zC := oC.lt
      obtain ⟨rD, fD⟩ := oD.rules
      have zD := oD.lt
      obtain ⟨rL, fL⟩ := oL.rules
      have zL := oL.lt
      rw [M1.out]
      go_wp2
      go_ret
      exact ⟨by first | rfl | simp, hy⟩
  obtain rfl : ce = 0 := DC.out rfl
  clear CE DC
  go_wp2_with fail
  refine (spsolve_as A B c _ _ _ _ hA hB HS.out).mono ?_
  rintro e v1 ⟨u, rfl, sx, hq⟩
  clear rS fS zS rW fW zW rC fC zC rD fD zD
  replace oS := oS.below hq
  replace oW := oW.below hq
  replace oC := oC.below hq
  replace oD := oD.below hq
  replace hA := hA.below hq
  replace hB := hB.below hq
  replace hy := below_to hy hq
  clear hq
  obtain ⟨rS, fS⟩ := oS.rules
  have zS := oS.lt
  obtain ⟨rW, fW⟩ := oW.rules
  have zW := oW.lt
  obtain ⟨rC, fC⟩ := oC.rules
  have zC := oC.lt
  obtain ⟨rD, fD⟩ := oD.rules
  have zD := oD.lt
  have sx' : SF v1 u X := sx
  clear sx
  go_wp2_with fail
  refine (scost_as A B c X _ _ _ _ _ hA hB sx' HI.out HL.out).mono ?_
  rintro e v2 ⟨rfl, hq⟩
  clear rS fS zS rW fW zW rC fC zC rD fD zD
  replace oS := oS.below hq
  replace oW := oW.below hq
  replace oC := oC.below hq
  replace oD := oD.below hq
  replace hy := below_to hy hq
  clear hq
  obtain ⟨rS, fS⟩ := oS.rules
  have zS := oS.lt
  obtain ⟨rW, fW⟩ := oW.rules
  have zW := oW.lt
  obtain ⟨rC, fC⟩ := oC.rules
  have zC := oC.lt
  obtain ⟨rD, fD⟩ := oD.rules
  have zD := oD.lt
  clear hA hB sx'
  go_upto_region 16 with fail
  have oL := Own.new v2 39 [.int .i64 ln, .int .i64 ld]
  have hq := ba1 v2 (.cells #[.int .i64 ln, .int .i64 ld] 39)
  clear rS fS zS rW fW zW rC fC zC rD fD zD
  replace oS := oS.below hq
  replace oW := oW.below hq
  replace oC := oC.below hq
  replace oD := oD.below hq
  replace hy := below_to hy hq
  clear hq
  obtain ⟨bL, hbL⟩ : ∃ b, b = v2.heap.size := ⟨_, rfl⟩
  rw [← hbL] at oL ⊢
  clear hbL
  generalize v2.alloc (.cells #[.int .i64 ln, .int .i64 ld] 39) = v3 at *
  obtain ⟨rS, fS⟩ := oS.rules
  have zS := oS.lt
  obtain ⟨rW, fW⟩ := oW.rules
  have zW := oW.lt
  obtain ⟨rC, fC⟩ := oC.rules
  have zC := oC.lt
  obtain ⟨rD, fD⟩ := oD.rules
  have zD := oD.lt
  obtain ⟨rL, fL⟩ := oL.rules
  have zL := oL.lt
  go_wp2_with fail
  refine (cmp_as wn wd ln ld _ B1.out LC.out).mono ?_
  rintro e v4 ⟨rfl, hq⟩
  clear rS fS zS rW fW zW rC fC zC rD fD zD rL fL zL
  replace oS := oS.below hq
  replace oW := oW.below hq
  replace oC := oC.below hq
  replace oD := oD.below hq
  replace oL := oL.below hq
  replace hy := below_to hy hq
  clear hq
  obtain ⟨rS, fS⟩ := oS.rules
  have zS := oS.lt
  obtain ⟨rW, fW⟩ := oW.rules
  have zW := oW.lt
  obtain ⟨rC, fC⟩ := oC.rules
  have zC := oC.lt
  obtain ⟨rD, fD⟩ := oD.rules
  have zD := oD.lt
  obtain ⟨rL, fL⟩ := oL.rules
  have zL := oL.lt
  rw [M1.out]
  have b4 := B3.out (by simp) (by simp)
  obtain ⟨e1, e2, e3, e4⟩ := b4
  have E1 := Lib.hid e1
  obtain ⟨m2, hm2⟩ : ∃ z, z = fcmp wn wd cn cd := ⟨_, rfl⟩
  rw [← hm2] at e2
  have M2 := Lib.hid hm2.symm
  have E4 := Lib.hid e4
  have q6 : decide (m2 ≤ 0) = true := by simpa using e2
  have q7 : decide (0 ≤ dn) = true := by simpa using e3
  clear e1 e2 e3 e4 hm2 B3
  go_wp2_with fail
  refine (cmp_as wn wd cn cd _ B1.out E1.out).mono ?_
  rintro e v5 ⟨rfl, hq⟩
  clear rS fS zS rW fW zW rC fC zC rD fD zD rL fL zL
  replace oS := oS.below hq
  replace oW := oW.below hq
  replace oC := oC.below hq
  replace oD := oD.below hq
  replace oL := oL.below hq
  replace hy := below_to hy hq
  clear hq
  obtain ⟨rS, fS⟩ := oS.rules
  have zS := oS.lt
  obtain ⟨rW, fW⟩ := oW.rules
  have zW := oW.lt
  obtain ⟨rC, fC⟩ := oC.rules
  have zC := oC.lt
  obtain ⟨rD, fD⟩ := oD.rules
  have zD := oD.lt
  obtain ⟨rL, fL⟩ := oL.rules
  have zL := oL.lt
  rw [M2.out]
  go_wp2_with fail
  refine (fsub_as cn cd wn wd _ _ E1.out B1.out E4.out).mono ?_
  rintro e v6 ⟨rfl, hq⟩
  clear rS fS zS rW fW zW rC fC zC rD fD zD rL fL zL
  replace oS := oS.below hq
  replace oW := oW.below hq
  replace oC := oC.below hq
  replace oD := oD.below hq
  replace oL := oL.below hq
  replace hy := below_to hy hq
  clear hq
  obtain ⟨rS, fS⟩ := oS.rules
  have zS := oS.lt
  obtain ⟨rW, fW⟩ := oW.rules
  have zW := oW.lt
  obtain ⟨rC, fC⟩ := oC.rules
  have zC := oC.lt
  obtain ⟨rD, fD⟩ := oD.rules
  have zD := oD.lt
  obtain ⟨rL, fL⟩ := oL.rules
  have zL := oL.lt
  go_upto_region 23 with fail
  have oT := Own.new v6 39 [.int .i64 dn, .int .i64 dd]
  have hq := ba1 v6 (.cells #[.int .i64 dn, .int .i64 dd] 39)
  clear rS fS zS rW fW zW rC fC zC rD fD zD rL fL zL
  replace oS := oS.below hq
  replace oW := oW.below hq
  replace oC := oC.below hq
  replace oD := oD.below hq
  replace oL := oL.below hq
  replace hy := below_to hy hq
  clear hq
  obtain ⟨bT, hbT⟩ : ∃ b, b = v6.heap.size := ⟨_, rfl⟩
  rw [← hbT] at oT ⊢
  clear hbT
  generalize v6.alloc (.cells #[.int .i64 dn, .int .i64 dd] 39) = v7 at *
  obtain ⟨rS, fS⟩ := oS.rules
  have zS := oS.lt
  obtain ⟨rW, fW⟩ := oW.rules
  have zW := oW.lt
  obtain ⟨rC, fC⟩ := oC.rules
  have zC := oC.lt
  obtain ⟨rD, fD⟩ := oD.rules
  have zD := oD.lt
  obtain ⟨rL, fL⟩ := oL.rules
  have zL := oL.lt
  obtain ⟨rT, fT⟩ := oT.rules
  have zT := oT.lt
  go_wp2
  go_ret
  exact ⟨by first | rfl | simp, hy⟩
end Go.Proofs.Ytfoemacgmehpiaa
