/- What is proved here: the law DualMade returns true. Condition: a system and a slice of fractions that can be read, a cost, and two numbers of 64 bits. -/
import Derived.Test.YtfoemacgmehpiaaC46
import Derived.Test.YtfoemacgmehpiaaC48
import Derived.Test.YtfoemacgmehpiaaC24
import Derived.Test.YtfoemacgmehpiaaC49
import Derived.Test.YtfoemacgmehpiaaC47
import Derived.Test.YtfoemacgmehpiaaC25
import Derived.Deep.DeepCutAuto
namespace Go.Proofs.Ytfoemacgmehpiaa
open Go.RowKit

theorem dmake2_as (A : List (List Int)) (B : List Int) (c : Int) (x : List (Int × Int)) (r : List (Int × Int) × Int) (va vb vx : Value) (w : World) (hA : SS w va A) (hB : SI w vb B) (hx : SF w vx x) (ix : FI x) (hr : dMake A B c x = r) :
    Calls Try.prog 42 #[.agg #[va, vb], .int .i64 c, vx] w (rows_post w r) := by
  subst hr; exact dmake_any A B c x va vb vx w hA hB hx ix
theorem FI_wit {m : Nat} {x : List (Int × Int)} (hw : witB m x = true) : FI x := fun p hp => by
  obtain ⟨i, hi, rfl⟩ := List.getElem_of_mem hp
  exact fr_i64 ((witB_of hw).2 i hi)
set_option maxRecDepth 100000 in
set_option maxHeartbeats 16000000 in
theorem dualMade_any (A : List (List Int)) (B : List Int) (c : Int) (x : List (Int × Int)) (on od : Int) (va vb vx : Value) (w : World) (hA : SS w va A) (hB : SI w vb B) (hx : SF w vx x) (ix : FI x) (ig : i64 on) (ih : i64 od) :
    Calls Try.prog 8 #[.agg #[va, vb], .int .i64 c, vx, .agg #[.int .i64 on, .int .i64 od]] w fun e w' => e = .returned (.bool true) ∧ Below w.heap.size w w' := by
  have IX := Lib.hid ix
  have IG := Lib.hid ig
  have IH := Lib.hid ih
  obtain ⟨adx, capx, rfl, hx1, hx2, _⟩ := hx.open
  clear ix ig ih
  go_enter Try.func8, Try.ntmps8
  have oS := own_first w 25 [va, vb] (.cells #[.int .i64 on, .int .i64 od] 39)
  have oT := own_second w 39 [.int .i64 on, .int .i64 od] (.cells #[va, vb] 25)
  have hy := ba2 w (.cells #[va, vb] 25) (.cells #[.int .i64 on, .int .i64 od] 39)
  replace hA := hA.below hy
  replace hB := hB.below hy
  replace hx := hx.below hy
  obtain ⟨rS, fS⟩ := oS.rules
  have zS := oS.lt
  obtain ⟨rT, fT⟩ := oT.rules
  have zT := oT.lt
  go_wp2_with fail
  refine (alive39_any _).mono ?_
  rintro e y1 ⟨rfl, hq⟩
  clear rS fS zS rT fT zT
  replace oS := oS.below hq
  replace oT := oT.below hq
  replace hA := hA.below hq
  replace hB := hB.below hq
  replace hx := hx.below hq
  replace hy := below_to hy hq
  clear hq
  obtain ⟨rS, fS⟩ := oS.rules
  have zS := oS.lt
  obtain ⟨rT, fT⟩ := oT.rules
  have zT := oT.lt
  go_wp2_with fail
  refine (rngreat_any A B _ _ _ hA hB).mono ?_
  rintro e y2 ⟨rfl, hq⟩
  clear rS fS zS rT fT zT
  replace oS := oS.below hq
  replace oT := oT.below hq
  replace hA := hA.below hq
  replace hB := hB.below hq
  replace hx := hx.below hq
  replace hy := below_to hy hq
  clear hq
  obtain ⟨rS, fS⟩ := oS.rules
  have zS := oS.lt
  obtain ⟨rT, fT⟩ := oT.rules
  have zT := oT.lt
  by_cases g1 : ngreat A B = true
  · rw [g1]
    clear g1 hA hB hx
    go_wp2
    go_ret
    exact ⟨by first | rfl | simp, hy⟩
  have g1' : ngreat A B = false := by simpa using g1
  rw [g1']
  clear g1 g1'
  go_wp2_with fail
  refine (rscheck_any A B c _ _ _ hA hB).mono ?_
  rintro e y3 ⟨rfl, hq⟩
  clear rS fS zS rT fT zT
  replace oS := oS.below hq
  replace oT := oT.below hq
  replace hA := hA.below hq
  replace hB := hB.below hq
  replace hx := hx.below hq
  replace hy := below_to hy hq
  clear hq
  obtain ⟨rS, fS⟩ := oS.rules
  have zS := oS.lt
  obtain ⟨rT, fT⟩ := oT.rules
  have zT := oT.lt
  by_cases h0 : scheck A B c = 0
  case neg =>
    have q0 : (scheck A B c != 0) = true := by simpa using h0
    clear h0 hA hB hx
    go_wp2
    go_ret
    exact ⟨by first | rfl | simp, hy⟩
  rw [h0]
  by_cases g2 : 20 < (x.length : Int)
  · have q2 : decide (20 < (x.length : Int)) = true := by simpa using g2
    clear hA hB hx
    go_wp2
    go_ret
    exact ⟨by first | rfl | simp, hy⟩
  have q2 : decide (20 < (x.length : Int)) = false := by simpa using g2
  clear g2
  obtain ⟨h9, c0, c1⟩ := scheck_of h0
  have HF := Lib.hid (fit_of h9)
  have hl1 := HF.out.rows.1
  have H0 := Lib.hid h0
  have HI := Lib.hid (sol_FI (c := c) HF.out c0 c1)
  have HS : Hid (sSolve A B c = (nsol A B c (A.getD 0 []).length, nS A B c, 0)) := if_pos h0
  have SL := sol_s h0
  have HL : Hid (sCost A B c (nsol A B c (A.getD 0 []).length) = uf (qprice (fA A) (fB B) A.length (c : Rat) (nsx A B c))) := SL.cost
  have LC := Lib.hid (up_chk SL.cin)
  have PI := Lib.hid (point_iff (x := x) h9)
  clear h0 h9 c0 c1 SL
  by_cases hb : pointB (A.getD 0 []).length x = true
  case neg =>
    have hb' : pointB (A.getD 0 []).length x = false := by simpa using hb
    go_wp2_with fail
    refine (rnpt_as A x false _ _ _ _ hA hx IX.out hl1 hb').mono ?_
    rintro e z1 ⟨rfl, hq⟩
    clear rS fS zS rT fT zT
    replace oS := oS.below hq
    replace oT := oT.below hq
    replace hA := hA.below hq
    replace hB := hB.below hq
    replace hx := hx.below hq
    replace hy := below_to hy hq
    clear hq
    obtain ⟨rS, fS⟩ := oS.rules
    have zS := oS.lt
    obtain ⟨rT, fT⟩ := oT.rules
    have zT := oT.lt
    clear hA hB hx
    go_wp2
    go_ret
    exact ⟨by first | rfl | simp, hy⟩
  have HP := Lib.hid (PI.out.2 hb)
  go_wp2_with fail
  refine (rnpt_as A x true _ _ _ _ hA hx IX.out hl1 hb).mono ?_
  rintro e y4 ⟨rfl, hq⟩
  clear rS fS zS rT fT zT
  replace oS := oS.below hq
  replace oT := oT.below hq
  replace hA := hA.below hq
  replace hB := hB.below hq
  replace hx := hx.below hq
  replace hy := below_to hy hq
  clear hq
  obtain ⟨rS, fS⟩ := oS.rules
  have zS := oS.lt
  obtain ⟨rT, fT⟩ := oT.rules
  have zT := oT.lt
  clear hb PI
  have MF := made_fact H0.out HP.out
  obtain ⟨M, hM⟩ : ∃ M, M = dMake A B c x := ⟨_, rfl⟩
  rw [← hM] at MF
  have HM := Lib.hid hM.symm
  clear hM
  obtain ⟨y, me⟩ := M
  simp only at MF
  obtain ⟨ME, MF⟩ := MF
  have MG := Lib.hid MF
  clear MF
  go_wp2_with fail
  refine (dmake2_as A B c x _ _ _ _ _ hA hB hx IX.out HM.out).mono ?_
  rintro e y5 ⟨v, rfl, sz, hq⟩
  clear rS fS zS rT fT zT
  replace oS := oS.below hq
  replace oT := oT.below hq
  replace hA := hA.below hq
  replace hB := hB.below hq
  replace hx := hx.below hq
  replace hy := below_to hy hq
  clear hq
  obtain ⟨rS, fS⟩ := oS.rules
  have zS := oS.lt
  obtain ⟨rT, fT⟩ := oT.rules
  have zT := oT.lt
  have hz : SF y5 v y := sz
  clear sz
  rcases ME with rfl | rfl
  case inr =>
    clear hA hB hx hz
    go_wp2
    go_ret
    exact ⟨by first | rfl | simp, hy⟩
  obtain ⟨hw, MH⟩ := MG.out (by simp)
  have HW := Lib.hid hw
  have IY := Lib.hid (FI_wit hw)
  have MI := Lib.hid MH
  clear MG hw MH
  have FE := dfeas_err H0.out HW.out
  have DV := dgap_val H0.out HP.out HW.out
  have DE := DV.1
  have GF := Lib.hid (fun h1 h2 h3 => gap_fact H0.out HP.out HW.out h1 h2 h3)
  clear DV
  obtain ⟨F, hF⟩ : ∃ F, F = dfeas A B c y := ⟨_, rfl⟩
  obtain ⟨G, hG⟩ : ∃ D, D = dgap A B c x y := ⟨_, rfl⟩
  obtain ⟨C, hC⟩ : ∃ C, C = sCost A B c x := ⟨_, rfl⟩
  rw [← hF] at FE GF MI
  rw [← hG] at DE GF
  rw [← hC] at GF
  have HFe := Lib.hid hF.symm
  have HG := Lib.hid hG.symm
  have HC := Lib.hid hC.symm
  clear hF hG hC
  obtain ⟨fb, fe⟩ := F
  obtain ⟨gn, gd, ge⟩ := G
  obtain ⟨cn, cd, ce⟩ := C
  simp only at FE DE GF MI
  go_wp2_with fail
  refine (dfeas_as A B c y _ _ _ _ _ hA hB hz IY.out HFe.out).mono ?_
  rintro e y6 ⟨rfl, hq⟩
  clear rS fS zS rT fT zT
  replace oS := oS.below hq
  replace oT := oT.below hq
  replace hA := hA.below hq
  replace hB := hB.below hq
  replace hx := hx.below hq
  replace hz := hz.below hq
  replace hy := below_to hy hq
  clear hq
  obtain ⟨rS, fS⟩ := oS.rules
  have zS := oS.lt
  obtain ⟨rT, fT⟩ := oT.rules
  have zT := oT.lt
  go_wp2_with fail
  refine (dgap_as A B c x y _ _ _ _ _ _ hA hB hx IX.out hz IY.out HG.out).mono ?_
  rintro e y7 ⟨rfl, hq⟩
  clear rS fS zS rT fT zT
  replace oS := oS.below hq
  replace oT := oT.below hq
  replace hA := hA.below hq
  replace hB := hB.below hq
  replace hx := hx.below hq
  replace hz := hz.below hq
  replace hy := below_to hy hq
  clear hq
  obtain ⟨rS, fS⟩ := oS.rules
  have zS := oS.lt
  obtain ⟨rT, fT⟩ := oT.rules
  have zT := oT.lt
  go_upto_region 9 with fail
  have oG := Own.new y7 39 [.int .i64 gn, .int .i64 gd]
  have hq := ba1 y7 (.cells #[.int .i64 gn, .int .i64 gd] 39)
  clear rS fS zS rT fT zT
  replace oS := oS.below hq
  replace oT := oT.below hq
  replace hA := hA.below hq
  replace hB := hB.below hq
  replace hx := hx.below hq
  replace hz := hz.below hq
  replace hy := below_to hy hq
  clear hq
  obtain ⟨bG, hbG⟩ : ∃ b, b = y7.heap.size := ⟨_, rfl⟩
  rw [← hbG] at oG ⊢
  clear hbG
  generalize y7.alloc (.cells #[.int .i64 gn, .int .i64 gd] 39) = y8 at *
  obtain ⟨rS, fS⟩ := oS.rules
  have zS := oS.lt
  obtain ⟨rT, fT⟩ := oT.rules
  have zT := oT.lt
  obtain ⟨rG, fG⟩ := oG.rules
  have zG := oG.lt
  go_wp2_with fail
  refine (ranged_ok fe FE _).mono ?_
  rintro e y9 ⟨rfl, hq⟩
  clear rS fS zS rT fT zT rG fG zG
  replace oS := oS.below hq
  replace oT := oT.below hq
  replace oG := oG.below hq
  replace hA := hA.below hq
  replace hB := hB.below hq
  replace hx := hx.below hq
  replace hz := hz.below hq
  replace hy := below_to hy hq
  clear hq
  obtain ⟨rS, fS⟩ := oS.rules
  have zS := oS.lt
  obtain ⟨rT, fT⟩ := oT.rules
  have zT := oT.lt
  obtain ⟨rG, fG⟩ := oG.rules
  have zG := oG.lt
  rcases FE with rfl | rfl
  case inr =>
    go_wp2_with fail
    refine (ranged_ok ge DE _).mono ?_
    rintro e u1 ⟨rfl, hq⟩
    clear rS fS zS rT fT zT rG fG zG
    replace oS := oS.below hq
    replace oT := oT.below hq
    replace oG := oG.below hq
    replace hA := hA.below hq
    replace hB := hB.below hq
    replace hx := hx.below hq
    replace hz := hz.below hq
    replace hy := below_to hy hq
    clear hq
    obtain ⟨rS, fS⟩ := oS.rules
    have zS := oS.lt
    obtain ⟨rT, fT⟩ := oT.rules
    have zT := oT.lt
    obtain ⟨rG, fG⟩ := oG.rules
    have zG := oG.lt
    clear hA hB hx hz
    go_wp2
    go_ret
    exact ⟨by first | rfl | simp, hy⟩
  obtain rfl : fb = true := MI.out (by simp)
  clear MI
  go_wp2_with fail
  refine (ranged_ok ge DE _).mono ?_
  rintro e u1 ⟨rfl, hq⟩
  clear rS fS zS rT fT zT rG fG zG
  replace oS := oS.below hq
  replace oT := oT.below hq
  replace oG := oG.below hq
  replace hA := hA.below hq
  replace hB := hB.below hq
  replace hx := hx.below hq
  replace hz := hz.below hq
  replace hy := below_to hy hq
  clear hq
  obtain ⟨rS, fS⟩ := oS.rules
  have zS := oS.lt
  obtain ⟨rT, fT⟩ := oT.rules
  have zT := oT.lt
  obtain ⟨rG, fG⟩ := oG.rules
  have zG := oG.lt
  rcases DE with rfl | rfl
  case inr =>
    clear hA hB hx hz
    go_wp2
    go_ret
    exact ⟨by first | rfl | simp, hy⟩
  obtain ⟨e1, e2, e3, e4, e5, e6, e7⟩ := GF.out (by simp) (by simp) (by simp)
  clear GF
  obtain rfl : ce = 0 := e5
  have E1 := Lib.hid e1
  have E2 := Lib.hid e2
  have E4 := Lib.hid e4
  have E6 := Lib.hid e6
  have E7 := Lib.hid e7
  have GI := Lib.hid (fr_i64 e1)
  have q3 : decide (gn < 0) = false := by simp; omega
  clear e1 e2 e3 e4 e6 e7
  unfold uf at HL E7
  unfold up at LC
  simp only at LC E7
  generalize qprice (fA A) (fB B) A.length (c : Rat) (nsx A B c) = lq at *
  generalize lq.num = ln at *
  generalize (lq.den : Int) = ld at *
  obtain ⟨m, hm⟩ : ∃ z, z = fsub cn cd ln ld := ⟨_, rfl⟩
  obtain ⟨m1, m2⟩ := E7.out m hm.symm
  have HMs := Lib.hid hm.symm
  clear hm E7
  obtain ⟨mn, md, me⟩ := m
  simp only at m1 m2
  have M2 := Lib.hid m2
  clear m2
  generalize nS A B c = st at *
  generalize nsol A B c (A.getD 0 []).length = X at *
  go_wp2_with fail
  refine (dacc_as A B c x y gn gd _ _ _ _ _ _ hA hB hx IX.out hz IY.out GI.out.1 GI.out.2 E2.out).mono ?_
  rintro e u2 ⟨rfl, hq⟩
  clear rS fS zS rT fT zT rG fG zG
  replace oS := oS.below hq
  replace oT := oT.below hq
  replace oG := oG.below hq
  replace hA := hA.below hq
  replace hB := hB.below hq
  replace hx := hx.below hq
  replace hz := hz.below hq
  replace hy := below_to hy hq
  clear hq
  obtain ⟨rS, fS⟩ := oS.rules
  have zS := oS.lt
  obtain ⟨rT, fT⟩ := oT.rules
  have zT := oT.lt
  obtain ⟨rG, fG⟩ := oG.rules
  have zG := oG.lt
  go_wp2_with fail
  refine (rcheck_any on od _ IG.out IH.out).mono ?_
  rintro e u3 ⟨rfl, hq⟩
  clear rS fS zS rT fT zT rG fG zG
  replace oS := oS.below hq
  replace oT := oT.below hq
  replace oG := oG.below hq
  replace hA := hA.below hq
  replace hB := hB.below hq
  replace hx := hx.below hq
  replace hz := hz.below hq
  replace hy := below_to hy hq
  clear hq
  obtain ⟨rS, fS⟩ := oS.rules
  have zS := oS.lt
  obtain ⟨rT, fT⟩ := oT.rules
  have zT := oT.lt
  obtain ⟨rG, fG⟩ := oG.rules
  have zG := oG.lt
  by_cases hk0 : fchk on od = 0
  case neg =>
    have q5 : (fchk on od == 0) = false := by simpa using hk0
    clear hk0 hz
    go_wp2_with fail
    refine (spsolve_as A B c _ _ _ _ hA hB HS.out).mono ?_
    rintro e v1 ⟨u, rfl, sx, hq⟩
    clear rS fS zS rT fT zT rG fG zG
    replace oS := oS.below hq
    replace oT := oT.below hq
    replace oG := oG.below hq
    replace hA := hA.below hq
    replace hB := hB.below hq
    replace hx := hx.below hq
    replace hy := below_to hy hq
    clear hq
    obtain ⟨rS, fS⟩ := oS.rules
    have zS := oS.lt
    obtain ⟨rT, fT⟩ := oT.rules
    have zT := oT.lt
    obtain ⟨rG, fG⟩ := oG.rules
    have zG := oG.lt
    have sx' : SF v1 u X := sx
    clear sx
    go_wp2_with fail
    refine (scost_as A B c X _ _ _ _ _ hA hB sx' HI.out HL.out).mono ?_
    rintro e v2 ⟨rfl, hq⟩
    clear rS fS zS rT fT zT rG fG zG
    replace oS := oS.below hq
    replace oT := oT.below hq
    replace oG := oG.below hq
    replace hA := hA.below hq
    replace hB := hB.below hq
    replace hx := hx.below hq
    replace hy := below_to hy hq
    clear hq
    obtain ⟨rS, fS⟩ := oS.rules
    have zS := oS.lt
    obtain ⟨rT, fT⟩ := oT.rules
    have zT := oT.lt
    obtain ⟨rG, fG⟩ := oG.rules
    have zG := oG.lt
    clear sx'
    go_upto_region 22 with fail
    have oL := Own.new v2 39 [.int .i64 ln, .int .i64 ld]
    have hq := ba1 v2 (.cells #[.int .i64 ln, .int .i64 ld] 39)
    clear rS fS zS rT fT zT rG fG zG
    replace oS := oS.below hq
    replace oT := oT.below hq
    replace oG := oG.below hq
    replace hA := hA.below hq
    replace hB := hB.below hq
    replace hx := hx.below hq
    replace hy := below_to hy hq
    clear hq
    obtain ⟨bL, hbL⟩ : ∃ b, b = v2.heap.size := ⟨_, rfl⟩
    rw [← hbL] at oL ⊢
    clear hbL
    generalize v2.alloc (.cells #[.int .i64 ln, .int .i64 ld] 39) = v3 at *
    obtain ⟨rS, fS⟩ := oS.rules
    have zS := oS.lt
    obtain ⟨rT, fT⟩ := oT.rules
    have zT := oT.lt
    obtain ⟨rG, fG⟩ := oG.rules
    have zG := oG.lt
    obtain ⟨rL, fL⟩ := oL.rules
    have zL := oL.lt
    go_wp2_with fail
    refine (scost_as A B c x _ _ _ _ _ hA hB hx IX.out HC.out).mono ?_
    rintro e v4 ⟨rfl, hq⟩
    clear rS fS zS rT fT zT rG fG zG rL fL zL
    replace oS := oS.below hq
    replace oT := oT.below hq
    replace oG := oG.below hq
    replace oL := oL.below hq
    replace hy := below_to hy hq
    clear hq
    obtain ⟨rS, fS⟩ := oS.rules
    have zS := oS.lt
    obtain ⟨rT, fT⟩ := oT.rules
    have zT := oT.lt
    obtain ⟨rG, fG⟩ := oG.rules
    have zG := oG.lt
    obtain ⟨rL, fL⟩ := oL.rules
    have zL := oL.lt
    clear hA hB hx
    go_upto_region 23 with fail
    have oC := Own.new v4 39 [.int .i64 cn, .int .i64 cd]
    have hq := ba1 v4 (.cells #[.int .i64 cn, .int .i64 cd] 39)
    clear rS fS zS rT fT zT rG fG zG rL fL zL
    replace oS := oS.below hq
    replace oT := oT.below hq
    replace oG := oG.below hq
    replace oL := oL.below hq
    replace hy := below_to hy hq
    clear hq
    obtain ⟨bC, hbC⟩ : ∃ b, b = v4.heap.size := ⟨_, rfl⟩
    rw [← hbC] at oC ⊢
    clear hbC
    generalize v4.alloc (.cells #[.int .i64 cn, .int .i64 cd] 39) = v5 at *
    obtain ⟨rS, fS⟩ := oS.rules
    have zS := oS.lt
    obtain ⟨rT, fT⟩ := oT.rules
    have zT := oT.lt
    obtain ⟨rG, fG⟩ := oG.rules
    have zG := oG.lt
    obtain ⟨rL, fL⟩ := oL.rules
    have zL := oL.lt
    obtain ⟨rC, fC⟩ := oC.rules
    have zC := oC.lt
    go_wp2_with fail
    refine (fsub_as cn cd ln ld _ _ E6.out LC.out HMs.out).mono ?_
    rintro e v6 ⟨rfl, hq⟩
    clear rS fS zS rT fT zT rG fG zG rL fL zL rC fC zC
    replace oS := oS.below hq
    replace oT := oT.below hq
    replace oG := oG.below hq
    replace oL := oL.below hq
    replace oC := oC.below hq
    replace hy := below_to hy hq
    clear hq
    obtain ⟨rS, fS⟩ := oS.rules
    have zS := oS.lt
    obtain ⟨rT, fT⟩ := oT.rules
    have zT := oT.lt
    obtain ⟨rG, fG⟩ := oG.rules
    have zG := oG.lt
    obtain ⟨rL, fL⟩ := oL.rules
    have zL := oL.lt
    obtain ⟨rC, fC⟩ := oC.rules
    have zC := oC.lt
    go_upto_region 26 with fail
    have oD := Own.new v6 39 [.int .i64 mn, .int .i64 md]
    have hq := ba1 v6 (.cells #[.int .i64 mn, .int .i64 md] 39)
    clear rS fS zS rT fT zT rG fG zG rL fL zL rC fC zC
    replace oS := oS.below hq
    replace oT := oT.below hq
    replace oG := oG.below hq
    replace oL := oL.below hq
    replace oC := oC.below hq
    replace hy := below_to hy hq
    clear hq
    obtain ⟨bD, hbD⟩ : ∃ b, b = v6.heap.size := ⟨_, rfl⟩
    rw [← hbD] at oD ⊢
    clear hbD
    generalize v6.alloc (.cells #[.int .i64 mn, .int .i64 md] 39) = v7 at *
    obtain ⟨rS, fS⟩ := oS.rules
    have zS := oS.lt
    obtain ⟨rT, fT⟩ := oT.rules
    have zT := oT.lt
    obtain ⟨rG, fG⟩ := oG.rules
    have zG := oG.lt
    obtain ⟨rL, fL⟩ := oL.rules
    have zL := oL.lt
    obtain ⟨rC, fC⟩ := oC.rules
    have zC := oC.lt
    obtain ⟨rD, fD⟩ := oD.rules
    have zD := oD.lt
    rcases m1 with rfl | rfl
    case inr =>
      go_wp2
      go_ret
      exact ⟨by first | rfl | simp, hy⟩
    obtain ⟨n1, n2⟩ := M2.out (by simp)
    have N1 := Lib.hid n1
    obtain ⟨k, hk⟩ : ∃ z, z = fcmp mn md gn gd := ⟨_, rfl⟩
    rw [← hk] at n2
    have HK := Lib.hid hk.symm
    have q9 : decide (k ≤ 0) = true := by simpa using n2
    clear n1 n2 hk
    go_wp2_with fail
    refine (cmp_as mn md gn gd _ N1.out E1.out).mono ?_
    rintro e v8 ⟨rfl, hq⟩
    clear rS fS zS rT fT zT rG fG zG rL fL zL rC fC zC rD fD zD
    replace oS := oS.below hq
    replace oT := oT.below hq
    replace oG := oG.below hq
    replace oL := oL.below hq
    replace oC := oC.below hq
    replace oD := oD.below hq
    replace hy := below_to hy hq
    clear hq
    obtain ⟨rS, fS⟩ := oS.rules
    have zS := oS.lt
    obtain ⟨rT, fT⟩ := oT.rules
    have zT := oT.lt
    obtain ⟨rG, fG⟩ := oG.rules
    have zG := oG.lt
    obtain ⟨rL, fL⟩ := oL.rules
    have zL := oL.lt
    obtain ⟨rC, fC⟩ := oC.rules
    have zC := oC.lt
    obtain ⟨rD, fD⟩ := oD.rules
    have zD := oD.lt
    rw [HK.out]
    go_wp2
    go_ret
    exact ⟨by first | rfl | simp, hy⟩
  have HK0 := Lib.hid hk0
  rw [hk0]
  clear hk0
  by_cases p1 : gn = on
  · by_cases p2 : gd = od
    · skip
      have B1 : Hid (daccept A B c x y on od = (true, 0)) := by
        show _ = _
        rw [E4.out on od HK0.out]
        simp [p1, p2]
      have r1 : (on == gn) = true := by simp [p1]
      have r2 : (od == gd) = true := by simp [p2]
      clear p1 p2
      go_wp2_with fail
      refine (dacc_as A B c x y on od _ _ _ _ _ _ hA hB hx IX.out hz IY.out IG.out IH.out B1.out).mono ?_
      rintro e u4 ⟨rfl, hq⟩
      clear rS fS zS rT fT zT rG fG zG
      replace oS := oS.below hq
      replace oT := oT.below hq
      replace oG := oG.below hq
      replace hA := hA.below hq
      replace hB := hB.below hq
      replace hx := hx.below hq
      replace hz := hz.below hq
      replace hy := below_to hy hq
      clear hq
      obtain ⟨rS, fS⟩ := oS.rules
      have zS := oS.lt
      obtain ⟨rT, fT⟩ := oT.rules
      have zT := oT.lt
      obtain ⟨rG, fG⟩ := oG.rules
      have zG := oG.lt
      clear hz
      go_wp2_with fail
      refine (spsolve_as A B c _ _ _ _ hA hB HS.out).mono ?_
      rintro e v1 ⟨u, rfl, sx, hq⟩
      clear rS fS zS rT fT zT rG fG zG
      replace oS := oS.below hq
      replace oT := oT.below hq
      replace oG := oG.below hq
      replace hA := hA.below hq
      replace hB := hB.below hq
      replace hx := hx.below hq
      replace hy := below_to hy hq
      clear hq
      obtain ⟨rS, fS⟩ := oS.rules
      have zS := oS.lt
      obtain ⟨rT, fT⟩ := oT.rules
      have zT := oT.lt
      obtain ⟨rG, fG⟩ := oG.rules
      have zG := oG.lt
      have sx' : SF v1 u X := sx
      clear sx
      go_wp2_with fail
      refine (scost_as A B c X _ _ _ _ _ hA hB sx' HI.out HL.out).mono ?_
      rintro e v2 ⟨rfl, hq⟩
      clear rS fS zS rT fT zT rG fG zG
      replace oS := oS.below hq
      replace oT := oT.below hq
      replace oG := oG.below hq
      replace hA := hA.below hq
      replace hB := hB.below hq
      replace hx := hx.below hq
      replace hy := below_to hy hq
      clear hq
      obtain ⟨rS, fS⟩ := oS.rules
      have zS := oS.lt
      obtain ⟨rT, fT⟩ := oT.rules
      have zT := oT.lt
      obtain ⟨rG, fG⟩ := oG.rules
      have zG := oG.lt
      clear sx'
      go_upto_region 22 with fail
      have oL := Own.new v2 39 [.int .i64 ln, .int .i64 ld]
      have hq := ba1 v2 (.cells #[.int .i64 ln, .int .i64 ld] 39)
      clear rS fS zS rT fT zT rG fG zG
      replace oS := oS.below hq
      replace oT := oT.below hq
      replace oG := oG.below hq
      replace hA := hA.below hq
      replace hB := hB.below hq
      replace hx := hx.below hq
      replace hy := below_to hy hq
      clear hq
      obtain ⟨bL, hbL⟩ : ∃ b, b = v2.heap.size := ⟨_, rfl⟩
      rw [← hbL] at oL ⊢
      clear hbL
      generalize v2.alloc (.cells #[.int .i64 ln, .int .i64 ld] 39) = v3 at *
      obtain ⟨rS, fS⟩ := oS.rules
      have zS := oS.lt
      obtain ⟨rT, fT⟩ := oT.rules
      have zT := oT.lt
      obtain ⟨rG, fG⟩ := oG.rules
      have zG := oG.lt
      obtain ⟨rL, fL⟩ := oL.rules
      have zL := oL.lt
      go_wp2_with fail
      refine (scost_as A B c x _ _ _ _ _ hA hB hx IX.out HC.out).mono ?_
      rintro e v4 ⟨rfl, hq⟩
      clear rS fS zS rT fT zT rG fG zG rL fL zL
      replace oS := oS.below hq
      replace oT := oT.below hq
      replace oG := oG.below hq
      replace oL := oL.below hq
      replace hy := below_to hy hq
      clear hq
      obtain ⟨rS, fS⟩ := oS.rules
      have zS := oS.lt
      obtain ⟨rT, fT⟩ := oT.rules
      have zT := oT.lt
      obtain ⟨rG, fG⟩ := oG.rules
      have zG := oG.lt
      obtain ⟨rL, fL⟩ := oL.rules
      have zL := oL.lt
      clear hA hB hx
      go_upto_region 23 with fail
      have oC := Own.new v4 39 [.int .i64 cn, .int .i64 cd]
      have hq := ba1 v4 (.cells #[.int .i64 cn, .int .i64 cd] 39)
      clear rS fS zS rT fT zT rG fG zG rL fL zL
      replace oS := oS.below hq
      replace oT := oT.below hq
      replace oG := oG.below hq
      replace oL := oL.below hq
      replace hy := below_to hy hq
      clear hq
      obtain ⟨bC, hbC⟩ : ∃ b, b = v4.heap.size := ⟨_, rfl⟩
      rw [← hbC] at oC ⊢
      clear hbC
      generalize v4.alloc (.cells #[.int .i64 cn, .int .i64 cd] 39) = v5 at *
      obtain ⟨rS, fS⟩ := oS.rules
      have zS := oS.lt
      obtain ⟨rT, fT⟩ := oT.rules
      have zT := oT.lt
      obtain ⟨rG, fG⟩ := oG.rules
      have zG := oG.lt
      obtain ⟨rL, fL⟩ := oL.rules
      have zL := oL.lt
      obtain ⟨rC, fC⟩ := oC.rules
      have zC := oC.lt
      go_wp2_with fail
      refine (fsub_as cn cd ln ld _ _ E6.out LC.out HMs.out).mono ?_
      rintro e v6 ⟨rfl, hq⟩
      clear rS fS zS rT fT zT rG fG zG rL fL zL rC fC zC
      replace oS := oS.below hq
      replace oT := oT.below hq
      replace oG := oG.below hq
      replace oL := oL.below hq
      replace oC := oC.below hq
      replace hy := below_to hy hq
      clear hq
      obtain ⟨rS, fS⟩ := oS.rules
      have zS := oS.lt
      obtain ⟨rT, fT⟩ := oT.rules
      have zT := oT.lt
      obtain ⟨rG, fG⟩ := oG.rules
      have zG := oG.lt
      obtain ⟨rL, fL⟩ := oL.rules
      have zL := oL.lt
      obtain ⟨rC, fC⟩ := oC.rules
      have zC := oC.lt
      go_upto_region 26 with fail
      have oD := Own.new v6 39 [.int .i64 mn, .int .i64 md]
      have hq := ba1 v6 (.cells #[.int .i64 mn, .int .i64 md] 39)
      clear rS fS zS rT fT zT rG fG zG rL fL zL rC fC zC
      replace oS := oS.below hq
      replace oT := oT.below hq
      replace oG := oG.below hq
      replace oL := oL.below hq
      replace oC := oC.below hq
      replace hy := below_to hy hq
      clear hq
      obtain ⟨bD, hbD⟩ : ∃ b, b = v6.heap.size := ⟨_, rfl⟩
      rw [← hbD] at oD ⊢
      clear hbD
      generalize v6.alloc (.cells #[.int .i64 mn, .int .i64 md] 39) = v7 at *
      obtain ⟨rS, fS⟩ := oS.rules
      have zS := oS.lt
      obtain ⟨rT, fT⟩ := oT.rules
      have zT := oT.lt
      obtain ⟨rG, fG⟩ := oG.rules
      have zG := oG.lt
      obtain ⟨rL, fL⟩ := oL.rules
      have zL := oL.lt
      obtain ⟨rC, fC⟩ := oC.rules
      have zC := oC.lt
      obtain ⟨rD, fD⟩ := oD.rules
      have zD := oD.lt
      rcases m1 with rfl | rfl
      case inr =>
        go_wp2
        go_ret
        exact ⟨by first | rfl | simp, hy⟩
      obtain ⟨n1, n2⟩ := M2.out (by simp)
      have N1 := Lib.hid n1
      obtain ⟨k, hk⟩ : ∃ z, z = fcmp mn md gn gd := ⟨_, rfl⟩
      rw [← hk] at n2
      have HK := Lib.hid hk.symm
      have q9 : decide (k ≤ 0) = true := by simpa using n2
      clear n1 n2 hk
      go_wp2_with fail
      refine (cmp_as mn md gn gd _ N1.out E1.out).mono ?_
      rintro e v8 ⟨rfl, hq⟩
      clear rS fS zS rT fT zT rG fG zG rL fL zL rC fC zC rD fD zD
      replace oS := oS.below hq
      replace oT := oT.below hq
      replace oG := oG.below hq
      replace oL := oL.below hq
      replace oC := oC.below hq
      replace oD := oD.below hq
      replace hy := below_to hy hq
      clear hq
      obtain ⟨rS, fS⟩ := oS.rules
      have zS := oS.lt
      obtain ⟨rT, fT⟩ := oT.rules
      have zT := oT.lt
      obtain ⟨rG, fG⟩ := oG.rules
      have zG := oG.lt
      obtain ⟨rL, fL⟩ := oL.rules
      have zL := oL.lt
      obtain ⟨rC, fC⟩ := oC.rules
      have zC := oC.lt
      obtain ⟨rD, fD⟩ := oD.rules
      have zD := oD.lt
      rw [HK.out]
      go_wp2
      go_ret
      exact ⟨by first | rfl | simp, hy⟩
    · skip
      have B1 : Hid (daccept A B c x y on od = (false, 0)) := by
        show _ = _
        rw [E4.out on od HK0.out]
        simp [p1, p2]
      have r1 : (on == gn) = true := by simp [p1]
      have r2 : (od == gd) = false := by simp; omega
      clear p1 p2
      go_wp2_with fail
      refine (dacc_as A B c x y on od _ _ _ _ _ _ hA hB hx IX.out hz IY.out IG.out IH.out B1.out).mono ?_
      rintro e u4 ⟨rfl, hq⟩
      clear rS fS zS rT fT zT rG fG zG
      replace oS := oS.below hq
      replace oT := oT.below hq
      replace oG := oG.below hq
      replace hA := hA.below hq
      replace hB := hB.below hq
      replace hx := hx.below hq
      replace hz := hz.below hq
      replace hy := below_to hy hq
      clear hq
      obtain ⟨rS, fS⟩ := oS.rules
      have zS := oS.lt
      obtain ⟨rT, fT⟩ := oT.rules
      have zT := oT.lt
      obtain ⟨rG, fG⟩ := oG.rules
      have zG := oG.lt
      clear hz
      go_wp2_with fail
      refine (spsolve_as A B c _ _ _ _ hA hB HS.out).mono ?_
      rintro e v1 ⟨u, rfl, sx, hq⟩
      clear rS fS zS rT fT zT rG fG zG
      replace oS := oS.below hq
      replace oT := oT.below hq
      replace oG := oG.below hq
      replace hA := hA.below hq
      replace hB := hB.below hq
      replace hx := hx.below hq
      replace hy := below_to hy hq
      clear hq
      obtain ⟨rS, fS⟩ := oS.rules
      have zS := oS.lt
      obtain ⟨rT, fT⟩ := oT.rules
      have zT := oT.lt
      obtain ⟨rG, fG⟩ := oG.rules
      have zG := oG.lt
      have sx' : SF v1 u X := sx
      clear sx
      go_wp2_with fail
      refine (scost_as A B c X _ _ _ _ _ hA hB sx' HI.out HL.out).mono ?_
      rintro e v2 ⟨rfl, hq⟩
      clear rS fS zS rT fT zT rG fG zG
      replace oS := oS.below hq
      replace oT := oT.below hq
      replace oG := oG.below hq
      replace hA := hA.below hq
      replace hB := hB.below hq
      replace hx := hx.below hq
      replace hy := below_to hy hq
      clear hq
      obtain ⟨rS, fS⟩ := oS.rules
      have zS := oS.lt
      obtain ⟨rT, fT⟩ := oT.rules
      have zT := oT.lt
      obtain ⟨rG, fG⟩ := oG.rules
      have zG := oG.lt
      clear sx'
      go_upto_region 22 with fail
      have oL := Own.new v2 39 [.int .i64 ln, .int .i64 ld]
      have hq := ba1 v2 (.cells #[.int .i64 ln, .int .i64 ld] 39)
      clear rS fS zS rT fT zT rG fG zG
      replace oS := oS.below hq
      replace oT := oT.below hq
      replace oG := oG.below hq
      replace hA := hA.below hq
      replace hB := hB.below hq
      replace hx := hx.below hq
      replace hy := below_to hy hq
      clear hq
      obtain ⟨bL, hbL⟩ : ∃ b, b = v2.heap.size := ⟨_, rfl⟩
      rw [← hbL] at oL ⊢
      clear hbL
      generalize v2.alloc (.cells #[.int .i64 ln, .int .i64 ld] 39) = v3 at *
      obtain ⟨rS, fS⟩ := oS.rules
      have zS := oS.lt
      obtain ⟨rT, fT⟩ := oT.rules
      have zT := oT.lt
      obtain ⟨rG, fG⟩ := oG.rules
      have zG := oG.lt
      obtain ⟨rL, fL⟩ := oL.rules
      have zL := oL.lt
      go_wp2_with fail
      refine (scost_as A B c x _ _ _ _ _ hA hB hx IX.out HC.out).mono ?_
      rintro e v4 ⟨rfl, hq⟩
      clear rS fS zS rT fT zT rG fG zG rL fL zL
      replace oS := oS.below hq
      replace oT := oT.below hq
      replace oG := oG.below hq
      replace oL := oL.below hq
      replace hy := below_to hy hq
      clear hq
      obtain ⟨rS, fS⟩ := oS.rules
      have zS := oS.lt
      obtain ⟨rT, fT⟩ := oT.rules
      have zT := oT.lt
      obtain ⟨rG, fG⟩ := oG.rules
      have zG := oG.lt
      obtain ⟨rL, fL⟩ := oL.rules
      have zL := oL.lt
      clear hA hB hx
      go_upto_region 23 with fail
      have oC := Own.new v4 39 [.int .i64 cn, .int .i64 cd]
      have hq := ba1 v4 (.cells #[.int .i64 cn, .int .i64 cd] 39)
      clear rS fS zS rT fT zT rG fG zG rL fL zL
      replace oS := oS.below hq
      replace oT := oT.below hq
      replace oG := oG.below hq
      replace oL := oL.below hq
      replace hy := below_to hy hq
      clear hq
      obtain ⟨bC, hbC⟩ : ∃ b, b = v4.heap.size := ⟨_, rfl⟩
      rw [← hbC] at oC ⊢
      clear hbC
      generalize v4.alloc (.cells #[.int .i64 cn, .int .i64 cd] 39) = v5 at *
      obtain ⟨rS, fS⟩ := oS.rules
      have zS := oS.lt
      obtain ⟨rT, fT⟩ := oT.rules
      have zT := oT.lt
      obtain ⟨rG, fG⟩ := oG.rules
      have zG := oG.lt
      obtain ⟨rL, fL⟩ := oL.rules
      have zL := oL.lt
      obtain ⟨rC, fC⟩ := oC.rules
      have zC := oC.lt
      go_wp2_with fail
      refine (fsub_as cn cd ln ld _ _ E6.out LC.out HMs.out).mono ?_
      rintro e v6 ⟨rfl, hq⟩
      clear rS fS zS rT fT zT rG fG zG rL fL zL rC fC zC
      replace oS := oS.below hq
      replace oT := oT.below hq
      replace oG := oG.below hq
      replace oL := oL.below hq
      replace oC := oC.below hq
      replace hy := below_to hy hq
      clear hq
      obtain ⟨rS, fS⟩ := oS.rules
      have zS := oS.lt
      obtain ⟨rT, fT⟩ := oT.rules
      have zT := oT.lt
      obtain ⟨rG, fG⟩ := oG.rules
      have zG := oG.lt
      obtain ⟨rL, fL⟩ := oL.rules
      have zL := oL.lt
      obtain ⟨rC, fC⟩ := oC.rules
      have zC := oC.lt
      go_upto_region 26 with fail
      have oD := Own.new v6 39 [.int .i64 mn, .int .i64 md]
      have hq := ba1 v6 (.cells #[.int .i64 mn, .int .i64 md] 39)
      clear rS fS zS rT fT zT rG fG zG rL fL zL rC fC zC
      replace oS := oS.below hq
      replace oT := oT.below hq
      replace oG := oG.below hq
      replace oL := oL.below hq
      replace oC := oC.below hq
      replace hy := below_to hy hq
      clear hq
      obtain ⟨bD, hbD⟩ : ∃ b, b = v6.heap.size := ⟨_, rfl⟩
      rw [← hbD] at oD ⊢
      clear hbD
      generalize v6.alloc (.cells #[.int .i64 mn, .int .i64 md] 39) = v7 at *
      obtain ⟨rS, fS⟩ := oS.rules
      have zS := oS.lt
      obtain ⟨rT, fT⟩ := oT.rules
      have zT := oT.lt
      obtain ⟨rG, fG⟩ := oG.rules
      have zG := oG.lt
      obtain ⟨rL, fL⟩ := oL.rules
      have zL := oL.lt
      obtain ⟨rC, fC⟩ := oC.rules
      have zC := oC.lt
      obtain ⟨rD, fD⟩ := oD.rules
      have zD := oD.lt
      rcases m1 with rfl | rfl
      case inr =>
        go_wp2
        go_ret
        exact ⟨by first | rfl | simp, hy⟩
      obtain ⟨n1, n2⟩ := M2.out (by simp)
      have N1 := Lib.hid n1
      obtain ⟨k, hk⟩ : ∃ z, z = fcmp mn md gn gd := ⟨_, rfl⟩
      rw [← hk] at n2
      have HK := Lib.hid hk.symm
      have q9 : decide (k ≤ 0) = true := by simpa using n2
      clear n1 n2 hk
      go_wp2_with fail
      refine (cmp_as mn md gn gd _ N1.out E1.out).mono ?_
      rintro e v8 ⟨rfl, hq⟩
      clear rS fS zS rT fT zT rG fG zG rL fL zL rC fC zC rD fD zD
      replace oS := oS.below hq
      replace oT := oT.below hq
      replace oG := oG.below hq
      replace oL := oL.below hq
      replace oC := oC.below hq
      replace oD := oD.below hq
      replace hy := below_to hy hq
      clear hq
      obtain ⟨rS, fS⟩ := oS.rules
      have zS := oS.lt
      obtain ⟨rT, fT⟩ := oT.rules
      have zT := oT.lt
      obtain ⟨rG, fG⟩ := oG.rules
      have zG := oG.lt
      obtain ⟨rL, fL⟩ := oL.rules
      have zL := oL.lt
      obtain ⟨rC, fC⟩ := oC.rules
      have zC := oC.lt
      obtain ⟨rD, fD⟩ := oD.rules
      have zD := oD.lt
      rw [HK.out]
      go_wp2
      go_ret
      exact ⟨by first | rfl | simp, hy⟩
  · skip
    have B1 : Hid (daccept A B c x y on od = (false, 0)) := by
      show _ = _
      rw [E4.out on od HK0.out]
      simp [p1]
    have r1 : (on == gn) = false := by simp; omega
    clear p1
    go_wp2_with fail
    refine (dacc_as A B c x y on od _ _ _ _ _ _ hA hB hx IX.out hz IY.out IG.out IH.out B1.out).mono ?_
    rintro e u4 ⟨rfl, hq⟩
    clear rS fS zS rT fT zT rG fG zG
    replace oS := oS.below hq
    replace oT := oT.below hq
    replace oG := oG.below hq
    replace hA := hA.below hq
    replace hB := hB.below hq
    replace hx := hx.below hq
    replace hz := hz.below hq
    replace hy := below_to hy hq
    clear hq
    obtain ⟨rS, fS⟩ := oS.rules
    have zS := oS.lt
    obtain ⟨rT, fT⟩ := oT.rules
    have zT := oT.lt
    obtain ⟨rG, fG⟩ := oG.rules
    have zG := oG.lt
    clear hz
    go_wp2_with fail
    refine (spsolve_as A B c _ _ _ _ hA hB HS.out).mono ?_
    rintro e v1 ⟨u, rfl, sx, hq⟩
    clear rS fS zS rT fT zT rG fG zG
    replace oS := oS.below hq
    replace oT := oT.below hq
    replace oG := oG.below hq
    replace hA := hA.below hq
    replace hB := hB.below hq
    replace hx := hx.below hq
    replace hy := below_to hy hq
    clear hq
    obtain ⟨rS, fS⟩ := oS.rules
    have zS := oS.lt
    obtain ⟨rT, fT⟩ := oT.rules
    have zT := oT.lt
    obtain ⟨rG, fG⟩ := oG.rules
    have zG := oG.lt
    have sx' : SF v1 u X := sx
    clear sx
    go_wp2_with fail
    refine (scost_as A B c X _ _ _ _ _ hA hB sx' HI.out HL.out).mono ?_
    rintro e v2 ⟨rfl, hq⟩
    clear rS fS zS rT fT zT rG fG zG
    replace oS := oS.below hq
    replace oT := oT.below hq
    replace oG := oG.below hq
    replace hA := hA.below hq
    replace hB := hB.below hq
    replace hx := hx.below hq
    replace hy := below_to hy hq
    clear hq
    obtain ⟨rS, fS⟩ := oS.rules
    have zS := oS.lt
    obtain ⟨rT, fT⟩ := oT.rules
    have zT := oT.lt
    obtain ⟨rG, fG⟩ := oG.rules
    have zG := oG.lt
    clear sx'
    go_upto_region 22 with fail
    have oL := Own.new v2 39 [.int .i64 ln, .int .i64 ld]
    have hq := ba1 v2 (.cells #[.int .i64 ln, .int .i64 ld] 39)
    clear rS fS zS rT fT zT rG fG zG
    replace oS := oS.below hq
    replace oT := oT.below hq
    replace oG := oG.below hq
    replace hA := hA.below hq
    replace hB := hB.below hq
    replace hx := hx.below hq
    replace hy := below_to hy hq
    clear hq
    obtain ⟨bL, hbL⟩ : ∃ b, b = v2.heap.size := ⟨_, rfl⟩
    rw [← hbL] at oL ⊢
    clear hbL
    generalize v2.alloc (.cells #[.int .i64 ln, .int .i64 ld] 39) = v3 at *
    obtain ⟨rS, fS⟩ := oS.rules
    have zS := oS.lt
    obtain ⟨rT, fT⟩ := oT.rules
    have zT := oT.lt
    obtain ⟨rG, fG⟩ := oG.rules
    have zG := oG.lt
    obtain ⟨rL, fL⟩ := oL.rules
    have zL := oL.lt
    go_wp2_with fail
    refine (scost_as A B c x _ _ _ _ _ hA hB hx IX.out HC.out).mono ?_
    rintro e v4 ⟨rfl, hq⟩
    clear rS fS zS rT fT zT rG fG zG rL fL zL
    replace oS := oS.below hq
    replace oT := oT.below hq
    replace oG := oG.below hq
    replace oL := oL.below hq
    replace hy := below_to hy hq
    clear hq
    obtain ⟨rS, fS⟩ := oS.rules
    have zS := oS.lt
    obtain ⟨rT, fT⟩ := oT.rules
    have zT := oT.lt
    obtain ⟨rG, fG⟩ := oG.rules
    have zG := oG.lt
    obtain ⟨rL, fL⟩ := oL.rules
    have zL := oL.lt
    clear hA hB hx
    go_upto_region 23 with fail
    have oC := Own.new v4 39 [.int .i64 cn, .int .i64 cd]
    have hq := ba1 v4 (.cells #[.int .i64 cn, .int .i64 cd] 39)
    clear rS fS zS rT fT zT rG fG zG rL fL zL
    replace oS := oS.below hq
    replace oT := oT.below hq
    replace oG := oG.below hq
    replace oL := oL.below hq
    replace hy := below_to hy hq
    clear hq
    obtain ⟨bC, hbC⟩ : ∃ b, b = v4.heap.size := ⟨_, rfl⟩
    rw [← hbC] at oC ⊢
    clear hbC
    generalize v4.alloc (.cells #[.int .i64 cn, .int .i64 cd] 39) = v5 at *
    obtain ⟨rS, fS⟩ := oS.rules
    have zS := oS.lt
    obtain ⟨rT, fT⟩ := oT.rules
    have zT := oT.lt
    obtain ⟨rG, fG⟩ := oG.rules
    have zG := oG.lt
    obtain ⟨rL, fL⟩ := oL.rules
    have zL := oL.lt
    obtain ⟨rC, fC⟩ := oC.rules
    have zC := oC.lt
    go_wp2_with fail
    refine (fsub_as cn cd ln ld _ _ E6.out LC.out HMs.out).mono ?_
    rintro e v6 ⟨rfl, hq⟩
    clear rS fS zS rT fT zT rG fG zG rL fL zL rC fC zC
    replace oS := oS.below hq
    replace oT := oT.below hq
    replace oG := oG.below hq
    replace oL := oL.below hq
    replace oC := oC.below hq
    replace hy := below_to hy hq
    clear hq
    obtain ⟨rS, fS⟩ := oS.rules
    have zS := oS.lt
    obtain ⟨rT, fT⟩ := oT.rules
    have zT := oT.lt
    obtain ⟨rG, fG⟩ := oG.rules
    have zG := oG.lt
    obtain ⟨rL, fL⟩ := oL.rules
    have zL := oL.lt
    obtain ⟨rC, fC⟩ := oC.rules
    have zC := oC.lt
    go_upto_region 26 with fail
    have oD := Own.new v6 39 [.int .i64 mn, .int .i64 md]
    have hq := ba1 v6 (.cells #[.int .i64 mn, .int .i64 md] 39)
    clear rS fS zS rT fT zT rG fG zG rL fL zL rC fC zC
    replace oS := oS.below hq
    replace oT := oT.below hq
    replace oG := oG.below hq
    replace oL := oL.below hq
    replace oC := oC.below hq
    replace hy := below_to hy hq
    clear hq
    obtain ⟨bD, hbD⟩ : ∃ b, b = v6.heap.size := ⟨_, rfl⟩
    rw [← hbD] at oD ⊢
    clear hbD
    generalize v6.alloc (.cells #[.int .i64 mn, .int .i64 md] 39) = v7 at *
    obtain ⟨rS, fS⟩ := oS.rules
    have zS := oS.lt
    obtain ⟨rT, fT⟩ := oT.rules
    have zT := oT.lt
    obtain ⟨rG, fG⟩ := oG.rules
    have zG := oG.lt
    obtain ⟨rL, fL⟩ := oL.rules
    have zL := oL.lt
    obtain ⟨rC, fC⟩ := oC.rules
    have zC := oC.lt
    obtain ⟨rD, fD⟩ := oD.rules
    have zD := oD.lt
    rcases m1 with rfl | rfl
    case inr =>
      go_wp2
      go_ret
      exact ⟨by first | rfl | simp, hy⟩
    obtain ⟨n1, n2⟩ := M2.out (by simp)
    have N1 := Lib.hid n1
    obtain ⟨k, hk⟩ : ∃ z, z = fcmp mn md gn gd := ⟨_, rfl⟩
    rw [← hk] at n2
    have HK := Lib.hid hk.symm
    have q9 : decide (k ≤ 0) = true := by simpa using n2
    clear n1 n2 hk
    go_wp2_with fail
    refine (cmp_as mn md gn gd _ N1.out E1.out).mono ?_
    rintro e v8 ⟨rfl, hq⟩
    clear rS fS zS rT fT zT rG fG zG rL fL zL rC fC zC rD fD zD
    replace oS := oS.below hq
    replace oT := oT.below hq
    replace oG := oG.below hq
    replace oL := oL.below hq
    replace oC := oC.below hq
    replace oD := oD.below hq
    replace hy := below_to hy hq
    clear hq
    obtain ⟨rS, fS⟩ := oS.rules
    have zS := oS.lt
    obtain ⟨rT, fT⟩ := oT.rules
    have zT := oT.lt
    obtain ⟨rG, fG⟩ := oG.rules
    have zG := oG.lt
    obtain ⟨rL, fL⟩ := oL.rules
    have zL := oL.lt
    obtain ⟨rC, fC⟩ := oC.rules
    have zC := oC.lt
    obtain ⟨rD, fD⟩ := oD.rules
    have zD := oD.lt
    rw [HK.out]
    go_wp2
    go_ret
    exact ⟨by first | rfl | simp, hy⟩
end Go.Proofs.Ytfoemacgmehpiaa
