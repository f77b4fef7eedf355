/- What is proved here: the law DualTight returns true. Condition: a system and two slices of fractions that can be read, and a cost. -/
import Derived.Test.YtfoemacgmehpiaaC46
import Derived.Test.YtfoemacgmehpiaaC48
import Derived.Test.YtfoemacgmehpiaaC24
import Derived.Test.YtfoemacgmehpiaaC49
import Derived.Test.YtfoemacgmehpiaaC47
import Derived.Test.YtfoemacgmehpiaaC50
import Derived.Test.YtfoemacgmehpiaaC28
import Derived.Test.YtfoemacgmehpiaaC01
import Derived.Test.YtfoemacgmehpiaaC25
import Derived.Deep.DeepCutAuto
namespace Go.Proofs.Ytfoemacgmehpiaa
open Go.RowKit

theorem dmake_as (A : List (List Int)) (B : List Int) (c : Int) (x : List (Int × Int)) (r : List (Int × Int) × Int) (va vb vx : Value) (w : World) (hA : SS w va A) (hB : SI w vb B) (hx : SF w vx x) (ix : FI x) (hr : dMake A B c x = r) :
    Calls Try.prog 42 #[.agg #[va, vb], .int .i64 c, vx] w (rows_post w r) := by
  subst hr; exact dmake_any A B c x va vb vx w hA hB hx ix
theorem FI_of {x : List (Int × Int)} (hx : ∀ i (h : i < x.length), fchk x[i].1 x[i].2 = 0) : FI x := fun p hp => by
  obtain ⟨i, hi, rfl⟩ := List.getElem_of_mem hp
  exact fr_i64 (hx i hi)
set_option maxRecDepth 100000 in
set_option maxHeartbeats 16000000 in
theorem dualTight_any (A : List (List Int)) (B : List Int) (c : Int) (x y : List (Int × Int)) (va vb vx vy : Value) (w : World) (hA : SS w va A) (hB : SI w vb B) (hx : SF w vx x) (ix : FI x) (hz : SF w vy y) (iz : FI y) :
    Calls Try.prog 9 #[.agg #[va, vb], .int .i64 c, vx, vy] w fun e w' => e = .returned (.bool true) ∧ Below w.heap.size w w' := by
  have IX := Lib.hid ix
  have IY := Lib.hid iz
  obtain ⟨adx, capx, rfl, hx1, hx2, _⟩ := hx.open
  obtain ⟨ady, capy, rfl, hy1, hy2, _⟩ := hz.open
  clear ix iz
  go_enter Try.func9, Try.ntmps9
  have oS := Own.new w 25 [va, vb]
  have hy := ba1 w (.cells #[va, vb] 25)
  replace hA := hA.below hy
  replace hB := hB.below hy
  replace hx := hx.below hy
  replace hz := hz.below hy
  obtain ⟨rS, fS⟩ := oS.rules
  have zS := oS.lt
  go_wp2_with fail
  refine (alive39_any _).mono ?_
  rintro e y1 ⟨rfl, hq⟩
  clear rS fS zS
  replace oS := oS.below hq
  replace hA := hA.below hq
  replace hB := hB.below hq
  replace hx := hx.below hq
  replace hz := hz.below hq
  replace hy := below_to hy hq
  clear hq
  obtain ⟨rS, fS⟩ := oS.rules
  have zS := oS.lt
  go_wp2_with fail
  refine (rngreat_any A B _ _ _ hA hB).mono ?_
  rintro e y2 ⟨rfl, hq⟩
  clear rS fS zS
  replace oS := oS.below hq
  replace hA := hA.below hq
  replace hB := hB.below hq
  replace hx := hx.below hq
  replace hz := hz.below hq
  replace hy := below_to hy hq
  clear hq
  obtain ⟨rS, fS⟩ := oS.rules
  have zS := oS.lt
  by_cases g1 : ngreat A B = true
  · rw [g1]
    clear g1 hA hB hx hz
    go_wp2
    go_ret
    exact ⟨by first | rfl | simp, hy⟩
  have g1' : ngreat A B = false := by simpa using g1
  rw [g1']
  clear g1 g1'
  go_wp2_with fail
  refine (rscheck_any A B c _ _ _ hA hB).mono ?_
  rintro e y3 ⟨rfl, hq⟩
  clear rS fS zS
  replace oS := oS.below hq
  replace hA := hA.below hq
  replace hB := hB.below hq
  replace hx := hx.below hq
  replace hz := hz.below hq
  replace hy := below_to hy hq
  clear hq
  obtain ⟨rS, fS⟩ := oS.rules
  have zS := oS.lt
  by_cases h0 : scheck A B c = 0
  case neg =>
    have q0 : (scheck A B c != 0) = true := by simpa using h0
    clear h0 hA hB hx hz
    go_wp2
    go_ret
    exact ⟨by first | rfl | simp, hy⟩
  rw [h0]
  by_cases g2 : 20 < (x.length : Int)
  · have q2 : decide (20 < (x.length : Int)) = true := by simpa using g2
    clear hA hB hx hz
    go_wp2
    go_ret
    exact ⟨by first | rfl | simp, hy⟩
  have q2 : decide (20 < (x.length : Int)) = false := by simpa using g2
  clear g2
  by_cases g3 : 20 < (y.length : Int)
  · have q3 : decide (20 < (y.length : Int)) = true := by simpa using g3
    clear hA hB hx hz
    go_wp2
    go_ret
    exact ⟨by first | rfl | simp, hy⟩
  have q3 : decide (20 < (y.length : Int)) = false := by simpa using g3
  clear g3
  obtain ⟨h9, c0, c1⟩ := scheck_of h0
  have HF := Lib.hid (fit_of h9)
  have hl1 := HF.out.rows.1
  have H0 := Lib.hid h0
  have HI := Lib.hid (sol_FI (c := c) HF.out c0 c1)
  have HS : Hid (sSolve A B c = (nsol A B c (A.getD 0 []).length, nS A B c, 0)) := if_pos h0
  have PI := Lib.hid (point_iff (x := x) h9)
  have TF := tight_fact h0
  clear h0 h9 c0 c1
  generalize nS A B c = st at *
  generalize nsol A B c (A.getD 0 []).length = X at *
  obtain ⟨t1, t2, t3, t4, t5⟩ := TF
  have HR : Hid (nResidual A B X = ((nResidual A B X).1, 0)) := Prod.ext rfl t1
  have t3' := negs_val t2
  obtain ⟨R, hR⟩ : ∃ R, R = (nResidual A B X).1 := ⟨_, rfl⟩
  rw [← hR] at t2 t3 t4 t5 HR t3'
  clear hR
  have NL := Lib.hid (negs_len R)
  have NG := Lib.hid (fun i (h : i < R.length) => negs_get h)
  have FZ := Lib.hid (FI_of t3')
  have HM := Lib.hid t3
  have HG := Lib.hid t4
  have HC := Lib.hid t5
  have RV := Lib.hid t2
  clear t1 t2 t3 t3' t4 t5
  generalize negs R = Z at *
  go_wp2_with fail
  refine (spsolve_as A B c _ _ _ _ hA hB HS.out).mono ?_
  rintro e y4 ⟨u, rfl, sx, hq⟩
  clear rS fS zS
  replace oS := oS.below hq
  replace hA := hA.below hq
  replace hB := hB.below hq
  replace hx := hx.below hq
  replace hz := hz.below hq
  replace hy := below_to hy hq
  clear hq
  obtain ⟨rS, fS⟩ := oS.rules
  have zS := oS.lt
  have sx' : SF y4 u X := sx
  clear sx
  go_wp2_with fail
  refine (dmake_as A B c X _ _ _ _ _ hA hB sx' HI.out HM.out).mono ?_
  rintro e y5 ⟨v, rfl, sz, hq⟩
  clear rS fS zS
  replace oS := oS.below hq
  replace hA := hA.below hq
  replace hB := hB.below hq
  replace hx := hx.below hq
  replace hz := hz.below hq
  replace sx' := sx'.below hq
  replace hy := below_to hy hq
  clear hq
  obtain ⟨rS, fS⟩ := oS.rules
  have zS := oS.lt
  have sz' : SF y5 v Z := sz
  clear sz
  go_wp2_with fail
  refine (dgap_as A B c X Z _ _ _ _ _ _ hA hB sx' HI.out sz' FZ.out HG.out).mono ?_
  rintro e y6 ⟨rfl, hq⟩
  clear rS fS zS
  replace oS := oS.below hq
  replace hA := hA.below hq
  replace hB := hB.below hq
  replace hx := hx.below hq
  replace hz := hz.below hq
  replace sx' := sx'.below hq
  replace sz' := sz'.below hq
  replace hy := below_to hy hq
  clear hq
  obtain ⟨rS, fS⟩ := oS.rules
  have zS := oS.lt
  go_upto_region 7 with fail
  have oG := Own.new y6 39 [.int .i64 0, .int .i64 1]
  have hq := ba1 y6 (.cells #[.int .i64 0, .int .i64 1] 39)
  clear rS fS zS
  replace oS := oS.below hq
  replace hA := hA.below hq
  replace hB := hB.below hq
  replace hx := hx.below hq
  replace hz := hz.below hq
  replace sx' := sx'.below hq
  replace sz' := sz'.below hq
  replace hy := below_to hy hq
  clear hq
  obtain ⟨bG, hbG⟩ : ∃ b, b = y6.heap.size := ⟨_, rfl⟩
  rw [← hbG] at oG ⊢
  clear hbG
  generalize y6.alloc (.cells #[.int .i64 0, .int .i64 1] 39) = y7 at *
  obtain ⟨rS, fS⟩ := oS.rules
  have zS := oS.lt
  obtain ⟨rG, fG⟩ := oG.rules
  have zG := oG.lt
  have gl := @grow_lt
  refine wp_region_stt [.t [0, 1, 2, 3], .f 4, .f 5] [6, 7, 8] [9, 10] (by kernel_rfl) (by kernel_rfl) (fun _ _ _ _ _ h => h) ?_
  refine wpX_t ?_
  try simp only [opsAt, List.getElem?_toArray, List.getElem?_cons_zero, List.getElem?_cons_succ, Option.getD_some]
  repeat (go_big_quiet_step (fail))
  refine wpQuiet_nil ?_
  refine wpX_f rfl rfl (fun K' hK' => ?_)
  go_simp
  refine (rof_any 0 _).mono ?_
  rintro e y8 ⟨rfl, hq1⟩
  refine hK' _ _ (grow_of (below_to ((Below.refl _ _).drew) hq1)) ?_
  clear hK' K'
  have hr1 := below_to ((Below.refl y7.heap.size y7).drew) hq1
  refine wpX_f rfl rfl (fun K' hK' => ?_)
  go_simp
  refine (dacc_as A B c X Z 0 1 _ _ _ _ _ _ (hA.below hr1) (hB.below hr1) (sx'.below hr1) HI.out (sz'.below hr1) FZ.out ⟨by decide, by decide⟩ ⟨by decide, by decide⟩ HC.out).mono ?_
  rintro e y9 ⟨rfl, hq2⟩
  refine hK' _ _ (grow_of (below_to (below_to ((Below.refl _ _).drew) hq1) hq2)) ?_
  clear hK' K'
  refine wpX_nil ?_
  try simp only [opsAt, List.getElem?_toArray, List.getElem?_cons_zero, List.getElem?_cons_succ, Option.getD_some]
  repeat (go_big_quiet_step (fail))
  refine wpQuiet_nil ?_
  try simp only [opsAt, List.getElem?_toArray, List.getElem?_cons_zero, List.getElem?_cons_succ, Option.getD_some]
  have hq : Below y7.heap.size y7 y9 := below_to (below_to ((Below.refl _ _).drew) hq1) hq2
  clear gl hq1 hq2 hr1
  clear rS fS zS rG fG zG
  replace oS := oS.below hq
  replace oG := oG.below hq
  replace hA := hA.below hq
  replace hB := hB.below hq
  replace hx := hx.below hq
  replace hz := hz.below hq
  replace sx' := sx'.below hq
  replace sz' := sz'.below hq
  replace hy := below_to hy hq
  clear hq
  obtain ⟨rS, fS⟩ := oS.rules
  have zS := oS.lt
  obtain ⟨rG, fG⟩ := oG.rules
  have zG := oG.lt
  go_wp2_with fail
  refine (nresid_as A B X _ _ _ _ _ hA hB sx' HI.out HR.out).mono ?_
  rintro e x1 ⟨r, rfl, sr, hq⟩
  clear rS fS zS rG fG zG
  replace oS := oS.below hq
  replace oG := oG.below hq
  replace hA := hA.below hq
  replace hB := hB.below hq
  replace hx := hx.below hq
  replace hz := hz.below hq
  replace sx' := sx'.below hq
  replace sz' := sz'.below hq
  replace hy := below_to hy hq
  clear hq
  obtain ⟨rS, fS⟩ := oS.rules
  have zS := oS.lt
  obtain ⟨rG, fG⟩ := oG.rules
  have zG := oG.lt
  have sr' : SF x1 r R := sr
  clear sr sx'
  obtain ⟨adr, capr, e, hr1, hr2, _⟩ := sr'.open
  subst e
  obtain ⟨adz, capz, e, hz1, hz2, _⟩ := sz'.open
  subst e
  rw [NL.out] at hz1 hz2 sz' ⊢
  have b5 : ((R.length : Int) != (R.length : Int)) = false := by simp
  go_upto_region 9 with fail
  have gl := @grow_lt
  refine wp_region_grow (by kernel_rfl) (by kernel_rfl) ?_
  repeat (go_big_quiet_step (first | (go_at_call 27; exact Calls.grow_of (rof_any 0 _))))
  refine wpQuiet_nil ?_
  rintro _ ⟨ex, rfl⟩
  have hq := below_grow x1 ex
  clear gl
  clear rS fS zS rG fG zG
  replace oS := oS.below hq
  replace oG := oG.below hq
  replace hA := hA.below hq
  replace hB := hB.below hq
  replace hx := hx.below hq
  replace hz := hz.below hq
  replace sz' := sz'.below hq
  replace sr' := sr'.below hq
  replace hy := below_to hy hq
  clear hq
  obtain ⟨rS, fS⟩ := oS.rules
  have zS := oS.lt
  obtain ⟨rG, fG⟩ := oG.rules
  have zG := oG.lt
  generalize grow x1 ex = x2 at *
  have HA := Lib.hid hA
  have HB := Lib.hid hB
  have HX := Lib.hid hx
  have HZ := Lib.hid hz
  have SZ := Lib.hid sz'
  have SR := Lib.hid sr'
  have HY := Lib.hid hy
  have OS := Lib.hid oS
  clear hA hB hx hz sz' sr' hy oS rG fG zG oG rS fS zS
  go_wp2
  go_loopw [21] (fun i wr => ∃ k : Nat, k ≤ R.length ∧ i = .int .i64 k ∧ Below x2.heap.size x2 wr) (fun i _ => R.length - (intOf i).toNat)
  case atStart => exact ⟨0, Nat.zero_le _, rfl, Below.refl _ _⟩
  case round =>
    obtain ⟨k, hk, rfl, hW⟩ := hrel
    rename World => W
    by_cases hlt : k < R.length
    · obtain ⟨_, _, e, _, _, H⟩ := (SR.out.below hW).open
      cases e
      obtain ⟨b1, o1, rfl, d1, d2⟩ := H.out k hlt
      clear H
      have hkZ : k < Z.length := by rw [NL.out]; exact hlt
      obtain ⟨_, _, e, _, _, H⟩ := (SZ.out.below hW).open
      rw [NL.out] at e
      cases e
      obtain ⟨b2, o2, rfl, d3, d4⟩ := H.out k hkZ
      clear H
      have ez : Z[k] = (-R[k].1, R[k].2) := by
        have := NG.out k hlt
        simpa [hkZ] using this
      rw [ez] at d3 d4
      have I1 := fr_neg (RV.out k hlt)
      clear ez hkZ
      generalize R[k].1 = rn at *
      generalize R[k].2 = rd at *
      simp only at d1 d2 d3 d4
      have z1 := World.block_lt_of_cell? W _ d1
      have z2 := World.block_lt_of_cell? W _ d3
      simp only at z1 z2
      go_wp2_with fail
      have gl := @grow_lt
      refine wp_region_grow (by kernel_rfl) (by kernel_rfl) ?_
      repeat (go_big_quiet_step (first | (go_at_call 45; exact Calls.grow_of (rneg_any rn rd _ I1.1 I1.2))))
      refine wpQuiet_nil ?_
      rintro _ ⟨ex2, rfl⟩
      have hq := below_grow W ex2
      go_wp2
      go_roundw
      case rel => exact ⟨k + 1, by omega, by go_num, below_to hW hq⟩
      case measure => simp [intOf]; try omega
    · obtain rfl : k = R.length := by omega
      have hA := HA.out.below hW
      have hB := HB.out.below hW
      have hx := HX.out.below hW
      have hz := HZ.out.below hW
      have oS := OS.out.below hW
      have hy := below_to HY.out hW
      clear HA HB HX HZ SZ SR OS HY RV NG hW
      obtain ⟨rS, fS⟩ := oS.rules
      have zS := oS.lt
      by_cases hb : pointB (A.getD 0 []).length x = true
      case neg =>
        have hb' : pointB (A.getD 0 []).length x = false := by simpa using hb
        go_wp2_with fail
        refine (rnpt_as A x false _ _ _ _ hA hx IX.out hl1 hb').mono ?_
        rintro e z1 ⟨rfl, hq⟩
        clear rS fS zS
        replace oS := oS.below hq
        replace hA := hA.below hq
        replace hB := hB.below hq
        replace hx := hx.below hq
        replace hz := hz.below hq
        replace hy := below_to hy hq
        clear hq
        obtain ⟨rS, fS⟩ := oS.rules
        have zS := oS.lt
        clear hA hB hx hz
        go_wp2
        go_ret
        exact ⟨by first | rfl | simp, hy⟩
      have HP := Lib.hid (PI.out.2 hb)
      go_wp2_with fail
      refine (rnpt_as A x true _ _ _ _ hA hx IX.out hl1 hb).mono ?_
      rintro e z4 ⟨rfl, hq⟩
      clear rS fS zS
      replace oS := oS.below hq
      replace hA := hA.below hq
      replace hB := hB.below hq
      replace hx := hx.below hq
      replace hz := hz.below hq
      replace hy := below_to hy hq
      clear hq
      obtain ⟨rS, fS⟩ := oS.rules
      have zS := oS.lt
      clear hb PI
      by_cases hw : witB A.length y = true
      case neg =>
        have hw' : witB A.length y = false := by simpa using hw
        go_wp2_with fail
        refine (rdwt_as A y false _ _ _ _ hA hz IY.out hw').mono ?_
        rintro e z1 ⟨rfl, hq⟩
        clear rS fS zS
        replace oS := oS.below hq
        replace hA := hA.below hq
        replace hB := hB.below hq
        replace hx := hx.below hq
        replace hz := hz.below hq
        replace hy := below_to hy hq
        clear hq
        obtain ⟨rS, fS⟩ := oS.rules
        have zS := oS.lt
        clear hA hB hx hz
        go_wp2
        go_ret
        exact ⟨by first | rfl | simp, hy⟩
      have HW := Lib.hid hw
      go_wp2_with fail
      refine (rdwt_as A y true _ _ _ _ hA hz IY.out hw).mono ?_
      rintro e z5 ⟨rfl, hq⟩
      clear rS fS zS
      replace oS := oS.below hq
      replace hA := hA.below hq
      replace hB := hB.below hq
      replace hx := hx.below hq
      replace hz := hz.below hq
      replace hy := below_to hy hq
      clear hq
      obtain ⟨rS, fS⟩ := oS.rules
      have zS := oS.lt
      clear hw
      have ZF := zero_fact H0.out HP.out HW.out
      obtain ⟨O, hO⟩ : ∃ O, O = daccept A B c x y 0 1 := ⟨_, rfl⟩
      obtain ⟨T, hT⟩ : ∃ T, T = sOptimal A B c x := ⟨_, rfl⟩
      rw [← hO, ← hT] at ZF
      have HO := Lib.hid hO.symm
      have HT := Lib.hid hT.symm
      clear hO hT
      obtain ⟨ob, oe⟩ := O
      obtain ⟨tb, te⟩ := T
      simp only at ZF
      obtain ⟨ZE, ZF⟩ := ZF
      have ZG := Lib.hid ZF
      clear ZF
      go_upto_region 18 with fail
      have gl := @grow_lt
      refine wp_region_stt [.t [0, 1, 2, 3], .f 4, .f 5] [6, 7, 8] [9, 10] (by kernel_rfl) (by kernel_rfl) (fun _ _ _ _ _ h => h) ?_
      refine wpX_t ?_
      try simp only [opsAt, List.getElem?_toArray, List.getElem?_cons_zero, List.getElem?_cons_succ, Option.getD_some]
      repeat (go_big_quiet_step (fail))
      refine wpQuiet_nil ?_
      refine wpX_f rfl rfl (fun K' hK' => ?_)
      go_simp
      refine (rof_any 0 _).mono ?_
      rintro e z6 ⟨rfl, hq1⟩
      refine hK' _ _ (grow_of (below_to ((Below.refl _ _).drew) hq1)) ?_
      clear hK' K'
      have hr9 := below_to ((Below.refl z5.heap.size z5).drew) hq1
      refine wpX_f rfl rfl (fun K' hK' => ?_)
      go_simp
      refine (dacc_as A B c x y 0 1 _ _ _ _ _ _ (hA.below hr9) (hB.below hr9) (hx.below hr9) IX.out (hz.below hr9) IY.out ⟨by decide, by decide⟩ ⟨by decide, by decide⟩ HO.out).mono ?_
      rintro e z7 ⟨rfl, hq2⟩
      refine hK' _ _ (grow_of (below_to (below_to ((Below.refl _ _).drew) hq1) hq2)) ?_
      clear hK' K'
      refine wpX_nil ?_
      try simp only [opsAt, List.getElem?_toArray, List.getElem?_cons_zero, List.getElem?_cons_succ, Option.getD_some]
      repeat (go_big_quiet_step (fail))
      refine wpQuiet_nil ?_
      try simp only [opsAt, List.getElem?_toArray, List.getElem?_cons_zero, List.getElem?_cons_succ, Option.getD_some]
      have hq : Below z5.heap.size z5 z7 := below_to (below_to ((Below.refl _ _).drew) hq1) hq2
      clear gl hq1 hq2 hr9
      clear rS fS zS
      replace oS := oS.below hq
      replace hA := hA.below hq
      replace hB := hB.below hq
      replace hx := hx.below hq
      replace hz := hz.below hq
      replace hy := below_to hy hq
      clear hq
      obtain ⟨rS, fS⟩ := oS.rules
      have zS := oS.lt
      rcases ZE with rfl | rfl
      case inr =>
        go_wp2_with fail
        refine (ranged_ok 16 (.inr rfl) _).mono ?_
        rintro e z8 ⟨rfl, hq⟩
        clear rS fS zS
        replace oS := oS.below hq
        replace hA := hA.below hq
        replace hB := hB.below hq
        replace hx := hx.below hq
        replace hz := hz.below hq
        replace hy := below_to hy hq
        clear hq
        obtain ⟨rS, fS⟩ := oS.rules
        have zS := oS.lt
        clear hA hB hx hz
        go_wp2
        go_ret
        exact ⟨by first | rfl | simp, hy⟩
      cases ob
      case false =>
        go_wp2_with fail
        refine (ranged_ok 0 (.inl rfl) _).mono ?_
        rintro e z8 ⟨rfl, hq⟩
        clear rS fS zS
        replace oS := oS.below hq
        replace hA := hA.below hq
        replace hB := hB.below hq
        replace hx := hx.below hq
        replace hz := hz.below hq
        replace hy := below_to hy hq
        clear hq
        obtain ⟨rS, fS⟩ := oS.rules
        have zS := oS.lt
        clear hA hB hx hz
        go_wp2
        go_ret
        exact ⟨by first | rfl | simp, hy⟩
      have ZH := ZG.out (by simp) (by simp)
      clear ZG
      go_wp2_with fail
      refine (sopt_as A B c x _ _ _ _ _ hA hB hx IX.out HT.out).mono ?_
      rintro e z8 ⟨rfl, hq⟩
      clear rS fS zS
      replace oS := oS.below hq
      replace hA := hA.below hq
      replace hB := hB.below hq
      replace hx := hx.below hq
      replace hz := hz.below hq
      replace hy := below_to hy hq
      clear hq
      obtain ⟨rS, fS⟩ := oS.rules
      have zS := oS.lt
      clear hA hB hx hz
      rcases ZH with h | h
      · cases h
        go_wp2
        go_ret
        exact ⟨by first | rfl | simp, hy⟩
      · obtain rfl : te = 16 := h
        go_wp2
        go_ret
        exact ⟨by first | rfl | simp, hy⟩
end Go.Proofs.Ytfoemacgmehpiaa
