/- What is proved here: the law SparseBest returns true. Condition: a system, a cost that fits its type, and a slice of fractions that can be read. -/
import Derived.Test.YtfoemacgmehpiaaC25
import Derived.Test.YtfoemacgmehpiaaC34
import Derived.Test.YtfoemacgmehpiaaC24
import Derived.Test.YtfoemacgmehpiaaC23
import Derived.Test.YtfoemacgmehpiaaC10
import Derived.Deep.DeepCutAuto
namespace Go.Proofs.Ytfoemacgmehpiaa
open Go.RowKit

set_option maxRecDepth 100000 in
set_option maxHeartbeats 16000000 in
theorem sparseBest_any (A : List (List Int)) (B : List Int) (c : Int) (p : List (Int × Int)) (va vb vp : Value) (w : World) (hA : SS w va A) (hB : SI w vb B) (hp : SF w vp p) (ip : FI p) :
    Calls Try.prog 3 #[.agg #[va, vb], .int .i64 c, vp] w fun e w' => e = .returned (.bool true) ∧ Below w.heap.size w w' := by
  have IP := Lib.hid ip
  obtain ⟨adp, capp, rfl, hp1, hp2, _⟩ := hp.open
  clear ip
  go_enter Try.func3, Try.ntmps3
  have oS := Own.new w 25 [va, vb]
  have hy := ba1 w (.cells #[va, vb] 25)
  replace hA := hA.below hy
  replace hB := hB.below hy
  replace hp := hp.below hy
  obtain ⟨rS, fS⟩ := oS.rules
  have zS := oS.lt
  go_wp2_with fail
  refine (alive38_any _).mono ?_
  rintro e y1 ⟨rfl, hq⟩
  clear rS fS zS
  replace oS := oS.below hq
  replace hA := hA.below hq
  replace hB := hB.below hq
  replace hp := hp.below hq
  replace hy := below_to hy hq
  clear hq
  obtain ⟨rS, fS⟩ := oS.rules
  have zS := oS.lt
  go_wp2_with fail
  refine (rngreat_any A B _ _ _ hA hB).mono ?_
  rintro e y2 ⟨rfl, hq⟩
  clear rS fS zS
  replace oS := oS.below hq
  replace hA := hA.below hq
  replace hB := hB.below hq
  replace hp := hp.below hq
  replace hy := below_to hy hq
  clear hq
  obtain ⟨rS, fS⟩ := oS.rules
  have zS := oS.lt
  by_cases g1 : ngreat A B = true
  · rw [g1]
    clear g1 hA hB hp
    go_wp2
    go_ret
    exact ⟨rfl, hy⟩
  have g1' : ngreat A B = false := by simpa using g1
  rw [g1']
  clear g1 g1'
  go_wp2_with fail
  refine (rscheck_any A B c _ _ _ hA hB).mono ?_
  rintro e y3 ⟨rfl, hq⟩
  clear rS fS zS
  replace oS := oS.below hq
  replace hA := hA.below hq
  replace hB := hB.below hq
  replace hp := hp.below hq
  replace hy := below_to hy hq
  clear hq
  obtain ⟨rS, fS⟩ := oS.rules
  have zS := oS.lt
  by_cases h0 : scheck A B c = 0
  case neg =>
    have q0 : (scheck A B c != 0) = true := by simpa using h0
    clear h0 hA hB hp
    go_wp2
    go_ret
    exact ⟨rfl, hy⟩
  rw [h0]
  by_cases g2 : 20 < (p.length : Int)
  · have q2 : decide (20 < (p.length : Int)) = true := by simpa using g2
    clear hA hB hp
    go_wp2
    go_ret
    exact ⟨rfl, hy⟩
  have q2 : decide (20 < (p.length : Int)) = false := by simpa using g2
  clear g2
  have HC := Lib.hid h0
  obtain ⟨h9, c0, c1⟩ := scheck_of h0
  have HF := Lib.hid (fit_of h9)
  have so := Lib.hid (sol_ok h9 c0 c1)
  have sg := Lib.hid (sol_s h0)
  have HI := Lib.hid (sol_FI (c := c) HF.out c0 c1)
  have HS : Hid (sSolve A B c = (nsol A B c (A.getD 0 []).length, nS A B c, 0)) := if_pos h0
  have hl1 := HF.out.rows.1
  have n3 := HF.out.cols.2
  have HL : Hid ((nsol A B c (A.getD 0 []).length).length = (A.getD 0 []).length) := nsol_len
  have BF := Lib.hid (fun (h : npoint A B p = 0) he => best_factS h0 h he)
  have PE := Lib.hid (fun (h : npoint A B p = 0) => cost_err h0 h)
  have OE := Lib.hid (fun (h : npoint A B p = 0) => sopt_err16 h0 h)
  have PB := Lib.hid (pointB_iff (x := p) h9)
  have PX := Lib.hid ((pointB_iff (x := nsol A B c (A.getD 0 []).length) h9).1 so.out.point)
  have hs := nS_spec HF.out c0
  have HW := Lib.hid (HF.out.wide 0 (by omega))
  clear h0 h9 c0 c1
  go_wp2_with fail
  refine (spsolve_as A B c _ _ _ _ hA hB HS.out).mono ?_
  rintro e y4 ⟨u, rfl, sx, hq⟩
  clear rS fS zS
  replace oS := oS.below hq
  replace hA := hA.below hq
  replace hB := hB.below hq
  replace hp := hp.below hq
  replace hy := below_to hy hq
  clear hq
  obtain ⟨rS, fS⟩ := oS.rules
  have zS := oS.lt
  have sx' : SF y4 u (nsol A B c (A.getD 0 []).length) := sx
  clear sx
  obtain ⟨adx, capx, e, hx1, hx2, _⟩ := sx'.open
  subst e
  rw [HL.out] at hx1 hx2 sx' ⊢
  obtain ⟨ada, capa, e, ha1, ha2, H⟩ := hA.open
  subst e
  obtain ⟨b0, o0, ad0, cap0, rfl, c1, c2, c3, _⟩ := H.out 0 hl1
  clear H
  rw [HW.out] at c1 c2 c3
  rw [Nat.add_zero] at c1
  have hN : Hid (SF y4 (.slice adx (A.getD 0 []).length capx) (nsol A B c (A.getD 0 []).length)) := sx'
  have PXL := Lib.hid PX.out
  obtain ⟨n, hn⟩ : ∃ n, n = (A.getD 0 []).length := ⟨_, rfl⟩
  obtain ⟨S, hSS⟩ : ∃ S, S = nS A B c := ⟨_, rfl⟩
  obtain ⟨X, hX⟩ : ∃ X, X = nsol A B c (A.getD 0 []).length := ⟨_, rfl⟩
  have HX : Hid (X = nsol A B c (A.getD 0 []).length) := hX
  have HN : Hid (n = (A.getD 0 []).length) := hn
  have HSS : Hid (S = nS A B c) := hSS
  rw [← hX, ← hn] at sx'
  rw [← hn] at c1 c2 c3 n3 hx1 hx2 hs ⊢
  rw [← hSS] at hs ⊢
  rw [← hX] at HI PX
  clear hX hn hSS hN PXL
  have XL : X.length = n := by rw [HX.out, HN.out]; exact nsol_len
  have HXL := Lib.hid XL
  have sx := sx'
  clear sx'
  obtain ⟨hs1, _⟩ := hs
  have qs1 : decide (((S : Nat) : Int) < 0) = false := by simp
  have pw := pow_wrap n3
  have qs2 : decide (wrap64 ((2 : Int) ^ n) ≤ (S : Int)) = false := by rw [pw]; exact decide_eq_false (Int.not_le.2 (Int.ofNat_lt.2 hs1))
  have S8 := set8 n3 hs1
  clear pw XL
  have k1 : CellIs y4 ⟨b0, o0, none⟩ (.slice ad0 n cap0) := c1
  clear c1
  go_wp2_with fail
  refine (rnpt_as A X true _ _ _ _ hA sx HI.out hl1 PX.out).mono ?_
  rintro e y5 ⟨rfl, hq⟩
  clear rS fS zS
  replace oS := oS.below hq
  replace hA := hA.below hq
  replace hB := hB.below hq
  replace hp := hp.below hq
  replace sx := sx.below hq
  replace k1 := k1.below hq
  replace hy := below_to hy hq
  clear hq
  obtain ⟨rS, fS⟩ := oS.rules
  have zS := oS.lt
  have c1 : y5.cell? ⟨b0, o0, none⟩ = some (.slice ad0 n cap0) := k1
  have NO : Hid (sOptimal A B c X = (true, 0)) := by show _ = _; rw [HX.out]; exact sg.out.opt
  have NG : Hid (sSlope A B c X = ((sSlope A B c X).1, 0)) := by show _ = _; rw [HX.out, sg.out.slope]
  have NV : Hid (sCost A B c X = uf (qprice (fA A) (fB B) A.length (c : Rat) (nsx A B c))) := by show _ = _; rw [HX.out]; exact sg.out.cost
  have GL : Hid ((sSlope A B c X).1.length = n) := by show _ = _; rw [HX.out, HN.out, sg.out.slope]; simp
  clear k1
  obtain ⟨vn, hvn⟩ : ∃ z, z = (qprice (fA A) (fB B) A.length (c : Rat) (nsx A B c)).num := ⟨_, rfl⟩
  obtain ⟨vd, hvd⟩ : ∃ z : Int, z = (qprice (fA A) (fB B) A.length (c : Rat) (nsx A B c)).den := ⟨_, rfl⟩
  have VC : Hid (fchk vn vd = 0) := by show _ = _; rw [hvn, hvd]; exact fchk_inr sg.out.cin
  rw [← hvn, ← hvd] at BF
  have NV' : Hid (sCost A B c X = ⟨vn, vd, 0⟩) := by show _ = _; rw [NV.out, hvn, hvd]; rfl
  clear NV hvn hvd
  have EA : Hid (∀ k, k < n → ∃ gn gd xn xd : Int, fchk gn gd = 0 ∧ (sSlope A B c X).1[k]? = some (gn, gd) ∧ X[k]? = some (xn, xd) ∧ 0 ≤ gn ∧ (0 < gn → xn = 0) ∧ (0 < xn → S.testBit k = true) ∧ 0 ≤ xn) := fun k hk => by
    rw [HX.out, HSS.out]
    exact sols_each HC.out (by rw [← HN.out]; exact hk)
  go_wp2_with fail
  refine (sopt_as A B c X _ _ _ _ _ hA hB sx HI.out NO.out).mono ?_
  rintro e y6 ⟨rfl, hq⟩
  clear rS fS zS
  replace oS := oS.below hq
  replace hA := hA.below hq
  replace hB := hB.below hq
  replace hp := hp.below hq
  replace sx := sx.below hq
  replace hy := below_to hy hq
  clear hq
  obtain ⟨rS, fS⟩ := oS.rules
  have zS := oS.lt
  go_wp2_with fail
  refine (sslope_as A B c X _ _ _ _ _ hA hB sx HI.out NG.out).mono ?_
  rintro e y7 ⟨ug, rfl, sgr, hq⟩
  clear rS fS zS
  replace oS := oS.below hq
  replace hA := hA.below hq
  replace hB := hB.below hq
  replace hp := hp.below hq
  replace sx := sx.below hq
  replace hy := below_to hy hq
  clear hq
  obtain ⟨rS, fS⟩ := oS.rules
  have zS := oS.lt
  have sgr' : SF y7 ug (sSlope A B c X).1 := sgr
  clear sgr NG
  have GF : Hid (FI (sSlope A B c X).1) := sSlope_FI A B c X
  generalize (sSlope A B c X).1 = G at *
  obtain ⟨adg, capg, e, hg1, hg2, _⟩ := sgr'.open
  subst e
  have sgr := sgr'
  clear sgr'
  rw [GL.out] at hg1 hg2 sgr ⊢
  go_wp2_with fail
  refine (scost_as A B c X _ _ _ _ _ hA hB sx HI.out NV'.out).mono ?_
  rintro e y8 ⟨rfl, hq⟩
  clear rS fS zS
  replace oS := oS.below hq
  replace hA := hA.below hq
  replace hB := hB.below hq
  replace hp := hp.below hq
  replace sx := sx.below hq
  replace sgr := sgr.below hq
  replace hy := below_to hy hq
  clear hq
  obtain ⟨rS, fS⟩ := oS.rules
  have zS := oS.lt
  go_upto_region 10 with fail
  have oP := Own.new y8 39 [.int .i64 vn, .int .i64 vd]
  have hq := ba1 y8 (.cells #[.int .i64 vn, .int .i64 vd] 39)
  clear rS fS zS
  replace oS := oS.below hq
  replace hA := hA.below hq
  replace hB := hB.below hq
  replace hp := hp.below hq
  replace sx := sx.below hq
  replace sgr := sgr.below hq
  replace hy := below_to hy hq
  clear hq
  obtain ⟨bP, hbP⟩ : ∃ b, b = y8.heap.size := ⟨_, rfl⟩
  rw [← hbP] at oP ⊢
  clear hbP
  generalize y8.alloc (.cells #[.int .i64 vn, .int .i64 vd] 39) = y9 at *
  have XL := HXL.out
  have OS := Lib.hid oS
  have OP := Lib.hid oP
  have HA := Lib.hid hA
  have HB := Lib.hid hB
  have HP := Lib.hid hp
  have SX := Lib.hid sx
  have SG := Lib.hid sgr
  have HY := Lib.hid hy
  clear oS oP hA hB hp sx sgr hy
  go_wp2
  go_loopw [17] (fun i wr => ∃ k : Nat, k ≤ n ∧ i = .int .i64 k ∧ Below y9.heap.size y9 wr) (fun i _ => n - (intOf i).toNat)
  case atStart => exact ⟨0, Nat.zero_le _, rfl, Below.refl _ _⟩
  case round =>
    obtain ⟨k, hk, rfl, hW⟩ := hrel
    rename World => W
    by_cases hlt : k < n
    · obtain ⟨gn, gd, xn, xd, e1, e2, e3, e4, e5, e6, e7⟩ := EA.out k hlt
      have hkG : k < G.length := by rw [GL.out]; exact hlt
      have hkX : k < X.length := by rw [HXL.out]; exact hlt
      obtain ⟨_, _, e, _, _, H⟩ := (SG.out.below hW).open
      rw [GL.out] at e
      cases e
      obtain ⟨b1, o1, rfl, d1, d2⟩ := H.out k hkG
      clear H
      obtain ⟨_, _, e, _, _, H⟩ := (SX.out.below hW).open
      rw [HXL.out] at e
      cases e
      obtain ⟨b2, o2, rfl, d3, d4⟩ := H.out k hkX
      clear H
      rw [show G[k] = (gn, gd) by simpa [hkG] using e2] at d1 d2
      rw [show X[k] = (xn, xd) by simpa [hkX] using e3] at d3 d4
      simp only at d1 d2 d3 d4
      have hk3 : k < 3 := by omega
      have BZ := fun h => bit_zero (k := k) S8 hk3 (e6 h)
      have I1 := fr_i64 e1
      have E1 := Lib.hid e1
      have g0 : decide (gn < 0) = false := by simp; omega
      have k1 : CellIs W ⟨b1, o1 + k * 2, none⟩ (.int .i64 gn) := d1
      have k2 : CellIs W ⟨b2, o2 + k * 2, none⟩ (.int .i64 xn) := d3
      clear e1 e2 e3 e6 hkG hkX
      go_wp2_with fail
      refine (rcheck_as gn gd 0 _ I1.1 I1.2 E1.out).mono ?_
      rintro e W1 ⟨rfl, hq⟩
      replace k1 := k1.below hq
      replace k2 := k2.below hq
      replace hW := below_to hW hq
      clear hq d1 d2 d3 d4 I1
      have d1 : W1.cell? ⟨b1, o1 + k * 2, none⟩ = some (.int .i64 gn) := k1
      have d3 : W1.cell? ⟨b2, o2 + k * 2, none⟩ = some (.int .i64 xn) := k2
      by_cases a1 : 0 < gn
      · have a2 := e5 a1
        subst a2
        have q1 : decide (0 < gn) = true := by simpa using a1
        clear BZ e5
        go_wp2
        go_roundw
        case rel => exact ⟨k + 1, by omega, by go_num, hW⟩
        case measure => simp [intOf]; try omega
      · have q1 : decide (0 < gn) = false := by simpa using a1
        by_cases a3 : 0 < xn
        · have q3 : decide (0 < xn) = true := by simpa using a3
          have bz := BZ a3
          clear BZ e5
          go_wp2
          go_roundw
          case rel => exact ⟨k + 1, by omega, by go_num, hW⟩
          case measure => simp [intOf]; try omega
        · have q3 : decide (0 < xn) = false := by simpa using a3
          clear BZ e5
          go_wp2
          go_roundw
          case rel => exact ⟨k + 1, by omega, by go_num, hW⟩
          case measure => simp [intOf]; try omega
    · obtain rfl : k = n := by omega
      have oS := OS.out.below hW
      have oP := OP.out.below hW
      have hA := HA.out.below hW
      have hB := HB.out.below hW
      have hp := HP.out.below hW
      have hy := below_to HY.out hW
      clear OS OP HA HB HP SX SG HY hW EA
      obtain ⟨rS, fS⟩ := oS.rules
      have zS := oS.lt
      obtain ⟨rP, fP⟩ := oP.rules
      have zP := oP.lt
      by_cases hb : pointB (A.getD 0 []).length p = true
      case neg =>
        have hb' : pointB (A.getD 0 []).length p = false := by simpa using hb
        go_wp2_with fail
        refine (rnpt_as A p false _ _ _ _ hA hp IP.out hl1 hb').mono ?_
        rintro e z1 ⟨rfl, hq⟩
        clear rS fS zS rP fP zP
        replace oS := oS.below hq
        replace oP := oP.below hq
        replace hA := hA.below hq
        replace hB := hB.below hq
        replace hp := hp.below hq
        replace hy := below_to hy hq
        clear hq
        obtain ⟨rS, fS⟩ := oS.rules
        have zS := oS.lt
        obtain ⟨rP, fP⟩ := oP.rules
        have zP := oP.lt
        clear hA hB hp
        go_wp2
        go_ret
        exact ⟨rfl, hy⟩
      have hpt := PB.out.2 hb
      go_wp2_with fail
      refine (rnpt_as A p true _ _ _ _ hA hp IP.out hl1 hb).mono ?_
      rintro e z1 ⟨rfl, hq⟩
      clear rS fS zS rP fP zP
      replace oS := oS.below hq
      replace oP := oP.below hq
      replace hA := hA.below hq
      replace hB := hB.below hq
      replace hp := hp.below hq
      replace hy := below_to hy hq
      clear hq
      obtain ⟨rS, fS⟩ := oS.rules
      have zS := oS.lt
      obtain ⟨rP, fP⟩ := oP.rules
      have zP := oP.lt
      have BF1 := Lib.hid (BF.out hpt)
      have PE1 := PE.out hpt
      have OE1 := OE.out hpt
      clear BF PE OE hpt hb
      obtain ⟨V, hV⟩ : ∃ V, V = sCost A B c p := ⟨_, rfl⟩
      rw [← hV] at BF1 PE1
      have HV := Lib.hid hV.symm
      clear hV
      go_wp2_with fail
      refine (scost_as A B c p _ _ _ _ _ hA hB hp IP.out HV.out).mono ?_
      rintro e z2 ⟨rfl, hq⟩
      clear rS fS zS rP fP zP
      replace oS := oS.below hq
      replace oP := oP.below hq
      replace hA := hA.below hq
      replace hB := hB.below hq
      replace hp := hp.below hq
      replace hy := below_to hy hq
      clear hq
      obtain ⟨rS, fS⟩ := oS.rules
      have zS := oS.lt
      obtain ⟨rP, fP⟩ := oP.rules
      have zP := oP.lt
      by_cases hve : V.e = 0
      case neg =>
        have e16 : V.e = 16 := by omega
        rw [e16]
        clear hA hB hp
        go_wp2
        go_ret
        exact ⟨rfl, below_to hy (ba1 _ _)⟩
      obtain ⟨f1, f2, f3⟩ := BF1.out hve
      rw [hve]
      clear PE1 hve BF1
      obtain ⟨un, ud, ue⟩ := V
      simp only at f1 f2 f3 ⊢
      go_upto_region 20 with fail
      have oQ := Own.new z2 39 [.int .i64 un, .int .i64 ud]
      have hq := ba1 z2 (.cells #[.int .i64 un, .int .i64 ud] 39)
      clear rS fS zS rP fP zP
      replace oS := oS.below hq
      replace oP := oP.below hq
      replace hA := hA.below hq
      replace hB := hB.below hq
      replace hp := hp.below hq
      replace hy := below_to hy hq
      clear hq
      obtain ⟨bQ, hbQ⟩ : ∃ b, b = z2.heap.size := ⟨_, rfl⟩
      rw [← hbQ] at oQ ⊢
      clear hbQ
      generalize z2.alloc (.cells #[.int .i64 un, .int .i64 ud] 39) = z3 at *
      obtain ⟨rS, fS⟩ := oS.rules
      have zS := oS.lt
      obtain ⟨rP, fP⟩ := oP.rules
      have zP := oP.lt
      obtain ⟨rQ, fQ⟩ := oQ.rules
      have zQ := oQ.lt
      have F1 := Lib.hid f1
      have F3 := Lib.hid f3
      obtain ⟨cm, hc⟩ : ∃ z, z = fcmp vn vd un ud := ⟨_, rfl⟩
      have CM : Hid (fcmp vn vd un ud = cm) := hc.symm
      rw [← hc] at f2
      have F3' : Hid ((sOptimal A B c p).2 = 0 → (sOptimal A B c p).1 = decide (cm = 0)) := by rw [hc]; exact F3.out
      have qc : decide (cm ≤ 0) = true := by simpa using f2
      clear hc f1 f3 F3
      go_wp2_with fail
      refine (cmp_as vn vd un ud _ VC.out F1.out).mono ?_
      rintro e z4 ⟨rfl, hq⟩
      rw [CM.out]
      clear rS fS zS rP fP zP rQ fQ zQ oP oQ
      replace oS := oS.below hq
      replace hA := hA.below hq
      replace hB := hB.below hq
      replace hp := hp.below hq
      replace hy := below_to hy hq
      clear hq
      obtain ⟨rS, fS⟩ := oS.rules
      have zS := oS.lt
      go_wp2_with fail
      refine (sopt_any A B c p _ _ _ _ hA hB hp IP.out).mono ?_
      rintro e z5 ⟨rfl, hq⟩
      clear rS fS zS
      replace oS := oS.below hq
      replace hA := hA.below hq
      replace hB := hB.below hq
      replace hp := hp.below hq
      replace hy := below_to hy hq
      clear hq
      obtain ⟨rS, fS⟩ := oS.rules
      have zS := oS.lt
      clear hA hB hp
      generalize (sOptimal A B c p).1 = ob at *
      generalize (sOptimal A B c p).2 = oe at *
      by_cases ho : oe = 0
      · subst ho
        have := F3'.out rfl
        subst this
        by_cases h2 : cm = 0
        · subst h2
          go_wp2
          go_ret
          exact ⟨by first | rfl | simp, hy⟩
        · have q4 : (cm == 0) = false := by simpa using h2
          have q5 : decide (cm = 0) = false := by simpa using h2
          rw [q5]
          go_wp2
          go_ret
          exact ⟨by first | rfl | simp, hy⟩
      · have q4 : (oe != 0) = true := by simpa using ho
        go_wp2
        go_ret
        exact ⟨by first | rfl | simp, hy⟩
end Go.Proofs.Ytfoemacgmehpiaa
