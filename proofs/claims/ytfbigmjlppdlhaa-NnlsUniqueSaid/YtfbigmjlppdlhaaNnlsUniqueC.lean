/- What is proved here: the law NnlsUnique returns true. Condition: a system and a slice of fractions that can be read. -/
import Derived.Test.YtfbigmjlppdlhaaC56
import Derived.Test.YtfbigmjlppdlhaaC57
import Derived.Test.YtfbigmjlppdlhaaC41
import Derived.Test.YtfbigmjlppdlhaaC24
import Derived.Test.YtfbigmjlppdlhaaC15
import Derived.Test.YtfbigmjlppdlhaaC07
import Derived.Test.YtfbigmjlppdlhaaC01
import Derived.Deep.DeepCutAuto
namespace Go.Proofs.Ytfbigmjlppdlhaa
open Go.RowKit

theorem fadd_as (an ad bn bd : Int) (r : FR) (w : World) (h1 : i64 an) (h2 : i64 ad) (h3 : i64 bn) (h4 : i64 bd) (hr : fadd an ad bn bd = r) :
    Calls Try.prog 63 #[.agg #[.int .i64 an, .int .i64 ad], .agg #[.int .i64 bn, .int .i64 bd]] w fun e w' => e = .returned (.tuple #[.agg #[.int .i64 r.n, .int .i64 r.d], .int .i64 r.e]) ∧ Below w.heap.size w w' := by
  subst hr; exact fadd_any an ad bn bd w h1 h2 h3 h4
theorem fmul_as (an ad bn bd : Int) (r : FR) (w : World) (h1 : i64 an) (h2 : i64 ad) (h3 : i64 bn) (h4 : i64 bd) (hr : fmul an ad bn bd = r) :
    Calls Try.prog 64 #[.agg #[.int .i64 an, .int .i64 ad], .agg #[.int .i64 bn, .int .i64 bd]] w fun e w' => e = .returned (.tuple #[.agg #[.int .i64 r.n, .int .i64 r.d], .int .i64 r.e]) ∧ Below w.heap.size w w' := by
  subst hr; exact fmul_any an ad bn bd w h1 h2 h3 h4
set_option maxRecDepth 100000 in
set_option maxHeartbeats 16000000 in
theorem nnlsUnique_any (A : List (List Int)) (B : List Int) (p : List (Int × Int)) (va vb vp : Value) (w : World) (hA : SS w va A) (hB : SI w vb B) (hp : SF w vp p) (ip : FI p) :
    Calls Try.prog 13 #[.agg #[va, vb], vp] w fun e w' => e = .returned (.bool true) ∧ Below w.heap.size w w' := by
  have IP := Lib.hid ip
  obtain ⟨adp, capp, rfl, hp1, hp2, _⟩ := hp.open
  clear ip
  go_enter Try.func13, Try.ntmps13
  have oS := Own.new w 25 [va, vb]
  have hy := ba1 w (.cells #[va, vb] 25)
  replace hA := hA.below hy
  replace hB := hB.below hy
  replace hp := hp.below hy
  obtain ⟨rS, fS⟩ := oS.rules
  have zS := oS.lt
  go_wp2_with fail
  refine (alive37_any _).mono ?_
  rintro e y1 ⟨rfl, hq⟩
  clear rS fS zS
  replace oS := oS.below hq
  replace hA := hA.below hq
  replace hB := hB.below hq
  replace hp := hp.below hq
  replace hy := below_to hy hq
  clear hq
  obtain ⟨rS, fS⟩ := oS.rules
  have zS := oS.lt
  go_wp2_with fail
  refine (rngreat_any A B _ _ _ hA hB).mono ?_
  rintro e y2 ⟨rfl, hq⟩
  clear rS fS zS
  replace oS := oS.below hq
  replace hA := hA.below hq
  replace hB := hB.below hq
  replace hp := hp.below hq
  replace hy := below_to hy hq
  clear hq
  obtain ⟨rS, fS⟩ := oS.rules
  have zS := oS.lt
  by_cases g1 : ngreat A B = true
  · rw [g1]
    clear g1 hA hB hp
    go_wp2
    go_ret
    exact ⟨rfl, hy⟩
  have g1' : ngreat A B = false := by simpa using g1
  rw [g1']
  clear g1 g1'
  go_wp2_with fail
  refine (rncheck_any A B _ _ _ hA hB).mono ?_
  rintro e y3 ⟨rfl, hq⟩
  clear rS fS zS
  replace oS := oS.below hq
  replace hA := hA.below hq
  replace hB := hB.below hq
  replace hp := hp.below hq
  replace hy := below_to hy hq
  clear hq
  obtain ⟨rS, fS⟩ := oS.rules
  have zS := oS.lt
  by_cases h0 : ncheck A B = 0
  case neg =>
    have q0 : (ncheck A B != 0) = true := by simpa using h0
    clear h0 hA hB hp
    go_wp2
    go_ret
    exact ⟨rfl, hy⟩
  rw [h0]
  by_cases g2 : 20 < (p.length : Int)
  · have q2 : decide (20 < (p.length : Int)) = true := by simpa using g2
    clear hA hB hp
    go_wp2
    go_ret
    exact ⟨rfl, hy⟩
  have q2 : decide (20 < (p.length : Int)) = false := by simpa using g2
  clear g2
  have HC := Lib.hid h0
  have HF := Lib.hid (fit_of h0)
  have hl1 := HF.out.rows.1
  have n3 := HF.out.cols.2
  have PB := Lib.hid (pointB_iff (x := p) h0)
  clear h0
  by_cases hb : pointB (A.getD 0 []).length p = true
  case neg =>
    have hb' : pointB (A.getD 0 []).length p = false := by simpa using hb
    go_wp2_with fail
    refine (rnpt_as A p false _ _ _ _ hA hp IP.out hl1 hb').mono ?_
    rintro e z1 ⟨rfl, hq⟩
    clear rS fS zS
    replace oS := oS.below hq
    replace hA := hA.below hq
    replace hB := hB.below hq
    replace hp := hp.below hq
    replace hy := below_to hy hq
    clear hq
    obtain ⟨rS, fS⟩ := oS.rules
    have zS := oS.lt
    clear hA hB hp
    go_wp2
    go_ret
    exact ⟨rfl, hy⟩
  have hpt := PB.out.2 hb
  have HPT := Lib.hid hpt
  go_wp2_with fail
  refine (rnpt_as A p true _ _ _ _ hA hp IP.out hl1 hb).mono ?_
  rintro e y4 ⟨rfl, hq⟩
  clear rS fS zS
  replace oS := oS.below hq
  replace hA := hA.below hq
  replace hB := hB.below hq
  replace hp := hp.below hq
  replace hy := below_to hy hq
  clear hq
  obtain ⟨rS, fS⟩ := oS.rules
  have zS := oS.lt
  have OE1 := opt_err16 hpt
  clear hpt hb PB
  obtain ⟨O, hO⟩ : ∃ O, O = nOptimal A B p := ⟨_, rfl⟩
  have HO := Lib.hid hO.symm
  rw [← hO] at OE1
  clear hO
  obtain ⟨ob, oe⟩ := O
  simp only at OE1
  go_wp2_with fail
  refine (nopt_as A B p _ _ _ _ _ hA hB hp IP.out HO.out).mono ?_
  rintro e y5 ⟨rfl, hq⟩
  clear rS fS zS
  replace oS := oS.below hq
  replace hA := hA.below hq
  replace hB := hB.below hq
  replace hp := hp.below hq
  replace hy := below_to hy hq
  clear hq
  obtain ⟨rS, fS⟩ := oS.rules
  have zS := oS.lt
  by_cases ho : oe = 0
  case neg =>
    have e16 : oe = 16 := by omega
    subst e16
    clear hA hB hp
    go_wp2
    go_ret
    exact ⟨by first | rfl | simp, hy⟩
  subst ho
  cases ob
  case false =>
    clear hA hB hp
    go_wp2
    go_ret
    exact ⟨by first | rfl | simp, hy⟩
  clear OE1
  have so := Lib.hid (sol_ok HC.out (Int.le_refl 0) (by decide : (0 : Int) ≤ 1000))
  have HI := Lib.hid (sol_FI (c := 0) HF.out (Int.le_refl 0) (by decide))
  have HS := Lib.hid (nsolve_0 (c := 0) HC.out)
  have UF := uniq_fact HC.out HPT.out HO.out
  have MF := Lib.hid (fun hi => mids_fact HC.out HPT.out HO.out hi)
  have HLn := Lib.hid UF.1
  have NR2 := Lib.hid UF.2
  clear UF
  have NR1 : Hid (nResidual A B (nsol A B 0 (A.getD 0 []).length) = ((nResidual A B (nsol A B 0 (A.getD 0 []).length)).1, 0)) := by show _ = _; rw [so.out.res]
  have HL : Hid ((nsol A B 0 (A.getD 0 []).length).length = p.length) := by show _ = _; rw [nsol_len]; exact HLn.out.symm
  have EX : Hid (∀ k (h : k < p.length), (nsol A B 0 (A.getD 0 []).length)[k]? = some (up (nsx A B 0 k)) ∧ p[k] = up (nx p k) ∧ fchk (up (nsx A B 0 k)).1 (up (nsx A B 0 k)).2 = 0 ∧ fchk (up (nx p k)).1 (up (nx p k)).2 = 0) := fun k hk => by
    obtain ⟨_, h⟩ := point_of HPT.out
    have h1 := (h k hk).1
    have e : p[k] = up (nx p k) := by rw [nx_get hk, up_qq h1]
    refine ⟨nsol_get (by rw [← HLn.out]; exact hk), e, up_chk (nsx_make HF.out (Int.le_refl 0) (by decide) (by have := HLn.out; omega)).1, ?_⟩
    rw [← e]; exact h1
  go_wp2_with fail
  refine (nsolve_as A B _ _ _ _ hA hB HS.out).mono ?_
  rintro e y6 ⟨u, rfl, sx, hq⟩
  clear rS fS zS
  replace oS := oS.below hq
  replace hA := hA.below hq
  replace hB := hB.below hq
  replace hp := hp.below hq
  replace hy := below_to hy hq
  clear hq
  obtain ⟨rS, fS⟩ := oS.rules
  have zS := oS.lt
  have sx' : SF y6 u (nsol A B 0 (A.getD 0 []).length) := sx
  clear sx
  have n9 : p.length ≤ 3 := by have := HLn.out; omega
  obtain ⟨X, hX⟩ : ∃ X, X = nsol A B 0 (A.getD 0 []).length := ⟨_, rfl⟩
  rw [← hX] at sx' HI NR1 NR2 EX HL
  clear hX
  obtain ⟨adx, capx, e, hx1, hx2, _⟩ := sx'.open
  subst e
  have sx := sx'
  clear sx' n3
  rw [HL.out] at hx1 hx2 sx ⊢
  have HFR : Hid (FI (nResidual A B X).1) := nResid_FI A B X
  generalize (nResidual A B X).1 = R at *
  go_wp2_with fail
  refine (nresid_as A B X _ _ _ _ _ hA hB sx HI.out NR1.out).mono ?_
  rintro e y7 ⟨ua, rfl, sa, hq⟩
  clear rS fS zS
  replace oS := oS.below hq
  replace hA := hA.below hq
  replace hB := hB.below hq
  replace hp := hp.below hq
  replace sx := sx.below hq
  replace hy := below_to hy hq
  clear hq
  obtain ⟨rS, fS⟩ := oS.rules
  have zS := oS.lt
  have sa' : SF y7 ua R := sa
  clear sa
  go_wp2_with fail
  refine (nresid_as A B p _ _ _ _ _ hA hB hp IP.out NR2.out).mono ?_
  rintro e y8 ⟨ub, rfl, sb, hq⟩
  clear rS fS zS
  replace oS := oS.below hq
  replace hA := hA.below hq
  replace hB := hB.below hq
  replace hp := hp.below hq
  replace sx := sx.below hq
  replace sa' := sa'.below hq
  replace hy := below_to hy hq
  clear hq
  obtain ⟨rS, fS⟩ := oS.rules
  have zS := oS.lt
  have sb' : SF y8 ub R := sb
  clear sb
  go_wp2_with fail
  refine (rsame_true R _ _ _ sa' sb').mono ?_
  rintro e y9 ⟨rfl, hq⟩
  clear rS fS zS
  replace oS := oS.below hq
  replace hA := hA.below hq
  replace hB := hB.below hq
  replace hp := hp.below hq
  replace sx := sx.below hq
  replace hy := below_to hy hq
  clear hq
  obtain ⟨rS, fS⟩ := oS.rules
  have zS := oS.lt
  clear sa' sb'
  have EX' : Hid (∀ k (h : k < p.length), X[k]? = some (up (nsx A B 0 k)) ∧ p[k] = up (nx p k) ∧ inr (nsx A B 0 k) ∧ inr (nx p k)) := fun k hk => by
    obtain ⟨e1, e2, e3, e4⟩ := EX.out k hk
    have h1 := qq_inr e3
    have h2 := qq_inr e4
    rw [qq_up] at h1 h2
    exact ⟨e1, e2, h1, h2⟩
  have HA := Lib.hid hA
  have HB := Lib.hid hB
  have HP := Lib.hid hp
  have SX := Lib.hid sx
  have HY := Lib.hid hy
  have OS := Lib.hid oS
  clear hA hB hp sx hy EX oS
  go_wp2
  clear rS fS zS
  go_loopw [15, 16] (fun ov i wr => ∃ k : Nat, k ≤ p.length ∧ i = .int .i64 k ∧ Hid (∀ j, j < k → inr ((nsx A B 0 j + nx p j) * qq (1, 2))) ∧ wr.ownsRow y9.heap.size 34 2 ov k (fcs (mids A B p k)) ∧ Below y9.heap.size y9 wr) (fun _ i _ => p.length - (intOf i).toNat)
  case atStart => exact ⟨0, Nat.zero_le _, rfl, fun j hj => absurd hj (Nat.not_lt_zero j), World.ownsRow_nil _ _ _ _, Below.refl _ _⟩
  case round =>
    obtain ⟨k, hk, rfl, hv, ow, hW⟩ := hrel
    rename World => W
    by_cases hlt : k < p.length
    · obtain ⟨e1, e2, e3, e4⟩ := EX'.out k hlt
      have hkX : k < X.length := by rw [HL.out]; exact hlt
      obtain ⟨_, _, e, _, _, H⟩ := (SX.out.below hW).open
      rw [HL.out] at e
      cases e
      obtain ⟨b2, o2, rfl, d3, d4⟩ := H.out k hkX
      clear H
      obtain ⟨_, _, e, _, _, H⟩ := (HP.out.below hW).open
      cases e
      obtain ⟨b1, o1, rfl, d1, d2⟩ := H.out k hlt
      clear H
      rw [show X[k] = up (nsx A B 0 k) by simpa [hkX] using e1] at d3 d4
      rw [e2] at d1 d2
      have i1 := fr_i64 (up_chk e3)
      have i2 := fr_i64 (up_chk e4)
      have MO := Lib.hid (fun (s m : FR) h1 h2 h3 h4 => mid_ok (s := s) (m := m) e3 e4 h1 h2 h3 h4)
      have MS := Lib.hid (mids_succ (A := A) (B := B) (p := p) k)
      have MI := Lib.hid (fun (h : inr ((nsx A B 0 k + nx p k) * qq (1, 2))) (j : Nat) (hj : j < k + 1) => show inr ((nsx A B 0 j + nx p j) * qq (1, 2)) from (by
        rcases Nat.lt_or_ge j k with h1 | h1
        · exact hv.out j h1
        · obtain rfl : j = k := by omega
          exact h))
      clear e1 e2 e3 e4 hkX
      generalize up ((nsx A B 0 k + nx p k) * qq (1, 2)) = mm at *
      generalize (nsx A B 0 k + nx p k) * qq (1, 2) = mq at *
      generalize (up (nsx A B 0 k)).1 = xn at *
      generalize (up (nsx A B 0 k)).2 = xd at *
      generalize (up (nx p k)).1 = pn at *
      generalize (up (nx p k)).2 = pd at *
      have si := fadd_i64 xn xd pn pd
      obtain ⟨s, hs⟩ : ∃ s, s = fadd xn xd pn pd := ⟨_, rfl⟩
      rw [← hs] at si
      have HS2 := Lib.hid hs.symm
      have mi := fmul_i64 s.n s.d 1 2
      obtain ⟨m, hm⟩ : ∃ m, m = fmul s.n s.d 1 2 := ⟨_, rfl⟩
      rw [← hm] at mi
      have HM2 := Lib.hid hm.symm
      have MO2 := Lib.hid (MO.out s m HS2.out HM2.out)
      clear hs hm MO
      obtain ⟨sn, sd, se⟩ := s
      obtain ⟨mn, md, me⟩ := m
      simp only at si mi
      have z1 := World.block_lt_of_cell? W _ d1
      have z2 := World.block_lt_of_cell? W _ d3
      simp only at z1 z2
      have SI := Lib.hid si
      have MI2 := Lib.hid mi
      have I1 := Lib.hid i1
      have I2 := Lib.hid i2
      clear si mi i1 i2
      go_wp2_with fail
      have gl := @grow_lt
      refine wp_region_fs [(12, ⟨34, [.int .i64 0, .int .i64 0], fun b => .pointer (some ⟨b, 0, none⟩)⟩)] [0, 1, 2, 3, 4, 5, 6, 7] [.op 8, .tk 9, .tk 10, .tk 11, .fl 12, .op 13] [14] (by kernel_rfl) (by kernel_rfl) ⟨fun ρ W => by kernel_rfl, trivial⟩ (fun _ _ _ _ _ h => h) (fun _ _ _ _ _ h => h) ?_
      try simp only [opsAt, List.getElem?_toArray, List.getElem?_cons_zero, List.getElem?_cons_succ, Option.getD_some]
      repeat (go_big_quiet_step (fail))
      refine wpQuiet_nil ?_
      clear gl
      refine wpFl_op rfl ?_
      intro w3 hb3 K' hK'
      go_simp
      refine (fadd_as xn xd pn pd _ _ I1.out.1 I1.out.2 I2.out.1 I2.out.2 HS2.out).mono ?_
      rintro e w5 ⟨rfl, hq⟩
      refine hK' _ _ (Mod.of_below hq) ?_
      clear hK' K'
      have hF := below_to hb3 hq
      clear hb3 hq
      refine wpFl_tk ?_
      try simp only [opsAt, List.getElem?_toArray, List.getElem?_cons_zero, List.getElem?_cons_succ, Option.getD_some]
      repeat (go_big_quiet_step (fail))
      refine wpQuiet_nil ?_
      refine wpFl_tk ?_
      try simp only [opsAt, List.getElem?_toArray, List.getElem?_cons_zero, List.getElem?_cons_succ, Option.getD_some]
      repeat (go_big_quiet_step (fail))
      refine wpQuiet_nil ?_
      refine wpFl_tk ?_
      try simp only [opsAt, List.getElem?_toArray, List.getElem?_cons_zero, List.getElem?_cons_succ, Option.getD_some]
      repeat (go_big_quiet_step (fail))
      refine wpQuiet_nil ?_
      refine wpFl_fl rfl ?_
      intro bN w6 hb6 oN zN0 _
      go_simp
      replace hF := below_to hF hb6
      refine wpFl_op rfl ?_
      intro w7 hb7 K' hK'
      replace oN := oN.below hb7
      replace hF := below_to hF hb7
      clear hb6 hb7
      obtain ⟨rN, fN⟩ := oN.rules
      have zN := oN.lt
      go_wp2_with fail
      refine hK' _ _ (((Mod.refl _ _).set (by simp) _).set (by simp) _) ?_
      clear hK' K' rN fN zN
      replace oN := (oN.set 0 (.int .i64 sn)).set 1 (.int .i64 sd)
      replace hF := (hF.setCell (p := ⟨bN, 0, none⟩) zN0 (.int .i64 sn)).setCell (p := ⟨bN, 1, none⟩) zN0 (.int .i64 sd)
      refine wpFl_nil (fun w8 hb8 => ?_)
      replace oN := oN.below hb8
      replace hF := below_to hF hb8
      clear hb8
      try simp only [opsAt, List.getElem?_toArray, List.getElem?_cons_zero, List.getElem?_cons_succ, Option.getD_some]
      replace ow := owns_at ow hF
      replace hW := below_to hW hF
      clear hF d1 d2 d3 d4 z1 z2
      obtain ⟨rN, fN⟩ := oN.rules
      have zN := oN.lt
      go_wp2_with fail
      refine (fmul_as sn sd 1 2 _ _ SI.out.1 SI.out.2 ⟨by decide, by decide⟩ ⟨by decide, by decide⟩ HM2.out).mono ?_
      rintro e w9 ⟨rfl, hq⟩
      replace ow := owns_at ow hq
      replace hW := below_to hW hq
      clear hq rN fN zN oN
      go_upto_region 18 with fail
      have oR := Own.new w9 34 [.int .i64 mn, .int .i64 md]
      have hq := ba1 w9 (.cells #[.int .i64 mn, .int .i64 md] 34)
      replace ow := owns_at ow hq
      replace hW := below_to hW hq
      clear hq
      obtain ⟨bR, hbR⟩ : ∃ b, b = w9.heap.size := ⟨_, rfl⟩
      rw [← hbR] at oR ⊢
      clear hbR
      generalize w9.alloc (.cells #[.int .i64 mn, .int .i64 md] 34) = w10 at *
      obtain ⟨rR, fR⟩ := oR.rules
      have zR := oR.lt
      have hyy := below_to HY.out hW
      by_cases s0 : se = 0
      case neg =>
        have q5 : (se != 0) = true := by simpa using s0
        go_wp2
        go_ret
        exact ⟨by first | rfl | simp, hyy⟩
      by_cases m0 : me = 0
      case neg =>
        have q5 : (me != 0) = true := by simpa using m0
        subst s0
        go_wp2
        go_ret
        exact ⟨by first | rfl | simp, hyy⟩
      obtain ⟨im, em⟩ := MO2.out s0 m0
      have HV2 := Lib.hid (MI.out im)
      rw [← em] at MS
      subst s0 m0
      clear MI MO2 im em HS2 HM2 hyy
      have zr := hW.size
      go_wp2_with (at_builtin; refine wpList_app _ rfl _ _ _ rfl y9.heap.size 34 2 16 (.agg #[.int .i64 0, .int .i64 0]) Try.underlying26 Try.infoFrac rfl (by omega) (by omega) _ k _ rfl (ow.alloc _) (by omega) (by simp; omega) w10.heap.size [.int .i64 mn, .int .i64 md] (0, 0) rfl (heap_alloc_new w10 _) rfl (by simp [Value.oneCell']) ?_; intro g cap2 w11 hown hg hbw)
      go_roundw
      case rel =>
        refine ⟨k + 1, by omega, by go_num, HV2, ?_, (hW.alloc zr _).trans hbw⟩
        rw [MS.out, fcs_append]; exact hown
      case measure => simp [intOf]; try omega
    · obtain rfl : k = p.length := by omega
      have hA := HA.out.below hW
      have hB := HB.out.below hW
      have hy := below_to HY.out hW
      have oS := OS.out.below hW
      rw [HLn.out] at hv ow
      obtain ⟨m1, m2⟩ := MF.out hv.out
      have hm9 : (mids A B p (A.getD 0 []).length).length = p.length := by rw [mids_len]; exact HLn.out.symm
      have sm := owns_SF (xs := mids A B p (A.getD 0 []).length) (by rw [mids_len]; exact ow)
      have M1 := Lib.hid m1
      clear hm9 m1 ow MF HA HB HP SX OS EX' hv
      obtain ⟨O, hO⟩ : ∃ O, O = nOptimal A B (mids A B p (A.getD 0 []).length) := ⟨_, rfl⟩
      rw [← hO] at m2
      have HO2 := Lib.hid hO.symm
      clear hO
      obtain ⟨ob, oe⟩ := O
      obtain ⟨rS, fS⟩ := oS.rules
      have zS := oS.lt
      go_wp2_with fail
      refine (nopt_as A B (mids A B p (A.getD 0 []).length) _ _ _ _ _ hA hB sm M1.out HO2.out).mono ?_
      rintro e x1 ⟨rfl, hq⟩
      clear rS fS zS
      replace oS := oS.below hq
      replace hy := below_to hy hq
      clear hq
      obtain ⟨rS, fS⟩ := oS.rules
      have zS := oS.lt
      rcases m2 with h | h
      · cases h
        go_wp2
        go_ret
        exact ⟨by first | rfl | simp, hy⟩
      · obtain rfl : oe = 16 := h
        go_wp2
        go_ret
        exact ⟨by first | rfl | simp, hy⟩
end Go.Proofs.Ytfbigmjlppdlhaa
