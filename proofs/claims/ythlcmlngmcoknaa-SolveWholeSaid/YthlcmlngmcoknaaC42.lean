/- What is proved here: contracts of functions and plain facts, several texts in one; each one says ahead what it proves, and its conditions. -/
import Derived.Test.YthlcmlngmcoknaaC16
import Derived.Test.YthlcmlngmcoknaaC17
import Derived.Test.YthlcmlngmcoknaaC33
import Derived.Test.YthlcmlngmcoknaaC41
import Derived.Test.YthlcmlngmcoknaaC02
import Derived.Test.YthlcmlngmcoknaaC18
import Derived.Deep.DeepCutAuto
/- What is proved here: the contract of the reference's Gives of layer 29. Condition: small numbers, as many valid fractions. -/
namespace Go.Proofs.Ythlcmlngmcoknaa
open Go.RowKit

set_option maxRecDepth 100000 in
set_option maxHeartbeats 8000000 in
theorem rogives_any (a : List Int) (x : List (Int × Int)) (r : Int) (u v : Value) (w : World) (hu : SI w u a) (hv : SF w v x) (hl : a.length ≤ x.length) (ha : ∀ i (h : i < a.length), -1000 ≤ a[i] ∧ a[i] ≤ 1000) (hx : ∀ i (h : i < x.length), fchk x[i].1 x[i].2 = 0) :
    Calls Try.prog 76 #[u, v, .agg #[.int .i64 r, .int .i64 1]] w fun e w' => e = .returned (.bool (osums a x r)) ∧ Below w.heap.size w w' := by
  have HA := Lib.hid ha
  have HX := Lib.hid hx
  obtain ⟨ada, capa, rfl, ha1, ha2, _⟩ := hu.open
  obtain ⟨adx, capx, rfl, hx1, hx2, _⟩ := hv.open
  go_enter Try.func76, Try.ntmps76
  have oW := Own.new w 78 [.int .i64 r, .int .i64 1]
  have hB := ba1 w (.cells #[.int .i64 r, .int .i64 1] 78)
  go_wp2_with fail
  refine (rof_any 0 _).mono ?_
  rintro e y1 ⟨rfl, hq⟩
  replace oW := oW.below hq
  replace hB := below_to hB hq
  clear hq
  have hu0 := Lib.hid (hu.below hB)
  have hv0 := Lib.hid (hv.below hB)
  clear hu hv ha hx
  have zW1 := oW.lt
  have zB1 := hB.size
  have oS := Own.new y1 78 [.int .i64 0, .int .i64 1]
  have hC := ba1 y1 (.cells #[.int .i64 0, .int .i64 1] 78)
  go_wp2_with fail
  obtain ⟨GS, hGS⟩ : ∃ G, G = y1.heap.size := ⟨_, rfl⟩
  have zS1 : y1.heap.size ≤ GS := by rw [hGS]; exact Nat.le_refl _
  have OW := Lib.hid oW
  rw [← hGS] at oS ⊢
  clear hGS oW
  go_loopw [8] (fun i wr => ∃ k : Nat, k ≤ a.length ∧ i = .int .i64 k ∧ Hid ((gsum (dotT a x) k).e = 0) ∧ Own wr GS 78 [.int .i64 (gsum (dotT a x) k).n, .int .i64 (gsum (dotT a x) k).d] ∧ Below y1.heap.size y1 wr) (fun i _ => a.length + 1 - (intOf i).toNat)
  case atStart => exact ⟨0, Nat.zero_le _, rfl, rfl, oS, hC⟩
  case round =>
    clear oS hC
    obtain ⟨k, hk, rfl, he, oS, hC⟩ := hrel
    rename World => W
    by_cases hlt : k < a.length
    · have hkx : k < x.length := by omega
      obtain ⟨_, _, e, _, _, H⟩ := (hu0.out.below hC).open
      cases e
      obtain ⟨b, off, rfl, c1⟩ := H.out k hlt
      obtain ⟨_, _, e, _, _, H'⟩ := (hv0.out.below hC).open
      cases e
      obtain ⟨b', off', rfl, c2, c3⟩ := H'.out k hkx
      clear H H'
      have J1 := Lib.hid (gsum_i64 (dotT a x) k)
      have J2 := Lib.hid (o_small (HA.out k hlt).1 (HA.out k hlt).2)
      have J3 := Lib.hid (fr_i64 (HX.out k hkx))
      have HP := Lib.hid (dot_succ hlt hkx he.out)
      have HE := Lib.hid (fun h => osums_err (x := x) (r := r) hlt h)
      have HM : Hid (∀ h : ¬ (fmul a[k] 1 x[k].1 x[k].2).e = 0, ¬ (gsum (dotT a x) (k + 1)).e = 0) := fun h => by rw [HP.out, fplus_1 h]; exact h
      have HQ : Hid ((fmul a[k] 1 x[k].1 x[k].2).e = 0 → gsum (dotT a x) (k + 1) = fadd (gsum (dotT a x) k).n (gsum (dotT a x) k).d (fmul a[k] 1 x[k].1 x[k].2).n (fmul a[k] 1 x[k].1 x[k].2).d) := fun h => by rw [HP.out, fplus_0 h]
      clear HP
      generalize a[k] = c at *
      generalize x[k].1 = xn at *
      generalize x[k].2 = xd at *
      generalize (gsum (dotT a x) k).n = sn at *
      generalize (gsum (dotT a x) k).d = sd at *
      generalize hpp : gsum (dotT a x) (k + 1) = p at *
      have HPP := Lib.hid hpp
      clear hpp
      have M2 := Lib.hid (fmul_i64 c 1 xn xd)
      have zb := World.block_lt_of_cell? _ _ c1
      have zb2 := World.block_lt_of_cell? _ _ c2
      simp only at zb zb2
      go_wp2
      go_wp2_with fail
      have gl := @grow_lt
      refine wp_region_fs [(13, ⟨78, [.int .i64 0, .int .i64 0], fun b => .pointer (some ⟨b, 0, none⟩)⟩)] [0, 1, 2, 3, 5, 6, 7, 8] [.op 4, .op 9, .tk 10, .tk 11, .tk 12, .fl 13, .op 14] [15] (by kernel_rfl) (by kernel_rfl) ⟨fun ρ W => by kernel_rfl, trivial⟩ (fun _ _ _ _ _ h => h) (fun _ _ _ _ _ h => h) ?_
      try simp only [opsAt, List.getElem?_toArray, List.getElem?_cons_zero, List.getElem?_cons_succ, Option.getD_some]
      repeat (go_big_quiet_step (fail))
      refine wpQuiet_nil ?_
      clear gl
      refine wpFl_op rfl ?_
      intro w3 hb3 K' hK'
      go_simp
      refine (rof_any c _).mono ?_
      rintro e w5 ⟨rfl, hq⟩
      refine hK' _ _ (Mod.of_below hq) ?_
      clear hK' K'
      have hF := below_to hb3 hq
      clear hb3 hq
      refine wpFl_op rfl ?_
      intro w3 hb3 K' hK'
      go_simp
      refine (rmul_any c 1 xn xd _ J2.out o_one J3.out.1 J3.out.2).mono ?_
      rintro e w5 ⟨rfl, hq⟩
      refine hK' _ _ (Mod.of_below hq) ?_
      clear hK' K'
      replace hF := below_to hF (below_to hb3 hq)
      clear hb3 hq
      refine wpFl_tk ?_
      try simp only [opsAt, List.getElem?_toArray, List.getElem?_cons_zero, List.getElem?_cons_succ, Option.getD_some]
      repeat (go_big_quiet_step (fail))
      refine wpQuiet_nil ?_
      refine wpFl_tk ?_
      try simp only [opsAt, List.getElem?_toArray, List.getElem?_cons_zero, List.getElem?_cons_succ, Option.getD_some]
      repeat (go_big_quiet_step (fail))
      refine wpQuiet_nil ?_
      refine wpFl_tk ?_
      try simp only [opsAt, List.getElem?_toArray, List.getElem?_cons_zero, List.getElem?_cons_succ, Option.getD_some]
      repeat (go_big_quiet_step (fail))
      refine wpQuiet_nil ?_
      refine wpFl_fl rfl ?_
      intro bD w6 hb6 oD zD0 _
      go_simp
      replace hF := below_to hF hb6
      refine wpFl_op rfl ?_
      intro w7 hb7 K' hK'
      replace oD := oD.below hb7
      replace hF := below_to hF hb7
      clear hb6 hb7
      obtain ⟨rD, fD⟩ := oD.rules
      have zD := oD.lt
      go_wp2_with fail
      refine hK' _ _ (((Mod.refl _ _).set (by simp) _).set (by simp) _) ?_
      clear hK' K' rD fD zD
      replace oD := (oD.set 0 (.int .i64 (fmul c 1 xn xd).n)).set 1 (.int .i64 (fmul c 1 xn xd).d)
      replace hF := (hF.setCell (p := ⟨bD, 0, none⟩) zD0 (.int .i64 (fmul c 1 xn xd).n)).setCell (p := ⟨bD, 1, none⟩) zD0 (.int .i64 (fmul c 1 xn xd).d)
      refine wpFl_nil (fun w8 hb8 => ?_)
      replace oD := oD.below hb8
      replace hF := below_to hF hb8
      clear hb8
      try simp only [opsAt, List.getElem?_toArray, List.getElem?_cons_zero, List.getElem?_cons_succ, Option.getD_some]
      clear c1 c2 c3 zb zb2
      replace oS := oS.below hF
      replace hC := below_to hC hF
      clear hF
      generalize fmul c 1 xn xd = m at *
      by_cases h1 : m.e = 0
      case neg =>
        have b1 : (m.e == 0) = false := by simpa using h1
        have b2 : (m.e != 0) = true := by simpa using h1
        have HV := Lib.hid (HE.out (HM.out h1))
        clear h1 HE HM HQ
        go_wp2
        go_ret
        exact ⟨by rw [HV.out]; try rfl, below_to hB hC⟩
      have HQ' := Lib.hid (HQ.out h1)
      rw [h1]
      clear h1 HM HQ
      obtain ⟨rS, fS⟩ := oS.rules
      have zS := oS.lt
      obtain ⟨rD, fD⟩ := oD.rules
      have zD := oD.lt
      go_wp2_with fail
      refine (radd_any sn sd m.n m.d _ J1.out.1 J1.out.2 M2.out.1 M2.out.2).mono ?_
      rintro e y3 ⟨rfl, hq⟩
      clear rD fD zD oD
      clear rS fS zS
      replace oS := oS.below hq
      replace hC := below_to hC hq
      clear hq
      obtain ⟨rS, fS⟩ := oS.rules
      have zS := oS.lt
      rw [← HQ'.out]
      by_cases h2 : p.e = 0
      · have b2 : (p.e != 0) = false := by simp [h2]
        have E2 := Lib.hid h2
        clear h2 HE
        go_wp2
        go_roundw
        replace oS := ((oS).set 0 (.int .i64 p.n)).set 1 (.int .i64 p.d)
        replace hC := ((hC).setCell (p := ⟨GS, 0, none⟩) (by first | omega | (simp; done) | (simp; omega)) (.int .i64 p.n)).setCell (p := ⟨GS, 1, none⟩) (by first | omega | (simp; done) | (simp; omega)) (.int .i64 p.d)
        case rel => exact ⟨k + 1, by omega, by go_num, by show _ = _; rw [HPP.out]; exact E2.out, by rw [HPP.out]; exact oS, hC⟩
        case measure => simp [intOf]; try omega
      · have b2 : (p.e != 0) = true := by simpa using h2
        have HV := Lib.hid (HE.out h2)
        clear h2 HE
        go_wp2
        go_ret
        replace hC := ((hC).setCell (p := ⟨GS, 0, none⟩) (by first | omega | (simp; done) | (simp; omega)) (.int .i64 p.n)).setCell (p := ⟨GS, 1, none⟩) (by first | omega | (simp; done) | (simp; omega)) (.int .i64 p.d)
        exact ⟨by rw [HV.out]; try rfl, below_to hB hC⟩
    · obtain rfl : k = a.length := by omega
      have HV := Lib.hid (osums_ok (r := r) he.out)
      have oW := OW.out.below hC
      clear he
      generalize (gsum (dotT a x) a.length).n = sn at *
      generalize (gsum (dotT a x) a.length).d = sd at *
      obtain ⟨rS, fS⟩ := oS.rules
      have zS := oS.lt
      obtain ⟨rW, fW⟩ := oW.rules
      have zW := oW.lt
      by_cases g1 : sn = r
      · by_cases g2 : sd = 1
        · have HW : Hid (osums a x r = true) := by show _ = _; rw [HV.out, decide_eq_true g1, decide_eq_true g2]; rfl
          clear HV
          subst g1
          subst g2
          go_wp2
          go_ret
          exact ⟨by rw [HW.out]; first | rfl | simp, below_to hB hC⟩
        · have q2 : (sd == 1) = false := by simpa using g2
          have HW : Hid (osums a x r = false) := by show _ = _; rw [HV.out, decide_eq_false g2, Bool.and_false]
          clear HV
          go_wp2
          go_ret
          exact ⟨by rw [HW.out]; first | rfl | simp [g2], below_to hB hC⟩
      · have q1 : (sn == r) = false := by simpa using g1
        have HW : Hid (osums a x r = false) := by show _ = _; rw [HV.out, decide_eq_false g1, Bool.false_and]
        clear HV
        go_wp2
        go_ret
        exact ⟨by rw [HW.out]; first | rfl | simp [g1], below_to hB hC⟩
end Go.Proofs.Ythlcmlngmcoknaa

/- What is proved here: the contract of the reference's Accept of layer 29. Condition: a system and a slice of fractions that can be read. -/
namespace Go.Proofs.Ythlcmlngmcoknaa
open Go.RowKit

set_option maxRecDepth 100000 in
set_option maxHeartbeats 8000000 in
theorem roaccept_any (A : List (List Int)) (B : List Int) (x : List (Int × Int)) (va vb vx : Value) (w : World) (hA : SS w va A) (hB : SI w vb B) (hx : SF w vx x) (ix : FI x) :
    Calls Try.prog 25 #[.agg #[va, vb], vx] w fun e w' => e = .returned (.tuple #[.bool (oaccept A B x).1, .int .i64 (oaccept A B x).2]) ∧ Below w.heap.size w w' := by
  have IX := Lib.hid ix
  clear ix
  go_enter Try.func25, Try.ntmps25
  have oS := Own.new w 25 [va, vb]
  have hy := ba1 w (.cells #[va, vb] 25)
  replace hA := hA.below hy
  replace hB := hB.below hy
  replace hx := hx.below hy
  obtain ⟨rS, fS⟩ := oS.rules
  have zS := oS.lt
  go_wp2_with fail
  refine (rocheck_any A B _ _ _ hA hB).mono ?_
  rintro e y1 ⟨rfl, hq⟩
  clear rS fS zS
  replace oS := oS.below hq
  replace hA := hA.below hq
  replace hB := hB.below hq
  replace hx := hx.below hq
  replace hy := below_to hy hq
  clear hq
  obtain ⟨rS, fS⟩ := oS.rules
  have zS := oS.lt
  by_cases h0 : ocheck A B = 0
  case neg =>
    have HV := Lib.hid (oaccept_c (x := x) h0)
    have b1 : (ocheck A B != 0) = true := by simpa using h0
    clear h0 hx
    go_wp2_with fail
    refine (rocheck_any A B _ _ _ hA hB).mono ?_
    rintro e y1b ⟨rfl, hq⟩
    replace hy := below_to hy hq
    clear hq hA hB rS fS zS oS
    go_wp2
    go_ret2
    exact ⟨by rw [HV.out]; try rfl, hy⟩
  have SY := Lib.hid (sys_of h0)
  have E0 := Lib.hid (fun h => oaccept_f (x := x) h0 h)
  have E1 := Lib.hid (fun h => oaccept_0 (x := x) h0 h)
  rw [h0]
  clear h0
  have r1 := SY.out.rows.1
  have r6 := SY.out.rows.2
  have n1 := SY.out.cols.1
  have n6 := SY.out.cols.2
  have W0 := Lib.hid (SY.out.wide 0 r1)
  have BL := Lib.hid SY.out.right
  obtain ⟨ada, capa, e, ha1, ha2, H⟩ := hA.open
  subst e
  obtain ⟨b, off, ad0, cap0, rfl, d1, d2, d3, _⟩ := H.out 0 r1
  rw [W0.out] at d1 d2 d3
  rw [Nat.add_zero] at d1
  clear H
  have rows1 : (0 : Int) < A.length := by omega
  generalize hn : (A.getD 0 []).length = n at *
  have HN := Lib.hid hn
  clear hn
  go_wp2_with fail
  refine (rofrac_any x n _ _ hx IX.out).mono ?_
  rintro e y2 ⟨rfl, hq⟩
  clear d1
  clear rS fS zS
  replace oS := oS.below hq
  replace hA := hA.below hq
  replace hB := hB.below hq
  replace hx := hx.below hq
  replace hy := below_to hy hq
  clear hq
  obtain ⟨rS, fS⟩ := oS.rules
  have zS := oS.lt
  cases hf : frB x n with
  | false =>
    have HV := Lib.hid (E0.out hf)
    clear hf E0 E1
    go_wp2
    go_ret2
    exact ⟨by rw [HV.out]; try rfl, hy⟩
  | true =>
  have HV := Lib.hid (E1.out hf)
  obtain ⟨f1, f2⟩ := frB_of hf
  have F1 := Lib.hid f1
  have F2 := Lib.hid f2
  clear hf E0 E1 f1 f2
  obtain ⟨adx, capx, rfl, _, _, _⟩ := hx.open
  obtain ⟨adb, capb, rfl, _, _, _⟩ := hB.open
  have SA := Lib.hid hA
  have SB2 := Lib.hid hB
  have SX := Lib.hid hx
  have OS := Lib.hid oS
  clear hA hB hx
  go_wp2
  clear rS fS zS oS
  go_loopw [6] (fun i wr => ∃ k : Nat, k ≤ A.length ∧ i = .int .i64 k ∧ Hid (oacc A B x k = true) ∧ Below y2.heap.size y2 wr) (fun i _ => A.length + 1 - (intOf i).toNat)
  case atStart => exact ⟨0, Nat.zero_le _, rfl, rfl, Below.refl _ _⟩
  case round =>
    obtain ⟨k, hk, rfl, hv, hC⟩ := hrel
    rename World => W
    have oS := OS.out.below hC
    by_cases hlt : k < A.length
    · obtain ⟨_, _, e, _, _, H⟩ := (SA.out.below hC).open
      cases e
      obtain ⟨b', off', ad', cap', e, c1, c2, c3, s1⟩ := H.out k hlt
      cases e
      have hkB : k < B.length := by rw [BL.out]; exact hlt
      obtain ⟨_, _, e, _, _, HB⟩ := (SB2.out.below hC).open
      cases e
      obtain ⟨b2, off2, rfl, c4⟩ := HB.out k hkB
      clear H HB
      have WK : A[k].length = n := SY.out.wide k hlt
      have HS := Lib.hid (fun h => oacc_succ (x := x) hlt hkB hv.out h)
      have HN2 := Lib.hid (fun h => oacc_not (x := x) (n := A.length) hlt hlt hkB h)
      have CF : Hid (∀ i (h : i < A[k].length), -1000 ≤ A[k][i] ∧ A[k][i] ≤ 1000) := fun i h => by have := SY.out.coef k hlt i h; omega
      have WL := Lib.hid WK
      have S1 := Lib.hid s1
      clear s1 WK
      generalize A[k] = row at *
      generalize B[k] = bk at *
      have zb := World.block_lt_of_cell? _ _ c1
      have zb2 := World.block_lt_of_cell? _ _ c4
      simp only at zb zb2
      have gl := @grow_lt
      obtain ⟨rS, fS⟩ := oS.rules
      have zS := oS.lt
      go_wp2
      go_wp2_with fail
      refine wp_region_st [.t [0, 1, 2, 3, 4, 5, 6, 7, 8, 9, 10], .f 11, .f 12] [13] (by kernel_rfl) (by kernel_rfl) (fun _ _ _ _ _ h => h) ?_
      refine wpX_t ?_
      try simp only [opsAt, List.getElem?_toArray, List.getElem?_cons_zero, List.getElem?_cons_succ, Option.getD_some]
      repeat (go_big_quiet_step (fail))
      refine wpQuiet_nil ?_
      refine wpX_f rfl rfl (fun K' hK' => ?_)
      go_simp
      refine (rof_any bk _).mono ?_
      rintro e z1 ⟨rfl, hq1⟩
      refine hK' _ _ (grow_of (below_to ((Below.refl _ _).drew) hq1)) ?_
      clear hK' K'
      refine wpX_f rfl rfl (fun K' hK' => ?_)
      go_simp
      refine (rogives_any row x bk _ _ _ (S1.out.below (below_to ((Below.refl W.heap.size W).drew) hq1)) ((SX.out.below hC).below (below_to ((Below.refl W.heap.size W).drew) hq1)) (by rw [WL.out, F1.out]; exact Nat.le_refl _) CF.out F2.out).mono ?_
      rintro e z2 ⟨rfl, hq2⟩
      refine hK' _ _ (grow_of (below_to (below_to ((Below.refl _ _).drew) hq1) hq2)) ?_
      clear hK' K'
      refine wpX_nil ?_
      try simp only [opsAt, List.getElem?_toArray, List.getElem?_cons_zero, List.getElem?_cons_succ, Option.getD_some]
      have hq := below_to (below_to ((Below.refl W.heap.size W).drew) hq1) hq2
      clear gl rS fS zS oS c1 c4 zb zb2
      replace hC := below_to hC hq
      clear hq hq1 hq2
      cases hs : osums row x bk with
      | false =>
        have HZ := Lib.hid (HN2.out hs)
        clear HS HN2 hs
        go_wp2
        go_ret2
        exact ⟨by rw [HV.out, HZ.out]; try rfl, below_to hy hC⟩
      | true =>
        have HZ := Lib.hid (HS.out hs)
        clear HS HN2 hs
        go_wp2
        go_roundw
        case rel => exact ⟨k + 1, by omega, by go_num, HZ, hC⟩
        case measure => simp [intOf]; try omega
    · obtain rfl : k = A.length := by omega
      obtain ⟨rS, fS⟩ := oS.rules
      have zS := oS.lt
      go_wp2
      go_ret2
      exact ⟨by rw [HV.out, hv.out]; try rfl, below_to hy hC⟩
end Go.Proofs.Ythlcmlngmcoknaa
