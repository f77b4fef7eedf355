/- What is proved here: contracts of functions and plain facts, several texts in one; each one says ahead what it proves, and its conditions. -/
import Derived.Test.YtpjhiojdnebgoaaC12
import Derived.Test.YtpjhiojdnebgoaaC33
/- What is proved here: the contract of the reference's Value of layer 22. Condition: both fractions are valid. -/
namespace Go.Proofs.Ytpjhiojdnebgoaa
open Go.RowKit

theorem common_den (a b : Int) (w : World) (h1 : s63 a) (h2 : s63 b) :
    Calls Try.prog 105 #[.int .i64 a, .int .i64 b, .int .i64 b] w fun e w' => e = .returned (.int .i64 (Nat.gcd a.natAbs b.natAbs : Nat)) ∧ w = w' := by
  have h := common_any a b b w h1 h2 h2
  rw [gcd2] at h
  exact h
theorem fmul_w {n d m : Int} (h : fchk n d = 0) (h1 : 1 ≤ m) (h2 : m ≤ 1000000000) : fmul n d m 1 = fmulV n d m 1 := by
  refine fmul_0 ?_
  rw [fboth_0 h]
  exact fchk_ok (by decide) (by decide) (by omega) (by omega) (Nat.gcd_one_right _)

set_option maxRecDepth 100000 in
set_option maxHeartbeats 16000000 in
theorem rvalue_any (rn rd n d : Int) (w : World) (h1 : fchk rn rd = 0) (h2 : fchk n d = 0) : Calls Try.prog 78 #[.agg #[.int .i64 rn, .int .i64 rd], .agg #[.int .i64 n, .int .i64 d]] w fun e w' => e = .returned (.tuple #[.agg #[.int .i64 (wval rn rd n d).re, .int .i64 (wval rn rd n d).im, .int .i64 (wval rn rd n d).den], .int .i64 (wval rn rd n d).e]) ∧ Below w.heap.size w w' := by
  obtain ⟨r1, r2, r3, r4, _⟩ := fok_of h1
  obtain ⟨n1, n2, n3, n4, _⟩ := fok_of h2
  have HA := Lib.hid h1
  have HB := Lib.hid h2
  clear h1 h2
  by_cases a0 : rd ≤ 1000000000
  case neg =>
    have HV := Lib.hid (wval_0 (wok_no1 (rn := rn) (rd := rd) (n := n) (d := d) (by omega)))
    have e0 : decide (1000000000 < rd) = true := decide_eq_true (by omega)
    go_enter Try.func78, Try.ntmps78
    go_upto_region 1 with fail
    have oA := (own_first w 24 [.int .i64 rn, .int .i64 rd] (.cells #[.int .i64 n, .int .i64 d] 24)).alloc (.cells #[.int .i64 0, .int .i64 0, .int .i64 0] 58)
    have oB := (own_second w 24 [.int .i64 n, .int .i64 d] (.cells #[.int .i64 rn, .int .i64 rd] 24)).alloc (.cells #[.int .i64 0, .int .i64 0, .int .i64 0] 58)
    have oR := own_third w 58 [.int .i64 0, .int .i64 0, .int .i64 0] (.cells #[.int .i64 rn, .int .i64 rd] 24) (.cells #[.int .i64 n, .int .i64 d] 24)
    have hB := ba3 w (.cells #[.int .i64 rn, .int .i64 rd] 24) (.cells #[.int .i64 n, .int .i64 d] 24) (.cells #[.int .i64 0, .int .i64 0, .int .i64 0] 58)
    generalize ((w.alloc (.cells #[.int .i64 rn, .int .i64 rd] 24)).alloc (.cells #[.int .i64 n, .int .i64 d] 24)).alloc (.cells #[.int .i64 0, .int .i64 0, .int .i64 0] 58) = y0 at *
    obtain ⟨rA, fA⟩ := oA.rules
    obtain ⟨rB, fB⟩ := oB.rules
    obtain ⟨rR, fR⟩ := oR.rules
    have zA := oA.lt
    have zB := oB.lt
    have zR := oR.lt
    go_wp2
    refine bp_gen (fun W => Own W (w.heap.size + 1 + 1) 58 [.int .i64 0, .int .i64 0, .int .i64 0] ∧ Below w.heap.size w W) ⟨(((oR).set 0 (.int .i64 0)).set 1 (.int .i64 0)).set 2 (.int .i64 0), ?_⟩ ?_
    · repeat (refine Below.setCell ?_ (by first | omega | (simp; done) | (simp; omega)) _)
      exact hB
    rintro wz ⟨oz, bz⟩
    obtain ⟨rz, fz⟩ := oz.rules
    clear oz
    refine bodyPost_ret (v := .tuple #[.agg #[.int .i64 0, .int .i64 0, .int .i64 0], .int .i64 16]) (by simp [results, Try.results78, go_sem, rz]) rfl ⟨by rw [HV.out], ?_⟩
    repeat (refine Below.setCell ?_ (by first | omega | (simp; done) | (simp; omega)) _)
    exact bz
  have e0 : decide (1000000000 < rd) = false := decide_eq_false (by omega)
  by_cases a1 : d ≤ 1000000000
  case neg =>
    have HV := Lib.hid (wval_0 (wok_no1 (rn := rn) (rd := rd) (n := n) (d := d) (by omega)))
    have e1 : decide (1000000000 < d) = true := decide_eq_true (by omega)
    go_enter Try.func78, Try.ntmps78
    go_upto_region 1 with fail
    have oA := (own_first w 24 [.int .i64 rn, .int .i64 rd] (.cells #[.int .i64 n, .int .i64 d] 24)).alloc (.cells #[.int .i64 0, .int .i64 0, .int .i64 0] 58)
    have oB := (own_second w 24 [.int .i64 n, .int .i64 d] (.cells #[.int .i64 rn, .int .i64 rd] 24)).alloc (.cells #[.int .i64 0, .int .i64 0, .int .i64 0] 58)
    have oR := own_third w 58 [.int .i64 0, .int .i64 0, .int .i64 0] (.cells #[.int .i64 rn, .int .i64 rd] 24) (.cells #[.int .i64 n, .int .i64 d] 24)
    have hB := ba3 w (.cells #[.int .i64 rn, .int .i64 rd] 24) (.cells #[.int .i64 n, .int .i64 d] 24) (.cells #[.int .i64 0, .int .i64 0, .int .i64 0] 58)
    generalize ((w.alloc (.cells #[.int .i64 rn, .int .i64 rd] 24)).alloc (.cells #[.int .i64 n, .int .i64 d] 24)).alloc (.cells #[.int .i64 0, .int .i64 0, .int .i64 0] 58) = y0 at *
    obtain ⟨rA, fA⟩ := oA.rules
    obtain ⟨rB, fB⟩ := oB.rules
    obtain ⟨rR, fR⟩ := oR.rules
    have zA := oA.lt
    have zB := oB.lt
    have zR := oR.lt
    go_wp2
    refine bp_gen (fun W => Own W (w.heap.size + 1 + 1) 58 [.int .i64 0, .int .i64 0, .int .i64 0] ∧ Below w.heap.size w W) ⟨(((oR).set 0 (.int .i64 0)).set 1 (.int .i64 0)).set 2 (.int .i64 0), ?_⟩ ?_
    · repeat (refine Below.setCell ?_ (by first | omega | (simp; done) | (simp; omega)) _)
      exact hB
    rintro wz ⟨oz, bz⟩
    obtain ⟨rz, fz⟩ := oz.rules
    clear oz
    refine bodyPost_ret (v := .tuple #[.agg #[.int .i64 0, .int .i64 0, .int .i64 0], .int .i64 16]) (by simp [results, Try.results78, go_sem, rz]) rfl ⟨by rw [HV.out], ?_⟩
    repeat (refine Below.setCell ?_ (by first | omega | (simp; done) | (simp; omega)) _)
    exact bz
  have e1 : decide (1000000000 < d) = false := decide_eq_false (by omega)
  obtain ⟨D1, D2, D3, D4, D5⟩ := wden_facts r1 n1
  have s1 : s63 rd := ⟨by omega, by omega⟩
  have s2 : s63 d := ⟨by omega, by omega⟩
  have gp : 0 < Nat.gcd rd.natAbs d.natAbs := Nat.gcd_pos_of_pos_left _ (by omega)
  have gb : ((((Nat.gcd rd.natAbs d.natAbs : Nat) : Int)) == 0) = false := by simp; omega
  obtain ⟨m1, m2⟩ := mul_bd9 (n := rd) (k := d) (by omega) (by omega) (by omega) (by omega)
  have hgq : (rd * d).tdiv ((Nat.gcd rd.natAbs d.natAbs : Nat) : Int) = wden rd d := wden_ref r1 n1
  have DB := wden_le r1 n1
  by_cases hD : wden rd d ≤ 1000000000
  case neg =>
    have HV := Lib.hid (wval_0 (wok_no2 (rn := rn) (n := n) hD))
    generalize hDD : wden rd d = D at *
    clear hDD D2 D3 D4 D5
    go_enter Try.func78, Try.ntmps78
    go_upto_region 1 with fail
    have oA := (own_first w 24 [.int .i64 rn, .int .i64 rd] (.cells #[.int .i64 n, .int .i64 d] 24)).alloc (.cells #[.int .i64 0, .int .i64 0, .int .i64 0] 58)
    have oB := (own_second w 24 [.int .i64 n, .int .i64 d] (.cells #[.int .i64 rn, .int .i64 rd] 24)).alloc (.cells #[.int .i64 0, .int .i64 0, .int .i64 0] 58)
    have oR := own_third w 58 [.int .i64 0, .int .i64 0, .int .i64 0] (.cells #[.int .i64 rn, .int .i64 rd] 24) (.cells #[.int .i64 n, .int .i64 d] 24)
    have hB := ba3 w (.cells #[.int .i64 rn, .int .i64 rd] 24) (.cells #[.int .i64 n, .int .i64 d] 24) (.cells #[.int .i64 0, .int .i64 0, .int .i64 0] 58)
    generalize ((w.alloc (.cells #[.int .i64 rn, .int .i64 rd] 24)).alloc (.cells #[.int .i64 n, .int .i64 d] 24)).alloc (.cells #[.int .i64 0, .int .i64 0, .int .i64 0] 58) = y0 at *
    obtain ⟨rA, fA⟩ := oA.rules
    obtain ⟨rB, fB⟩ := oB.rules
    obtain ⟨rR, fR⟩ := oR.rules
    have zA := oA.lt
    have zB := oB.lt
    have zR := oR.lt
    go_wp2
    go_quiet (first | (go_at_call 105; refine Calls.quiet_same (common_den _ _ _ ?_ ?_) <;> assumption))
    go_wp2
    clear rA fA zA rB fB zB rR fR zR
    replace oR := oR.drewN nq
    replace hB := bd hB nq
    refine bp_gen (fun W => Own W (w.heap.size + 1 + 1) 58 [.int .i64 0, .int .i64 0, .int .i64 0] ∧ Below w.heap.size w W) ⟨(((oR).set 0 (.int .i64 0)).set 1 (.int .i64 0)).set 2 (.int .i64 0), ?_⟩ ?_
    · repeat (refine Below.setCell ?_ (by first | omega | (simp; done) | (simp; omega)) _)
      exact hB
    rintro wz ⟨oz, bz⟩
    obtain ⟨rz, fz⟩ := oz.rules
    clear oz
    refine bodyPost_ret (v := .tuple #[.agg #[.int .i64 0, .int .i64 0, .int .i64 0], .int .i64 16]) (by simp [results, Try.results78, go_sem, rz]) rfl ⟨by rw [HV.out], ?_⟩
    repeat (refine Below.setCell ?_ (by first | omega | (simp; done) | (simp; omega)) _)
    exact bz
  have Hc := Lib.hid (wok_ref (rn := rn) (n := n) r1 n1 a0 a1 hD)
  have F1 := Lib.hid (fmul_w HA.out D1 hD)
  have F2 := Lib.hid (fmul_w HB.out D1 hD)
  have W1 := fun h => Lib.hid (whole_mul (n := rn) r1 D1 D2 h)
  have W2 := fun h => Lib.hid (whole_mul (n := n) n1 D1 D3 h)
  have N1 := fun h => Lib.hid (whole_no (n := rn) r1 D1 D2 h)
  have N2 := fun h => Lib.hid (whole_no (n := n) n1 D1 D3 h)
  have HW1 := fun h => Lib.hid (wval_1 (rn := rn) (rd := rd) (n := n) (d := d) h)
  have HW0 := fun h => Lib.hid (wval_0 (rn := rn) (rd := rd) (n := n) (d := d) h)
  generalize hDD : wden rd d = D at *
  clear hDD
  generalize rn * (D / rd) = x at *
  generalize n * (D / d) = y at *
  clear D2 D3 D4 D5
  by_cases hx : x.natAbs ≤ 1000000000000000000
  case neg =>
    have hw : wok rn rd n d = false := by rw [Hc.out]; exact cok_no (by unfold CFit; omega)
    have HV := HW0 hw
    have FX : Hid (fmul rn rd D 1 = ⟨0, 0, 16⟩) := by show _ = _; rw [F1.out]; exact (N1 (by omega)).out
    clear F1 F2 W1 W2 N1 N2 HW1 HW0 Hc hw
    go_enter Try.func78, Try.ntmps78
    go_upto_region 1 with fail
    have oA := (own_first w 24 [.int .i64 rn, .int .i64 rd] (.cells #[.int .i64 n, .int .i64 d] 24)).alloc (.cells #[.int .i64 0, .int .i64 0, .int .i64 0] 58)
    have oB := (own_second w 24 [.int .i64 n, .int .i64 d] (.cells #[.int .i64 rn, .int .i64 rd] 24)).alloc (.cells #[.int .i64 0, .int .i64 0, .int .i64 0] 58)
    have oR := own_third w 58 [.int .i64 0, .int .i64 0, .int .i64 0] (.cells #[.int .i64 rn, .int .i64 rd] 24) (.cells #[.int .i64 n, .int .i64 d] 24)
    have hB := ba3 w (.cells #[.int .i64 rn, .int .i64 rd] 24) (.cells #[.int .i64 n, .int .i64 d] 24) (.cells #[.int .i64 0, .int .i64 0, .int .i64 0] 58)
    generalize ((w.alloc (.cells #[.int .i64 rn, .int .i64 rd] 24)).alloc (.cells #[.int .i64 n, .int .i64 d] 24)).alloc (.cells #[.int .i64 0, .int .i64 0, .int .i64 0] 58) = y0 at *
    obtain ⟨rA, fA⟩ := oA.rules
    obtain ⟨rB, fB⟩ := oB.rules
    obtain ⟨rR, fR⟩ := oR.rules
    have zA := oA.lt
    have zB := oB.lt
    have zR := oR.lt
    go_wp2
    go_quiet (first | (go_at_call 105; refine Calls.quiet_same (common_den _ _ _ ?_ ?_) <;> assumption))
    clear rA fA zA rB fB zB rR fR zR
    replace oA := oA.drewN nq
    replace oB := oB.drewN nq
    replace oR := oR.drewN nq
    replace hB := bd hB nq
    generalize y0.drewN nq = y1 at *
    obtain ⟨rA, fA⟩ := oA.rules
    obtain ⟨rB, fB⟩ := oB.rules
    have zA := oA.lt
    have zB := oB.lt
    go_wp2_with fail
    refine (rmul_any rn rd D 1 _ ⟨by omega, by omega⟩ ⟨by omega, by omega⟩ ⟨by omega, by omega⟩ ⟨by omega, by omega⟩).mono ?_
    rintro e v1 ⟨rfl, hq⟩
    rw [FX.out]
    clear rA fA zA rB fB zB
    replace oA := oA.below hq
    replace oB := oB.below hq
    replace oR := oR.below hq
    replace hB := below_to hB hq
    clear hq
    go_upto_region 7 with fail
    replace oA := oA.alloc (.cells #[.int .i64 0, .int .i64 0] 24)
    replace oB := oB.alloc (.cells #[.int .i64 0, .int .i64 0] 24)
    replace oR := oR.alloc (.cells #[.int .i64 0, .int .i64 0] 24)
    replace hB := below_to hB (ba1 v1 (.cells #[.int .i64 0, .int .i64 0] 24))
    have oX := Own.new v1 24 [.int .i64 0, .int .i64 0]
    generalize hbk : v1.heap.size = kX at oX ⊢
    clear hbk
    generalize v1.alloc (.cells #[.int .i64 0, .int .i64 0] 24) = y1 at *
    obtain ⟨rA, fA⟩ := oA.rules
    obtain ⟨rB, fB⟩ := oB.rules
    have zA := oA.lt
    have zB := oB.lt
    go_wp2_with fail
    refine (rmul_any n d D 1 _ ⟨by omega, by omega⟩ ⟨by omega, by omega⟩ ⟨by omega, by omega⟩ ⟨by omega, by omega⟩).mono ?_
    rintro e v2 ⟨rfl, hq⟩
    generalize fmul n d D 1 = fr at *
    clear rA fA zA rB fB zB
    replace oA := oA.below hq
    replace oB := oB.below hq
    replace oR := oR.below hq
    replace oX := oX.below hq
    replace hB := below_to hB hq
    clear hq
    go_upto_region 8 with fail
    replace oA := oA.alloc (.cells #[.int .i64 fr.n, .int .i64 fr.d] 24)
    replace oB := oB.alloc (.cells #[.int .i64 fr.n, .int .i64 fr.d] 24)
    replace oR := oR.alloc (.cells #[.int .i64 fr.n, .int .i64 fr.d] 24)
    replace oX := oX.alloc (.cells #[.int .i64 fr.n, .int .i64 fr.d] 24)
    replace hB := below_to hB (ba1 v2 (.cells #[.int .i64 fr.n, .int .i64 fr.d] 24))
    have oY := Own.new v2 24 [.int .i64 fr.n, .int .i64 fr.d]
    generalize hbk : v2.heap.size = kY at oY ⊢
    clear hbk
    generalize v2.alloc (.cells #[.int .i64 fr.n, .int .i64 fr.d] 24) = y2 at *
    obtain ⟨rX, fX⟩ := oX.rules
    obtain ⟨rY, fY⟩ := oY.rules
    obtain ⟨rR, fR⟩ := oR.rules
    have zX := oX.lt
    have zY := oY.lt
    have zR := oR.lt
    go_wp2
    refine bp_gen (fun W => Own W (w.heap.size + 1 + 1) 58 [.int .i64 0, .int .i64 0, .int .i64 0] ∧ Below w.heap.size w W) ⟨(((oR).set 0 (.int .i64 0)).set 1 (.int .i64 0)).set 2 (.int .i64 0), ?_⟩ ?_
    · repeat (refine Below.setCell ?_ (by first | omega | (simp; done) | (simp; omega)) _)
      exact hB
    rintro wz ⟨oz, bz⟩
    obtain ⟨rz, fz⟩ := oz.rules
    clear oz
    refine bodyPost_ret (v := .tuple #[.agg #[.int .i64 0, .int .i64 0, .int .i64 0], .int .i64 16]) (by simp [results, Try.results78, go_sem, rz]) rfl ⟨by rw [HV.out], ?_⟩
    repeat (refine Below.setCell ?_ (by first | omega | (simp; done) | (simp; omega)) _)
    exact bz
  by_cases hy : y.natAbs ≤ 1000000000000000000
  case neg =>
    have hw : wok rn rd n d = false := by rw [Hc.out]; exact cok_no (by unfold CFit; omega)
    have HV := HW0 hw
    have FX : Hid (fmul rn rd D 1 = ⟨x, 1, 0⟩) := by show _ = _; rw [F1.out]; exact (W1 hx).out
    have FY : Hid (fmul n d D 1 = ⟨0, 0, 16⟩) := by show _ = _; rw [F2.out]; exact (N2 (by omega)).out
    clear F1 F2 W1 W2 N1 N2 HW1 HW0 Hc hw
    go_enter Try.func78, Try.ntmps78
    go_upto_region 1 with fail
    have oA := (own_first w 24 [.int .i64 rn, .int .i64 rd] (.cells #[.int .i64 n, .int .i64 d] 24)).alloc (.cells #[.int .i64 0, .int .i64 0, .int .i64 0] 58)
    have oB := (own_second w 24 [.int .i64 n, .int .i64 d] (.cells #[.int .i64 rn, .int .i64 rd] 24)).alloc (.cells #[.int .i64 0, .int .i64 0, .int .i64 0] 58)
    have oR := own_third w 58 [.int .i64 0, .int .i64 0, .int .i64 0] (.cells #[.int .i64 rn, .int .i64 rd] 24) (.cells #[.int .i64 n, .int .i64 d] 24)
    have hB := ba3 w (.cells #[.int .i64 rn, .int .i64 rd] 24) (.cells #[.int .i64 n, .int .i64 d] 24) (.cells #[.int .i64 0, .int .i64 0, .int .i64 0] 58)
    generalize ((w.alloc (.cells #[.int .i64 rn, .int .i64 rd] 24)).alloc (.cells #[.int .i64 n, .int .i64 d] 24)).alloc (.cells #[.int .i64 0, .int .i64 0, .int .i64 0] 58) = y0 at *
    obtain ⟨rA, fA⟩ := oA.rules
    obtain ⟨rB, fB⟩ := oB.rules
    obtain ⟨rR, fR⟩ := oR.rules
    have zA := oA.lt
    have zB := oB.lt
    have zR := oR.lt
    go_wp2
    go_quiet (first | (go_at_call 105; refine Calls.quiet_same (common_den _ _ _ ?_ ?_) <;> assumption))
    clear rA fA zA rB fB zB rR fR zR
    replace oA := oA.drewN nq
    replace oB := oB.drewN nq
    replace oR := oR.drewN nq
    replace hB := bd hB nq
    generalize y0.drewN nq = y1 at *
    obtain ⟨rA, fA⟩ := oA.rules
    obtain ⟨rB, fB⟩ := oB.rules
    have zA := oA.lt
    have zB := oB.lt
    go_wp2_with fail
    refine (rmul_any rn rd D 1 _ ⟨by omega, by omega⟩ ⟨by omega, by omega⟩ ⟨by omega, by omega⟩ ⟨by omega, by omega⟩).mono ?_
    rintro e v1 ⟨rfl, hq⟩
    rw [FX.out]
    clear rA fA zA rB fB zB
    replace oA := oA.below hq
    replace oB := oB.below hq
    replace oR := oR.below hq
    replace hB := below_to hB hq
    clear hq
    go_upto_region 7 with fail
    replace oA := oA.alloc (.cells #[.int .i64 x, .int .i64 1] 24)
    replace oB := oB.alloc (.cells #[.int .i64 x, .int .i64 1] 24)
    replace oR := oR.alloc (.cells #[.int .i64 x, .int .i64 1] 24)
    replace hB := below_to hB (ba1 v1 (.cells #[.int .i64 x, .int .i64 1] 24))
    have oX := Own.new v1 24 [.int .i64 x, .int .i64 1]
    generalize hbk : v1.heap.size = kX at oX ⊢
    clear hbk
    generalize v1.alloc (.cells #[.int .i64 x, .int .i64 1] 24) = y1 at *
    obtain ⟨rA, fA⟩ := oA.rules
    obtain ⟨rB, fB⟩ := oB.rules
    have zA := oA.lt
    have zB := oB.lt
    go_wp2_with fail
    refine (rmul_any n d D 1 _ ⟨by omega, by omega⟩ ⟨by omega, by omega⟩ ⟨by omega, by omega⟩ ⟨by omega, by omega⟩).mono ?_
    rintro e v2 ⟨rfl, hq⟩
    rw [FY.out]
    clear rA fA zA rB fB zB
    replace oA := oA.below hq
    replace oB := oB.below hq
    replace oR := oR.below hq
    replace oX := oX.below hq
    replace hB := below_to hB hq
    clear hq
    go_upto_region 8 with fail
    replace oA := oA.alloc (.cells #[.int .i64 0, .int .i64 0] 24)
    replace oB := oB.alloc (.cells #[.int .i64 0, .int .i64 0] 24)
    replace oR := oR.alloc (.cells #[.int .i64 0, .int .i64 0] 24)
    replace oX := oX.alloc (.cells #[.int .i64 0, .int .i64 0] 24)
    replace hB := below_to hB (ba1 v2 (.cells #[.int .i64 0, .int .i64 0] 24))
    have oY := Own.new v2 24 [.int .i64 0, .int .i64 0]
    generalize hbk : v2.heap.size = kY at oY ⊢
    clear hbk
    generalize v2.alloc (.cells #[.int .i64 0, .int .i64 0] 24) = y2 at *
    obtain ⟨rX, fX⟩ := oX.rules
    obtain ⟨rY, fY⟩ := oY.rules
    obtain ⟨rR, fR⟩ := oR.rules
    have zX := oX.lt
    have zY := oY.lt
    have zR := oR.lt
    go_wp2
    refine bp_gen (fun W => Own W (w.heap.size + 1 + 1) 58 [.int .i64 0, .int .i64 0, .int .i64 0] ∧ Below w.heap.size w W) ⟨(((oR).set 0 (.int .i64 0)).set 1 (.int .i64 0)).set 2 (.int .i64 0), ?_⟩ ?_
    · repeat (refine Below.setCell ?_ (by first | omega | (simp; done) | (simp; omega)) _)
      exact hB
    rintro wz ⟨oz, bz⟩
    obtain ⟨rz, fz⟩ := oz.rules
    clear oz
    refine bodyPost_ret (v := .tuple #[.agg #[.int .i64 0, .int .i64 0, .int .i64 0], .int .i64 16]) (by simp [results, Try.results78, go_sem, rz]) rfl ⟨by rw [HV.out], ?_⟩
    repeat (refine Below.setCell ?_ (by first | omega | (simp; done) | (simp; omega)) _)
    exact bz
  have FX : Hid (fmul rn rd D 1 = ⟨x, 1, 0⟩) := by show _ = _; rw [F1.out]; exact (W1 hx).out
  have FY : Hid (fmul n d D 1 = ⟨y, 1, 0⟩) := by show _ = _; rw [F2.out]; exact (W2 hy).out
  clear F1 F2 W1 W2 N1 N2
  cases hc : cokB x y D with
  | false =>
    have HV := HW0 (by rw [Hc.out]; exact hc)
    clear HW1 HW0 Hc
    go_enter Try.func78, Try.ntmps78
    go_upto_region 1 with fail
    have oA := (own_first w 24 [.int .i64 rn, .int .i64 rd] (.cells #[.int .i64 n, .int .i64 d] 24)).alloc (.cells #[.int .i64 0, .int .i64 0, .int .i64 0] 58)
    have oB := (own_second w 24 [.int .i64 n, .int .i64 d] (.cells #[.int .i64 rn, .int .i64 rd] 24)).alloc (.cells #[.int .i64 0, .int .i64 0, .int .i64 0] 58)
    have oR := own_third w 58 [.int .i64 0, .int .i64 0, .int .i64 0] (.cells #[.int .i64 rn, .int .i64 rd] 24) (.cells #[.int .i64 n, .int .i64 d] 24)
    have hB := ba3 w (.cells #[.int .i64 rn, .int .i64 rd] 24) (.cells #[.int .i64 n, .int .i64 d] 24) (.cells #[.int .i64 0, .int .i64 0, .int .i64 0] 58)
    generalize ((w.alloc (.cells #[.int .i64 rn, .int .i64 rd] 24)).alloc (.cells #[.int .i64 n, .int .i64 d] 24)).alloc (.cells #[.int .i64 0, .int .i64 0, .int .i64 0] 58) = y0 at *
    obtain ⟨rA, fA⟩ := oA.rules
    obtain ⟨rB, fB⟩ := oB.rules
    obtain ⟨rR, fR⟩ := oR.rules
    have zA := oA.lt
    have zB := oB.lt
    have zR := oR.lt
    go_wp2
    go_quiet (first | (go_at_call 105; refine Calls.quiet_same (common_den _ _ _ ?_ ?_) <;> assumption))
    clear rA fA zA rB fB zB rR fR zR
    replace oA := oA.drewN nq
    replace oB := oB.drewN nq
    replace oR := oR.drewN nq
    replace hB := bd hB nq
    generalize y0.drewN nq = y1 at *
    obtain ⟨rA, fA⟩ := oA.rules
    obtain ⟨rB, fB⟩ := oB.rules
    have zA := oA.lt
    have zB := oB.lt
    go_wp2_with fail
    refine (rmul_any rn rd D 1 _ ⟨by omega, by omega⟩ ⟨by omega, by omega⟩ ⟨by omega, by omega⟩ ⟨by omega, by omega⟩).mono ?_
    rintro e v1 ⟨rfl, hq⟩
    rw [FX.out]
    clear rA fA zA rB fB zB
    replace oA := oA.below hq
    replace oB := oB.below hq
    replace oR := oR.below hq
    replace hB := below_to hB hq
    clear hq
    go_upto_region 7 with fail
    replace oA := oA.alloc (.cells #[.int .i64 x, .int .i64 1] 24)
    replace oB := oB.alloc (.cells #[.int .i64 x, .int .i64 1] 24)
    replace oR := oR.alloc (.cells #[.int .i64 x, .int .i64 1] 24)
    replace hB := below_to hB (ba1 v1 (.cells #[.int .i64 x, .int .i64 1] 24))
    have oX := Own.new v1 24 [.int .i64 x, .int .i64 1]
    generalize hbk : v1.heap.size = kX at oX ⊢
    clear hbk
    generalize v1.alloc (.cells #[.int .i64 x, .int .i64 1] 24) = y1 at *
    obtain ⟨rA, fA⟩ := oA.rules
    obtain ⟨rB, fB⟩ := oB.rules
    have zA := oA.lt
    have zB := oB.lt
    go_wp2_with fail
    refine (rmul_any n d D 1 _ ⟨by omega, by omega⟩ ⟨by omega, by omega⟩ ⟨by omega, by omega⟩ ⟨by omega, by omega⟩).mono ?_
    rintro e v2 ⟨rfl, hq⟩
    rw [FY.out]
    clear rA fA zA rB fB zB
    replace oA := oA.below hq
    replace oB := oB.below hq
    replace oR := oR.below hq
    replace oX := oX.below hq
    replace hB := below_to hB hq
    clear hq
    go_upto_region 8 with fail
    replace oA := oA.alloc (.cells #[.int .i64 y, .int .i64 1] 24)
    replace oB := oB.alloc (.cells #[.int .i64 y, .int .i64 1] 24)
    replace oR := oR.alloc (.cells #[.int .i64 y, .int .i64 1] 24)
    replace oX := oX.alloc (.cells #[.int .i64 y, .int .i64 1] 24)
    replace hB := below_to hB (ba1 v2 (.cells #[.int .i64 y, .int .i64 1] 24))
    have oY := Own.new v2 24 [.int .i64 y, .int .i64 1]
    generalize hbk : v2.heap.size = kY at oY ⊢
    clear hbk
    generalize v2.alloc (.cells #[.int .i64 y, .int .i64 1] 24) = y2 at *
    obtain ⟨rX, fX⟩ := oX.rules
    obtain ⟨rY, fY⟩ := oY.rules
    have zX := oX.lt
    have zY := oY.lt
    go_wp2_with fail
    refine (divides_1 _).mono ?_
    rintro e _ ⟨rfl, rfl⟩
    go_wp2_with fail
    refine (divides_1 _).mono ?_
    rintro e _ ⟨rfl, rfl⟩
    go_upto_region 11 with fail
    replace oA := oA.alloc (.cells #[.int .i64 x, .int .i64 y, .int .i64 D] 58)
    replace oB := oB.alloc (.cells #[.int .i64 x, .int .i64 y, .int .i64 D] 58)
    replace oR := oR.alloc (.cells #[.int .i64 x, .int .i64 y, .int .i64 D] 58)
    replace oX := oX.alloc (.cells #[.int .i64 x, .int .i64 y, .int .i64 D] 58)
    replace oY := oY.alloc (.cells #[.int .i64 x, .int .i64 y, .int .i64 D] 58)
    replace hB := below_to hB (ba1 y2 (.cells #[.int .i64 x, .int .i64 y, .int .i64 D] 58))
    have oV := Own.new y2 58 [.int .i64 x, .int .i64 y, .int .i64 D]
    generalize hbk : y2.heap.size = kV at oV ⊢
    clear hbk
    generalize y2.alloc (.cells #[.int .i64 x, .int .i64 y, .int .i64 D] 58) = y2 at *
    clear rX fX zX rY fY zY
    obtain ⟨rV, fV⟩ := oV.rules
    have zV := oV.lt
    go_wp2_with fail
    refine (valid_of x y D _ _ hc).mono ?_
    rintro e v3 ⟨rfl, hq⟩
    clear rV fV zV
    replace oA := oA.below hq
    replace oB := oB.below hq
    replace oR := oR.below hq
    replace oX := oX.below hq
    replace oY := oY.below hq
    replace oV := oV.below hq
    replace hB := below_to hB hq
    clear hq
    obtain ⟨rV, fV⟩ := oV.rules
    obtain ⟨rR, fR⟩ := oR.rules
    have zV := oV.lt
    have zR := oR.lt
    go_wp2
    refine bp_gen (fun W => Own W (w.heap.size + 1 + 1) 58 [.int .i64 0, .int .i64 0, .int .i64 0] ∧ Below w.heap.size w W) ⟨(((oR).set 0 (.int .i64 0)).set 1 (.int .i64 0)).set 2 (.int .i64 0), ?_⟩ ?_
    · repeat (refine Below.setCell ?_ (by first | omega | (simp; done) | (simp; omega)) _)
      exact hB
    rintro wz ⟨oz, bz⟩
    obtain ⟨rz, fz⟩ := oz.rules
    clear oz
    refine bodyPost_ret (v := .tuple #[.agg #[.int .i64 0, .int .i64 0, .int .i64 0], .int .i64 16]) (by simp [results, Try.results78, go_sem, rz]) rfl ⟨by rw [HV.out], ?_⟩
    repeat (refine Below.setCell ?_ (by first | omega | (simp; done) | (simp; omega)) _)
    exact bz
  | true =>
    have HV := HW1 (by rw [Hc.out]; exact hc)
    clear HW1 HW0 Hc
    go_enter Try.func78, Try.ntmps78
    go_upto_region 1 with fail
    have oA := (own_first w 24 [.int .i64 rn, .int .i64 rd] (.cells #[.int .i64 n, .int .i64 d] 24)).alloc (.cells #[.int .i64 0, .int .i64 0, .int .i64 0] 58)
    have oB := (own_second w 24 [.int .i64 n, .int .i64 d] (.cells #[.int .i64 rn, .int .i64 rd] 24)).alloc (.cells #[.int .i64 0, .int .i64 0, .int .i64 0] 58)
    have oR := own_third w 58 [.int .i64 0, .int .i64 0, .int .i64 0] (.cells #[.int .i64 rn, .int .i64 rd] 24) (.cells #[.int .i64 n, .int .i64 d] 24)
    have hB := ba3 w (.cells #[.int .i64 rn, .int .i64 rd] 24) (.cells #[.int .i64 n, .int .i64 d] 24) (.cells #[.int .i64 0, .int .i64 0, .int .i64 0] 58)
    generalize ((w.alloc (.cells #[.int .i64 rn, .int .i64 rd] 24)).alloc (.cells #[.int .i64 n, .int .i64 d] 24)).alloc (.cells #[.int .i64 0, .int .i64 0, .int .i64 0] 58) = y0 at *
    obtain ⟨rA, fA⟩ := oA.rules
    obtain ⟨rB, fB⟩ := oB.rules
    obtain ⟨rR, fR⟩ := oR.rules
    have zA := oA.lt
    have zB := oB.lt
    have zR := oR.lt
    go_wp2
    go_quiet (first | (go_at_call 105; refine Calls.quiet_same (common_den _ _ _ ?_ ?_) <;> assumption))
    clear rA fA zA rB fB zB rR fR zR
    replace oA := oA.drewN nq
    replace oB := oB.drewN nq
    replace oR := oR.drewN nq
    replace hB := bd hB nq
    generalize y0.drewN nq = y1 at *
    obtain ⟨rA, fA⟩ := oA.rules
    obtain ⟨rB, fB⟩ := oB.rules
    have zA := oA.lt
    have zB := oB.lt
    go_wp2_with fail
    refine (rmul_any rn rd D 1 _ ⟨by omega, by omega⟩ ⟨by omega, by omega⟩ ⟨by omega, by omega⟩ ⟨by omega, by omega⟩).mono ?_
    rintro e v1 ⟨rfl, hq⟩
    rw [FX.out]
    clear rA fA zA rB fB zB
    replace oA := oA.below hq
    replace oB := oB.below hq
    replace oR := oR.below hq
    replace hB := below_to hB hq
    clear hq
    go_upto_region 7 with fail
    replace oA := oA.alloc (.cells #[.int .i64 x, .int .i64 1] 24)
    replace oB := oB.alloc (.cells #[.int .i64 x, .int .i64 1] 24)
    replace oR := oR.alloc (.cells #[.int .i64 x, .int .i64 1] 24)
    replace hB := below_to hB (ba1 v1 (.cells #[.int .i64 x, .int .i64 1] 24))
    have oX := Own.new v1 24 [.int .i64 x, .int .i64 1]
    generalize hbk : v1.heap.size = kX at oX ⊢
    clear hbk
    generalize v1.alloc (.cells #[.int .i64 x, .int .i64 1] 24) = y1 at *
    obtain ⟨rA, fA⟩ := oA.rules
    obtain ⟨rB, fB⟩ := oB.rules
    have zA := oA.lt
    have zB := oB.lt
    go_wp2_with fail
    refine (rmul_any n d D 1 _ ⟨by omega, by omega⟩ ⟨by omega, by omega⟩ ⟨by omega, by omega⟩ ⟨by omega, by omega⟩).mono ?_
    rintro e v2 ⟨rfl, hq⟩
    rw [FY.out]
    clear rA fA zA rB fB zB
    replace oA := oA.below hq
    replace oB := oB.below hq
    replace oR := oR.below hq
    replace oX := oX.below hq
    replace hB := below_to hB hq
    clear hq
    go_upto_region 8 with fail
    replace oA := oA.alloc (.cells #[.int .i64 y, .int .i64 1] 24)
    replace oB := oB.alloc (.cells #[.int .i64 y, .int .i64 1] 24)
    replace oR := oR.alloc (.cells #[.int .i64 y, .int .i64 1] 24)
    replace oX := oX.alloc (.cells #[.int .i64 y, .int .i64 1] 24)
    replace hB := below_to hB (ba1 v2 (.cells #[.int .i64 y, .int .i64 1] 24))
    have oY := Own.new v2 24 [.int .i64 y, .int .i64 1]
    generalize hbk : v2.heap.size = kY at oY ⊢
    clear hbk
    generalize v2.alloc (.cells #[.int .i64 y, .int .i64 1] 24) = y2 at *
    obtain ⟨rX, fX⟩ := oX.rules
    obtain ⟨rY, fY⟩ := oY.rules
    have zX := oX.lt
    have zY := oY.lt
    go_wp2_with fail
    refine (divides_1 _).mono ?_
    rintro e _ ⟨rfl, rfl⟩
    go_wp2_with fail
    refine (divides_1 _).mono ?_
    rintro e _ ⟨rfl, rfl⟩
    go_upto_region 11 with fail
    replace oA := oA.alloc (.cells #[.int .i64 x, .int .i64 y, .int .i64 D] 58)
    replace oB := oB.alloc (.cells #[.int .i64 x, .int .i64 y, .int .i64 D] 58)
    replace oR := oR.alloc (.cells #[.int .i64 x, .int .i64 y, .int .i64 D] 58)
    replace oX := oX.alloc (.cells #[.int .i64 x, .int .i64 y, .int .i64 D] 58)
    replace oY := oY.alloc (.cells #[.int .i64 x, .int .i64 y, .int .i64 D] 58)
    replace hB := below_to hB (ba1 y2 (.cells #[.int .i64 x, .int .i64 y, .int .i64 D] 58))
    have oV := Own.new y2 58 [.int .i64 x, .int .i64 y, .int .i64 D]
    generalize hbk : y2.heap.size = kV at oV ⊢
    clear hbk
    generalize y2.alloc (.cells #[.int .i64 x, .int .i64 y, .int .i64 D] 58) = y2 at *
    clear rX fX zX rY fY zY
    obtain ⟨rV, fV⟩ := oV.rules
    have zV := oV.lt
    go_wp2_with fail
    refine (valid_of x y D _ _ hc).mono ?_
    rintro e v3 ⟨rfl, hq⟩
    clear rV fV zV
    replace oA := oA.below hq
    replace oB := oB.below hq
    replace oR := oR.below hq
    replace oX := oX.below hq
    replace oY := oY.below hq
    replace oV := oV.below hq
    replace hB := below_to hB hq
    clear hq
    obtain ⟨rV, fV⟩ := oV.rules
    obtain ⟨rR, fR⟩ := oR.rules
    have zV := oV.lt
    have zR := oR.lt
    go_wp2
    refine bp_gen (fun W => Own W (w.heap.size + 1 + 1) 58 [.int .i64 x, .int .i64 y, .int .i64 D] ∧ Below w.heap.size w W) ⟨(((oR).set 0 (.int .i64 x)).set 1 (.int .i64 y)).set 2 (.int .i64 D), ?_⟩ ?_
    · repeat (refine Below.setCell ?_ (by first | omega | (simp; done) | (simp; omega)) _)
      exact hB
    rintro wz ⟨oz, bz⟩
    obtain ⟨rz, fz⟩ := oz.rules
    clear oz
    refine bodyPost_ret (v := .tuple #[.agg #[.int .i64 x, .int .i64 y, .int .i64 D], .int .i64 0]) (by simp [results, Try.results78, go_sem, rz]) rfl ⟨by rw [HV.out], ?_⟩
    repeat (refine Below.setCell ?_ (by first | omega | (simp; done) | (simp; omega)) _)
    exact bz
end Go.Proofs.Ytpjhiojdnebgoaa
