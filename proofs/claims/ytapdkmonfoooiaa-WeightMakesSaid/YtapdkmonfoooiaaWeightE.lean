/- What is proved here: the contracts of weight.Scale and weight.Parts. Condition: the numbers are 64-bit integers. -/
import Derived.Test.YtapdkmonfoooiaaWeightD
namespace Go.Proofs.Ytapdkmonfoooiaa
open Go.RowKit

def wsc (i j re im den n by' : Int) : VR :=
  if vchk i j re im den n ≠ 0 then ⟨0, 0, 0, 0, 0, 0, 8⟩ else if by' < 0 ∨ 1000000 < by' then ⟨0, 0, 0, 0, 0, 0, 2⟩ else if 1000000 < n * by' then ⟨0, 0, 0, 0, 0, 0, 16⟩ else ⟨i, j, re, im, den, n * by', 0⟩
theorem wsc_8 {i j re im den n b : Int} (h : vchk i j re im den n = 8) : wsc i j re im den n b = ⟨0, 0, 0, 0, 0, 0, 8⟩ := by unfold wsc; rw [if_pos (by rw [h]; decide)]
theorem wsc_2 {i j re im den n b : Int} (h : vchk i j re im den n = 0) (h2 : b < 0 ∨ 1000000 < b) : wsc i j re im den n b = ⟨0, 0, 0, 0, 0, 0, 2⟩ := by unfold wsc; rw [if_neg (by rw [h]; decide), if_pos h2]
theorem wsc_16 {i j re im den n b : Int} (h : vchk i j re im den n = 0) (h2 : ¬ (b < 0 ∨ 1000000 < b)) (h3 : 1000000 < n * b) : wsc i j re im den n b = ⟨0, 0, 0, 0, 0, 0, 16⟩ := by unfold wsc; rw [if_neg (by rw [h]; decide), if_neg h2, if_pos h3]
theorem wsc_0 {i j re im den n b : Int} (h : vchk i j re im den n = 0) (h2 : ¬ (b < 0 ∨ 1000000 < b)) (h3 : ¬ 1000000 < n * b) : wsc i j re im den n b = ⟨i, j, re, im, den, n * b, 0⟩ := by unfold wsc; rw [if_neg (by rw [h]; decide), if_neg h2, if_neg h3]
theorem vchk_cases (i j re im den n : Int) : vchk i j re im den n = 0 ∨ vchk i j re im den n = 8 := by
  unfold vchk; split
  · exact .inl rfl
  · exact .inr rfl
theorem vcheck_of (i j re im den n e : Int) (w : World) (h : vchk i j re im den n = e) : Calls Try.prog 15 #[.agg #[.int .i64 i, .int .i64 j, .int .i64 re, .int .i64 im, .int .i64 den, .int .i64 n]] w fun r w' => r = .returned (.int .i64 e) ∧ Below w.heap.size w w' := by
  subst h; exact vcheck_any i j re im den n w
theorem mul_cnt {n b : Int} (h1 : 0 ≤ n) (h2 : n ≤ 1000000) (h3 : 0 ≤ b) (h4 : b ≤ 1000000) : 0 ≤ n * b ∧ n * b ≤ 1000000000000 := by
  constructor
  · exact Int.mul_nonneg h1 h3
  · have := Int.mul_le_mul h2 h4 h3 (show (0 : Int) ≤ 1000000 by decide)
    omega

set_option maxRecDepth 100000 in
set_option maxHeartbeats 16000000 in
theorem vscale_any (i j re im den n by' : Int) (w : World) :
    Calls Try.prog 13 #[.agg #[.int .i64 i, .int .i64 j, .int .i64 re, .int .i64 im, .int .i64 den, .int .i64 n], .int .i64 by'] w fun e w' =>
      e = .returned (.tuple #[.agg #[.int .i64 (wsc i j re im den n by').i, .int .i64 (wsc i j re im den n by').j, .int .i64 (wsc i j re im den n by').re, .int .i64 (wsc i j re im den n by').im, .int .i64 (wsc i j re im den n by').den, .int .i64 (wsc i j re im den n by').n], .int .i64 (wsc i j re im den n by').e]) ∧ Below w.heap.size w w' := by
  rcases vchk_cases i j re im den n with hv | hv
  case inr =>
    have HV := Lib.hid (wsc_8 (b := by') hv)
    go_enter Try.func13, Try.ntmps13
    have oV := own_first w 27 [.int .i64 i, .int .i64 j, .int .i64 re, .int .i64 im, .int .i64 den, .int .i64 n] (.cells #[.int .i64 0, .int .i64 0, .int .i64 0, .int .i64 0, .int .i64 0, .int .i64 0] 27)
    have oR := own_second w 27 [.int .i64 0, .int .i64 0, .int .i64 0, .int .i64 0, .int .i64 0, .int .i64 0] (.cells #[.int .i64 i, .int .i64 j, .int .i64 re, .int .i64 im, .int .i64 den, .int .i64 n] 27)
    go_wp2_with fail
    refine (vcheck_of _ _ _ _ _ _ _ _ hv).mono ?_
    rintro e w1 ⟨rfl, hb1⟩
    replace oV := oV.below hb1
    replace oR := oR.below hb1
    have hB := below_to (ba2 _ _ _) hb1
    obtain ⟨rV, fV⟩ := oV.rules
    obtain ⟨rR, fR⟩ := oR.rules
    have zV := oV.lt
    have zR := oR.lt
    go_wp2
    refine bp_gen (fun W => Own W (w.heap.size + 1) 27 [.int .i64 0, .int .i64 0, .int .i64 0, .int .i64 0, .int .i64 0, .int .i64 0] ∧ Below w.heap.size w W) ⟨((((((oR).set 0 (.int .i64 0)).set 1 (.int .i64 0)).set 2 (.int .i64 0)).set 3 (.int .i64 0)).set 4 (.int .i64 0)).set 5 (.int .i64 0), ?_⟩ ?_
    · repeat (refine Below.setCell ?_ (by first | omega | (simp; done) | (simp; omega)) _)
      exact hB
    rintro wz ⟨oz, bz⟩
    obtain ⟨rz, fz⟩ := oz.rules
    clear oz
    refine bodyPost_ret (v := .tuple #[.agg #[.int .i64 0, .int .i64 0, .int .i64 0, .int .i64 0, .int .i64 0, .int .i64 0], .int .i64 8]) (by simp [results, Try.results13, go_sem, rz]) rfl ⟨by rw [HV.out], ?_⟩
    repeat (refine Below.setCell ?_ (by first | omega | (simp; done) | (simp; omega)) _)
    exact bz
  obtain ⟨_, _, _, _, n1, n2⟩ := vchk_ok hv
  by_cases a0 : by' < 0
  case pos =>
    have HV := Lib.hid (wsc_2 (b := by') hv (by omega))
    have e0 : decide (by' < 0) = true := decide_eq_true a0
    go_enter Try.func13, Try.ntmps13
    have oV := own_first w 27 [.int .i64 i, .int .i64 j, .int .i64 re, .int .i64 im, .int .i64 den, .int .i64 n] (.cells #[.int .i64 0, .int .i64 0, .int .i64 0, .int .i64 0, .int .i64 0, .int .i64 0] 27)
    have oR := own_second w 27 [.int .i64 0, .int .i64 0, .int .i64 0, .int .i64 0, .int .i64 0, .int .i64 0] (.cells #[.int .i64 i, .int .i64 j, .int .i64 re, .int .i64 im, .int .i64 den, .int .i64 n] 27)
    go_wp2_with fail
    refine (vcheck_of _ _ _ _ _ _ _ _ hv).mono ?_
    rintro e w1 ⟨rfl, hb1⟩
    replace oV := oV.below hb1
    replace oR := oR.below hb1
    have hB := below_to (ba2 _ _ _) hb1
    obtain ⟨rV, fV⟩ := oV.rules
    obtain ⟨rR, fR⟩ := oR.rules
    have zV := oV.lt
    have zR := oR.lt
    go_wp2
    refine bp_gen (fun W => Own W (w.heap.size + 1) 27 [.int .i64 0, .int .i64 0, .int .i64 0, .int .i64 0, .int .i64 0, .int .i64 0] ∧ Below w.heap.size w W) ⟨((((((oR).set 0 (.int .i64 0)).set 1 (.int .i64 0)).set 2 (.int .i64 0)).set 3 (.int .i64 0)).set 4 (.int .i64 0)).set 5 (.int .i64 0), ?_⟩ ?_
    · repeat (refine Below.setCell ?_ (by first | omega | (simp; done) | (simp; omega)) _)
      exact hB
    rintro wz ⟨oz, bz⟩
    obtain ⟨rz, fz⟩ := oz.rules
    clear oz
    refine bodyPost_ret (v := .tuple #[.agg #[.int .i64 0, .int .i64 0, .int .i64 0, .int .i64 0, .int .i64 0, .int .i64 0], .int .i64 2]) (by simp [results, Try.results13, go_sem, rz]) rfl ⟨by rw [HV.out], ?_⟩
    repeat (refine Below.setCell ?_ (by first | omega | (simp; done) | (simp; omega)) _)
    exact bz
  have e0 : decide (by' < 0) = false := decide_eq_false a0
  by_cases a1 : 1000000 < by'
  case pos =>
    have HV := Lib.hid (wsc_2 (b := by') hv (by omega))
    have e1 : decide (1000000 < by') = true := decide_eq_true a1
    go_enter Try.func13, Try.ntmps13
    have oV := own_first w 27 [.int .i64 i, .int .i64 j, .int .i64 re, .int .i64 im, .int .i64 den, .int .i64 n] (.cells #[.int .i64 0, .int .i64 0, .int .i64 0, .int .i64 0, .int .i64 0, .int .i64 0] 27)
    have oR := own_second w 27 [.int .i64 0, .int .i64 0, .int .i64 0, .int .i64 0, .int .i64 0, .int .i64 0] (.cells #[.int .i64 i, .int .i64 j, .int .i64 re, .int .i64 im, .int .i64 den, .int .i64 n] 27)
    go_wp2_with fail
    refine (vcheck_of _ _ _ _ _ _ _ _ hv).mono ?_
    rintro e w1 ⟨rfl, hb1⟩
    replace oV := oV.below hb1
    replace oR := oR.below hb1
    have hB := below_to (ba2 _ _ _) hb1
    obtain ⟨rV, fV⟩ := oV.rules
    obtain ⟨rR, fR⟩ := oR.rules
    have zV := oV.lt
    have zR := oR.lt
    go_wp2
    refine bp_gen (fun W => Own W (w.heap.size + 1) 27 [.int .i64 0, .int .i64 0, .int .i64 0, .int .i64 0, .int .i64 0, .int .i64 0] ∧ Below w.heap.size w W) ⟨((((((oR).set 0 (.int .i64 0)).set 1 (.int .i64 0)).set 2 (.int .i64 0)).set 3 (.int .i64 0)).set 4 (.int .i64 0)).set 5 (.int .i64 0), ?_⟩ ?_
    · repeat (refine Below.setCell ?_ (by first | omega | (simp; done) | (simp; omega)) _)
      exact hB
    rintro wz ⟨oz, bz⟩
    obtain ⟨rz, fz⟩ := oz.rules
    clear oz
    refine bodyPost_ret (v := .tuple #[.agg #[.int .i64 0, .int .i64 0, .int .i64 0, .int .i64 0, .int .i64 0, .int .i64 0], .int .i64 2]) (by simp [results, Try.results13, go_sem, rz]) rfl ⟨by rw [HV.out], ?_⟩
    repeat (refine Below.setCell ?_ (by first | omega | (simp; done) | (simp; omega)) _)
    exact bz
  have e1 : decide (1000000 < by') = false := decide_eq_false a1
  obtain ⟨m1, m2⟩ := mul_cnt n1 n2 (show 0 ≤ by' by omega) (show by' ≤ 1000000 by omega)
  by_cases a2 : 1000000 < n * by'
  case pos =>
    have HV := Lib.hid (wsc_16 (b := by') hv (by omega) a2)
    go_enter Try.func13, Try.ntmps13
    have oV := own_first w 27 [.int .i64 i, .int .i64 j, .int .i64 re, .int .i64 im, .int .i64 den, .int .i64 n] (.cells #[.int .i64 0, .int .i64 0, .int .i64 0, .int .i64 0, .int .i64 0, .int .i64 0] 27)
    have oR := own_second w 27 [.int .i64 0, .int .i64 0, .int .i64 0, .int .i64 0, .int .i64 0, .int .i64 0] (.cells #[.int .i64 i, .int .i64 j, .int .i64 re, .int .i64 im, .int .i64 den, .int .i64 n] 27)
    go_wp2_with fail
    refine (vcheck_of _ _ _ _ _ _ _ _ hv).mono ?_
    rintro e w1 ⟨rfl, hb1⟩
    replace oV := oV.below hb1
    replace oR := oR.below hb1
    have hB := below_to (ba2 _ _ _) hb1
    obtain ⟨rV, fV⟩ := oV.rules
    obtain ⟨rR, fR⟩ := oR.rules
    have zV := oV.lt
    have zR := oR.lt
    go_wp2
    refine bp_gen (fun W => Own W (w.heap.size + 1) 27 [.int .i64 0, .int .i64 0, .int .i64 0, .int .i64 0, .int .i64 0, .int .i64 0] ∧ Below w.heap.size w W) ⟨((((((oR).set 0 (.int .i64 0)).set 1 (.int .i64 0)).set 2 (.int .i64 0)).set 3 (.int .i64 0)).set 4 (.int .i64 0)).set 5 (.int .i64 0), ?_⟩ ?_
    · repeat (refine Below.setCell ?_ (by first | omega | (simp; done) | (simp; omega)) _)
      exact hB
    rintro wz ⟨oz, bz⟩
    obtain ⟨rz, fz⟩ := oz.rules
    clear oz
    refine bodyPost_ret (v := .tuple #[.agg #[.int .i64 0, .int .i64 0, .int .i64 0, .int .i64 0, .int .i64 0, .int .i64 0], .int .i64 16]) (by simp [results, Try.results13, go_sem, rz]) rfl ⟨by rw [HV.out], ?_⟩
    repeat (refine Below.setCell ?_ (by first | omega | (simp; done) | (simp; omega)) _)
    exact bz
  have HV := Lib.hid (wsc_0 (b := by') hv (by omega) a2)
  go_enter Try.func13, Try.ntmps13
  have oV := own_first w 27 [.int .i64 i, .int .i64 j, .int .i64 re, .int .i64 im, .int .i64 den, .int .i64 n] (.cells #[.int .i64 0, .int .i64 0, .int .i64 0, .int .i64 0, .int .i64 0, .int .i64 0] 27)
  have oR := own_second w 27 [.int .i64 0, .int .i64 0, .int .i64 0, .int .i64 0, .int .i64 0, .int .i64 0] (.cells #[.int .i64 i, .int .i64 j, .int .i64 re, .int .i64 im, .int .i64 den, .int .i64 n] 27)
  go_wp2_with fail
  refine (vcheck_of _ _ _ _ _ _ _ _ hv).mono ?_
  rintro e w1 ⟨rfl, hb1⟩
  replace oV := oV.below hb1
  replace oR := oR.below hb1
  have hB := below_to (ba2 _ _ _) hb1
  obtain ⟨rV, fV⟩ := oV.rules
  obtain ⟨rR, fR⟩ := oR.rules
  have zV := oV.lt
  have zR := oR.lt
  go_upto_region 9 with fail
  clear rV fV rR fR
  have oV2 : Own (w1.setCell ⟨w.heap.size, 5, none⟩ (.int .i64 (n * by'))) w.heap.size 27 [.int .i64 i, .int .i64 j, .int .i64 re, .int .i64 im, .int .i64 den, .int .i64 (n * by')] := oV.set 5 (.int .i64 (n * by'))
  have oR2 := oR.other (g' := w.heap.size) (by omega) 5 (.int .i64 (n * by'))
  have hB2 := hB.setCell (p := ⟨w.heap.size, 5, none⟩) (Nat.le_refl _) (.int .i64 (n * by'))
  clear oV oR hB zV zR
  generalize w1.setCell ⟨w.heap.size, 5, none⟩ (.int .i64 (n * by')) = wy at *
  obtain ⟨rV, fV⟩ := oV2.rules
  obtain ⟨rR, fR⟩ := oR2.rules
  have zV := oV2.lt
  have zR := oR2.lt
  go_wp2
  refine bp_gen (fun W => Own W (w.heap.size + 1) 27 [.int .i64 i, .int .i64 j, .int .i64 re, .int .i64 im, .int .i64 den, .int .i64 (n * by')] ∧ Below w.heap.size w W) ⟨((((((oR2).set 0 (.int .i64 i)).set 1 (.int .i64 j)).set 2 (.int .i64 re)).set 3 (.int .i64 im)).set 4 (.int .i64 den)).set 5 (.int .i64 (n * by')), ?_⟩ ?_
  · repeat (refine Below.setCell ?_ (by first | omega | (simp; done) | (simp; omega)) _)
    exact hB2
  rintro wz ⟨oz, bz⟩
  obtain ⟨rz, fz⟩ := oz.rules
  clear oz
  refine bodyPost_ret (v := .tuple #[.agg #[.int .i64 i, .int .i64 j, .int .i64 re, .int .i64 im, .int .i64 den, .int .i64 (n * by')], .int .i64 0]) (by simp [results, Try.results13, go_sem, rz]) rfl ⟨by rw [HV.out], ?_⟩
  repeat (refine Below.setCell ?_ (by first | omega | (simp; done) | (simp; omega)) _)
  exact bz
end Go.Proofs.Ytapdkmonfoooiaa
