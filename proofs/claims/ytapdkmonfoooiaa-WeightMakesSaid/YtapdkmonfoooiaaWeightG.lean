/- What is proved here: the contracts of the reference's Scale of layer 22 and of its Mul of layer 1. Condition: the numbers are 64-bit integers. -/
import Derived.Test.YtapdkmonfoooiaaWeightF
namespace Go.Proofs.Ytapdkmonfoooiaa
open Go.RowKit

set_option maxRecDepth 100000 in
set_option maxHeartbeats 16000000 in
theorem rvscale_any (i j re im den n by' : Int) (w : World) :
    Calls Try.prog 14 #[.agg #[.int .i64 i, .int .i64 j, .int .i64 re, .int .i64 im, .int .i64 den, .int .i64 n], .int .i64 by'] w fun e w' =>
      e = .returned (.tuple #[.agg #[.int .i64 (wsc i j re im den n by').i, .int .i64 (wsc i j re im den n by').j, .int .i64 (wsc i j re im den n by').re, .int .i64 (wsc i j re im den n by').im, .int .i64 (wsc i j re im den n by').den, .int .i64 (wsc i j re im den n by').n], .int .i64 (wsc i j re im den n by').e]) ∧ Below w.heap.size w w' := by
  rcases vchk_cases i j re im den n with hv | hv
  case inr =>
    have HV := Lib.hid (wsc_8 (b := by') hv)
    go_enter Try.func14, Try.ntmps14
    have oV := own_first w 27 [.int .i64 i, .int .i64 j, .int .i64 re, .int .i64 im, .int .i64 den, .int .i64 n] (.cells #[.int .i64 0, .int .i64 0, .int .i64 0, .int .i64 0, .int .i64 0, .int .i64 0] 27)
    have oR := own_second w 27 [.int .i64 0, .int .i64 0, .int .i64 0, .int .i64 0, .int .i64 0, .int .i64 0] (.cells #[.int .i64 i, .int .i64 j, .int .i64 re, .int .i64 im, .int .i64 den, .int .i64 n] 27)
    go_wp2_with fail
    refine (rvcheck_of _ _ _ _ _ _ _ _ hv).mono ?_
    rintro e w1 ⟨rfl, hb1⟩
    replace oV := oV.below hb1
    replace oR := oR.below hb1
    have hB := below_to (ba2 _ _ _) hb1
    obtain ⟨rV, fV⟩ := oV.rules
    obtain ⟨rR, fR⟩ := oR.rules
    have zV := oV.lt
    have zR := oR.lt
    go_wp2
    refine bp_gen (fun W => Own W (w.heap.size + 1) 27 [.int .i64 0, .int .i64 0, .int .i64 0, .int .i64 0, .int .i64 0, .int .i64 0] ∧ Below w.heap.size w W) ⟨((((((oR).set 0 (.int .i64 0)).set 1 (.int .i64 0)).set 2 (.int .i64 0)).set 3 (.int .i64 0)).set 4 (.int .i64 0)).set 5 (.int .i64 0), ?_⟩ ?_
    · repeat (refine Below.setCell ?_ (by first | omega | (simp; done) | (simp; omega)) _)
      exact hB
    rintro wz ⟨oz, bz⟩
    obtain ⟨rz, fz⟩ := oz.rules
    clear oz
    refine bodyPost_ret (v := .tuple #[.agg #[.int .i64 0, .int .i64 0, .int .i64 0, .int .i64 0, .int .i64 0, .int .i64 0], .int .i64 8]) (by simp [results, Try.results14, go_sem, rz]) rfl ⟨by rw [HV.out], ?_⟩
    repeat (refine Below.setCell ?_ (by first | omega | (simp; done) | (simp; omega)) _)
    exact bz
  obtain ⟨_, _, _, _, n1, n2⟩ := vchk_ok hv
  by_cases a0 : by' < 0
  case pos =>
    have HV := Lib.hid (wsc_2 (b := by') hv (by omega))
    have e0 : decide (by' < 0) = true := decide_eq_true a0
    go_enter Try.func14, Try.ntmps14
    have oV := own_first w 27 [.int .i64 i, .int .i64 j, .int .i64 re, .int .i64 im, .int .i64 den, .int .i64 n] (.cells #[.int .i64 0, .int .i64 0, .int .i64 0, .int .i64 0, .int .i64 0, .int .i64 0] 27)
    have oR := own_second w 27 [.int .i64 0, .int .i64 0, .int .i64 0, .int .i64 0, .int .i64 0, .int .i64 0] (.cells #[.int .i64 i, .int .i64 j, .int .i64 re, .int .i64 im, .int .i64 den, .int .i64 n] 27)
    go_wp2_with fail
    refine (rvcheck_of _ _ _ _ _ _ _ _ hv).mono ?_
    rintro e w1 ⟨rfl, hb1⟩
    replace oV := oV.below hb1
    replace oR := oR.below hb1
    have hB := below_to (ba2 _ _ _) hb1
    obtain ⟨rV, fV⟩ := oV.rules
    obtain ⟨rR, fR⟩ := oR.rules
    have zV := oV.lt
    have zR := oR.lt
    go_wp2
    refine bp_gen (fun W => Own W (w.heap.size + 1) 27 [.int .i64 0, .int .i64 0, .int .i64 0, .int .i64 0, .int .i64 0, .int .i64 0] ∧ Below w.heap.size w W) ⟨((((((oR).set 0 (.int .i64 0)).set 1 (.int .i64 0)).set 2 (.int .i64 0)).set 3 (.int .i64 0)).set 4 (.int .i64 0)).set 5 (.int .i64 0), ?_⟩ ?_
    · repeat (refine Below.setCell ?_ (by first | omega | (simp; done) | (simp; omega)) _)
      exact hB
    rintro wz ⟨oz, bz⟩
    obtain ⟨rz, fz⟩ := oz.rules
    clear oz
    refine bodyPost_ret (v := .tuple #[.agg #[.int .i64 0, .int .i64 0, .int .i64 0, .int .i64 0, .int .i64 0, .int .i64 0], .int .i64 2]) (by simp [results, Try.results14, go_sem, rz]) rfl ⟨by rw [HV.out], ?_⟩
    repeat (refine Below.setCell ?_ (by first | omega | (simp; done) | (simp; omega)) _)
    exact bz
  have e0 : decide (by' < 0) = false := decide_eq_false a0
  by_cases a1 : 1000000 < by'
  case pos =>
    have HV := Lib.hid (wsc_2 (b := by') hv (by omega))
    have e1 : decide (1000000 < by') = true := decide_eq_true a1
    go_enter Try.func14, Try.ntmps14
    have oV := own_first w 27 [.int .i64 i, .int .i64 j, .int .i64 re, .int .i64 im, .int .i64 den, .int .i64 n] (.cells #[.int .i64 0, .int .i64 0, .int .i64 0, .int .i64 0, .int .i64 0, .int .i64 0] 27)
    have oR := own_second w 27 [.int .i64 0, .int .i64 0, .int .i64 0, .int .i64 0, .int .i64 0, .int .i64 0] (.cells #[.int .i64 i, .int .i64 j, .int .i64 re, .int .i64 im, .int .i64 den, .int .i64 n] 27)
    go_wp2_with fail
    refine (rvcheck_of _ _ _ _ _ _ _ _ hv).mono ?_
    rintro e w1 ⟨rfl, hb1⟩
    replace oV := oV.below hb1
    replace oR := oR.below hb1
    have hB := below_to (ba2 _ _ _) hb1
    obtain ⟨rV, fV⟩ := oV.rules
    obtain ⟨rR, fR⟩ := oR.rules
    have zV := oV.lt
    have zR := oR.lt
    go_wp2
    refine bp_gen (fun W => Own W (w.heap.size + 1) 27 [.int .i64 0, .int .i64 0, .int .i64 0, .int .i64 0, .int .i64 0, .int .i64 0] ∧ Below w.heap.size w W) ⟨((((((oR).set 0 (.int .i64 0)).set 1 (.int .i64 0)).set 2 (.int .i64 0)).set 3 (.int .i64 0)).set 4 (.int .i64 0)).set 5 (.int .i64 0), ?_⟩ ?_
    · repeat (refine Below.setCell ?_ (by first | omega | (simp; done) | (simp; omega)) _)
      exact hB
    rintro wz ⟨oz, bz⟩
    obtain ⟨rz, fz⟩ := oz.rules
    clear oz
    refine bodyPost_ret (v := .tuple #[.agg #[.int .i64 0, .int .i64 0, .int .i64 0, .int .i64 0, .int .i64 0, .int .i64 0], .int .i64 2]) (by simp [results, Try.results14, go_sem, rz]) rfl ⟨by rw [HV.out], ?_⟩
    repeat (refine Below.setCell ?_ (by first | omega | (simp; done) | (simp; omega)) _)
    exact bz
  have e1 : decide (1000000 < by') = false := decide_eq_false a1
  obtain ⟨m1, m2⟩ := mul_cnt n1 n2 (show 0 ≤ by' by omega) (show by' ≤ 1000000 by omega)
  by_cases a2 : 1000000 < n * by'
  case pos =>
    have HV := Lib.hid (wsc_16 (b := by') hv (by omega) a2)
    generalize hx : n * by' = x at *
    have hy : by' * n = x := by rw [Int.mul_comm]; exact hx
    have HX := Lib.hid hx
    clear hx
    go_enter Try.func14, Try.ntmps14
    have oV := own_first w 27 [.int .i64 i, .int .i64 j, .int .i64 re, .int .i64 im, .int .i64 den, .int .i64 n] (.cells #[.int .i64 0, .int .i64 0, .int .i64 0, .int .i64 0, .int .i64 0, .int .i64 0] 27)
    have oR := own_second w 27 [.int .i64 0, .int .i64 0, .int .i64 0, .int .i64 0, .int .i64 0, .int .i64 0] (.cells #[.int .i64 i, .int .i64 j, .int .i64 re, .int .i64 im, .int .i64 den, .int .i64 n] 27)
    go_wp2_with fail
    refine (rvcheck_of _ _ _ _ _ _ _ _ hv).mono ?_
    rintro e w1 ⟨rfl, hb1⟩
    replace oV := oV.below hb1
    replace oR := oR.below hb1
    have hB := below_to (ba2 _ _ _) hb1
    obtain ⟨rV, fV⟩ := oV.rules
    obtain ⟨rR, fR⟩ := oR.rules
    have zV := oV.lt
    have zR := oR.lt
    go_wp2
    refine bp_gen (fun W => Own W (w.heap.size + 1) 27 [.int .i64 0, .int .i64 0, .int .i64 0, .int .i64 0, .int .i64 0, .int .i64 0] ∧ Below w.heap.size w W) ⟨((((((oR).set 0 (.int .i64 0)).set 1 (.int .i64 0)).set 2 (.int .i64 0)).set 3 (.int .i64 0)).set 4 (.int .i64 0)).set 5 (.int .i64 0), ?_⟩ ?_
    · repeat (refine Below.setCell ?_ (by first | omega | (simp; done) | (simp; omega)) _)
      exact hB
    rintro wz ⟨oz, bz⟩
    obtain ⟨rz, fz⟩ := oz.rules
    clear oz
    refine bodyPost_ret (v := .tuple #[.agg #[.int .i64 0, .int .i64 0, .int .i64 0, .int .i64 0, .int .i64 0, .int .i64 0], .int .i64 16]) (by simp [results, Try.results14, go_sem, rz]) rfl ⟨by rw [HV.out], ?_⟩
    repeat (refine Below.setCell ?_ (by first | omega | (simp; done) | (simp; omega)) _)
    exact bz
  have HV := Lib.hid (wsc_0 (b := by') hv (by omega) a2)
  generalize hx : n * by' = x at *
  have hy : by' * n = x := by rw [Int.mul_comm]; exact hx
  have HX := Lib.hid hx
  clear hx
  go_enter Try.func14, Try.ntmps14
  have oV := own_first w 27 [.int .i64 i, .int .i64 j, .int .i64 re, .int .i64 im, .int .i64 den, .int .i64 n] (.cells #[.int .i64 0, .int .i64 0, .int .i64 0, .int .i64 0, .int .i64 0, .int .i64 0] 27)
  have oR := own_second w 27 [.int .i64 0, .int .i64 0, .int .i64 0, .int .i64 0, .int .i64 0, .int .i64 0] (.cells #[.int .i64 i, .int .i64 j, .int .i64 re, .int .i64 im, .int .i64 den, .int .i64 n] 27)
  go_wp2_with fail
  refine (rvcheck_of _ _ _ _ _ _ _ _ hv).mono ?_
  rintro e w1 ⟨rfl, hb1⟩
  replace oV := oV.below hb1
  replace oR := oR.below hb1
  have hB := below_to (ba2 _ _ _) hb1
  obtain ⟨rV, fV⟩ := oV.rules
  obtain ⟨rR, fR⟩ := oR.rules
  have zV := oV.lt
  have zR := oR.lt
  go_wp2
  refine bp_gen (fun W => Own W (w.heap.size + 1) 27 [.int .i64 i, .int .i64 j, .int .i64 re, .int .i64 im, .int .i64 den, .int .i64 x] ∧ Below w.heap.size w W) ⟨((((((oR).set 0 (.int .i64 i)).set 1 (.int .i64 j)).set 2 (.int .i64 re)).set 3 (.int .i64 im)).set 4 (.int .i64 den)).set 5 (.int .i64 x), ?_⟩ ?_
  · repeat (refine Below.setCell ?_ (by first | omega | (simp; done) | (simp; omega)) _)
    exact hB
  rintro wz ⟨oz, bz⟩
  obtain ⟨rz, fz⟩ := oz.rules
  clear oz
  refine bodyPost_ret (v := .tuple #[.agg #[.int .i64 i, .int .i64 j, .int .i64 re, .int .i64 im, .int .i64 den, .int .i64 x], .int .i64 0]) (by simp [results, Try.results14, go_sem, rz]) rfl ⟨by rw [HV.out], ?_⟩
  repeat (refine Below.setCell ?_ (by first | omega | (simp; done) | (simp; omega)) _)
  exact bz
end Go.Proofs.Ytapdkmonfoooiaa
