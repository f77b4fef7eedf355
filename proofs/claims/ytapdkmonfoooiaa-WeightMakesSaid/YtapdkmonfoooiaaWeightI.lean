/- What is proved here: the contract of the reference's Make of layer 22. Condition: the numbers are 64-bit integers. -/
import Derived.Test.YtapdkmonfoooiaaWeightH
namespace Go.Proofs.Ytapdkmonfoooiaa
open Go.RowKit

theorem rcheck_of (n d e : Int) (w : World) (h1 : i64 n) (h2 : i64 d) (h : fchk n d = e) :
    Calls Try.prog 30 #[.agg #[.int .i64 n, .int .i64 d]] w fun r w' => r = .returned (.int .i64 e) ∧ Below w.heap.size w w' := by
  subst h; exact rcheck_any n d w h1 h2
theorem wbad_swap (i j n : Int) : wbad j i n = wbad i j n := by
  unfold wbad
  rw [Bool.eq_iff_iff]
  simp only [Bool.or_eq_true, decide_eq_true_eq]
  omega
theorem wval_neg {rn rd m d : Int} (h : wok rn rd m d = true) : wval rn rd (-m) d = ⟨(wval rn rd m d).re, -(wval rn rd m d).im, (wval rn rd m d).den, 0⟩ := by
  rw [wval_1 h, wval_1 (by rw [wden_neg]; exact h), Int.neg_mul]
theorem wmk_swap {i j rn rd m d n : Int} (hb : wbad i j n = false) (h1 : fchk rn rd = 0) (h2 : fchk m d = 0) (hlt : j < i) : wmk j i rn rd (-m) d n = wmk i j rn rd m d n := by
  have hb' : wbad j i n = false := by rw [wbad_swap]; exact hb
  have h2' : fchk (-m) d = 0 := by rw [fchk_neg]; exact h2
  cases hw : wok rn rd m d with
  | false => rw [wmk_16 hb h1 h2 hw, wmk_16 hb' h1 h2' (by rw [wden_neg]; exact hw)]
  | true => rw [wmk_gt hb h1 h2 hw hlt, wmk_le hb' h1 h2' (by rw [wden_neg]; exact hw) (by omega), wval_neg hw]


set_option maxRecDepth 100000 in
set_option maxHeartbeats 16000000 in
theorem rvmake_le (i j rn rd m d n : Int) (w : World) (h1 : i64 rn) (h2 : i64 rd) (h3 : i64 m) (h4 : i64 d) (hle : ¬ j < i) :
    Calls Try.prog 10 #[.int .i64 i, .int .i64 j, .agg #[.int .i64 rn, .int .i64 rd], .agg #[.int .i64 m, .int .i64 d], .int .i64 n] w fun e w' =>
      e = .returned (.tuple #[.agg #[.int .i64 (wmk i j rn rd m d n).i, .int .i64 (wmk i j rn rd m d n).j, .int .i64 (wmk i j rn rd m d n).re, .int .i64 (wmk i j rn rd m d n).im, .int .i64 (wmk i j rn rd m d n).den, .int .i64 (wmk i j rn rd m d n).n], .int .i64 (wmk i j rn rd m d n).e]) ∧ Below w.heap.size w w' := by
  by_cases a0 : i < 0
  case pos =>
    have HV : Hid (wmk i j rn rd m d n = _) := wmk_2 (by unfold wbad; simp [a0])
    have e0 : decide (i < 0) = true := decide_eq_true a0
    go_enter Try.func10, Try.ntmps10
    go_upto_region 1 with fail
    have oA := (own_first w 23 [.int .i64 rn, .int .i64 rd] (.cells #[.int .i64 m, .int .i64 d] 23)).alloc (.cells #[.int .i64 0, .int .i64 0, .int .i64 0, .int .i64 0, .int .i64 0, .int .i64 0] 27)
    have oB := (own_second w 23 [.int .i64 m, .int .i64 d] (.cells #[.int .i64 rn, .int .i64 rd] 23)).alloc (.cells #[.int .i64 0, .int .i64 0, .int .i64 0, .int .i64 0, .int .i64 0, .int .i64 0] 27)
    have oR := own_third w 27 [.int .i64 0, .int .i64 0, .int .i64 0, .int .i64 0, .int .i64 0, .int .i64 0] (.cells #[.int .i64 rn, .int .i64 rd] 23) (.cells #[.int .i64 m, .int .i64 d] 23)
    have hB := ba3 w (.cells #[.int .i64 rn, .int .i64 rd] 23) (.cells #[.int .i64 m, .int .i64 d] 23) (.cells #[.int .i64 0, .int .i64 0, .int .i64 0, .int .i64 0, .int .i64 0, .int .i64 0] 27)
    generalize ((w.alloc (.cells #[.int .i64 rn, .int .i64 rd] 23)).alloc (.cells #[.int .i64 m, .int .i64 d] 23)).alloc (.cells #[.int .i64 0, .int .i64 0, .int .i64 0, .int .i64 0, .int .i64 0, .int .i64 0] 27) = y0 at *
    obtain ⟨rA, fA⟩ := oA.rules
    obtain ⟨rB, fB⟩ := oB.rules
    obtain ⟨rR, fR⟩ := oR.rules
    have zA := oA.lt
    have zB := oB.lt
    have zR := oR.lt
    go_wp2
    refine bp_gen (fun W => Own W (w.heap.size + 1 + 1) 27 [.int .i64 0, .int .i64 0, .int .i64 0, .int .i64 0, .int .i64 0, .int .i64 0] ∧ Below w.heap.size w W) ⟨((((((oR).set 0 (.int .i64 0)).set 1 (.int .i64 0)).set 2 (.int .i64 0)).set 3 (.int .i64 0)).set 4 (.int .i64 0)).set 5 (.int .i64 0), ?_⟩ ?_
    · repeat (refine Below.setCell ?_ (by first | omega | (simp; done) | (simp; omega)) _)
      exact hB
    rintro wz ⟨oz, bz⟩
    obtain ⟨rz, fz⟩ := oz.rules
    clear oz
    refine bodyPost_ret (v := .tuple #[.agg #[.int .i64 0, .int .i64 0, .int .i64 0, .int .i64 0, .int .i64 0, .int .i64 0], .int .i64 2]) (by simp [results, Try.results10, go_sem, rz]) rfl ⟨by rw [HV.out], ?_⟩
    repeat (refine Below.setCell ?_ (by first | omega | (simp; done) | (simp; omega)) _)
    exact bz
  have e0 : decide (i < 0) = false := decide_eq_false a0
  by_cases a1 : j < 0
  case pos =>
    exfalso; omega
  have e1 : decide (j < 0) = false := decide_eq_false a1
  by_cases a2 : 8 ≤ i
  case pos =>
    have HV : Hid (wmk i j rn rd m d n = _) := wmk_2 (by unfold wbad; simp [a2])
    have e2 : decide (8 ≤ i) = true := decide_eq_true a2
    go_enter Try.func10, Try.ntmps10
    go_upto_region 1 with fail
    have oA := (own_first w 23 [.int .i64 rn, .int .i64 rd] (.cells #[.int .i64 m, .int .i64 d] 23)).alloc (.cells #[.int .i64 0, .int .i64 0, .int .i64 0, .int .i64 0, .int .i64 0, .int .i64 0] 27)
    have oB := (own_second w 23 [.int .i64 m, .int .i64 d] (.cells #[.int .i64 rn, .int .i64 rd] 23)).alloc (.cells #[.int .i64 0, .int .i64 0, .int .i64 0, .int .i64 0, .int .i64 0, .int .i64 0] 27)
    have oR := own_third w 27 [.int .i64 0, .int .i64 0, .int .i64 0, .int .i64 0, .int .i64 0, .int .i64 0] (.cells #[.int .i64 rn, .int .i64 rd] 23) (.cells #[.int .i64 m, .int .i64 d] 23)
    have hB := ba3 w (.cells #[.int .i64 rn, .int .i64 rd] 23) (.cells #[.int .i64 m, .int .i64 d] 23) (.cells #[.int .i64 0, .int .i64 0, .int .i64 0, .int .i64 0, .int .i64 0, .int .i64 0] 27)
    generalize ((w.alloc (.cells #[.int .i64 rn, .int .i64 rd] 23)).alloc (.cells #[.int .i64 m, .int .i64 d] 23)).alloc (.cells #[.int .i64 0, .int .i64 0, .int .i64 0, .int .i64 0, .int .i64 0, .int .i64 0] 27) = y0 at *
    obtain ⟨rA, fA⟩ := oA.rules
    obtain ⟨rB, fB⟩ := oB.rules
    obtain ⟨rR, fR⟩ := oR.rules
    have zA := oA.lt
    have zB := oB.lt
    have zR := oR.lt
    go_wp2
    refine bp_gen (fun W => Own W (w.heap.size + 1 + 1) 27 [.int .i64 0, .int .i64 0, .int .i64 0, .int .i64 0, .int .i64 0, .int .i64 0] ∧ Below w.heap.size w W) ⟨((((((oR).set 0 (.int .i64 0)).set 1 (.int .i64 0)).set 2 (.int .i64 0)).set 3 (.int .i64 0)).set 4 (.int .i64 0)).set 5 (.int .i64 0), ?_⟩ ?_
    · repeat (refine Below.setCell ?_ (by first | omega | (simp; done) | (simp; omega)) _)
      exact hB
    rintro wz ⟨oz, bz⟩
    obtain ⟨rz, fz⟩ := oz.rules
    clear oz
    refine bodyPost_ret (v := .tuple #[.agg #[.int .i64 0, .int .i64 0, .int .i64 0, .int .i64 0, .int .i64 0, .int .i64 0], .int .i64 2]) (by simp [results, Try.results10, go_sem, rz]) rfl ⟨by rw [HV.out], ?_⟩
    repeat (refine Below.setCell ?_ (by first | omega | (simp; done) | (simp; omega)) _)
    exact bz
  have e2 : decide (8 ≤ i) = false := decide_eq_false a2
  by_cases a3 : 8 ≤ j
  case pos =>
    have HV : Hid (wmk i j rn rd m d n = _) := wmk_2 (by unfold wbad; simp [a3])
    have e3 : decide (8 ≤ j) = true := decide_eq_true a3
    go_enter Try.func10, Try.ntmps10
    go_upto_region 1 with fail
    have oA := (own_first w 23 [.int .i64 rn, .int .i64 rd] (.cells #[.int .i64 m, .int .i64 d] 23)).alloc (.cells #[.int .i64 0, .int .i64 0, .int .i64 0, .int .i64 0, .int .i64 0, .int .i64 0] 27)
    have oB := (own_second w 23 [.int .i64 m, .int .i64 d] (.cells #[.int .i64 rn, .int .i64 rd] 23)).alloc (.cells #[.int .i64 0, .int .i64 0, .int .i64 0, .int .i64 0, .int .i64 0, .int .i64 0] 27)
    have oR := own_third w 27 [.int .i64 0, .int .i64 0, .int .i64 0, .int .i64 0, .int .i64 0, .int .i64 0] (.cells #[.int .i64 rn, .int .i64 rd] 23) (.cells #[.int .i64 m, .int .i64 d] 23)
    have hB := ba3 w (.cells #[.int .i64 rn, .int .i64 rd] 23) (.cells #[.int .i64 m, .int .i64 d] 23) (.cells #[.int .i64 0, .int .i64 0, .int .i64 0, .int .i64 0, .int .i64 0, .int .i64 0] 27)
    generalize ((w.alloc (.cells #[.int .i64 rn, .int .i64 rd] 23)).alloc (.cells #[.int .i64 m, .int .i64 d] 23)).alloc (.cells #[.int .i64 0, .int .i64 0, .int .i64 0, .int .i64 0, .int .i64 0, .int .i64 0] 27) = y0 at *
    obtain ⟨rA, fA⟩ := oA.rules
    obtain ⟨rB, fB⟩ := oB.rules
    obtain ⟨rR, fR⟩ := oR.rules
    have zA := oA.lt
    have zB := oB.lt
    have zR := oR.lt
    go_wp2
    refine bp_gen (fun W => Own W (w.heap.size + 1 + 1) 27 [.int .i64 0, .int .i64 0, .int .i64 0, .int .i64 0, .int .i64 0, .int .i64 0] ∧ Below w.heap.size w W) ⟨((((((oR).set 0 (.int .i64 0)).set 1 (.int .i64 0)).set 2 (.int .i64 0)).set 3 (.int .i64 0)).set 4 (.int .i64 0)).set 5 (.int .i64 0), ?_⟩ ?_
    · repeat (refine Below.setCell ?_ (by first | omega | (simp; done) | (simp; omega)) _)
      exact hB
    rintro wz ⟨oz, bz⟩
    obtain ⟨rz, fz⟩ := oz.rules
    clear oz
    refine bodyPost_ret (v := .tuple #[.agg #[.int .i64 0, .int .i64 0, .int .i64 0, .int .i64 0, .int .i64 0, .int .i64 0], .int .i64 2]) (by simp [results, Try.results10, go_sem, rz]) rfl ⟨by rw [HV.out], ?_⟩
    repeat (refine Below.setCell ?_ (by first | omega | (simp; done) | (simp; omega)) _)
    exact bz
  have e3 : decide (8 ≤ j) = false := decide_eq_false a3
  by_cases a4 : i = j
  case pos =>
    have HV : Hid (wmk i j rn rd m d n = _) := wmk_2 (by unfold wbad; simp [a4])
    have e4 : (i == j) = true := by simpa using a4
    clear a4
    go_enter Try.func10, Try.ntmps10
    go_upto_region 1 with fail
    have oA := (own_first w 23 [.int .i64 rn, .int .i64 rd] (.cells #[.int .i64 m, .int .i64 d] 23)).alloc (.cells #[.int .i64 0, .int .i64 0, .int .i64 0, .int .i64 0, .int .i64 0, .int .i64 0] 27)
    have oB := (own_second w 23 [.int .i64 m, .int .i64 d] (.cells #[.int .i64 rn, .int .i64 rd] 23)).alloc (.cells #[.int .i64 0, .int .i64 0, .int .i64 0, .int .i64 0, .int .i64 0, .int .i64 0] 27)
    have oR := own_third w 27 [.int .i64 0, .int .i64 0, .int .i64 0, .int .i64 0, .int .i64 0, .int .i64 0] (.cells #[.int .i64 rn, .int .i64 rd] 23) (.cells #[.int .i64 m, .int .i64 d] 23)
    have hB := ba3 w (.cells #[.int .i64 rn, .int .i64 rd] 23) (.cells #[.int .i64 m, .int .i64 d] 23) (.cells #[.int .i64 0, .int .i64 0, .int .i64 0, .int .i64 0, .int .i64 0, .int .i64 0] 27)
    generalize ((w.alloc (.cells #[.int .i64 rn, .int .i64 rd] 23)).alloc (.cells #[.int .i64 m, .int .i64 d] 23)).alloc (.cells #[.int .i64 0, .int .i64 0, .int .i64 0, .int .i64 0, .int .i64 0, .int .i64 0] 27) = y0 at *
    obtain ⟨rA, fA⟩ := oA.rules
    obtain ⟨rB, fB⟩ := oB.rules
    obtain ⟨rR, fR⟩ := oR.rules
    have zA := oA.lt
    have zB := oB.lt
    have zR := oR.lt
    go_wp2
    refine bp_gen (fun W => Own W (w.heap.size + 1 + 1) 27 [.int .i64 0, .int .i64 0, .int .i64 0, .int .i64 0, .int .i64 0, .int .i64 0] ∧ Below w.heap.size w W) ⟨((((((oR).set 0 (.int .i64 0)).set 1 (.int .i64 0)).set 2 (.int .i64 0)).set 3 (.int .i64 0)).set 4 (.int .i64 0)).set 5 (.int .i64 0), ?_⟩ ?_
    · repeat (refine Below.setCell ?_ (by first | omega | (simp; done) | (simp; omega)) _)
      exact hB
    rintro wz ⟨oz, bz⟩
    obtain ⟨rz, fz⟩ := oz.rules
    clear oz
    refine bodyPost_ret (v := .tuple #[.agg #[.int .i64 0, .int .i64 0, .int .i64 0, .int .i64 0, .int .i64 0, .int .i64 0], .int .i64 2]) (by simp [results, Try.results10, go_sem, rz]) rfl ⟨by rw [HV.out], ?_⟩
    repeat (refine Below.setCell ?_ (by first | omega | (simp; done) | (simp; omega)) _)
    exact bz
  have e4 : (i == j) = false := by simpa using a4
  by_cases a5 : n < 0
  case pos =>
    have HV : Hid (wmk i j rn rd m d n = _) := wmk_2 (by unfold wbad; simp [a5])
    have e5 : decide (n < 0) = true := decide_eq_true a5
    go_enter Try.func10, Try.ntmps10
    go_upto_region 1 with fail
    have oA := (own_first w 23 [.int .i64 rn, .int .i64 rd] (.cells #[.int .i64 m, .int .i64 d] 23)).alloc (.cells #[.int .i64 0, .int .i64 0, .int .i64 0, .int .i64 0, .int .i64 0, .int .i64 0] 27)
    have oB := (own_second w 23 [.int .i64 m, .int .i64 d] (.cells #[.int .i64 rn, .int .i64 rd] 23)).alloc (.cells #[.int .i64 0, .int .i64 0, .int .i64 0, .int .i64 0, .int .i64 0, .int .i64 0] 27)
    have oR := own_third w 27 [.int .i64 0, .int .i64 0, .int .i64 0, .int .i64 0, .int .i64 0, .int .i64 0] (.cells #[.int .i64 rn, .int .i64 rd] 23) (.cells #[.int .i64 m, .int .i64 d] 23)
    have hB := ba3 w (.cells #[.int .i64 rn, .int .i64 rd] 23) (.cells #[.int .i64 m, .int .i64 d] 23) (.cells #[.int .i64 0, .int .i64 0, .int .i64 0, .int .i64 0, .int .i64 0, .int .i64 0] 27)
    generalize ((w.alloc (.cells #[.int .i64 rn, .int .i64 rd] 23)).alloc (.cells #[.int .i64 m, .int .i64 d] 23)).alloc (.cells #[.int .i64 0, .int .i64 0, .int .i64 0, .int .i64 0, .int .i64 0, .int .i64 0] 27) = y0 at *
    obtain ⟨rA, fA⟩ := oA.rules
    obtain ⟨rB, fB⟩ := oB.rules
    obtain ⟨rR, fR⟩ := oR.rules
    have zA := oA.lt
    have zB := oB.lt
    have zR := oR.lt
    go_wp2
    refine bp_gen (fun W => Own W (w.heap.size + 1 + 1) 27 [.int .i64 0, .int .i64 0, .int .i64 0, .int .i64 0, .int .i64 0, .int .i64 0] ∧ Below w.heap.size w W) ⟨((((((oR).set 0 (.int .i64 0)).set 1 (.int .i64 0)).set 2 (.int .i64 0)).set 3 (.int .i64 0)).set 4 (.int .i64 0)).set 5 (.int .i64 0), ?_⟩ ?_
    · repeat (refine Below.setCell ?_ (by first | omega | (simp; done) | (simp; omega)) _)
      exact hB
    rintro wz ⟨oz, bz⟩
    obtain ⟨rz, fz⟩ := oz.rules
    clear oz
    refine bodyPost_ret (v := .tuple #[.agg #[.int .i64 0, .int .i64 0, .int .i64 0, .int .i64 0, .int .i64 0, .int .i64 0], .int .i64 2]) (by simp [results, Try.results10, go_sem, rz]) rfl ⟨by rw [HV.out], ?_⟩
    repeat (refine Below.setCell ?_ (by first | omega | (simp; done) | (simp; omega)) _)
    exact bz
  have e5 : decide (n < 0) = false := decide_eq_false a5
  by_cases a6 : 1000000 < n
  case pos =>
    have HV : Hid (wmk i j rn rd m d n = _) := wmk_2 (by unfold wbad; simp [a6])
    have e6 : decide (1000000 < n) = true := decide_eq_true a6
    go_enter Try.func10, Try.ntmps10
    go_upto_region 1 with fail
    have oA := (own_first w 23 [.int .i64 rn, .int .i64 rd] (.cells #[.int .i64 m, .int .i64 d] 23)).alloc (.cells #[.int .i64 0, .int .i64 0, .int .i64 0, .int .i64 0, .int .i64 0, .int .i64 0] 27)
    have oB := (own_second w 23 [.int .i64 m, .int .i64 d] (.cells #[.int .i64 rn, .int .i64 rd] 23)).alloc (.cells #[.int .i64 0, .int .i64 0, .int .i64 0, .int .i64 0, .int .i64 0, .int .i64 0] 27)
    have oR := own_third w 27 [.int .i64 0, .int .i64 0, .int .i64 0, .int .i64 0, .int .i64 0, .int .i64 0] (.cells #[.int .i64 rn, .int .i64 rd] 23) (.cells #[.int .i64 m, .int .i64 d] 23)
    have hB := ba3 w (.cells #[.int .i64 rn, .int .i64 rd] 23) (.cells #[.int .i64 m, .int .i64 d] 23) (.cells #[.int .i64 0, .int .i64 0, .int .i64 0, .int .i64 0, .int .i64 0, .int .i64 0] 27)
    generalize ((w.alloc (.cells #[.int .i64 rn, .int .i64 rd] 23)).alloc (.cells #[.int .i64 m, .int .i64 d] 23)).alloc (.cells #[.int .i64 0, .int .i64 0, .int .i64 0, .int .i64 0, .int .i64 0, .int .i64 0] 27) = y0 at *
    obtain ⟨rA, fA⟩ := oA.rules
    obtain ⟨rB, fB⟩ := oB.rules
    obtain ⟨rR, fR⟩ := oR.rules
    have zA := oA.lt
    have zB := oB.lt
    have zR := oR.lt
    go_wp2
    refine bp_gen (fun W => Own W (w.heap.size + 1 + 1) 27 [.int .i64 0, .int .i64 0, .int .i64 0, .int .i64 0, .int .i64 0, .int .i64 0] ∧ Below w.heap.size w W) ⟨((((((oR).set 0 (.int .i64 0)).set 1 (.int .i64 0)).set 2 (.int .i64 0)).set 3 (.int .i64 0)).set 4 (.int .i64 0)).set 5 (.int .i64 0), ?_⟩ ?_
    · repeat (refine Below.setCell ?_ (by first | omega | (simp; done) | (simp; omega)) _)
      exact hB
    rintro wz ⟨oz, bz⟩
    obtain ⟨rz, fz⟩ := oz.rules
    clear oz
    refine bodyPost_ret (v := .tuple #[.agg #[.int .i64 0, .int .i64 0, .int .i64 0, .int .i64 0, .int .i64 0, .int .i64 0], .int .i64 2]) (by simp [results, Try.results10, go_sem, rz]) rfl ⟨by rw [HV.out], ?_⟩
    repeat (refine Below.setCell ?_ (by first | omega | (simp; done) | (simp; omega)) _)
    exact bz
  have e6 : decide (1000000 < n) = false := decide_eq_false a6
  have hb : wbad i j n = false := by unfold wbad; simp; omega
  rcases fchk_cases rn rd with g1 | g1
  case inr =>
    have HV : Hid (wmk i j rn rd m d n = _) := wmk_8 hb (by rw [g1]; simp)
    go_enter Try.func10, Try.ntmps10
    go_upto_region 1 with fail
    have oA := (own_first w 23 [.int .i64 rn, .int .i64 rd] (.cells #[.int .i64 m, .int .i64 d] 23)).alloc (.cells #[.int .i64 0, .int .i64 0, .int .i64 0, .int .i64 0, .int .i64 0, .int .i64 0] 27)
    have oB := (own_second w 23 [.int .i64 m, .int .i64 d] (.cells #[.int .i64 rn, .int .i64 rd] 23)).alloc (.cells #[.int .i64 0, .int .i64 0, .int .i64 0, .int .i64 0, .int .i64 0, .int .i64 0] 27)
    have oR := own_third w 27 [.int .i64 0, .int .i64 0, .int .i64 0, .int .i64 0, .int .i64 0, .int .i64 0] (.cells #[.int .i64 rn, .int .i64 rd] 23) (.cells #[.int .i64 m, .int .i64 d] 23)
    have hB := ba3 w (.cells #[.int .i64 rn, .int .i64 rd] 23) (.cells #[.int .i64 m, .int .i64 d] 23) (.cells #[.int .i64 0, .int .i64 0, .int .i64 0, .int .i64 0, .int .i64 0, .int .i64 0] 27)
    generalize ((w.alloc (.cells #[.int .i64 rn, .int .i64 rd] 23)).alloc (.cells #[.int .i64 m, .int .i64 d] 23)).alloc (.cells #[.int .i64 0, .int .i64 0, .int .i64 0, .int .i64 0, .int .i64 0, .int .i64 0] 27) = y0 at *
    obtain ⟨rA, fA⟩ := oA.rules
    have zA := oA.lt
    go_wp2_with fail
    refine (rcheck_of _ _ _ _ h1 h2 g1).mono ?_
    rintro e v1 ⟨rfl, hq⟩
    clear rA fA zA
    replace oA := oA.below hq
    replace oB := oB.below hq
    replace oR := oR.below hq
    replace hB := below_to hB hq
    clear hq
    obtain ⟨rA, fA⟩ := oA.rules
    obtain ⟨rB, fB⟩ := oB.rules
    obtain ⟨rR, fR⟩ := oR.rules
    have zA := oA.lt
    have zB := oB.lt
    have zR := oR.lt
    go_wp2
    refine bp_gen (fun W => Own W (w.heap.size + 1 + 1) 27 [.int .i64 0, .int .i64 0, .int .i64 0, .int .i64 0, .int .i64 0, .int .i64 0] ∧ Below w.heap.size w W) ⟨((((((oR).set 0 (.int .i64 0)).set 1 (.int .i64 0)).set 2 (.int .i64 0)).set 3 (.int .i64 0)).set 4 (.int .i64 0)).set 5 (.int .i64 0), ?_⟩ ?_
    · repeat (refine Below.setCell ?_ (by first | omega | (simp; done) | (simp; omega)) _)
      exact hB
    rintro wz ⟨oz, bz⟩
    obtain ⟨rz, fz⟩ := oz.rules
    clear oz
    refine bodyPost_ret (v := .tuple #[.agg #[.int .i64 0, .int .i64 0, .int .i64 0, .int .i64 0, .int .i64 0, .int .i64 0], .int .i64 8]) (by simp [results, Try.results10, go_sem, rz]) rfl ⟨by rw [HV.out], ?_⟩
    repeat (refine Below.setCell ?_ (by first | omega | (simp; done) | (simp; omega)) _)
    exact bz
  rcases fchk_cases m d with g2 | g2
  case inr =>
    have HV : Hid (wmk i j rn rd m d n = _) := wmk_8 hb (by rw [g2]; simp)
    go_enter Try.func10, Try.ntmps10
    go_upto_region 1 with fail
    have oA := (own_first w 23 [.int .i64 rn, .int .i64 rd] (.cells #[.int .i64 m, .int .i64 d] 23)).alloc (.cells #[.int .i64 0, .int .i64 0, .int .i64 0, .int .i64 0, .int .i64 0, .int .i64 0] 27)
    have oB := (own_second w 23 [.int .i64 m, .int .i64 d] (.cells #[.int .i64 rn, .int .i64 rd] 23)).alloc (.cells #[.int .i64 0, .int .i64 0, .int .i64 0, .int .i64 0, .int .i64 0, .int .i64 0] 27)
    have oR := own_third w 27 [.int .i64 0, .int .i64 0, .int .i64 0, .int .i64 0, .int .i64 0, .int .i64 0] (.cells #[.int .i64 rn, .int .i64 rd] 23) (.cells #[.int .i64 m, .int .i64 d] 23)
    have hB := ba3 w (.cells #[.int .i64 rn, .int .i64 rd] 23) (.cells #[.int .i64 m, .int .i64 d] 23) (.cells #[.int .i64 0, .int .i64 0, .int .i64 0, .int .i64 0, .int .i64 0, .int .i64 0] 27)
    generalize ((w.alloc (.cells #[.int .i64 rn, .int .i64 rd] 23)).alloc (.cells #[.int .i64 m, .int .i64 d] 23)).alloc (.cells #[.int .i64 0, .int .i64 0, .int .i64 0, .int .i64 0, .int .i64 0, .int .i64 0] 27) = y0 at *
    obtain ⟨rA, fA⟩ := oA.rules
    have zA := oA.lt
    go_wp2_with fail
    refine (rcheck_of _ _ _ _ h1 h2 g1).mono ?_
    rintro e v1 ⟨rfl, hq⟩
    clear rA fA zA
    replace oA := oA.below hq
    replace oB := oB.below hq
    replace oR := oR.below hq
    replace hB := below_to hB hq
    clear hq
    obtain ⟨rB, fB⟩ := oB.rules
    have zB := oB.lt
    go_wp2_with fail
    refine (rcheck_of _ _ _ _ h3 h4 g2).mono ?_
    rintro e v2 ⟨rfl, hq⟩
    clear rB fB zB
    replace oA := oA.below hq
    replace oB := oB.below hq
    replace oR := oR.below hq
    replace hB := below_to hB hq
    clear hq
    obtain ⟨rA, fA⟩ := oA.rules
    obtain ⟨rB, fB⟩ := oB.rules
    obtain ⟨rR, fR⟩ := oR.rules
    have zA := oA.lt
    have zB := oB.lt
    have zR := oR.lt
    go_wp2
    refine bp_gen (fun W => Own W (w.heap.size + 1 + 1) 27 [.int .i64 0, .int .i64 0, .int .i64 0, .int .i64 0, .int .i64 0, .int .i64 0] ∧ Below w.heap.size w W) ⟨((((((oR).set 0 (.int .i64 0)).set 1 (.int .i64 0)).set 2 (.int .i64 0)).set 3 (.int .i64 0)).set 4 (.int .i64 0)).set 5 (.int .i64 0), ?_⟩ ?_
    · repeat (refine Below.setCell ?_ (by first | omega | (simp; done) | (simp; omega)) _)
      exact hB
    rintro wz ⟨oz, bz⟩
    obtain ⟨rz, fz⟩ := oz.rules
    clear oz
    refine bodyPost_ret (v := .tuple #[.agg #[.int .i64 0, .int .i64 0, .int .i64 0, .int .i64 0, .int .i64 0, .int .i64 0], .int .i64 8]) (by simp [results, Try.results10, go_sem, rz]) rfl ⟨by rw [HV.out], ?_⟩
    repeat (refine Below.setCell ?_ (by first | omega | (simp; done) | (simp; omega)) _)
    exact bz
  have e8 : decide (j < i) = false := decide_eq_false hle
  cases hw : wok rn rd m d with
  | false =>
    have HV : Hid (wmk i j rn rd m d n = _) := wmk_16 hb g1 g2 hw
    have HW := Lib.hid (wval_0 hw)
    clear hw
    go_enter Try.func10, Try.ntmps10
    go_upto_region 1 with fail
    have oA := (own_first w 23 [.int .i64 rn, .int .i64 rd] (.cells #[.int .i64 m, .int .i64 d] 23)).alloc (.cells #[.int .i64 0, .int .i64 0, .int .i64 0, .int .i64 0, .int .i64 0, .int .i64 0] 27)
    have oB := (own_second w 23 [.int .i64 m, .int .i64 d] (.cells #[.int .i64 rn, .int .i64 rd] 23)).alloc (.cells #[.int .i64 0, .int .i64 0, .int .i64 0, .int .i64 0, .int .i64 0, .int .i64 0] 27)
    have oR := own_third w 27 [.int .i64 0, .int .i64 0, .int .i64 0, .int .i64 0, .int .i64 0, .int .i64 0] (.cells #[.int .i64 rn, .int .i64 rd] 23) (.cells #[.int .i64 m, .int .i64 d] 23)
    have hB := ba3 w (.cells #[.int .i64 rn, .int .i64 rd] 23) (.cells #[.int .i64 m, .int .i64 d] 23) (.cells #[.int .i64 0, .int .i64 0, .int .i64 0, .int .i64 0, .int .i64 0, .int .i64 0] 27)
    generalize ((w.alloc (.cells #[.int .i64 rn, .int .i64 rd] 23)).alloc (.cells #[.int .i64 m, .int .i64 d] 23)).alloc (.cells #[.int .i64 0, .int .i64 0, .int .i64 0, .int .i64 0, .int .i64 0, .int .i64 0] 27) = y0 at *
    obtain ⟨rA, fA⟩ := oA.rules
    have zA := oA.lt
    go_wp2_with fail
    refine (rcheck_of _ _ _ _ h1 h2 g1).mono ?_
    rintro e v1 ⟨rfl, hq⟩
    clear rA fA zA
    replace oA := oA.below hq
    replace oB := oB.below hq
    replace oR := oR.below hq
    replace hB := below_to hB hq
    clear hq
    obtain ⟨rB, fB⟩ := oB.rules
    have zB := oB.lt
    go_wp2_with fail
    refine (rcheck_of _ _ _ _ h3 h4 g2).mono ?_
    rintro e v2 ⟨rfl, hq⟩
    clear rB fB zB
    replace oA := oA.below hq
    replace oB := oB.below hq
    replace oR := oR.below hq
    replace hB := below_to hB hq
    clear hq
    obtain ⟨rA, fA⟩ := oA.rules
    obtain ⟨rB, fB⟩ := oB.rules
    have zA := oA.lt
    have zB := oB.lt
    go_wp2_with fail
    refine (rvalue_any _ _ _ _ _ g1 g2).mono ?_
    rintro e v3 ⟨rfl, hq⟩
    rw [HW.out]
    clear rA fA zA rB fB zB
    replace oA := oA.below hq
    replace oB := oB.below hq
    replace oR := oR.below hq
    replace hB := below_to hB hq
    clear hq
    go_upto_region 8 with fail
    replace oA := oA.alloc (.cells #[.int .i64 0, .int .i64 0, .int .i64 0] 25)
    replace oB := oB.alloc (.cells #[.int .i64 0, .int .i64 0, .int .i64 0] 25)
    replace oR := oR.alloc (.cells #[.int .i64 0, .int .i64 0, .int .i64 0] 25)
    replace hB := below_to hB (ba1 v3 (.cells #[.int .i64 0, .int .i64 0, .int .i64 0] 25))
    have oV := Own.new v3 25 [.int .i64 0, .int .i64 0, .int .i64 0]
    generalize hbk : v3.heap.size = kV at oV ⊢
    clear hbk
    generalize v3.alloc (.cells #[.int .i64 0, .int .i64 0, .int .i64 0] 25) = y3 at *
    obtain ⟨rV, fV⟩ := oV.rules
    obtain ⟨rR, fR⟩ := oR.rules
    have zV := oV.lt
    have zR := oR.lt
    go_wp2
    refine bp_gen (fun W => Own W (w.heap.size + 1 + 1) 27 [.int .i64 0, .int .i64 0, .int .i64 0, .int .i64 0, .int .i64 0, .int .i64 0] ∧ Below w.heap.size w W) ⟨((((((oR).set 0 (.int .i64 0)).set 1 (.int .i64 0)).set 2 (.int .i64 0)).set 3 (.int .i64 0)).set 4 (.int .i64 0)).set 5 (.int .i64 0), ?_⟩ ?_
    · repeat (refine Below.setCell ?_ (by first | omega | (simp; done) | (simp; omega)) _)
      exact hB
    rintro wz ⟨oz, bz⟩
    obtain ⟨rz, fz⟩ := oz.rules
    clear oz
    refine bodyPost_ret (v := .tuple #[.agg #[.int .i64 0, .int .i64 0, .int .i64 0, .int .i64 0, .int .i64 0, .int .i64 0], .int .i64 16]) (by simp [results, Try.results10, go_sem, rz]) rfl ⟨by rw [HV.out], ?_⟩
    repeat (refine Below.setCell ?_ (by first | omega | (simp; done) | (simp; omega)) _)
    exact bz
  | true =>
    have HV : Hid (wmk i j rn rd m d n = _) := wmk_le hb g1 g2 hw hle
    have HE : Hid ((wval rn rd m d).e = 0) := by show _ = _; rw [wval_1 hw]
    clear hw
    go_enter Try.func10, Try.ntmps10
    go_upto_region 1 with fail
    have oA := (own_first w 23 [.int .i64 rn, .int .i64 rd] (.cells #[.int .i64 m, .int .i64 d] 23)).alloc (.cells #[.int .i64 0, .int .i64 0, .int .i64 0, .int .i64 0, .int .i64 0, .int .i64 0] 27)
    have oB := (own_second w 23 [.int .i64 m, .int .i64 d] (.cells #[.int .i64 rn, .int .i64 rd] 23)).alloc (.cells #[.int .i64 0, .int .i64 0, .int .i64 0, .int .i64 0, .int .i64 0, .int .i64 0] 27)
    have oR := own_third w 27 [.int .i64 0, .int .i64 0, .int .i64 0, .int .i64 0, .int .i64 0, .int .i64 0] (.cells #[.int .i64 rn, .int .i64 rd] 23) (.cells #[.int .i64 m, .int .i64 d] 23)
    have hB := ba3 w (.cells #[.int .i64 rn, .int .i64 rd] 23) (.cells #[.int .i64 m, .int .i64 d] 23) (.cells #[.int .i64 0, .int .i64 0, .int .i64 0, .int .i64 0, .int .i64 0, .int .i64 0] 27)
    generalize ((w.alloc (.cells #[.int .i64 rn, .int .i64 rd] 23)).alloc (.cells #[.int .i64 m, .int .i64 d] 23)).alloc (.cells #[.int .i64 0, .int .i64 0, .int .i64 0, .int .i64 0, .int .i64 0, .int .i64 0] 27) = y0 at *
    obtain ⟨rA, fA⟩ := oA.rules
    have zA := oA.lt
    go_wp2_with fail
    refine (rcheck_of _ _ _ _ h1 h2 g1).mono ?_
    rintro e v1 ⟨rfl, hq⟩
    clear rA fA zA
    replace oA := oA.below hq
    replace oB := oB.below hq
    replace oR := oR.below hq
    replace hB := below_to hB hq
    clear hq
    obtain ⟨rB, fB⟩ := oB.rules
    have zB := oB.lt
    go_wp2_with fail
    refine (rcheck_of _ _ _ _ h3 h4 g2).mono ?_
    rintro e v2 ⟨rfl, hq⟩
    clear rB fB zB
    replace oA := oA.below hq
    replace oB := oB.below hq
    replace oR := oR.below hq
    replace hB := below_to hB hq
    clear hq
    obtain ⟨rA, fA⟩ := oA.rules
    obtain ⟨rB, fB⟩ := oB.rules
    have zA := oA.lt
    have zB := oB.lt
    go_wp2_with fail
    refine (rvalue_any _ _ _ _ _ g1 g2).mono ?_
    rintro e v3 ⟨rfl, hq⟩
    rw [HE.out]
    generalize hre : (wval rn rd m d).re = vr at *
    generalize him : (wval rn rd m d).im = vi at *
    generalize hde : (wval rn rd m d).den = vd at *
    clear hre him hde HE
    clear rA fA zA rB fB zB
    replace oA := oA.below hq
    replace oB := oB.below hq
    replace oR := oR.below hq
    replace hB := below_to hB hq
    clear hq
    go_upto_region 8 with fail
    replace oA := oA.alloc (.cells #[.int .i64 vr, .int .i64 vi, .int .i64 vd] 25)
    replace oB := oB.alloc (.cells #[.int .i64 vr, .int .i64 vi, .int .i64 vd] 25)
    replace oR := oR.alloc (.cells #[.int .i64 vr, .int .i64 vi, .int .i64 vd] 25)
    replace hB := below_to hB (ba1 v3 (.cells #[.int .i64 vr, .int .i64 vi, .int .i64 vd] 25))
    have oV := Own.new v3 25 [.int .i64 vr, .int .i64 vi, .int .i64 vd]
    generalize hbk : v3.heap.size = kV at oV ⊢
    clear hbk
    generalize v3.alloc (.cells #[.int .i64 vr, .int .i64 vi, .int .i64 vd] 25) = y3 at *
    obtain ⟨rV, fV⟩ := oV.rules
    obtain ⟨rR, fR⟩ := oR.rules
    have zV := oV.lt
    have zR := oR.lt
    go_wp2
    refine bp_gen (fun W => Own W (w.heap.size + 1 + 1) 27 [.int .i64 i, .int .i64 j, .int .i64 vr, .int .i64 vi, .int .i64 vd, .int .i64 n] ∧ Below w.heap.size w W) ⟨((((((oR).set 0 (.int .i64 i)).set 1 (.int .i64 j)).set 2 (.int .i64 vr)).set 3 (.int .i64 vi)).set 4 (.int .i64 vd)).set 5 (.int .i64 n), ?_⟩ ?_
    · repeat (refine Below.setCell ?_ (by first | omega | (simp; done) | (simp; omega)) _)
      exact hB
    rintro wz ⟨oz, bz⟩
    obtain ⟨rz, fz⟩ := oz.rules
    clear oz
    refine bodyPost_ret (v := .tuple #[.agg #[.int .i64 i, .int .i64 j, .int .i64 vr, .int .i64 vi, .int .i64 vd, .int .i64 n], .int .i64 0]) (by simp [results, Try.results10, go_sem, rz]) rfl ⟨by rw [HV.out], ?_⟩
    repeat (refine Below.setCell ?_ (by first | omega | (simp; done) | (simp; omega)) _)
    exact bz

set_option maxRecDepth 100000 in
set_option maxHeartbeats 16000000 in
theorem rvmake_any (i j rn rd m d n : Int) (w : World) (h1 : i64 rn) (h2 : i64 rd) (h3 : i64 m) (h4 : i64 d) :
    Calls Try.prog 10 #[.int .i64 i, .int .i64 j, .agg #[.int .i64 rn, .int .i64 rd], .agg #[.int .i64 m, .int .i64 d], .int .i64 n] w fun e w' =>
      e = .returned (.tuple #[.agg #[.int .i64 (wmk i j rn rd m d n).i, .int .i64 (wmk i j rn rd m d n).j, .int .i64 (wmk i j rn rd m d n).re, .int .i64 (wmk i j rn rd m d n).im, .int .i64 (wmk i j rn rd m d n).den, .int .i64 (wmk i j rn rd m d n).n], .int .i64 (wmk i j rn rd m d n).e]) ∧ Below w.heap.size w w' := by
  by_cases a0 : i < 0
  case pos =>
    have HV : Hid (wmk i j rn rd m d n = _) := wmk_2 (by unfold wbad; simp [a0])
    have e0 : decide (i < 0) = true := decide_eq_true a0
    go_enter Try.func10, Try.ntmps10
    go_upto_region 1 with fail
    have oA := (own_first w 23 [.int .i64 rn, .int .i64 rd] (.cells #[.int .i64 m, .int .i64 d] 23)).alloc (.cells #[.int .i64 0, .int .i64 0, .int .i64 0, .int .i64 0, .int .i64 0, .int .i64 0] 27)
    have oB := (own_second w 23 [.int .i64 m, .int .i64 d] (.cells #[.int .i64 rn, .int .i64 rd] 23)).alloc (.cells #[.int .i64 0, .int .i64 0, .int .i64 0, .int .i64 0, .int .i64 0, .int .i64 0] 27)
    have oR := own_third w 27 [.int .i64 0, .int .i64 0, .int .i64 0, .int .i64 0, .int .i64 0, .int .i64 0] (.cells #[.int .i64 rn, .int .i64 rd] 23) (.cells #[.int .i64 m, .int .i64 d] 23)
    have hB := ba3 w (.cells #[.int .i64 rn, .int .i64 rd] 23) (.cells #[.int .i64 m, .int .i64 d] 23) (.cells #[.int .i64 0, .int .i64 0, .int .i64 0, .int .i64 0, .int .i64 0, .int .i64 0] 27)
    generalize ((w.alloc (.cells #[.int .i64 rn, .int .i64 rd] 23)).alloc (.cells #[.int .i64 m, .int .i64 d] 23)).alloc (.cells #[.int .i64 0, .int .i64 0, .int .i64 0, .int .i64 0, .int .i64 0, .int .i64 0] 27) = y0 at *
    obtain ⟨rA, fA⟩ := oA.rules
    obtain ⟨rB, fB⟩ := oB.rules
    obtain ⟨rR, fR⟩ := oR.rules
    have zA := oA.lt
    have zB := oB.lt
    have zR := oR.lt
    go_wp2
    refine bp_gen (fun W => Own W (w.heap.size + 1 + 1) 27 [.int .i64 0, .int .i64 0, .int .i64 0, .int .i64 0, .int .i64 0, .int .i64 0] ∧ Below w.heap.size w W) ⟨((((((oR).set 0 (.int .i64 0)).set 1 (.int .i64 0)).set 2 (.int .i64 0)).set 3 (.int .i64 0)).set 4 (.int .i64 0)).set 5 (.int .i64 0), ?_⟩ ?_
    · repeat (refine Below.setCell ?_ (by first | omega | (simp; done) | (simp; omega)) _)
      exact hB
    rintro wz ⟨oz, bz⟩
    obtain ⟨rz, fz⟩ := oz.rules
    clear oz
    refine bodyPost_ret (v := .tuple #[.agg #[.int .i64 0, .int .i64 0, .int .i64 0, .int .i64 0, .int .i64 0, .int .i64 0], .int .i64 2]) (by simp [results, Try.results10, go_sem, rz]) rfl ⟨by rw [HV.out], ?_⟩
    repeat (refine Below.setCell ?_ (by first | omega | (simp; done) | (simp; omega)) _)
    exact bz
  have e0 : decide (i < 0) = false := decide_eq_false a0
  by_cases a1 : j < 0
  case pos =>
    have HV : Hid (wmk i j rn rd m d n = _) := wmk_2 (by unfold wbad; simp [a1])
    have e1 : decide (j < 0) = true := decide_eq_true a1
    go_enter Try.func10, Try.ntmps10
    go_upto_region 1 with fail
    have oA := (own_first w 23 [.int .i64 rn, .int .i64 rd] (.cells #[.int .i64 m, .int .i64 d] 23)).alloc (.cells #[.int .i64 0, .int .i64 0, .int .i64 0, .int .i64 0, .int .i64 0, .int .i64 0] 27)
    have oB := (own_second w 23 [.int .i64 m, .int .i64 d] (.cells #[.int .i64 rn, .int .i64 rd] 23)).alloc (.cells #[.int .i64 0, .int .i64 0, .int .i64 0, .int .i64 0, .int .i64 0, .int .i64 0] 27)
    have oR := own_third w 27 [.int .i64 0, .int .i64 0, .int .i64 0, .int .i64 0, .int .i64 0, .int .i64 0] (.cells #[.int .i64 rn, .int .i64 rd] 23) (.cells #[.int .i64 m, .int .i64 d] 23)
    have hB := ba3 w (.cells #[.int .i64 rn, .int .i64 rd] 23) (.cells #[.int .i64 m, .int .i64 d] 23) (.cells #[.int .i64 0, .int .i64 0, .int .i64 0, .int .i64 0, .int .i64 0, .int .i64 0] 27)
    generalize ((w.alloc (.cells #[.int .i64 rn, .int .i64 rd] 23)).alloc (.cells #[.int .i64 m, .int .i64 d] 23)).alloc (.cells #[.int .i64 0, .int .i64 0, .int .i64 0, .int .i64 0, .int .i64 0, .int .i64 0] 27) = y0 at *
    obtain ⟨rA, fA⟩ := oA.rules
    obtain ⟨rB, fB⟩ := oB.rules
    obtain ⟨rR, fR⟩ := oR.rules
    have zA := oA.lt
    have zB := oB.lt
    have zR := oR.lt
    go_wp2
    refine bp_gen (fun W => Own W (w.heap.size + 1 + 1) 27 [.int .i64 0, .int .i64 0, .int .i64 0, .int .i64 0, .int .i64 0, .int .i64 0] ∧ Below w.heap.size w W) ⟨((((((oR).set 0 (.int .i64 0)).set 1 (.int .i64 0)).set 2 (.int .i64 0)).set 3 (.int .i64 0)).set 4 (.int .i64 0)).set 5 (.int .i64 0), ?_⟩ ?_
    · repeat (refine Below.setCell ?_ (by first | omega | (simp; done) | (simp; omega)) _)
      exact hB
    rintro wz ⟨oz, bz⟩
    obtain ⟨rz, fz⟩ := oz.rules
    clear oz
    refine bodyPost_ret (v := .tuple #[.agg #[.int .i64 0, .int .i64 0, .int .i64 0, .int .i64 0, .int .i64 0, .int .i64 0], .int .i64 2]) (by simp [results, Try.results10, go_sem, rz]) rfl ⟨by rw [HV.out], ?_⟩
    repeat (refine Below.setCell ?_ (by first | omega | (simp; done) | (simp; omega)) _)
    exact bz
  have e1 : decide (j < 0) = false := decide_eq_false a1
  by_cases a2 : 8 ≤ i
  case pos =>
    have HV : Hid (wmk i j rn rd m d n = _) := wmk_2 (by unfold wbad; simp [a2])
    have e2 : decide (8 ≤ i) = true := decide_eq_true a2
    go_enter Try.func10, Try.ntmps10
    go_upto_region 1 with fail
    have oA := (own_first w 23 [.int .i64 rn, .int .i64 rd] (.cells #[.int .i64 m, .int .i64 d] 23)).alloc (.cells #[.int .i64 0, .int .i64 0, .int .i64 0, .int .i64 0, .int .i64 0, .int .i64 0] 27)
    have oB := (own_second w 23 [.int .i64 m, .int .i64 d] (.cells #[.int .i64 rn, .int .i64 rd] 23)).alloc (.cells #[.int .i64 0, .int .i64 0, .int .i64 0, .int .i64 0, .int .i64 0, .int .i64 0] 27)
    have oR := own_third w 27 [.int .i64 0, .int .i64 0, .int .i64 0, .int .i64 0, .int .i64 0, .int .i64 0] (.cells #[.int .i64 rn, .int .i64 rd] 23) (.cells #[.int .i64 m, .int .i64 d] 23)
    have hB := ba3 w (.cells #[.int .i64 rn, .int .i64 rd] 23) (.cells #[.int .i64 m, .int .i64 d] 23) (.cells #[.int .i64 0, .int .i64 0, .int .i64 0, .int .i64 0, .int .i64 0, .int .i64 0] 27)
    generalize ((w.alloc (.cells #[.int .i64 rn, .int .i64 rd] 23)).alloc (.cells #[.int .i64 m, .int .i64 d] 23)).alloc (.cells #[.int .i64 0, .int .i64 0, .int .i64 0, .int .i64 0, .int .i64 0, .int .i64 0] 27) = y0 at *
    obtain ⟨rA, fA⟩ := oA.rules
    obtain ⟨rB, fB⟩ := oB.rules
    obtain ⟨rR, fR⟩ := oR.rules
    have zA := oA.lt
    have zB := oB.lt
    have zR := oR.lt
    go_wp2
    refine bp_gen (fun W => Own W (w.heap.size + 1 + 1) 27 [.int .i64 0, .int .i64 0, .int .i64 0, .int .i64 0, .int .i64 0, .int .i64 0] ∧ Below w.heap.size w W) ⟨((((((oR).set 0 (.int .i64 0)).set 1 (.int .i64 0)).set 2 (.int .i64 0)).set 3 (.int .i64 0)).set 4 (.int .i64 0)).set 5 (.int .i64 0), ?_⟩ ?_
    · repeat (refine Below.setCell ?_ (by first | omega | (simp; done) | (simp; omega)) _)
      exact hB
    rintro wz ⟨oz, bz⟩
    obtain ⟨rz, fz⟩ := oz.rules
    clear oz
    refine bodyPost_ret (v := .tuple #[.agg #[.int .i64 0, .int .i64 0, .int .i64 0, .int .i64 0, .int .i64 0, .int .i64 0], .int .i64 2]) (by simp [results, Try.results10, go_sem, rz]) rfl ⟨by rw [HV.out], ?_⟩
    repeat (refine Below.setCell ?_ (by first | omega | (simp; done) | (simp; omega)) _)
    exact bz
  have e2 : decide (8 ≤ i) = false := decide_eq_false a2
  by_cases a3 : 8 ≤ j
  case pos =>
    have HV : Hid (wmk i j rn rd m d n = _) := wmk_2 (by unfold wbad; simp [a3])
    have e3 : decide (8 ≤ j) = true := decide_eq_true a3
    go_enter Try.func10, Try.ntmps10
    go_upto_region 1 with fail
    have oA := (own_first w 23 [.int .i64 rn, .int .i64 rd] (.cells #[.int .i64 m, .int .i64 d] 23)).alloc (.cells #[.int .i64 0, .int .i64 0, .int .i64 0, .int .i64 0, .int .i64 0, .int .i64 0] 27)
    have oB := (own_second w 23 [.int .i64 m, .int .i64 d] (.cells #[.int .i64 rn, .int .i64 rd] 23)).alloc (.cells #[.int .i64 0, .int .i64 0, .int .i64 0, .int .i64 0, .int .i64 0, .int .i64 0] 27)
    have oR := own_third w 27 [.int .i64 0, .int .i64 0, .int .i64 0, .int .i64 0, .int .i64 0, .int .i64 0] (.cells #[.int .i64 rn, .int .i64 rd] 23) (.cells #[.int .i64 m, .int .i64 d] 23)
    have hB := ba3 w (.cells #[.int .i64 rn, .int .i64 rd] 23) (.cells #[.int .i64 m, .int .i64 d] 23) (.cells #[.int .i64 0, .int .i64 0, .int .i64 0, .int .i64 0, .int .i64 0, .int .i64 0] 27)
    generalize ((w.alloc (.cells #[.int .i64 rn, .int .i64 rd] 23)).alloc (.cells #[.int .i64 m, .int .i64 d] 23)).alloc (.cells #[.int .i64 0, .int .i64 0, .int .i64 0, .int .i64 0, .int .i64 0, .int .i64 0] 27) = y0 at *
    obtain ⟨rA, fA⟩ := oA.rules
    obtain ⟨rB, fB⟩ := oB.rules
    obtain ⟨rR, fR⟩ := oR.rules
    have zA := oA.lt
    have zB := oB.lt
    have zR := oR.lt
    go_wp2
    refine bp_gen (fun W => Own W (w.heap.size + 1 + 1) 27 [.int .i64 0, .int .i64 0, .int .i64 0, .int .i64 0, .int .i64 0, .int .i64 0] ∧ Below w.heap.size w W) ⟨((((((oR).set 0 (.int .i64 0)).set 1 (.int .i64 0)).set 2 (.int .i64 0)).set 3 (.int .i64 0)).set 4 (.int .i64 0)).set 5 (.int .i64 0), ?_⟩ ?_
    · repeat (refine Below.setCell ?_ (by first | omega | (simp; done) | (simp; omega)) _)
      exact hB
    rintro wz ⟨oz, bz⟩
    obtain ⟨rz, fz⟩ := oz.rules
    clear oz
    refine bodyPost_ret (v := .tuple #[.agg #[.int .i64 0, .int .i64 0, .int .i64 0, .int .i64 0, .int .i64 0, .int .i64 0], .int .i64 2]) (by simp [results, Try.results10, go_sem, rz]) rfl ⟨by rw [HV.out], ?_⟩
    repeat (refine Below.setCell ?_ (by first | omega | (simp; done) | (simp; omega)) _)
    exact bz
  have e3 : decide (8 ≤ j) = false := decide_eq_false a3
  by_cases a4 : i = j
  case pos =>
    have HV : Hid (wmk i j rn rd m d n = _) := wmk_2 (by unfold wbad; simp [a4])
    have e4 : (i == j) = true := by simpa using a4
    clear a4
    go_enter Try.func10, Try.ntmps10
    go_upto_region 1 with fail
    have oA := (own_first w 23 [.int .i64 rn, .int .i64 rd] (.cells #[.int .i64 m, .int .i64 d] 23)).alloc (.cells #[.int .i64 0, .int .i64 0, .int .i64 0, .int .i64 0, .int .i64 0, .int .i64 0] 27)
    have oB := (own_second w 23 [.int .i64 m, .int .i64 d] (.cells #[.int .i64 rn, .int .i64 rd] 23)).alloc (.cells #[.int .i64 0, .int .i64 0, .int .i64 0, .int .i64 0, .int .i64 0, .int .i64 0] 27)
    have oR := own_third w 27 [.int .i64 0, .int .i64 0, .int .i64 0, .int .i64 0, .int .i64 0, .int .i64 0] (.cells #[.int .i64 rn, .int .i64 rd] 23) (.cells #[.int .i64 m, .int .i64 d] 23)
    have hB := ba3 w (.cells #[.int .i64 rn, .int .i64 rd] 23) (.cells #[.int .i64 m, .int .i64 d] 23) (.cells #[.int .i64 0, .int .i64 0, .int .i64 0, .int .i64 0, .int .i64 0, .int .i64 0] 27)
    generalize ((w.alloc (.cells #[.int .i64 rn, .int .i64 rd] 23)).alloc (.cells #[.int .i64 m, .int .i64 d] 23)).alloc (.cells #[.int .i64 0, .int .i64 0, .int .i64 0, .int .i64 0, .int .i64 0, .int .i64 0] 27) = y0 at *
    obtain ⟨rA, fA⟩ := oA.rules
    obtain ⟨rB, fB⟩ := oB.rules
    obtain ⟨rR, fR⟩ := oR.rules
    have zA := oA.lt
    have zB := oB.lt
    have zR := oR.lt
    go_wp2
    refine bp_gen (fun W => Own W (w.heap.size + 1 + 1) 27 [.int .i64 0, .int .i64 0, .int .i64 0, .int .i64 0, .int .i64 0, .int .i64 0] ∧ Below w.heap.size w W) ⟨((((((oR).set 0 (.int .i64 0)).set 1 (.int .i64 0)).set 2 (.int .i64 0)).set 3 (.int .i64 0)).set 4 (.int .i64 0)).set 5 (.int .i64 0), ?_⟩ ?_
    · repeat (refine Below.setCell ?_ (by first | omega | (simp; done) | (simp; omega)) _)
      exact hB
    rintro wz ⟨oz, bz⟩
    obtain ⟨rz, fz⟩ := oz.rules
    clear oz
    refine bodyPost_ret (v := .tuple #[.agg #[.int .i64 0, .int .i64 0, .int .i64 0, .int .i64 0, .int .i64 0, .int .i64 0], .int .i64 2]) (by simp [results, Try.results10, go_sem, rz]) rfl ⟨by rw [HV.out], ?_⟩
    repeat (refine Below.setCell ?_ (by first | omega | (simp; done) | (simp; omega)) _)
    exact bz
  have e4 : (i == j) = false := by simpa using a4
  by_cases a5 : n < 0
  case pos =>
    have HV : Hid (wmk i j rn rd m d n = _) := wmk_2 (by unfold wbad; simp [a5])
    have e5 : decide (n < 0) = true := decide_eq_true a5
    go_enter Try.func10, Try.ntmps10
    go_upto_region 1 with fail
    have oA := (own_first w 23 [.int .i64 rn, .int .i64 rd] (.cells #[.int .i64 m, .int .i64 d] 23)).alloc (.cells #[.int .i64 0, .int .i64 0, .int .i64 0, .int .i64 0, .int .i64 0, .int .i64 0] 27)
    have oB := (own_second w 23 [.int .i64 m, .int .i64 d] (.cells #[.int .i64 rn, .int .i64 rd] 23)).alloc (.cells #[.int .i64 0, .int .i64 0, .int .i64 0, .int .i64 0, .int .i64 0, .int .i64 0] 27)
    have oR := own_third w 27 [.int .i64 0, .int .i64 0, .int .i64 0, .int .i64 0, .int .i64 0, .int .i64 0] (.cells #[.int .i64 rn, .int .i64 rd] 23) (.cells #[.int .i64 m, .int .i64 d] 23)
    have hB := ba3 w (.cells #[.int .i64 rn, .int .i64 rd] 23) (.cells #[.int .i64 m, .int .i64 d] 23) (.cells #[.int .i64 0, .int .i64 0, .int .i64 0, .int .i64 0, .int .i64 0, .int .i64 0] 27)
    generalize ((w.alloc (.cells #[.int .i64 rn, .int .i64 rd] 23)).alloc (.cells #[.int .i64 m, .int .i64 d] 23)).alloc (.cells #[.int .i64 0, .int .i64 0, .int .i64 0, .int .i64 0, .int .i64 0, .int .i64 0] 27) = y0 at *
    obtain ⟨rA, fA⟩ := oA.rules
    obtain ⟨rB, fB⟩ := oB.rules
    obtain ⟨rR, fR⟩ := oR.rules
    have zA := oA.lt
    have zB := oB.lt
    have zR := oR.lt
    go_wp2
    refine bp_gen (fun W => Own W (w.heap.size + 1 + 1) 27 [.int .i64 0, .int .i64 0, .int .i64 0, .int .i64 0, .int .i64 0, .int .i64 0] ∧ Below w.heap.size w W) ⟨((((((oR).set 0 (.int .i64 0)).set 1 (.int .i64 0)).set 2 (.int .i64 0)).set 3 (.int .i64 0)).set 4 (.int .i64 0)).set 5 (.int .i64 0), ?_⟩ ?_
    · repeat (refine Below.setCell ?_ (by first | omega | (simp; done) | (simp; omega)) _)
      exact hB
    rintro wz ⟨oz, bz⟩
    obtain ⟨rz, fz⟩ := oz.rules
    clear oz
    refine bodyPost_ret (v := .tuple #[.agg #[.int .i64 0, .int .i64 0, .int .i64 0, .int .i64 0, .int .i64 0, .int .i64 0], .int .i64 2]) (by simp [results, Try.results10, go_sem, rz]) rfl ⟨by rw [HV.out], ?_⟩
    repeat (refine Below.setCell ?_ (by first | omega | (simp; done) | (simp; omega)) _)
    exact bz
  have e5 : decide (n < 0) = false := decide_eq_false a5
  by_cases a6 : 1000000 < n
  case pos =>
    have HV : Hid (wmk i j rn rd m d n = _) := wmk_2 (by unfold wbad; simp [a6])
    have e6 : decide (1000000 < n) = true := decide_eq_true a6
    go_enter Try.func10, Try.ntmps10
    go_upto_region 1 with fail
    have oA := (own_first w 23 [.int .i64 rn, .int .i64 rd] (.cells #[.int .i64 m, .int .i64 d] 23)).alloc (.cells #[.int .i64 0, .int .i64 0, .int .i64 0, .int .i64 0, .int .i64 0, .int .i64 0] 27)
    have oB := (own_second w 23 [.int .i64 m, .int .i64 d] (.cells #[.int .i64 rn, .int .i64 rd] 23)).alloc (.cells #[.int .i64 0, .int .i64 0, .int .i64 0, .int .i64 0, .int .i64 0, .int .i64 0] 27)
    have oR := own_third w 27 [.int .i64 0, .int .i64 0, .int .i64 0, .int .i64 0, .int .i64 0, .int .i64 0] (.cells #[.int .i64 rn, .int .i64 rd] 23) (.cells #[.int .i64 m, .int .i64 d] 23)
    have hB := ba3 w (.cells #[.int .i64 rn, .int .i64 rd] 23) (.cells #[.int .i64 m, .int .i64 d] 23) (.cells #[.int .i64 0, .int .i64 0, .int .i64 0, .int .i64 0, .int .i64 0, .int .i64 0] 27)
    generalize ((w.alloc (.cells #[.int .i64 rn, .int .i64 rd] 23)).alloc (.cells #[.int .i64 m, .int .i64 d] 23)).alloc (.cells #[.int .i64 0, .int .i64 0, .int .i64 0, .int .i64 0, .int .i64 0, .int .i64 0] 27) = y0 at *
    obtain ⟨rA, fA⟩ := oA.rules
    obtain ⟨rB, fB⟩ := oB.rules
    obtain ⟨rR, fR⟩ := oR.rules
    have zA := oA.lt
    have zB := oB.lt
    have zR := oR.lt
    go_wp2
    refine bp_gen (fun W => Own W (w.heap.size + 1 + 1) 27 [.int .i64 0, .int .i64 0, .int .i64 0, .int .i64 0, .int .i64 0, .int .i64 0] ∧ Below w.heap.size w W) ⟨((((((oR).set 0 (.int .i64 0)).set 1 (.int .i64 0)).set 2 (.int .i64 0)).set 3 (.int .i64 0)).set 4 (.int .i64 0)).set 5 (.int .i64 0), ?_⟩ ?_
    · repeat (refine Below.setCell ?_ (by first | omega | (simp; done) | (simp; omega)) _)
      exact hB
    rintro wz ⟨oz, bz⟩
    obtain ⟨rz, fz⟩ := oz.rules
    clear oz
    refine bodyPost_ret (v := .tuple #[.agg #[.int .i64 0, .int .i64 0, .int .i64 0, .int .i64 0, .int .i64 0, .int .i64 0], .int .i64 2]) (by simp [results, Try.results10, go_sem, rz]) rfl ⟨by rw [HV.out], ?_⟩
    repeat (refine Below.setCell ?_ (by first | omega | (simp; done) | (simp; omega)) _)
    exact bz
  have e6 : decide (1000000 < n) = false := decide_eq_false a6
  have hb : wbad i j n = false := by unfold wbad; simp; omega
  rcases fchk_cases rn rd with g1 | g1
  case inr =>
    have HV : Hid (wmk i j rn rd m d n = _) := wmk_8 hb (by rw [g1]; simp)
    go_enter Try.func10, Try.ntmps10
    go_upto_region 1 with fail
    have oA := (own_first w 23 [.int .i64 rn, .int .i64 rd] (.cells #[.int .i64 m, .int .i64 d] 23)).alloc (.cells #[.int .i64 0, .int .i64 0, .int .i64 0, .int .i64 0, .int .i64 0, .int .i64 0] 27)
    have oB := (own_second w 23 [.int .i64 m, .int .i64 d] (.cells #[.int .i64 rn, .int .i64 rd] 23)).alloc (.cells #[.int .i64 0, .int .i64 0, .int .i64 0, .int .i64 0, .int .i64 0, .int .i64 0] 27)
    have oR := own_third w 27 [.int .i64 0, .int .i64 0, .int .i64 0, .int .i64 0, .int .i64 0, .int .i64 0] (.cells #[.int .i64 rn, .int .i64 rd] 23) (.cells #[.int .i64 m, .int .i64 d] 23)
    have hB := ba3 w (.cells #[.int .i64 rn, .int .i64 rd] 23) (.cells #[.int .i64 m, .int .i64 d] 23) (.cells #[.int .i64 0, .int .i64 0, .int .i64 0, .int .i64 0, .int .i64 0, .int .i64 0] 27)
    generalize ((w.alloc (.cells #[.int .i64 rn, .int .i64 rd] 23)).alloc (.cells #[.int .i64 m, .int .i64 d] 23)).alloc (.cells #[.int .i64 0, .int .i64 0, .int .i64 0, .int .i64 0, .int .i64 0, .int .i64 0] 27) = y0 at *
    obtain ⟨rA, fA⟩ := oA.rules
    have zA := oA.lt
    go_wp2_with fail
    refine (rcheck_of _ _ _ _ h1 h2 g1).mono ?_
    rintro e v1 ⟨rfl, hq⟩
    clear rA fA zA
    replace oA := oA.below hq
    replace oB := oB.below hq
    replace oR := oR.below hq
    replace hB := below_to hB hq
    clear hq
    obtain ⟨rA, fA⟩ := oA.rules
    obtain ⟨rB, fB⟩ := oB.rules
    obtain ⟨rR, fR⟩ := oR.rules
    have zA := oA.lt
    have zB := oB.lt
    have zR := oR.lt
    go_wp2
    refine bp_gen (fun W => Own W (w.heap.size + 1 + 1) 27 [.int .i64 0, .int .i64 0, .int .i64 0, .int .i64 0, .int .i64 0, .int .i64 0] ∧ Below w.heap.size w W) ⟨((((((oR).set 0 (.int .i64 0)).set 1 (.int .i64 0)).set 2 (.int .i64 0)).set 3 (.int .i64 0)).set 4 (.int .i64 0)).set 5 (.int .i64 0), ?_⟩ ?_
    · repeat (refine Below.setCell ?_ (by first | omega | (simp; done) | (simp; omega)) _)
      exact hB
    rintro wz ⟨oz, bz⟩
    obtain ⟨rz, fz⟩ := oz.rules
    clear oz
    refine bodyPost_ret (v := .tuple #[.agg #[.int .i64 0, .int .i64 0, .int .i64 0, .int .i64 0, .int .i64 0, .int .i64 0], .int .i64 8]) (by simp [results, Try.results10, go_sem, rz]) rfl ⟨by rw [HV.out], ?_⟩
    repeat (refine Below.setCell ?_ (by first | omega | (simp; done) | (simp; omega)) _)
    exact bz
  rcases fchk_cases m d with g2 | g2
  case inr =>
    have HV : Hid (wmk i j rn rd m d n = _) := wmk_8 hb (by rw [g2]; simp)
    go_enter Try.func10, Try.ntmps10
    go_upto_region 1 with fail
    have oA := (own_first w 23 [.int .i64 rn, .int .i64 rd] (.cells #[.int .i64 m, .int .i64 d] 23)).alloc (.cells #[.int .i64 0, .int .i64 0, .int .i64 0, .int .i64 0, .int .i64 0, .int .i64 0] 27)
    have oB := (own_second w 23 [.int .i64 m, .int .i64 d] (.cells #[.int .i64 rn, .int .i64 rd] 23)).alloc (.cells #[.int .i64 0, .int .i64 0, .int .i64 0, .int .i64 0, .int .i64 0, .int .i64 0] 27)
    have oR := own_third w 27 [.int .i64 0, .int .i64 0, .int .i64 0, .int .i64 0, .int .i64 0, .int .i64 0] (.cells #[.int .i64 rn, .int .i64 rd] 23) (.cells #[.int .i64 m, .int .i64 d] 23)
    have hB := ba3 w (.cells #[.int .i64 rn, .int .i64 rd] 23) (.cells #[.int .i64 m, .int .i64 d] 23) (.cells #[.int .i64 0, .int .i64 0, .int .i64 0, .int .i64 0, .int .i64 0, .int .i64 0] 27)
    generalize ((w.alloc (.cells #[.int .i64 rn, .int .i64 rd] 23)).alloc (.cells #[.int .i64 m, .int .i64 d] 23)).alloc (.cells #[.int .i64 0, .int .i64 0, .int .i64 0, .int .i64 0, .int .i64 0, .int .i64 0] 27) = y0 at *
    obtain ⟨rA, fA⟩ := oA.rules
    have zA := oA.lt
    go_wp2_with fail
    refine (rcheck_of _ _ _ _ h1 h2 g1).mono ?_
    rintro e v1 ⟨rfl, hq⟩
    clear rA fA zA
    replace oA := oA.below hq
    replace oB := oB.below hq
    replace oR := oR.below hq
    replace hB := below_to hB hq
    clear hq
    obtain ⟨rB, fB⟩ := oB.rules
    have zB := oB.lt
    go_wp2_with fail
    refine (rcheck_of _ _ _ _ h3 h4 g2).mono ?_
    rintro e v2 ⟨rfl, hq⟩
    clear rB fB zB
    replace oA := oA.below hq
    replace oB := oB.below hq
    replace oR := oR.below hq
    replace hB := below_to hB hq
    clear hq
    obtain ⟨rA, fA⟩ := oA.rules
    obtain ⟨rB, fB⟩ := oB.rules
    obtain ⟨rR, fR⟩ := oR.rules
    have zA := oA.lt
    have zB := oB.lt
    have zR := oR.lt
    go_wp2
    refine bp_gen (fun W => Own W (w.heap.size + 1 + 1) 27 [.int .i64 0, .int .i64 0, .int .i64 0, .int .i64 0, .int .i64 0, .int .i64 0] ∧ Below w.heap.size w W) ⟨((((((oR).set 0 (.int .i64 0)).set 1 (.int .i64 0)).set 2 (.int .i64 0)).set 3 (.int .i64 0)).set 4 (.int .i64 0)).set 5 (.int .i64 0), ?_⟩ ?_
    · repeat (refine Below.setCell ?_ (by first | omega | (simp; done) | (simp; omega)) _)
      exact hB
    rintro wz ⟨oz, bz⟩
    obtain ⟨rz, fz⟩ := oz.rules
    clear oz
    refine bodyPost_ret (v := .tuple #[.agg #[.int .i64 0, .int .i64 0, .int .i64 0, .int .i64 0, .int .i64 0, .int .i64 0], .int .i64 8]) (by simp [results, Try.results10, go_sem, rz]) rfl ⟨by rw [HV.out], ?_⟩
    repeat (refine Below.setCell ?_ (by first | omega | (simp; done) | (simp; omega)) _)
    exact bz
  by_cases hle : ¬ j < i
  · exact rvmake_le i j rn rd m d n w h1 h2 h3 h4 hle
  have hlt : j < i := by omega
  clear hle
  have e8 : decide (j < i) = true := decide_eq_true hlt
  obtain ⟨m1, m2, m3, m4, _⟩ := fok_of g2
  have HS := Lib.hid (wmk_swap hb g1 g2 hlt)
  go_enter Try.func10, Try.ntmps10
  go_upto_region 1 with fail
  have oA := (own_first w 23 [.int .i64 rn, .int .i64 rd] (.cells #[.int .i64 m, .int .i64 d] 23)).alloc (.cells #[.int .i64 0, .int .i64 0, .int .i64 0, .int .i64 0, .int .i64 0, .int .i64 0] 27)
  have oB := (own_second w 23 [.int .i64 m, .int .i64 d] (.cells #[.int .i64 rn, .int .i64 rd] 23)).alloc (.cells #[.int .i64 0, .int .i64 0, .int .i64 0, .int .i64 0, .int .i64 0, .int .i64 0] 27)
  have oR := own_third w 27 [.int .i64 0, .int .i64 0, .int .i64 0, .int .i64 0, .int .i64 0, .int .i64 0] (.cells #[.int .i64 rn, .int .i64 rd] 23) (.cells #[.int .i64 m, .int .i64 d] 23)
  have hB := ba3 w (.cells #[.int .i64 rn, .int .i64 rd] 23) (.cells #[.int .i64 m, .int .i64 d] 23) (.cells #[.int .i64 0, .int .i64 0, .int .i64 0, .int .i64 0, .int .i64 0, .int .i64 0] 27)
  generalize ((w.alloc (.cells #[.int .i64 rn, .int .i64 rd] 23)).alloc (.cells #[.int .i64 m, .int .i64 d] 23)).alloc (.cells #[.int .i64 0, .int .i64 0, .int .i64 0, .int .i64 0, .int .i64 0, .int .i64 0] 27) = y0 at *
  obtain ⟨rA, fA⟩ := oA.rules
  have zA := oA.lt
  go_wp2_with fail
  refine (rcheck_of _ _ _ _ h1 h2 g1).mono ?_
  rintro e v1 ⟨rfl, hq⟩
  clear rA fA zA
  replace oA := oA.below hq
  replace oB := oB.below hq
  replace oR := oR.below hq
  replace hB := below_to hB hq
  clear hq
  obtain ⟨rB, fB⟩ := oB.rules
  have zB := oB.lt
  go_wp2_with fail
  refine (rcheck_of _ _ _ _ h3 h4 g2).mono ?_
  rintro e v2 ⟨rfl, hq⟩
  clear rB fB zB
  replace oA := oA.below hq
  replace oB := oB.below hq
  replace oR := oR.below hq
  replace hB := below_to hB hq
  clear hq
  obtain ⟨rA, fA⟩ := oA.rules
  obtain ⟨rB, fB⟩ := oB.rules
  have zA := oA.lt
  have zB := oB.lt
  go_wp2_with fail
  refine (rvmake_le j i rn rd (-m) d n _ h1 h2 ⟨by omega, by omega⟩ h4 (by omega)).mono ?_
  rintro e v3 ⟨rfl, hq⟩
  rw [HS.out]
  generalize hvr : wmk i j rn rd m d n = vr at *
  have HVR := Lib.hid hvr
  clear hvr
  clear rA fA zA rB fB zB
  replace oA := oA.below hq
  replace oB := oB.below hq
  replace oR := oR.below hq
  replace hB := below_to hB hq
  clear hq HS
  obtain ⟨rR, fR⟩ := oR.rules
  have zR := oR.lt
  go_wp2
  refine bp_gen (fun W => Own W (w.heap.size + 1 + 1) 27 [.int .i64 vr.i, .int .i64 vr.j, .int .i64 vr.re, .int .i64 vr.im, .int .i64 vr.den, .int .i64 vr.n] ∧ Below w.heap.size w W) ⟨((((((oR).set 0 (.int .i64 vr.i)).set 1 (.int .i64 vr.j)).set 2 (.int .i64 vr.re)).set 3 (.int .i64 vr.im)).set 4 (.int .i64 vr.den)).set 5 (.int .i64 vr.n), ?_⟩ ?_
  · repeat (refine Below.setCell ?_ (by first | omega | (simp; done) | (simp; omega)) _)
    exact hB
  rintro wz ⟨oz, bz⟩
  obtain ⟨rz, fz⟩ := oz.rules
  clear oz
  refine bodyPost_ret (v := .tuple #[.agg #[.int .i64 vr.i, .int .i64 vr.j, .int .i64 vr.re, .int .i64 vr.im, .int .i64 vr.den, .int .i64 vr.n], .int .i64 vr.e]) (by simp [results, Try.results10, go_sem, rz]) rfl ⟨by rw [HVR.out], ?_⟩
  repeat (refine Below.setCell ?_ (by first | omega | (simp; done) | (simp; omega)) _)
  exact bz
end Go.Proofs.Ytapdkmonfoooiaa
