/- What is proved here: contracts of functions and plain facts, several texts in one; each one says ahead what it proves, and its conditions. -/
import Derived.Test.YtpjhiojdnebgoaaC10
import Derived.Deep.DeepCutAuto
import Derived.RegionTactic
import Derived.ChangeAlike
import Derived.BigRegion
/- What is proved here: the contract of weight.Make. Condition: the numbers are 64-bit integers. -/
namespace Go.Proofs.Ytpjhiojdnebgoaa
open Go.RowKit

theorem bp_gen {P : Program} {f : Func} {Q : Ending → World → Prop} {ex : Exit} {a : Act} {w : World} (F : World → Prop) (hF : F w) (h : ∀ W, F W → bodyPost P f Q ex a W) : bodyPost P f Q ex a w := h w hF
theorem check_of (n d e : Int) (w : World) (h1 : i64 n) (h2 : i64 d) (h : fchk n d = e) :
    Calls Try.prog 82 #[.agg #[.int .i64 n, .int .i64 d]] w fun r w' => r = .returned (.int .i64 e) ∧ Below w.heap.size w w' := by
  subst h; exact check_any n d w h1 h2
theorem wfchk_cases (n d : Int) : fchk n d = 0 ∨ fchk n d = 8 := by
  unfold fchk; split
  · exact .inl rfl
  · exact .inr rfl
theorem wmk_2 {i j rn rd m d n : Int} (h : wbad i j n = true) : wmk i j rn rd m d n = ⟨0, 0, 0, 0, 0, 0, 2⟩ := by unfold wmk; rw [if_pos h]
theorem wmk_8 {i j rn rd m d n : Int} (h : wbad i j n = false) (h2 : ¬ (fchk rn rd = 0 ∧ fchk m d = 0)) : wmk i j rn rd m d n = ⟨0, 0, 0, 0, 0, 0, 8⟩ := by unfold wmk; rw [if_neg (by rw [h]; decide), if_pos h2]
theorem wmk_16 {i j rn rd m d n : Int} (h : wbad i j n = false) (h2 : fchk rn rd = 0) (h3 : fchk m d = 0) (h4 : wok rn rd m d = false) : wmk i j rn rd m d n = ⟨0, 0, 0, 0, 0, 0, 16⟩ := by unfold wmk; rw [if_neg (by rw [h]; decide), if_neg (by rw [h2, h3]; simp), if_pos h4]
theorem wmk_gt {i j rn rd m d n : Int} (h : wbad i j n = false) (h2 : fchk rn rd = 0) (h3 : fchk m d = 0) (h4 : wok rn rd m d = true) (h5 : j < i) : wmk i j rn rd m d n = ⟨j, i, (wval rn rd m d).re, -(wval rn rd m d).im, (wval rn rd m d).den, n, 0⟩ := by unfold wmk; rw [if_neg (by rw [h]; decide), if_neg (by rw [h2, h3]; simp), if_neg (by rw [h4]; decide), if_pos h5]
theorem wmk_le {i j rn rd m d n : Int} (h : wbad i j n = false) (h2 : fchk rn rd = 0) (h3 : fchk m d = 0) (h4 : wok rn rd m d = true) (h5 : ¬ j < i) : wmk i j rn rd m d n = ⟨i, j, (wval rn rd m d).re, (wval rn rd m d).im, (wval rn rd m d).den, n, 0⟩ := by unfold wmk; rw [if_neg (by rw [h]; decide), if_neg (by rw [h2, h3]; simp), if_neg (by rw [h4]; decide), if_neg h5]
theorem wval_bd {rn rd m d : Int} (h : wok rn rd m d = true) : CFit (wval rn rd m d).re (wval rn rd m d).im (wval rn rd m d).den := by
  rw [wval_1 h]; exact cok_fit (wok_yes h).2.2

set_option maxRecDepth 100000 in
set_option maxHeartbeats 16000000 in
theorem vmake_any (i j rn rd m d n : Int) (w : World) (h1 : i64 rn) (h2 : i64 rd) (h3 : i64 m) (h4 : i64 d) :
    Calls Try.prog 42 #[.int .i64 i, .int .i64 j, .agg #[.int .i64 rn, .int .i64 rd], .agg #[.int .i64 m, .int .i64 d], .int .i64 n] w fun e w' =>
      e = .returned (.tuple #[.agg #[.int .i64 (wmk i j rn rd m d n).i, .int .i64 (wmk i j rn rd m d n).j, .int .i64 (wmk i j rn rd m d n).re, .int .i64 (wmk i j rn rd m d n).im, .int .i64 (wmk i j rn rd m d n).den, .int .i64 (wmk i j rn rd m d n).n], .int .i64 (wmk i j rn rd m d n).e]) ∧ Below w.heap.size w w' := by
  by_cases a0 : i < 0
  case pos =>
    have HV : Hid (wmk i j rn rd m d n = _) := wmk_2 (by unfold wbad; simp [a0])
    have e0 : decide (i < 0) = true := decide_eq_true a0
    go_enter Try.func42, Try.ntmps42
    go_wp2
    refine bodyPost_ret (v := .tuple #[.agg #[.int .i64 0, .int .i64 0, .int .i64 0, .int .i64 0, .int .i64 0, .int .i64 0], .int .i64 2]) (by simp [results, Try.results42, go_sem]) rfl ⟨by rw [HV.out], ?_⟩
    repeat (refine Below.setCell ?_ (by first | omega | (simp; done) | (simp; omega)) _)
    exact ba3 _ _ _ _
  have e0 : decide (i < 0) = false := decide_eq_false a0
  by_cases a1 : 8 ≤ i
  case pos =>
    have HV : Hid (wmk i j rn rd m d n = _) := wmk_2 (by unfold wbad; simp [a1])
    have e1 : decide (8 ≤ i) = true := decide_eq_true a1
    go_enter Try.func42, Try.ntmps42
    go_wp2
    refine bodyPost_ret (v := .tuple #[.agg #[.int .i64 0, .int .i64 0, .int .i64 0, .int .i64 0, .int .i64 0, .int .i64 0], .int .i64 2]) (by simp [results, Try.results42, go_sem]) rfl ⟨by rw [HV.out], ?_⟩
    repeat (refine Below.setCell ?_ (by first | omega | (simp; done) | (simp; omega)) _)
    exact ba3 _ _ _ _
  have e1 : decide (8 ≤ i) = false := decide_eq_false a1
  by_cases a2 : j < 0
  case pos =>
    have HV : Hid (wmk i j rn rd m d n = _) := wmk_2 (by unfold wbad; simp [a2])
    have e2 : decide (j < 0) = true := decide_eq_true a2
    go_enter Try.func42, Try.ntmps42
    go_wp2
    refine bodyPost_ret (v := .tuple #[.agg #[.int .i64 0, .int .i64 0, .int .i64 0, .int .i64 0, .int .i64 0, .int .i64 0], .int .i64 2]) (by simp [results, Try.results42, go_sem]) rfl ⟨by rw [HV.out], ?_⟩
    repeat (refine Below.setCell ?_ (by first | omega | (simp; done) | (simp; omega)) _)
    exact ba3 _ _ _ _
  have e2 : decide (j < 0) = false := decide_eq_false a2
  by_cases a3 : 8 ≤ j
  case pos =>
    have HV : Hid (wmk i j rn rd m d n = _) := wmk_2 (by unfold wbad; simp [a3])
    have e3 : decide (8 ≤ j) = true := decide_eq_true a3
    go_enter Try.func42, Try.ntmps42
    go_wp2
    refine bodyPost_ret (v := .tuple #[.agg #[.int .i64 0, .int .i64 0, .int .i64 0, .int .i64 0, .int .i64 0, .int .i64 0], .int .i64 2]) (by simp [results, Try.results42, go_sem]) rfl ⟨by rw [HV.out], ?_⟩
    repeat (refine Below.setCell ?_ (by first | omega | (simp; done) | (simp; omega)) _)
    exact ba3 _ _ _ _
  have e3 : decide (8 ≤ j) = false := decide_eq_false a3
  by_cases a4 : i = j
  case pos =>
    have HV : Hid (wmk i j rn rd m d n = _) := wmk_2 (by unfold wbad; simp [a4])
    have e4 : (i == j) = true := by simpa using a4
    clear a4
    go_enter Try.func42, Try.ntmps42
    go_wp2
    refine bodyPost_ret (v := .tuple #[.agg #[.int .i64 0, .int .i64 0, .int .i64 0, .int .i64 0, .int .i64 0, .int .i64 0], .int .i64 2]) (by simp [results, Try.results42, go_sem]) rfl ⟨by rw [HV.out], ?_⟩
    repeat (refine Below.setCell ?_ (by first | omega | (simp; done) | (simp; omega)) _)
    exact ba3 _ _ _ _
  have e4 : (i == j) = false := by simpa using a4
  cases h5 : cntB n with
  | false =>
    have f5 := cnt_0 h5
    have HV : Hid (wmk i j rn rd m d n = _) := wmk_2 (by unfold wbad; simp; omega)
    go_enter Try.func42, Try.ntmps42
    go_wp2_with fail
    refine (isWeight_of _ _ _ h5).mono ?_
    rintro e _ ⟨rfl, rfl⟩
    go_wp2
    refine bodyPost_ret (v := .tuple #[.agg #[.int .i64 0, .int .i64 0, .int .i64 0, .int .i64 0, .int .i64 0, .int .i64 0], .int .i64 2]) (by simp [results, Try.results42, go_sem]) rfl ⟨by rw [HV.out], ?_⟩
    repeat (refine Below.setCell ?_ (by first | omega | (simp; done) | (simp; omega)) _)
    exact ba3 _ _ _ _
  | true =>
    have f5 := cnt_1 h5
    have hb : wbad i j n = false := by unfold wbad; simp; omega
    rcases wfchk_cases rn rd with g1 | g1
    case inr =>
      have HV : Hid (wmk i j rn rd m d n = _) := wmk_8 hb (by rw [g1]; simp)
      go_enter Try.func42, Try.ntmps42
      go_wp2_with fail
      refine (isWeight_of _ _ _ h5).mono ?_
      rintro e _ ⟨rfl, rfl⟩
      go_wp2_with fail
      refine (check_of _ _ _ _ h1 h2 g1).mono ?_
      rintro e w1 ⟨rfl, hb1⟩
      obtain ⟨c1, f1⟩ := bcell hb1
      have z1 := (hb1).size
      try simp at z1
      try simp at c1
      try simp at f1
      have z1a : w.heap.size < w1.heap.size := by omega
      have z1b : w.heap.size + 1 < w1.heap.size := by omega
      have z1c : w.heap.size + 1 + 1 < w1.heap.size := by omega
      go_wp2
      refine bodyPost_ret (v := .tuple #[.agg #[.int .i64 0, .int .i64 0, .int .i64 0, .int .i64 0, .int .i64 0, .int .i64 0], .int .i64 8]) (by simp [results, Try.results42, go_sem, c1, z1c]) rfl ⟨by rw [HV.out], ?_⟩
      repeat (refine Below.setCell ?_ (by first | omega | (simp; done) | (simp; omega)) _)
      exact below_to (ba3 _ _ _ _) hb1
    rcases wfchk_cases m d with g2 | g2
    case inr =>
      have HV : Hid (wmk i j rn rd m d n = _) := wmk_8 hb (by rw [g2]; simp)
      go_enter Try.func42, Try.ntmps42
      go_wp2_with fail
      refine (isWeight_of _ _ _ h5).mono ?_
      rintro e _ ⟨rfl, rfl⟩
      go_wp2_with fail
      refine (check_of _ _ _ _ h1 h2 g1).mono ?_
      rintro e w1 ⟨rfl, hb1⟩
      obtain ⟨c1, f1⟩ := bcell hb1
      have z1 := (hb1).size
      try simp at z1
      try simp at c1
      try simp at f1
      have z1a : w.heap.size < w1.heap.size := by omega
      have z1b : w.heap.size + 1 < w1.heap.size := by omega
      have z1c : w.heap.size + 1 + 1 < w1.heap.size := by omega
      go_wp2_with fail
      refine (check_of _ _ _ _ h3 h4 g2).mono ?_
      rintro e w2 ⟨rfl, hb2⟩
      obtain ⟨c2, f2⟩ := bcell hb2
      have z2 := (hb2).size
      try simp at z2
      try simp at c2
      try simp at f2
      have z2a : w.heap.size < w2.heap.size := by omega
      have z2b : w.heap.size + 1 < w2.heap.size := by omega
      have z2c : w.heap.size + 1 + 1 < w2.heap.size := by omega
      go_wp2
      refine bodyPost_ret (v := .tuple #[.agg #[.int .i64 0, .int .i64 0, .int .i64 0, .int .i64 0, .int .i64 0, .int .i64 0], .int .i64 8]) (by simp [results, Try.results42, go_sem, c1, c2, z1c]) rfl ⟨by rw [HV.out], ?_⟩
      repeat (refine Below.setCell ?_ (by first | omega | (simp; done) | (simp; omega)) _)
      exact below_to (below_to (ba3 _ _ _ _) hb1) hb2
    cases hw : wok rn rd m d with
    | false =>
      have HV : Hid (wmk i j rn rd m d n = _) := wmk_16 hb g1 g2 hw
      go_enter Try.func42, Try.ntmps42
      have oR := own_third w 60 [.int .i64 0, .int .i64 0, .int .i64 0, .int .i64 0, .int .i64 0, .int .i64 0] (.cells #[.int .i64 rn, .int .i64 rd] 24) (.cells #[.int .i64 m, .int .i64 d] 24)
      go_wp2_with fail
      refine (isWeight_of _ _ _ h5).mono ?_
      rintro e _ ⟨rfl, rfl⟩
      go_wp2_with fail
      refine (check_of _ _ _ _ h1 h2 g1).mono ?_
      rintro e w1 ⟨rfl, hb1⟩
      obtain ⟨c1, f1⟩ := bcell hb1
      have z1 := (hb1).size
      try simp at z1
      try simp at c1
      try simp at f1
      have z1a : w.heap.size < w1.heap.size := by omega
      have z1b : w.heap.size + 1 < w1.heap.size := by omega
      have z1c : w.heap.size + 1 + 1 < w1.heap.size := by omega
      replace oR := oR.below hb1
      go_wp2_with fail
      refine (check_of _ _ _ _ h3 h4 g2).mono ?_
      rintro e w2 ⟨rfl, hb2⟩
      obtain ⟨c2, f2⟩ := bcell hb2
      have z2 := (hb2).size
      try simp at z2
      try simp at c2
      try simp at f2
      have z2a : w.heap.size < w2.heap.size := by omega
      have z2b : w.heap.size + 1 < w2.heap.size := by omega
      have z2c : w.heap.size + 1 + 1 < w2.heap.size := by omega
      replace oR := oR.below hb2
      go_wp2_with fail
      refine (valueOf_0 _ _ _ _ _ g1 g2 hw).mono ?_
      rintro e w3 ⟨⟨x, y, z, rfl⟩, hb3⟩
      obtain ⟨c3, f3⟩ := bcell hb3
      have z3 := (hb3).size
      try simp at z3
      try simp at c3
      try simp at f3
      have z3a : w.heap.size < w3.heap.size := by omega
      have z3b : w.heap.size + 1 < w3.heap.size := by omega
      have z3c : w.heap.size + 1 + 1 < w3.heap.size := by omega
      replace oR := oR.below hb3
      obtain ⟨rR, fR⟩ := oR.rules
      go_wp2
      refine bp_gen (fun W => Own W (w.heap.size + 1 + 1) 60 [.int .i64 0, .int .i64 0, .int .i64 0, .int .i64 0, .int .i64 0, .int .i64 0] ∧ Below w.heap.size w W) ⟨(((((((oR).set 0 (.int .i64 0)).set 1 (.int .i64 0)).set 2 (.int .i64 0)).set 3 (.int .i64 0)).set 4 (.int .i64 0)).set 5 (.int .i64 0)).alloc (.cells #[.int .i64 x, .int .i64 y, .int .i64 z] 58), ?_⟩ ?_
      · refine below_to ?_ (ba1 _ _); repeat (refine Below.setCell ?_ (by first | omega | (simp; done) | (simp; omega)) _)
        exact below_to (below_to (below_to (ba3 _ _ _ _) hb1) hb2) hb3
      rintro wz ⟨oz, bz⟩
      obtain ⟨rz, fz⟩ := oz.rules
      clear oz
      refine bodyPost_ret (v := .tuple #[.agg #[.int .i64 0, .int .i64 0, .int .i64 0, .int .i64 0, .int .i64 0, .int .i64 0], .int .i64 16]) (by simp [results, Try.results42, go_sem, rz]) rfl ⟨by rw [HV.out], ?_⟩
      repeat (refine Below.setCell ?_ (by first | omega | (simp; done) | (simp; omega)) _)
      exact bz
    | true =>
      by_cases hlt : j < i
      case pos =>
        have HV0 := Lib.hid (wmk_gt (n := n) hb g1 g2 hw hlt)
        obtain ⟨x1, x2, x3, x4, x5, x6⟩ := wval_bd hw
        have Hw := Lib.hid hw
        go_enter Try.func42, Try.ntmps42
        have oR := own_third w 60 [.int .i64 0, .int .i64 0, .int .i64 0, .int .i64 0, .int .i64 0, .int .i64 0] (.cells #[.int .i64 rn, .int .i64 rd] 24) (.cells #[.int .i64 m, .int .i64 d] 24)
        go_wp2_with fail
        refine (isWeight_of _ _ _ h5).mono ?_
        rintro e _ ⟨rfl, rfl⟩
        go_wp2_with fail
        refine (check_of _ _ _ _ h1 h2 g1).mono ?_
        rintro e w1 ⟨rfl, hb1⟩
        obtain ⟨c1, f1⟩ := bcell hb1
        have z1 := (hb1).size
        try simp at z1
        try simp at c1
        try simp at f1
        have z1a : w.heap.size < w1.heap.size := by omega
        have z1b : w.heap.size + 1 < w1.heap.size := by omega
        have z1c : w.heap.size + 1 + 1 < w1.heap.size := by omega
        replace oR := oR.below hb1
        go_wp2_with fail
        refine (check_of _ _ _ _ h3 h4 g2).mono ?_
        rintro e w2 ⟨rfl, hb2⟩
        obtain ⟨c2, f2⟩ := bcell hb2
        have z2 := (hb2).size
        try simp at z2
        try simp at c2
        try simp at f2
        have z2a : w.heap.size < w2.heap.size := by omega
        have z2b : w.heap.size + 1 < w2.heap.size := by omega
        have z2c : w.heap.size + 1 + 1 < w2.heap.size := by omega
        replace oR := oR.below hb2
        go_wp2_with fail
        refine (valueOf_1 _ _ _ _ _ g1 g2 Hw.out).mono ?_
        rintro e w3 ⟨rfl, hb3⟩
        replace oR := oR.below hb3
        generalize hre : (wval rn rd m d).re = vr at *
        generalize him : (wval rn rd m d).im = vi at *
        generalize hde : (wval rn rd m d).den = vd at *
        clear hre him hde hw Hw c1 c2 f1 f2
        go_upto_region 8 with fail
        have hBB := below_to (below_to (below_to (below_to (ba3 _ _ _ _) hb1) hb2) hb3) (ba1 w3 (.cells #[.int .i64 vr, .int .i64 vi, .int .i64 vd] 58))
        have oV := Own.new w3 58 [.int .i64 vr, .int .i64 vi, .int .i64 vd]
        replace oR := oR.alloc (.cells #[.int .i64 vr, .int .i64 vi, .int .i64 vd] 58)
        have hne := hb3.size
        have hkw : w.heap.size + 1 + 1 < w3.heap.size := by omega
        clear hb1 hb2 hb3 hne z1 z2
        generalize hkv : w3.heap.size = kv at oV hkw ⊢
        clear hkv
        generalize w3.alloc (.cells #[.int .i64 vr, .int .i64 vi, .int .i64 vd] 58) = wy at *
        obtain ⟨rR, fR⟩ := oR.rules
        obtain ⟨rV, fV⟩ := oV.rules
        have zV := oV.lt
        have zR := oR.lt
        go_wp2
        go_region
        clear rR fR rV fV
        have oV2 : Own (wy.setCell ⟨kv, 1, none⟩ (.int .i64 (-vi))).drew kv 58 [.int .i64 vr, .int .i64 (-vi), .int .i64 vd] := (oV.set 1 (.int .i64 (-vi))).drew
        have oR2 : Own (wy.setCell ⟨kv, 1, none⟩ (.int .i64 (-vi))).drew (w.heap.size + 1 + 1) 60 [.int .i64 0, .int .i64 0, .int .i64 0, .int .i64 0, .int .i64 0, .int .i64 0] := (oR.other (by omega) 1 (.int .i64 (-vi))).drew
        have hB2 : Below w.heap.size w (wy.setCell ⟨kv, 1, none⟩ (.int .i64 (-vi))).drew := (hBB.setCell (by simp; omega) _).drew
        clear oV oR hBB zV zR
        generalize (wy.setCell ⟨kv, 1, none⟩ (.int .i64 (-vi))).drew = wq at *
        obtain ⟨rR, fR⟩ := oR2.rules
        obtain ⟨rV, fV⟩ := oV2.rules
        have zV := oV2.lt
        have zR := oR2.lt
        go_wp2
        refine bp_gen (fun W => Own W (w.heap.size + 1 + 1) 60 [.int .i64 j, .int .i64 i, .int .i64 vr, .int .i64 (-vi), .int .i64 vd, .int .i64 n] ∧ Below w.heap.size w W) ⟨((((((oR2).set 0 (.int .i64 j)).set 1 (.int .i64 i)).set 2 (.int .i64 vr)).set 3 (.int .i64 (-vi))).set 4 (.int .i64 vd)).set 5 (.int .i64 n), ?_⟩ ?_
        · repeat (refine Below.setCell ?_ (by first | omega | (simp; done) | (simp; omega)) _)
          exact hB2
        rintro wz ⟨oz, bz⟩
        obtain ⟨rz, fz⟩ := oz.rules
        clear oz
        refine bodyPost_ret (v := .tuple #[.agg #[.int .i64 j, .int .i64 i, .int .i64 vr, .int .i64 (-vi), .int .i64 vd, .int .i64 n], .int .i64 0]) (by simp [results, Try.results42, go_sem, rz]) rfl ⟨by rw [HV0.out], ?_⟩
        repeat (refine Below.setCell ?_ (by first | omega | (simp; done) | (simp; omega)) _)
        exact bz
      case neg =>
        have HV0 := Lib.hid (wmk_le (n := n) hb g1 g2 hw hlt)
        obtain ⟨x1, x2, x3, x4, x5, x6⟩ := wval_bd hw
        have Hw := Lib.hid hw
        go_enter Try.func42, Try.ntmps42
        have oR := own_third w 60 [.int .i64 0, .int .i64 0, .int .i64 0, .int .i64 0, .int .i64 0, .int .i64 0] (.cells #[.int .i64 rn, .int .i64 rd] 24) (.cells #[.int .i64 m, .int .i64 d] 24)
        go_wp2_with fail
        refine (isWeight_of _ _ _ h5).mono ?_
        rintro e _ ⟨rfl, rfl⟩
        go_wp2_with fail
        refine (check_of _ _ _ _ h1 h2 g1).mono ?_
        rintro e w1 ⟨rfl, hb1⟩
        obtain ⟨c1, f1⟩ := bcell hb1
        have z1 := (hb1).size
        try simp at z1
        try simp at c1
        try simp at f1
        have z1a : w.heap.size < w1.heap.size := by omega
        have z1b : w.heap.size + 1 < w1.heap.size := by omega
        have z1c : w.heap.size + 1 + 1 < w1.heap.size := by omega
        replace oR := oR.below hb1
        go_wp2_with fail
        refine (check_of _ _ _ _ h3 h4 g2).mono ?_
        rintro e w2 ⟨rfl, hb2⟩
        obtain ⟨c2, f2⟩ := bcell hb2
        have z2 := (hb2).size
        try simp at z2
        try simp at c2
        try simp at f2
        have z2a : w.heap.size < w2.heap.size := by omega
        have z2b : w.heap.size + 1 < w2.heap.size := by omega
        have z2c : w.heap.size + 1 + 1 < w2.heap.size := by omega
        replace oR := oR.below hb2
        go_wp2_with fail
        refine (valueOf_1 _ _ _ _ _ g1 g2 Hw.out).mono ?_
        rintro e w3 ⟨rfl, hb3⟩
        replace oR := oR.below hb3
        generalize hre : (wval rn rd m d).re = vr at *
        generalize him : (wval rn rd m d).im = vi at *
        generalize hde : (wval rn rd m d).den = vd at *
        clear hre him hde hw Hw c1 c2 f1 f2
        go_upto_region 8 with fail
        have hBB := below_to (below_to (below_to (below_to (ba3 _ _ _ _) hb1) hb2) hb3) (ba1 w3 (.cells #[.int .i64 vr, .int .i64 vi, .int .i64 vd] 58))
        have oV := Own.new w3 58 [.int .i64 vr, .int .i64 vi, .int .i64 vd]
        replace oR := oR.alloc (.cells #[.int .i64 vr, .int .i64 vi, .int .i64 vd] 58)
        have hne := hb3.size
        have hkw : w.heap.size + 1 + 1 < w3.heap.size := by omega
        clear hb1 hb2 hb3 hne z1 z2
        generalize hkv : w3.heap.size = kv at oV hkw ⊢
        clear hkv
        generalize w3.alloc (.cells #[.int .i64 vr, .int .i64 vi, .int .i64 vd] 58) = wy at *
        obtain ⟨rR, fR⟩ := oR.rules
        obtain ⟨rV, fV⟩ := oV.rules
        have zV := oV.lt
        have zR := oR.lt
        go_wp2
        refine bp_gen (fun W => Own W (w.heap.size + 1 + 1) 60 [.int .i64 i, .int .i64 j, .int .i64 vr, .int .i64 vi, .int .i64 vd, .int .i64 n] ∧ Below w.heap.size w W) ⟨((((((oR).set 0 (.int .i64 i)).set 1 (.int .i64 j)).set 2 (.int .i64 vr)).set 3 (.int .i64 vi)).set 4 (.int .i64 vd)).set 5 (.int .i64 n), ?_⟩ ?_
        · repeat (refine Below.setCell ?_ (by first | omega | (simp; done) | (simp; omega)) _)
          exact hBB
        rintro wz ⟨oz, bz⟩
        obtain ⟨rz, fz⟩ := oz.rules
        clear oz
        refine bodyPost_ret (v := .tuple #[.agg #[.int .i64 i, .int .i64 j, .int .i64 vr, .int .i64 vi, .int .i64 vd, .int .i64 n], .int .i64 0]) (by simp [results, Try.results42, go_sem, rz]) rfl ⟨by rw [HV0.out], ?_⟩
        repeat (refine Below.setCell ?_ (by first | omega | (simp; done) | (simp; omega)) _)
        exact bz
end Go.Proofs.Ytpjhiojdnebgoaa

/- What is proved here: the contracts of weight.Scale and weight.Parts. Condition: the numbers are 64-bit integers. -/
namespace Go.Proofs.Ytpjhiojdnebgoaa
open Go.RowKit

def wsc (i j re im den n by' : Int) : VR :=
  if vchk i j re im den n ≠ 0 then ⟨0, 0, 0, 0, 0, 0, 8⟩ else if by' < 0 ∨ 1000000 < by' then ⟨0, 0, 0, 0, 0, 0, 2⟩ else if 1000000 < n * by' then ⟨0, 0, 0, 0, 0, 0, 16⟩ else ⟨i, j, re, im, den, n * by', 0⟩
theorem wsc_8 {i j re im den n b : Int} (h : vchk i j re im den n = 8) : wsc i j re im den n b = ⟨0, 0, 0, 0, 0, 0, 8⟩ := by unfold wsc; rw [if_pos (by rw [h]; decide)]
theorem wsc_2 {i j re im den n b : Int} (h : vchk i j re im den n = 0) (h2 : b < 0 ∨ 1000000 < b) : wsc i j re im den n b = ⟨0, 0, 0, 0, 0, 0, 2⟩ := by unfold wsc; rw [if_neg (by rw [h]; decide), if_pos h2]
theorem wsc_16 {i j re im den n b : Int} (h : vchk i j re im den n = 0) (h2 : ¬ (b < 0 ∨ 1000000 < b)) (h3 : 1000000 < n * b) : wsc i j re im den n b = ⟨0, 0, 0, 0, 0, 0, 16⟩ := by unfold wsc; rw [if_neg (by rw [h]; decide), if_neg h2, if_pos h3]
theorem wsc_0 {i j re im den n b : Int} (h : vchk i j re im den n = 0) (h2 : ¬ (b < 0 ∨ 1000000 < b)) (h3 : ¬ 1000000 < n * b) : wsc i j re im den n b = ⟨i, j, re, im, den, n * b, 0⟩ := by unfold wsc; rw [if_neg (by rw [h]; decide), if_neg h2, if_neg h3]
theorem vchk_cases (i j re im den n : Int) : vchk i j re im den n = 0 ∨ vchk i j re im den n = 8 := by
  unfold vchk; split
  · exact .inl rfl
  · exact .inr rfl
theorem vcheck_of (i j re im den n e : Int) (w : World) (h : vchk i j re im den n = e) : Calls Try.prog 47 #[.agg #[.int .i64 i, .int .i64 j, .int .i64 re, .int .i64 im, .int .i64 den, .int .i64 n]] w fun r w' => r = .returned (.int .i64 e) ∧ Below w.heap.size w w' := by
  subst h; exact vcheck_any i j re im den n w
theorem mul_cnt {n b : Int} (h1 : 0 ≤ n) (h2 : n ≤ 1000000) (h3 : 0 ≤ b) (h4 : b ≤ 1000000) : 0 ≤ n * b ∧ n * b ≤ 1000000000000 := by
  constructor
  · exact Int.mul_nonneg h1 h3
  · have := Int.mul_le_mul h2 h4 h3 (show (0 : Int) ≤ 1000000 by decide)
    omega

set_option maxRecDepth 100000 in
set_option maxHeartbeats 16000000 in
theorem vscale_any (i j re im den n by' : Int) (w : World) :
    Calls Try.prog 45 #[.agg #[.int .i64 i, .int .i64 j, .int .i64 re, .int .i64 im, .int .i64 den, .int .i64 n], .int .i64 by'] w fun e w' =>
      e = .returned (.tuple #[.agg #[.int .i64 (wsc i j re im den n by').i, .int .i64 (wsc i j re im den n by').j, .int .i64 (wsc i j re im den n by').re, .int .i64 (wsc i j re im den n by').im, .int .i64 (wsc i j re im den n by').den, .int .i64 (wsc i j re im den n by').n], .int .i64 (wsc i j re im den n by').e]) ∧ Below w.heap.size w w' := by
  rcases vchk_cases i j re im den n with hv | hv
  case inr =>
    have HV := Lib.hid (wsc_8 (b := by') hv)
    go_enter Try.func45, Try.ntmps45
    have oV := own_first w 60 [.int .i64 i, .int .i64 j, .int .i64 re, .int .i64 im, .int .i64 den, .int .i64 n] (.cells #[.int .i64 0, .int .i64 0, .int .i64 0, .int .i64 0, .int .i64 0, .int .i64 0] 60)
    have oR := own_second w 60 [.int .i64 0, .int .i64 0, .int .i64 0, .int .i64 0, .int .i64 0, .int .i64 0] (.cells #[.int .i64 i, .int .i64 j, .int .i64 re, .int .i64 im, .int .i64 den, .int .i64 n] 60)
    go_wp2_with fail
    refine (vcheck_of _ _ _ _ _ _ _ _ hv).mono ?_
    rintro e w1 ⟨rfl, hb1⟩
    replace oV := oV.below hb1
    replace oR := oR.below hb1
    have hB := below_to (ba2 _ _ _) hb1
    obtain ⟨rV, fV⟩ := oV.rules
    obtain ⟨rR, fR⟩ := oR.rules
    have zV := oV.lt
    have zR := oR.lt
    go_wp2
    refine bp_gen (fun W => Own W (w.heap.size + 1) 60 [.int .i64 0, .int .i64 0, .int .i64 0, .int .i64 0, .int .i64 0, .int .i64 0] ∧ Below w.heap.size w W) ⟨((((((oR).set 0 (.int .i64 0)).set 1 (.int .i64 0)).set 2 (.int .i64 0)).set 3 (.int .i64 0)).set 4 (.int .i64 0)).set 5 (.int .i64 0), ?_⟩ ?_
    · repeat (refine Below.setCell ?_ (by first | omega | (simp; done) | (simp; omega)) _)
      exact hB
    rintro wz ⟨oz, bz⟩
    obtain ⟨rz, fz⟩ := oz.rules
    clear oz
    refine bodyPost_ret (v := .tuple #[.agg #[.int .i64 0, .int .i64 0, .int .i64 0, .int .i64 0, .int .i64 0, .int .i64 0], .int .i64 8]) (by simp [results, Try.results45, go_sem, rz]) rfl ⟨by rw [HV.out], ?_⟩
    repeat (refine Below.setCell ?_ (by first | omega | (simp; done) | (simp; omega)) _)
    exact bz
  obtain ⟨_, _, _, _, n1, n2⟩ := vchk_ok hv
  by_cases a0 : by' < 0
  case pos =>
    have HV := Lib.hid (wsc_2 (b := by') hv (by omega))
    have e0 : decide (by' < 0) = true := decide_eq_true a0
    go_enter Try.func45, Try.ntmps45
    have oV := own_first w 60 [.int .i64 i, .int .i64 j, .int .i64 re, .int .i64 im, .int .i64 den, .int .i64 n] (.cells #[.int .i64 0, .int .i64 0, .int .i64 0, .int .i64 0, .int .i64 0, .int .i64 0] 60)
    have oR := own_second w 60 [.int .i64 0, .int .i64 0, .int .i64 0, .int .i64 0, .int .i64 0, .int .i64 0] (.cells #[.int .i64 i, .int .i64 j, .int .i64 re, .int .i64 im, .int .i64 den, .int .i64 n] 60)
    go_wp2_with fail
    refine (vcheck_of _ _ _ _ _ _ _ _ hv).mono ?_
    rintro e w1 ⟨rfl, hb1⟩
    replace oV := oV.below hb1
    replace oR := oR.below hb1
    have hB := below_to (ba2 _ _ _) hb1
    obtain ⟨rV, fV⟩ := oV.rules
    obtain ⟨rR, fR⟩ := oR.rules
    have zV := oV.lt
    have zR := oR.lt
    go_wp2
    refine bp_gen (fun W => Own W (w.heap.size + 1) 60 [.int .i64 0, .int .i64 0, .int .i64 0, .int .i64 0, .int .i64 0, .int .i64 0] ∧ Below w.heap.size w W) ⟨((((((oR).set 0 (.int .i64 0)).set 1 (.int .i64 0)).set 2 (.int .i64 0)).set 3 (.int .i64 0)).set 4 (.int .i64 0)).set 5 (.int .i64 0), ?_⟩ ?_
    · repeat (refine Below.setCell ?_ (by first | omega | (simp; done) | (simp; omega)) _)
      exact hB
    rintro wz ⟨oz, bz⟩
    obtain ⟨rz, fz⟩ := oz.rules
    clear oz
    refine bodyPost_ret (v := .tuple #[.agg #[.int .i64 0, .int .i64 0, .int .i64 0, .int .i64 0, .int .i64 0, .int .i64 0], .int .i64 2]) (by simp [results, Try.results45, go_sem, rz]) rfl ⟨by rw [HV.out], ?_⟩
    repeat (refine Below.setCell ?_ (by first | omega | (simp; done) | (simp; omega)) _)
    exact bz
  have e0 : decide (by' < 0) = false := decide_eq_false a0
  by_cases a1 : 1000000 < by'
  case pos =>
    have HV := Lib.hid (wsc_2 (b := by') hv (by omega))
    have e1 : decide (1000000 < by') = true := decide_eq_true a1
    go_enter Try.func45, Try.ntmps45
    have oV := own_first w 60 [.int .i64 i, .int .i64 j, .int .i64 re, .int .i64 im, .int .i64 den, .int .i64 n] (.cells #[.int .i64 0, .int .i64 0, .int .i64 0, .int .i64 0, .int .i64 0, .int .i64 0] 60)
    have oR := own_second w 60 [.int .i64 0, .int .i64 0, .int .i64 0, .int .i64 0, .int .i64 0, .int .i64 0] (.cells #[.int .i64 i, .int .i64 j, .int .i64 re, .int .i64 im, .int .i64 den, .int .i64 n] 60)
    go_wp2_with fail
    refine (vcheck_of _ _ _ _ _ _ _ _ hv).mono ?_
    rintro e w1 ⟨rfl, hb1⟩
    replace oV := oV.below hb1
    replace oR := oR.below hb1
    have hB := below_to (ba2 _ _ _) hb1
    obtain ⟨rV, fV⟩ := oV.rules
    obtain ⟨rR, fR⟩ := oR.rules
    have zV := oV.lt
    have zR := oR.lt
    go_wp2
    refine bp_gen (fun W => Own W (w.heap.size + 1) 60 [.int .i64 0, .int .i64 0, .int .i64 0, .int .i64 0, .int .i64 0, .int .i64 0] ∧ Below w.heap.size w W) ⟨((((((oR).set 0 (.int .i64 0)).set 1 (.int .i64 0)).set 2 (.int .i64 0)).set 3 (.int .i64 0)).set 4 (.int .i64 0)).set 5 (.int .i64 0), ?_⟩ ?_
    · repeat (refine Below.setCell ?_ (by first | omega | (simp; done) | (simp; omega)) _)
      exact hB
    rintro wz ⟨oz, bz⟩
    obtain ⟨rz, fz⟩ := oz.rules
    clear oz
    refine bodyPost_ret (v := .tuple #[.agg #[.int .i64 0, .int .i64 0, .int .i64 0, .int .i64 0, .int .i64 0, .int .i64 0], .int .i64 2]) (by simp [results, Try.results45, go_sem, rz]) rfl ⟨by rw [HV.out], ?_⟩
    repeat (refine Below.setCell ?_ (by first | omega | (simp; done) | (simp; omega)) _)
    exact bz
  have e1 : decide (1000000 < by') = false := decide_eq_false a1
  obtain ⟨m1, m2⟩ := mul_cnt n1 n2 (show 0 ≤ by' by omega) (show by' ≤ 1000000 by omega)
  by_cases a2 : 1000000 < n * by'
  case pos =>
    have HV := Lib.hid (wsc_16 (b := by') hv (by omega) a2)
    go_enter Try.func45, Try.ntmps45
    have oV := own_first w 60 [.int .i64 i, .int .i64 j, .int .i64 re, .int .i64 im, .int .i64 den, .int .i64 n] (.cells #[.int .i64 0, .int .i64 0, .int .i64 0, .int .i64 0, .int .i64 0, .int .i64 0] 60)
    have oR := own_second w 60 [.int .i64 0, .int .i64 0, .int .i64 0, .int .i64 0, .int .i64 0, .int .i64 0] (.cells #[.int .i64 i, .int .i64 j, .int .i64 re, .int .i64 im, .int .i64 den, .int .i64 n] 60)
    go_wp2_with fail
    refine (vcheck_of _ _ _ _ _ _ _ _ hv).mono ?_
    rintro e w1 ⟨rfl, hb1⟩
    replace oV := oV.below hb1
    replace oR := oR.below hb1
    have hB := below_to (ba2 _ _ _) hb1
    obtain ⟨rV, fV⟩ := oV.rules
    obtain ⟨rR, fR⟩ := oR.rules
    have zV := oV.lt
    have zR := oR.lt
    go_wp2
    refine bp_gen (fun W => Own W (w.heap.size + 1) 60 [.int .i64 0, .int .i64 0, .int .i64 0, .int .i64 0, .int .i64 0, .int .i64 0] ∧ Below w.heap.size w W) ⟨((((((oR).set 0 (.int .i64 0)).set 1 (.int .i64 0)).set 2 (.int .i64 0)).set 3 (.int .i64 0)).set 4 (.int .i64 0)).set 5 (.int .i64 0), ?_⟩ ?_
    · repeat (refine Below.setCell ?_ (by first | omega | (simp; done) | (simp; omega)) _)
      exact hB
    rintro wz ⟨oz, bz⟩
    obtain ⟨rz, fz⟩ := oz.rules
    clear oz
    refine bodyPost_ret (v := .tuple #[.agg #[.int .i64 0, .int .i64 0, .int .i64 0, .int .i64 0, .int .i64 0, .int .i64 0], .int .i64 16]) (by simp [results, Try.results45, go_sem, rz]) rfl ⟨by rw [HV.out], ?_⟩
    repeat (refine Below.setCell ?_ (by first | omega | (simp; done) | (simp; omega)) _)
    exact bz
  have HV := Lib.hid (wsc_0 (b := by') hv (by omega) a2)
  go_enter Try.func45, Try.ntmps45
  have oV := own_first w 60 [.int .i64 i, .int .i64 j, .int .i64 re, .int .i64 im, .int .i64 den, .int .i64 n] (.cells #[.int .i64 0, .int .i64 0, .int .i64 0, .int .i64 0, .int .i64 0, .int .i64 0] 60)
  have oR := own_second w 60 [.int .i64 0, .int .i64 0, .int .i64 0, .int .i64 0, .int .i64 0, .int .i64 0] (.cells #[.int .i64 i, .int .i64 j, .int .i64 re, .int .i64 im, .int .i64 den, .int .i64 n] 60)
  go_wp2_with fail
  refine (vcheck_of _ _ _ _ _ _ _ _ hv).mono ?_
  rintro e w1 ⟨rfl, hb1⟩
  replace oV := oV.below hb1
  replace oR := oR.below hb1
  have hB := below_to (ba2 _ _ _) hb1
  obtain ⟨rV, fV⟩ := oV.rules
  obtain ⟨rR, fR⟩ := oR.rules
  have zV := oV.lt
  have zR := oR.lt
  go_upto_region 9 with fail
  clear rV fV rR fR
  have oV2 : Own (w1.setCell ⟨w.heap.size, 5, none⟩ (.int .i64 (n * by'))) w.heap.size 60 [.int .i64 i, .int .i64 j, .int .i64 re, .int .i64 im, .int .i64 den, .int .i64 (n * by')] := oV.set 5 (.int .i64 (n * by'))
  have oR2 := oR.other (g' := w.heap.size) (by omega) 5 (.int .i64 (n * by'))
  have hB2 := hB.setCell (p := ⟨w.heap.size, 5, none⟩) (Nat.le_refl _) (.int .i64 (n * by'))
  clear oV oR hB zV zR
  generalize w1.setCell ⟨w.heap.size, 5, none⟩ (.int .i64 (n * by')) = wy at *
  obtain ⟨rV, fV⟩ := oV2.rules
  obtain ⟨rR, fR⟩ := oR2.rules
  have zV := oV2.lt
  have zR := oR2.lt
  go_wp2
  refine bp_gen (fun W => Own W (w.heap.size + 1) 60 [.int .i64 i, .int .i64 j, .int .i64 re, .int .i64 im, .int .i64 den, .int .i64 (n * by')] ∧ Below w.heap.size w W) ⟨((((((oR2).set 0 (.int .i64 i)).set 1 (.int .i64 j)).set 2 (.int .i64 re)).set 3 (.int .i64 im)).set 4 (.int .i64 den)).set 5 (.int .i64 (n * by')), ?_⟩ ?_
  · repeat (refine Below.setCell ?_ (by first | omega | (simp; done) | (simp; omega)) _)
    exact hB2
  rintro wz ⟨oz, bz⟩
  obtain ⟨rz, fz⟩ := oz.rules
  clear oz
  refine bodyPost_ret (v := .tuple #[.agg #[.int .i64 i, .int .i64 j, .int .i64 re, .int .i64 im, .int .i64 den, .int .i64 (n * by')], .int .i64 0]) (by simp [results, Try.results45, go_sem, rz]) rfl ⟨by rw [HV.out], ?_⟩
  repeat (refine Below.setCell ?_ (by first | omega | (simp; done) | (simp; omega)) _)
  exact bz
end Go.Proofs.Ytpjhiojdnebgoaa

/- What is proved here: the contract of weight.Parts, and those of the reference's Real, Imaginary, Parts and Scale. Condition: the numbers are 64-bit integers. -/
namespace Go.Proofs.Ytpjhiojdnebgoaa
open Go.RowKit

/-- A part of a visibility: 0 if that is not valid. -/
def wpt (i j re im den n x : Int) : FR := if vchk i j re im den n = 0 then fmk x den else ⟨0, 0, 0⟩
theorem wpt_0 {i j re im den n x : Int} (h : vchk i j re im den n = 0) : wpt i j re im den n x = fmk x den := if_pos h
theorem wpt_8 {i j re im den n x : Int} (h : vchk i j re im den n = 8) : wpt i j re im den n x = ⟨0, 0, 0⟩ := if_neg (by rw [h]; decide)

set_option maxRecDepth 100000 in
set_option maxHeartbeats 16000000 in
theorem vparts_any (i j re im den n : Int) (w : World) :
    Calls Try.prog 41 #[.agg #[.int .i64 i, .int .i64 j, .int .i64 re, .int .i64 im, .int .i64 den, .int .i64 n]] w fun e w' =>
      e = .returned (.tuple #[.agg #[.int .i64 (wpt i j re im den n re).n, .int .i64 (wpt i j re im den n re).d], .agg #[.int .i64 (wpt i j re im den n im).n, .int .i64 (wpt i j re im den n im).d], .int .i64 (vchk i j re im den n)]) ∧ Below w.heap.size w w' := by
  rcases vchk_cases i j re im den n with hv | hv
  case inr =>
    have HV1 := Lib.hid (wpt_8 (x := re) hv)
    have HV2 := Lib.hid (wpt_8 (x := im) hv)
    go_enter Try.func41, Try.ntmps41
    have oV := (own_first w 60 [.int .i64 i, .int .i64 j, .int .i64 re, .int .i64 im, .int .i64 den, .int .i64 n] (.cells #[.int .i64 0, .int .i64 0] 24)).alloc (.cells #[.int .i64 0, .int .i64 0] 24)
    have oP := (own_second w 24 [.int .i64 0, .int .i64 0] (.cells #[.int .i64 i, .int .i64 j, .int .i64 re, .int .i64 im, .int .i64 den, .int .i64 n] 60)).alloc (.cells #[.int .i64 0, .int .i64 0] 24)
    have oQ := own_third w 24 [.int .i64 0, .int .i64 0] (.cells #[.int .i64 i, .int .i64 j, .int .i64 re, .int .i64 im, .int .i64 den, .int .i64 n] 60) (.cells #[.int .i64 0, .int .i64 0] 24)
    go_wp2_with fail
    refine (vcheck_of _ _ _ _ _ _ _ _ hv).mono ?_
    rintro e w1 ⟨rfl, hb1⟩
    replace oV := oV.below hb1
    replace oP := oP.below hb1
    replace oQ := oQ.below hb1
    have hB := below_to (ba3 _ _ _ _) hb1
    clear hb1
    obtain ⟨rV, fV⟩ := oV.rules
    obtain ⟨rP, fP⟩ := oP.rules
    obtain ⟨rQ, fQ⟩ := oQ.rules
    have zV := oV.lt
    have zP := oP.lt
    have zQ := oQ.lt
    go_wp2
    refine bp_gen (fun W => Own W (w.heap.size + 1) 24 [.int .i64 0, .int .i64 0] ∧ Own W (w.heap.size + 1 + 1) 24 [.int .i64 0, .int .i64 0] ∧ Below w.heap.size w W) ⟨((((oP).set 0 (.int .i64 0)).set 1 (.int .i64 0)).other (by omega) 0 (.int .i64 0)).other (by omega) 1 (.int .i64 0), ((((oQ).other (by omega) 0 (.int .i64 0)).other (by omega) 1 (.int .i64 0)).set 0 (.int .i64 0)).set 1 (.int .i64 0), ?_⟩ ?_
    · repeat (refine Below.setCell ?_ (by first | omega | (simp; done) | (simp; omega)) _)
      exact hB
    rintro wz ⟨op, oq, bz⟩
    obtain ⟨rp, fp⟩ := op.rules
    obtain ⟨rq, fq⟩ := oq.rules
    clear op oq
    refine bodyPost_ret (v := .tuple #[.agg #[.int .i64 0, .int .i64 0], .agg #[.int .i64 0, .int .i64 0], .int .i64 8]) (by simp [results, Try.results41, go_sem, rp, rq]) rfl ⟨by rw [HV1.out, HV2.out, hv], ?_⟩
    repeat (refine Below.setCell ?_ (by first | omega | (simp; done) | (simp; omega)) _)
    exact bz
  obtain ⟨_, _, _, hcok, _, _⟩ := vchk_ok hv
  obtain ⟨d1, d2, r1, r2, i1, i2⟩ := cok_fit hcok
  obtain ⟨ke, _, _⟩ := fmk_ok (num := re) (den := den) d1 (by omega) (by omega) (by omega)
  obtain ⟨le, _, _⟩ := fmk_ok (num := im) (den := den) d1 (by omega) (by omega) (by omega)
  have HV1 := Lib.hid (wpt_0 (x := re) hv)
  have HV2 := Lib.hid (wpt_0 (x := im) hv)
  have Hv := Lib.hid hv
  go_enter Try.func41, Try.ntmps41
  have oV := (own_first w 60 [.int .i64 i, .int .i64 j, .int .i64 re, .int .i64 im, .int .i64 den, .int .i64 n] (.cells #[.int .i64 0, .int .i64 0] 24)).alloc (.cells #[.int .i64 0, .int .i64 0] 24)
  have oP := (own_second w 24 [.int .i64 0, .int .i64 0] (.cells #[.int .i64 i, .int .i64 j, .int .i64 re, .int .i64 im, .int .i64 den, .int .i64 n] 60)).alloc (.cells #[.int .i64 0, .int .i64 0] 24)
  have oQ := own_third w 24 [.int .i64 0, .int .i64 0] (.cells #[.int .i64 i, .int .i64 j, .int .i64 re, .int .i64 im, .int .i64 den, .int .i64 n] 60) (.cells #[.int .i64 0, .int .i64 0] 24)
  go_wp2_with fail
  refine (vcheck_of _ _ _ _ _ _ _ _ hv).mono ?_
  rintro e w1 ⟨rfl, hb1⟩
  replace oV := oV.below hb1
  replace oP := oP.below hb1
  replace oQ := oQ.below hb1
  have hB := below_to (ba3 _ _ _ _) hb1
  clear hb1
  obtain ⟨rV, fV⟩ := oV.rules
  obtain ⟨rP, fP⟩ := oP.rules
  obtain ⟨rQ, fQ⟩ := oQ.rules
  have zV := oV.lt
  have zP := oP.lt
  have zQ := oQ.lt
  go_wp2_with fail
  refine (make_any re den _ ⟨by omega, by omega⟩ ⟨by omega, by omega⟩).mono ?_
  rintro e w2 ⟨rfl, hb2⟩
  rw [ke]
  generalize hka : (fmk re den).n = a at *
  generalize hkb : (fmk re den).d = b at *
  have KA := Lib.hid hka
  have KB := Lib.hid hkb
  clear hka hkb
  clear rV fV zV rP fP zP rQ fQ zQ
  replace oV := oV.below hb2
  replace oP := oP.below hb2
  replace oQ := oQ.below hb2
  replace hB := below_to hB hb2
  clear hb2
  obtain ⟨rV, fV⟩ := oV.rules
  obtain ⟨rP, fP⟩ := oP.rules
  obtain ⟨rQ, fQ⟩ := oQ.rules
  have zV := oV.lt
  have zP := oP.lt
  have zQ := oQ.lt
  go_upto_region 5 with fail
  clear rV fV zV rP fP zP rQ fQ zQ
  replace oV := ((oV).other (g' := w.heap.size + 1) (by omega) 0 (.int .i64 a)).other (g' := w.heap.size + 1) (by omega) 1 (.int .i64 b)
  replace oP := ((oP).set 0 (.int .i64 a)).set 1 (.int .i64 b)
  replace oQ := ((oQ).other (g' := w.heap.size + 1) (by omega) 0 (.int .i64 a)).other (g' := w.heap.size + 1) (by omega) 1 (.int .i64 b)
  replace hB := ((hB).setCell (p := ⟨w.heap.size + 1, 0, none⟩) (by first | (simp; done) | (simp; omega)) (.int .i64 a)).setCell (p := ⟨w.heap.size + 1, 1, none⟩) (by first | (simp; done) | (simp; omega)) (.int .i64 b)
  generalize ((w2.setCell ⟨w.heap.size + 1, 0, none⟩ (.int .i64 a)).setCell ⟨w.heap.size + 1, 1, none⟩ (.int .i64 b)) = y1 at *
  obtain ⟨rV, fV⟩ := oV.rules
  obtain ⟨rP, fP⟩ := oP.rules
  obtain ⟨rQ, fQ⟩ := oQ.rules
  have zV := oV.lt
  have zP := oP.lt
  have zQ := oQ.lt
  go_wp2_with fail
  refine (make_any im den _ ⟨by omega, by omega⟩ ⟨by omega, by omega⟩).mono ?_
  rintro e w3 ⟨rfl, hb3⟩
  rw [le]
  generalize hka : (fmk im den).n = a' at *
  generalize hkb : (fmk im den).d = b' at *
  have KA' := Lib.hid hka
  have KB' := Lib.hid hkb
  clear hka hkb
  clear rV fV zV rP fP zP rQ fQ zQ
  replace oV := oV.below hb3
  replace oP := oP.below hb3
  replace oQ := oQ.below hb3
  replace hB := below_to hB hb3
  clear hb3
  obtain ⟨rV, fV⟩ := oV.rules
  obtain ⟨rP, fP⟩ := oP.rules
  obtain ⟨rQ, fQ⟩ := oQ.rules
  have zV := oV.lt
  have zP := oP.lt
  have zQ := oQ.lt
  go_upto_region 8 with fail
  clear rV fV zV rP fP zP rQ fQ zQ
  replace oV := ((oV).other (g' := w.heap.size + 1 + 1) (by omega) 0 (.int .i64 a')).other (g' := w.heap.size + 1 + 1) (by omega) 1 (.int .i64 b')
  replace oP := ((oP).other (g' := w.heap.size + 1 + 1) (by omega) 0 (.int .i64 a')).other (g' := w.heap.size + 1 + 1) (by omega) 1 (.int .i64 b')
  replace oQ := ((oQ).set 0 (.int .i64 a')).set 1 (.int .i64 b')
  replace hB := ((hB).setCell (p := ⟨w.heap.size + 1 + 1, 0, none⟩) (by first | (simp; done) | (simp; omega)) (.int .i64 a')).setCell (p := ⟨w.heap.size + 1 + 1, 1, none⟩) (by first | (simp; done) | (simp; omega)) (.int .i64 b')
  generalize ((w3.setCell ⟨w.heap.size + 1 + 1, 0, none⟩ (.int .i64 a')).setCell ⟨w.heap.size + 1 + 1, 1, none⟩ (.int .i64 b')) = y2 at *
  obtain ⟨rV, fV⟩ := oV.rules
  obtain ⟨rP, fP⟩ := oP.rules
  obtain ⟨rQ, fQ⟩ := oQ.rules
  have zV := oV.lt
  have zP := oP.lt
  have zQ := oQ.lt
  go_wp2
  go_region
  clear rV fV zV rP fP zP rQ fQ zQ
  replace oV := ((oV).other (g' := w.heap.size + 1) (by omega) 0 (.int .i64 a)).other (g' := w.heap.size + 1) (by omega) 1 (.int .i64 b)
  replace oP := ((oP).set 0 (.int .i64 a)).set 1 (.int .i64 b)
  replace oQ := ((oQ).other (g' := w.heap.size + 1) (by omega) 0 (.int .i64 a)).other (g' := w.heap.size + 1) (by omega) 1 (.int .i64 b)
  replace hB := ((hB).setCell (p := ⟨w.heap.size + 1, 0, none⟩) (by first | (simp; done) | (simp; omega)) (.int .i64 a)).setCell (p := ⟨w.heap.size + 1, 1, none⟩) (by first | (simp; done) | (simp; omega)) (.int .i64 b)
  replace oV := ((oV).other (g' := w.heap.size + 1 + 1) (by omega) 0 (.int .i64 a')).other (g' := w.heap.size + 1 + 1) (by omega) 1 (.int .i64 b')
  replace oP := ((oP).other (g' := w.heap.size + 1 + 1) (by omega) 0 (.int .i64 a')).other (g' := w.heap.size + 1 + 1) (by omega) 1 (.int .i64 b')
  replace oQ := ((oQ).set 0 (.int .i64 a')).set 1 (.int .i64 b')
  replace hB := ((hB).setCell (p := ⟨w.heap.size + 1 + 1, 0, none⟩) (by first | (simp; done) | (simp; omega)) (.int .i64 a')).setCell (p := ⟨w.heap.size + 1 + 1, 1, none⟩) (by first | (simp; done) | (simp; omega)) (.int .i64 b')
  replace oV := oV.drew
  replace oP := oP.drew
  replace oQ := oQ.drew
  replace hB := hB.drew
  generalize (((((y2.setCell ⟨w.heap.size + 1, 0, none⟩ (.int .i64 a)).setCell ⟨w.heap.size + 1, 1, none⟩ (.int .i64 b)).setCell ⟨w.heap.size + 1 + 1, 0, none⟩ (.int .i64 a')).setCell ⟨w.heap.size + 1 + 1, 1, none⟩ (.int .i64 b'))).drew = y3 at *
  go_wp2
  obtain ⟨rP, fP⟩ := oP.rules
  obtain ⟨rQ, fQ⟩ := oQ.rules
  refine bodyPost_ret (v := .tuple #[.agg #[.int .i64 a, .int .i64 b], .agg #[.int .i64 a', .int .i64 b'], .int .i64 0]) (by simp [results, Try.results41, go_sem, rP, rQ]) rfl ⟨by rw [HV1.out, HV2.out, Hv.out, KA.out, KB.out, KA'.out, KB'.out], ?_⟩
  repeat (refine Below.setCell ?_ (by first | omega | (simp; done) | (simp; omega)) _)
  exact hB

set_option maxHeartbeats 1600000 in
theorem real_any (re im den : Int) (w : World) (h1 : i64 re) (h2 : i64 den) :
    Calls Try.prog 74 #[.agg #[.int .i64 re, .int .i64 im, .int .i64 den]] w fun e w' => e = .returned (.agg #[.int .i64 (fmk re den).n, .int .i64 (fmk re den).d]) ∧ Below w.heap.size w w' := by
  go_enter Try.func74, Try.ntmps74
  have oR := own_second w 24 [.int .i64 0, .int .i64 0] (.cells #[.int .i64 re, .int .i64 im, .int .i64 den] 58)
  go_wp2_with fail
  refine (rmake_any re den _ h1 h2).mono ?_
  rintro e w1 ⟨rfl, hb1⟩
  generalize hka : (fmk re den).n = a at *
  generalize hkb : (fmk re den).d = b at *
  generalize hke : (fmk re den).e = c at *
  have KA := Lib.hid hka
  have KB := Lib.hid hkb
  clear hka hkb hke
  replace oR := oR.below hb1
  have hB := below_to (ba2 _ _ _) hb1
  clear hb1
  go_upto_region 2 with fail
  have oX := Own.new w1 24 [.int .i64 a, .int .i64 b]
  replace oR := oR.alloc (.cells #[.int .i64 a, .int .i64 b] 24)
  replace hB := below_to hB (ba1 w1 (.cells #[.int .i64 a, .int .i64 b] 24))
  generalize hkx : w1.heap.size = kx at oX ⊢
  clear hkx
  generalize w1.alloc (.cells #[.int .i64 a, .int .i64 b] 24) = y1 at *
  obtain ⟨rX, fX⟩ := oX.rules
  obtain ⟨rR, fR⟩ := oR.rules
  have zX := oX.lt
  have zR := oR.lt
  go_wp2
  refine bp_gen (fun W => Own W (w.heap.size + 1) 24 [.int .i64 a, .int .i64 b] ∧ Below w.heap.size w W) ⟨(oR.set 0 (.int .i64 a)).set 1 (.int .i64 b), ?_⟩ ?_
  · repeat (refine Below.setCell ?_ (by first | omega | (simp; done) | (simp; omega)) _)
    exact hB
  rintro wz ⟨oz, bz⟩
  obtain ⟨rz, fz⟩ := oz.rules
  clear oz
  refine bodyPost_ret (v := .agg #[.int .i64 a, .int .i64 b]) (by simp [results, Try.results74, go_sem, rz]) rfl ⟨by rw [KA.out, KB.out], ?_⟩
  repeat (refine Below.setCell ?_ (by first | omega | (simp; done) | (simp; omega)) _)
  exact bz

set_option maxHeartbeats 1600000 in
theorem imag_any (re im den : Int) (w : World) (h1 : i64 im) (h2 : i64 den) :
    Calls Try.prog 75 #[.agg #[.int .i64 re, .int .i64 im, .int .i64 den]] w fun e w' => e = .returned (.agg #[.int .i64 (fmk im den).n, .int .i64 (fmk im den).d]) ∧ Below w.heap.size w w' := by
  go_enter Try.func75, Try.ntmps75
  have oR := own_second w 24 [.int .i64 0, .int .i64 0] (.cells #[.int .i64 re, .int .i64 im, .int .i64 den] 58)
  go_wp2_with fail
  refine (rmake_any im den _ h1 h2).mono ?_
  rintro e w1 ⟨rfl, hb1⟩
  generalize hka : (fmk im den).n = a at *
  generalize hkb : (fmk im den).d = b at *
  generalize hke : (fmk im den).e = c at *
  have KA := Lib.hid hka
  have KB := Lib.hid hkb
  clear hka hkb hke
  replace oR := oR.below hb1
  have hB := below_to (ba2 _ _ _) hb1
  clear hb1
  go_upto_region 2 with fail
  have oX := Own.new w1 24 [.int .i64 a, .int .i64 b]
  replace oR := oR.alloc (.cells #[.int .i64 a, .int .i64 b] 24)
  replace hB := below_to hB (ba1 w1 (.cells #[.int .i64 a, .int .i64 b] 24))
  generalize hkx : w1.heap.size = kx at oX ⊢
  clear hkx
  generalize w1.alloc (.cells #[.int .i64 a, .int .i64 b] 24) = y1 at *
  obtain ⟨rX, fX⟩ := oX.rules
  obtain ⟨rR, fR⟩ := oR.rules
  have zX := oX.lt
  have zR := oR.lt
  go_wp2
  refine bp_gen (fun W => Own W (w.heap.size + 1) 24 [.int .i64 a, .int .i64 b] ∧ Below w.heap.size w W) ⟨(oR.set 0 (.int .i64 a)).set 1 (.int .i64 b), ?_⟩ ?_
  · repeat (refine Below.setCell ?_ (by first | omega | (simp; done) | (simp; omega)) _)
    exact hB
  rintro wz ⟨oz, bz⟩
  obtain ⟨rz, fz⟩ := oz.rules
  clear oz
  refine bodyPost_ret (v := .agg #[.int .i64 a, .int .i64 b]) (by simp [results, Try.results75, go_sem, rz]) rfl ⟨by rw [KA.out, KB.out], ?_⟩
  repeat (refine Below.setCell ?_ (by first | omega | (simp; done) | (simp; omega)) _)
  exact bz

theorem rvcheck_of (i j re im den n e : Int) (w : World) (h : vchk i j re im den n = e) : Calls Try.prog 43 #[.agg #[.int .i64 i, .int .i64 j, .int .i64 re, .int .i64 im, .int .i64 den, .int .i64 n]] w fun r w' => r = .returned (.int .i64 e) ∧ Below w.heap.size w w' := by
  subst h; exact rvcheck_any i j re im den n w
end Go.Proofs.Ytpjhiojdnebgoaa
