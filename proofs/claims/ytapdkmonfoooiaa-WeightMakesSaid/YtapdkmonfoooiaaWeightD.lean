/- What is proved here: the contract of weight.Make. Condition: the numbers are 64-bit integers. -/
import Derived.Test.YtapdkmonfoooiaaWeightC
import Derived.Deep.DeepCutAuto
import Derived.RegionTactic
import Derived.ChangeAlike
import Derived.BigRegion
namespace Go.Proofs.Ytapdkmonfoooiaa
open Go.RowKit

theorem bp_gen {P : Program} {f : Func} {Q : Ending → World → Prop} {ex : Exit} {a : Act} {w : World} (F : World → Prop) (hF : F w) (h : ∀ W, F W → bodyPost P f Q ex a W) : bodyPost P f Q ex a w := h w hF
theorem check_of (n d e : Int) (w : World) (h1 : i64 n) (h2 : i64 d) (h : fchk n d = e) :
    Calls Try.prog 28 #[.agg #[.int .i64 n, .int .i64 d]] w fun r w' => r = .returned (.int .i64 e) ∧ Below w.heap.size w w' := by
  subst h; exact check_any n d w h1 h2
theorem fchk_cases (n d : Int) : fchk n d = 0 ∨ fchk n d = 8 := by
  unfold fchk; split
  · exact .inl rfl
  · exact .inr rfl
theorem wmk_2 {i j rn rd m d n : Int} (h : wbad i j n = true) : wmk i j rn rd m d n = ⟨0, 0, 0, 0, 0, 0, 2⟩ := by unfold wmk; rw [if_pos h]
theorem wmk_8 {i j rn rd m d n : Int} (h : wbad i j n = false) (h2 : ¬ (fchk rn rd = 0 ∧ fchk m d = 0)) : wmk i j rn rd m d n = ⟨0, 0, 0, 0, 0, 0, 8⟩ := by unfold wmk; rw [if_neg (by rw [h]; decide), if_pos h2]
theorem wmk_16 {i j rn rd m d n : Int} (h : wbad i j n = false) (h2 : fchk rn rd = 0) (h3 : fchk m d = 0) (h4 : wok rn rd m d = false) : wmk i j rn rd m d n = ⟨0, 0, 0, 0, 0, 0, 16⟩ := by unfold wmk; rw [if_neg (by rw [h]; decide), if_neg (by rw [h2, h3]; simp), if_pos h4]
theorem wmk_gt {i j rn rd m d n : Int} (h : wbad i j n = false) (h2 : fchk rn rd = 0) (h3 : fchk m d = 0) (h4 : wok rn rd m d = true) (h5 : j < i) : wmk i j rn rd m d n = ⟨j, i, (wval rn rd m d).re, -(wval rn rd m d).im, (wval rn rd m d).den, n, 0⟩ := by unfold wmk; rw [if_neg (by rw [h]; decide), if_neg (by rw [h2, h3]; simp), if_neg (by rw [h4]; decide), if_pos h5]
theorem wmk_le {i j rn rd m d n : Int} (h : wbad i j n = false) (h2 : fchk rn rd = 0) (h3 : fchk m d = 0) (h4 : wok rn rd m d = true) (h5 : ¬ j < i) : wmk i j rn rd m d n = ⟨i, j, (wval rn rd m d).re, (wval rn rd m d).im, (wval rn rd m d).den, n, 0⟩ := by unfold wmk; rw [if_neg (by rw [h]; decide), if_neg (by rw [h2, h3]; simp), if_neg (by rw [h4]; decide), if_neg h5]
theorem wval_bd {rn rd m d : Int} (h : wok rn rd m d = true) : CFit (wval rn rd m d).re (wval rn rd m d).im (wval rn rd m d).den := by
  rw [wval_1 h]; exact cok_fit (wok_yes h).2.2

set_option maxRecDepth 100000 in
set_option maxHeartbeats 16000000 in
theorem vmake_any (i j rn rd m d n : Int) (w : World) (h1 : i64 rn) (h2 : i64 rd) (h3 : i64 m) (h4 : i64 d) :
    Calls Try.prog 9 #[.int .i64 i, .int .i64 j, .agg #[.int .i64 rn, .int .i64 rd], .agg #[.int .i64 m, .int .i64 d], .int .i64 n] w fun e w' =>
      e = .returned (.tuple #[.agg #[.int .i64 (wmk i j rn rd m d n).i, .int .i64 (wmk i j rn rd m d n).j, .int .i64 (wmk i j rn rd m d n).re, .int .i64 (wmk i j rn rd m d n).im, .int .i64 (wmk i j rn rd m d n).den, .int .i64 (wmk i j rn rd m d n).n], .int .i64 (wmk i j rn rd m d n).e]) ∧ Below w.heap.size w w' := by
  by_cases a0 : i < 0
  case pos =>
    have HV : Hid (wmk i j rn rd m d n = _) := wmk_2 (by unfold wbad; simp [a0])
    have e0 : decide (i < 0) = true := decide_eq_true a0
    go_enter Try.func9, Try.ntmps9
    go_wp2
    refine bodyPost_ret (v := .tuple #[.agg #[.int .i64 0, .int .i64 0, .int .i64 0, .int .i64 0, .int .i64 0, .int .i64 0], .int .i64 2]) (by simp [results, Try.results9, go_sem]) rfl ⟨by rw [HV.out], ?_⟩
    repeat (refine Below.setCell ?_ (by first | omega | (simp; done) | (simp; omega)) _)
    exact ba3 _ _ _ _
  have e0 : decide (i < 0) = false := decide_eq_false a0
  by_cases a1 : 8 ≤ i
  case pos =>
    have HV : Hid (wmk i j rn rd m d n = _) := wmk_2 (by unfold wbad; simp [a1])
    have e1 : decide (8 ≤ i) = true := decide_eq_true a1
    go_enter Try.func9, Try.ntmps9
    go_wp2
    refine bodyPost_ret (v := .tuple #[.agg #[.int .i64 0, .int .i64 0, .int .i64 0, .int .i64 0, .int .i64 0, .int .i64 0], .int .i64 2]) (by simp [results, Try.results9, go_sem]) rfl ⟨by rw [HV.out], ?_⟩
    repeat (refine Below.setCell ?_ (by first | omega | (simp; done) | (simp; omega)) _)
    exact ba3 _ _ _ _
  have e1 : decide (8 ≤ i) = false := decide_eq_false a1
  by_cases a2 : j < 0
  case pos =>
    have HV : Hid (wmk i j rn rd m d n = _) := wmk_2 (by unfold wbad; simp [a2])
    have e2 : decide (j < 0) = true := decide_eq_true a2
    go_enter Try.func9, Try.ntmps9
    go_wp2
    refine bodyPost_ret (v := .tuple #[.agg #[.int .i64 0, .int .i64 0, .int .i64 0, .int .i64 0, .int .i64 0, .int .i64 0], .int .i64 2]) (by simp [results, Try.results9, go_sem]) rfl ⟨by rw [HV.out], ?_⟩
    repeat (refine Below.setCell ?_ (by first | omega | (simp; done) | (simp; omega)) _)
    exact ba3 _ _ _ _
  have e2 : decide (j < 0) = false := decide_eq_false a2
  by_cases a3 : 8 ≤ j
  case pos =>
    have HV : Hid (wmk i j rn rd m d n = _) := wmk_2 (by unfold wbad; simp [a3])
    have e3 : decide (8 ≤ j) = true := decide_eq_true a3
    go_enter Try.func9, Try.ntmps9
    go_wp2
    refine bodyPost_ret (v := .tuple #[.agg #[.int .i64 0, .int .i64 0, .int .i64 0, .int .i64 0, .int .i64 0, .int .i64 0], .int .i64 2]) (by simp [results, Try.results9, go_sem]) rfl ⟨by rw [HV.out], ?_⟩
    repeat (refine Below.setCell ?_ (by first | omega | (simp; done) | (simp; omega)) _)
    exact ba3 _ _ _ _
  have e3 : decide (8 ≤ j) = false := decide_eq_false a3
  by_cases a4 : i = j
  case pos =>
    have HV : Hid (wmk i j rn rd m d n = _) := wmk_2 (by unfold wbad; simp [a4])
    have e4 : (i == j) = true := by simpa using a4
    clear a4
    go_enter Try.func9, Try.ntmps9
    go_wp2
    refine bodyPost_ret (v := .tuple #[.agg #[.int .i64 0, .int .i64 0, .int .i64 0, .int .i64 0, .int .i64 0, .int .i64 0], .int .i64 2]) (by simp [results, Try.results9, go_sem]) rfl ⟨by rw [HV.out], ?_⟩
    repeat (refine Below.setCell ?_ (by first | omega | (simp; done) | (simp; omega)) _)
    exact ba3 _ _ _ _
  have e4 : (i == j) = false := by simpa using a4
  cases h5 : cntB n with
  | false =>
    have f5 := cnt_0 h5
    have HV : Hid (wmk i j rn rd m d n = _) := wmk_2 (by unfold wbad; simp; omega)
    go_enter Try.func9, Try.ntmps9
    go_wp2_with fail
    refine (isWeight_of _ _ _ h5).mono ?_
    rintro e _ ⟨rfl, rfl⟩
    go_wp2
    refine bodyPost_ret (v := .tuple #[.agg #[.int .i64 0, .int .i64 0, .int .i64 0, .int .i64 0, .int .i64 0, .int .i64 0], .int .i64 2]) (by simp [results, Try.results9, go_sem]) rfl ⟨by rw [HV.out], ?_⟩
    repeat (refine Below.setCell ?_ (by first | omega | (simp; done) | (simp; omega)) _)
    exact ba3 _ _ _ _
  | true =>
    have f5 := cnt_1 h5
    have hb : wbad i j n = false := by unfold wbad; simp; omega
    rcases fchk_cases rn rd with g1 | g1
    case inr =>
      have HV : Hid (wmk i j rn rd m d n = _) := wmk_8 hb (by rw [g1]; simp)
      go_enter Try.func9, Try.ntmps9
      go_wp2_with fail
      refine (isWeight_of _ _ _ h5).mono ?_
      rintro e _ ⟨rfl, rfl⟩
      go_wp2_with fail
      refine (check_of _ _ _ _ h1 h2 g1).mono ?_
      rintro e w1 ⟨rfl, hb1⟩
      obtain ⟨c1, f1⟩ := bcell hb1
      have z1 := (hb1).size
      try simp at z1
      try simp at c1
      try simp at f1
      have z1a : w.heap.size < w1.heap.size := by omega
      have z1b : w.heap.size + 1 < w1.heap.size := by omega
      have z1c : w.heap.size + 1 + 1 < w1.heap.size := by omega
      go_wp2
      refine bodyPost_ret (v := .tuple #[.agg #[.int .i64 0, .int .i64 0, .int .i64 0, .int .i64 0, .int .i64 0, .int .i64 0], .int .i64 8]) (by simp [results, Try.results9, go_sem, c1, z1c]) rfl ⟨by rw [HV.out], ?_⟩
      repeat (refine Below.setCell ?_ (by first | omega | (simp; done) | (simp; omega)) _)
      exact below_to (ba3 _ _ _ _) hb1
    rcases fchk_cases m d with g2 | g2
    case inr =>
      have HV : Hid (wmk i j rn rd m d n = _) := wmk_8 hb (by rw [g2]; simp)
      go_enter Try.func9, Try.ntmps9
      go_wp2_with fail
      refine (isWeight_of _ _ _ h5).mono ?_
      rintro e _ ⟨rfl, rfl⟩
      go_wp2_with fail
      refine (check_of _ _ _ _ h1 h2 g1).mono ?_
      rintro e w1 ⟨rfl, hb1⟩
      obtain ⟨c1, f1⟩ := bcell hb1
      have z1 := (hb1).size
      try simp at z1
      try simp at c1
      try simp at f1
      have z1a : w.heap.size < w1.heap.size := by omega
      have z1b : w.heap.size + 1 < w1.heap.size := by omega
      have z1c : w.heap.size + 1 + 1 < w1.heap.size := by omega
      go_wp2_with fail
      refine (check_of _ _ _ _ h3 h4 g2).mono ?_
      rintro e w2 ⟨rfl, hb2⟩
      obtain ⟨c2, f2⟩ := bcell hb2
      have z2 := (hb2).size
      try simp at z2
      try simp at c2
      try simp at f2
      have z2a : w.heap.size < w2.heap.size := by omega
      have z2b : w.heap.size + 1 < w2.heap.size := by omega
      have z2c : w.heap.size + 1 + 1 < w2.heap.size := by omega
      go_wp2
      refine bodyPost_ret (v := .tuple #[.agg #[.int .i64 0, .int .i64 0, .int .i64 0, .int .i64 0, .int .i64 0, .int .i64 0], .int .i64 8]) (by simp [results, Try.results9, go_sem, c1, c2, z1c]) rfl ⟨by rw [HV.out], ?_⟩
      repeat (refine Below.setCell ?_ (by first | omega | (simp; done) | (simp; omega)) _)
      exact below_to (below_to (ba3 _ _ _ _) hb1) hb2
    cases hw : wok rn rd m d with
    | false =>
      have HV : Hid (wmk i j rn rd m d n = _) := wmk_16 hb g1 g2 hw
      go_enter Try.func9, Try.ntmps9
      have oR := own_third w 27 [.int .i64 0, .int .i64 0, .int .i64 0, .int .i64 0, .int .i64 0, .int .i64 0] (.cells #[.int .i64 rn, .int .i64 rd] 23) (.cells #[.int .i64 m, .int .i64 d] 23)
      go_wp2_with fail
      refine (isWeight_of _ _ _ h5).mono ?_
      rintro e _ ⟨rfl, rfl⟩
      go_wp2_with fail
      refine (check_of _ _ _ _ h1 h2 g1).mono ?_
      rintro e w1 ⟨rfl, hb1⟩
      obtain ⟨c1, f1⟩ := bcell hb1
      have z1 := (hb1).size
      try simp at z1
      try simp at c1
      try simp at f1
      have z1a : w.heap.size < w1.heap.size := by omega
      have z1b : w.heap.size + 1 < w1.heap.size := by omega
      have z1c : w.heap.size + 1 + 1 < w1.heap.size := by omega
      replace oR := oR.below hb1
      go_wp2_with fail
      refine (check_of _ _ _ _ h3 h4 g2).mono ?_
      rintro e w2 ⟨rfl, hb2⟩
      obtain ⟨c2, f2⟩ := bcell hb2
      have z2 := (hb2).size
      try simp at z2
      try simp at c2
      try simp at f2
      have z2a : w.heap.size < w2.heap.size := by omega
      have z2b : w.heap.size + 1 < w2.heap.size := by omega
      have z2c : w.heap.size + 1 + 1 < w2.heap.size := by omega
      replace oR := oR.below hb2
      go_wp2_with fail
      refine (valueOf_0 _ _ _ _ _ g1 g2 hw).mono ?_
      rintro e w3 ⟨⟨x, y, z, rfl⟩, hb3⟩
      obtain ⟨c3, f3⟩ := bcell hb3
      have z3 := (hb3).size
      try simp at z3
      try simp at c3
      try simp at f3
      have z3a : w.heap.size < w3.heap.size := by omega
      have z3b : w.heap.size + 1 < w3.heap.size := by omega
      have z3c : w.heap.size + 1 + 1 < w3.heap.size := by omega
      replace oR := oR.below hb3
      obtain ⟨rR, fR⟩ := oR.rules
      go_wp2
      refine bp_gen (fun W => Own W (w.heap.size + 1 + 1) 27 [.int .i64 0, .int .i64 0, .int .i64 0, .int .i64 0, .int .i64 0, .int .i64 0] ∧ Below w.heap.size w W) ⟨(((((((oR).set 0 (.int .i64 0)).set 1 (.int .i64 0)).set 2 (.int .i64 0)).set 3 (.int .i64 0)).set 4 (.int .i64 0)).set 5 (.int .i64 0)).alloc (.cells #[.int .i64 x, .int .i64 y, .int .i64 z] 25), ?_⟩ ?_
      · refine below_to ?_ (ba1 _ _); repeat (refine Below.setCell ?_ (by first | omega | (simp; done) | (simp; omega)) _)
        exact below_to (below_to (below_to (ba3 _ _ _ _) hb1) hb2) hb3
      rintro wz ⟨oz, bz⟩
      obtain ⟨rz, fz⟩ := oz.rules
      clear oz
      refine bodyPost_ret (v := .tuple #[.agg #[.int .i64 0, .int .i64 0, .int .i64 0, .int .i64 0, .int .i64 0, .int .i64 0], .int .i64 16]) (by simp [results, Try.results9, go_sem, rz]) rfl ⟨by rw [HV.out], ?_⟩
      repeat (refine Below.setCell ?_ (by first | omega | (simp; done) | (simp; omega)) _)
      exact bz
    | true =>
      by_cases hlt : j < i
      case pos =>
        have HV0 := Lib.hid (wmk_gt (n := n) hb g1 g2 hw hlt)
        obtain ⟨x1, x2, x3, x4, x5, x6⟩ := wval_bd hw
        have Hw := Lib.hid hw
        go_enter Try.func9, Try.ntmps9
        have oR := own_third w 27 [.int .i64 0, .int .i64 0, .int .i64 0, .int .i64 0, .int .i64 0, .int .i64 0] (.cells #[.int .i64 rn, .int .i64 rd] 23) (.cells #[.int .i64 m, .int .i64 d] 23)
        go_wp2_with fail
        refine (isWeight_of _ _ _ h5).mono ?_
        rintro e _ ⟨rfl, rfl⟩
        go_wp2_with fail
        refine (check_of _ _ _ _ h1 h2 g1).mono ?_
        rintro e w1 ⟨rfl, hb1⟩
        obtain ⟨c1, f1⟩ := bcell hb1
        have z1 := (hb1).size
        try simp at z1
        try simp at c1
        try simp at f1
        have z1a : w.heap.size < w1.heap.size := by omega
        have z1b : w.heap.size + 1 < w1.heap.size := by omega
        have z1c : w.heap.size + 1 + 1 < w1.heap.size := by omega
        replace oR := oR.below hb1
        go_wp2_with fail
        refine (check_of _ _ _ _ h3 h4 g2).mono ?_
        rintro e w2 ⟨rfl, hb2⟩
        obtain ⟨c2, f2⟩ := bcell hb2
        have z2 := (hb2).size
        try simp at z2
        try simp at c2
        try simp at f2
        have z2a : w.heap.size < w2.heap.size := by omega
        have z2b : w.heap.size + 1 < w2.heap.size := by omega
        have z2c : w.heap.size + 1 + 1 < w2.heap.size := by omega
        replace oR := oR.below hb2
        go_wp2_with fail
        refine (valueOf_1 _ _ _ _ _ g1 g2 Hw.out).mono ?_
        rintro e w3 ⟨rfl, hb3⟩
        replace oR := oR.below hb3
        generalize hre : (wval rn rd m d).re = vr at *
        generalize him : (wval rn rd m d).im = vi at *
        generalize hde : (wval rn rd m d).den = vd at *
        clear hre him hde hw Hw c1 c2 f1 f2
        go_upto_region 8 with fail
        have hBB := below_to (below_to (below_to (below_to (ba3 _ _ _ _) hb1) hb2) hb3) (ba1 w3 (.cells #[.int .i64 vr, .int .i64 vi, .int .i64 vd] 25))
        have oV := Own.new w3 25 [.int .i64 vr, .int .i64 vi, .int .i64 vd]
        replace oR := oR.alloc (.cells #[.int .i64 vr, .int .i64 vi, .int .i64 vd] 25)
        have hne := hb3.size
        have hkw : w.heap.size + 1 + 1 < w3.heap.size := by omega
        clear hb1 hb2 hb3 hne z1 z2
        generalize hkv : w3.heap.size = kv at oV hkw ⊢
        clear hkv
        generalize w3.alloc (.cells #[.int .i64 vr, .int .i64 vi, .int .i64 vd] 25) = wy at *
        obtain ⟨rR, fR⟩ := oR.rules
        obtain ⟨rV, fV⟩ := oV.rules
        have zV := oV.lt
        have zR := oR.lt
        go_wp2
        go_region
        clear rR fR rV fV
        have oV2 : Own (wy.setCell ⟨kv, 1, none⟩ (.int .i64 (-vi))).drew kv 25 [.int .i64 vr, .int .i64 (-vi), .int .i64 vd] := (oV.set 1 (.int .i64 (-vi))).drew
        have oR2 : Own (wy.setCell ⟨kv, 1, none⟩ (.int .i64 (-vi))).drew (w.heap.size + 1 + 1) 27 [.int .i64 0, .int .i64 0, .int .i64 0, .int .i64 0, .int .i64 0, .int .i64 0] := (oR.other (by omega) 1 (.int .i64 (-vi))).drew
        have hB2 : Below w.heap.size w (wy.setCell ⟨kv, 1, none⟩ (.int .i64 (-vi))).drew := (hBB.setCell (by simp; omega) _).drew
        clear oV oR hBB zV zR
        generalize (wy.setCell ⟨kv, 1, none⟩ (.int .i64 (-vi))).drew = wq at *
        obtain ⟨rR, fR⟩ := oR2.rules
        obtain ⟨rV, fV⟩ := oV2.rules
        have zV := oV2.lt
        have zR := oR2.lt
        go_wp2
        refine bp_gen (fun W => Own W (w.heap.size + 1 + 1) 27 [.int .i64 j, .int .i64 i, .int .i64 vr, .int .i64 (-vi), .int .i64 vd, .int .i64 n] ∧ Below w.heap.size w W) ⟨((((((oR2).set 0 (.int .i64 j)).set 1 (.int .i64 i)).set 2 (.int .i64 vr)).set 3 (.int .i64 (-vi))).set 4 (.int .i64 vd)).set 5 (.int .i64 n), ?_⟩ ?_
        · repeat (refine Below.setCell ?_ (by first | omega | (simp; done) | (simp; omega)) _)
          exact hB2
        rintro wz ⟨oz, bz⟩
        obtain ⟨rz, fz⟩ := oz.rules
        clear oz
        refine bodyPost_ret (v := .tuple #[.agg #[.int .i64 j, .int .i64 i, .int .i64 vr, .int .i64 (-vi), .int .i64 vd, .int .i64 n], .int .i64 0]) (by simp [results, Try.results9, go_sem, rz]) rfl ⟨by rw [HV0.out], ?_⟩
        repeat (refine Below.setCell ?_ (by first | omega | (simp; done) | (simp; omega)) _)
        exact bz
      case neg =>
        have HV0 := Lib.hid (wmk_le (n := n) hb g1 g2 hw hlt)
        obtain ⟨x1, x2, x3, x4, x5, x6⟩ := wval_bd hw
        have Hw := Lib.hid hw
        go_enter Try.func9, Try.ntmps9
        have oR := own_third w 27 [.int .i64 0, .int .i64 0, .int .i64 0, .int .i64 0, .int .i64 0, .int .i64 0] (.cells #[.int .i64 rn, .int .i64 rd] 23) (.cells #[.int .i64 m, .int .i64 d] 23)
        go_wp2_with fail
        refine (isWeight_of _ _ _ h5).mono ?_
        rintro e _ ⟨rfl, rfl⟩
        go_wp2_with fail
        refine (check_of _ _ _ _ h1 h2 g1).mono ?_
        rintro e w1 ⟨rfl, hb1⟩
        obtain ⟨c1, f1⟩ := bcell hb1
        have z1 := (hb1).size
        try simp at z1
        try simp at c1
        try simp at f1
        have z1a : w.heap.size < w1.heap.size := by omega
        have z1b : w.heap.size + 1 < w1.heap.size := by omega
        have z1c : w.heap.size + 1 + 1 < w1.heap.size := by omega
        replace oR := oR.below hb1
        go_wp2_with fail
        refine (check_of _ _ _ _ h3 h4 g2).mono ?_
        rintro e w2 ⟨rfl, hb2⟩
        obtain ⟨c2, f2⟩ := bcell hb2
        have z2 := (hb2).size
        try simp at z2
        try simp at c2
        try simp at f2
        have z2a : w.heap.size < w2.heap.size := by omega
        have z2b : w.heap.size + 1 < w2.heap.size := by omega
        have z2c : w.heap.size + 1 + 1 < w2.heap.size := by omega
        replace oR := oR.below hb2
        go_wp2_with fail
        refine (valueOf_1 _ _ _ _ _ g1 g2 Hw.out).mono ?_
        rintro e w3 ⟨rfl, hb3⟩
        replace oR := oR.below hb3
        generalize hre : (wval rn rd m d).re = vr at *
        generalize him : (wval rn rd m d).im = vi at *
        generalize hde : (wval rn rd m d).den = vd at *
        clear hre him hde hw Hw c1 c2 f1 f2
        go_upto_region 8 with fail
        have hBB := below_to (below_to (below_to (below_to (ba3 _ _ _ _) hb1) hb2) hb3) (ba1 w3 (.cells #[.int .i64 vr, .int .i64 vi, .int .i64 vd] 25))
        have oV := Own.new w3 25 [.int .i64 vr, .int .i64 vi, .int .i64 vd]
        replace oR := oR.alloc (.cells #[.int .i64 vr, .int .i64 vi, .int .i64 vd] 25)
        have hne := hb3.size
        have hkw : w.heap.size + 1 + 1 < w3.heap.size := by omega
        clear hb1 hb2 hb3 hne z1 z2
        generalize hkv : w3.heap.size = kv at oV hkw ⊢
        clear hkv
        generalize w3.alloc (.cells #[.int .i64 vr, .int .i64 vi, .int .i64 vd] 25) = wy at *
        obtain ⟨rR, fR⟩ := oR.rules
        obtain ⟨rV, fV⟩ := oV.rules
        have zV := oV.lt
        have zR := oR.lt
        go_wp2
        refine bp_gen (fun W => Own W (w.heap.size + 1 + 1) 27 [.int .i64 i, .int .i64 j, .int .i64 vr, .int .i64 vi, .int .i64 vd, .int .i64 n] ∧ Below w.heap.size w W) ⟨((((((oR).set 0 (.int .i64 i)).set 1 (.int .i64 j)).set 2 (.int .i64 vr)).set 3 (.int .i64 vi)).set 4 (.int .i64 vd)).set 5 (.int .i64 n), ?_⟩ ?_
        · repeat (refine Below.setCell ?_ (by first | omega | (simp; done) | (simp; omega)) _)
          exact hBB
        rintro wz ⟨oz, bz⟩
        obtain ⟨rz, fz⟩ := oz.rules
        clear oz
        refine bodyPost_ret (v := .tuple #[.agg #[.int .i64 i, .int .i64 j, .int .i64 vr, .int .i64 vi, .int .i64 vd, .int .i64 n], .int .i64 0]) (by simp [results, Try.results9, go_sem, rz]) rfl ⟨by rw [HV0.out], ?_⟩
        repeat (refine Below.setCell ?_ (by first | omega | (simp; done) | (simp; omega)) _)
        exact bz
end Go.Proofs.Ytapdkmonfoooiaa
