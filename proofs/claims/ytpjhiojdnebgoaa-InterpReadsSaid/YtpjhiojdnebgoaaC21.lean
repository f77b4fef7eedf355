/- What is proved here: contracts of functions and plain facts, several texts in one; each one says ahead what it proves, and its conditions. -/
import Derived.Test.YtpjhiojdnebgoaaC19
/- What is proved here: the contracts of the reference's Product, below, Both, Less and Cmp of fractions. Condition: the numbers are 64-bit integers. -/
namespace Go.Proofs.Ytpjhiojdnebgoaa
open Go.RowKit
set_option maxRecDepth 100000 in
set_option maxHeartbeats 4000000 in
theorem product_any (a b : Nat) (w : World) (ha : a ≤ 18446744073709551615) (hb : b ≤ 18446744073709551615) :
    Calls Try.prog 64 #[.int .u64 a, .int .u64 b] w fun e w' => e = .returned (.agg #[.int .u64 (dg (a * b) 0), .int .u64 (dg (a * b) 1), .int .u64 (dg (a * b) 2), .int .u64 (dg (a * b) 3)]) ∧ Below w.heap.size w w' := by
  obtain ⟨u1, u2, u3, u4⟩ := dg_small ha
  obtain ⟨v1, v2, v3, v4⟩ := dg_small hb
  have hx0 := dg_lt a 0
  have hx1 := dg_lt a 1
  have hy0 := dg_lt b 0
  have hy1 := dg_lt b 1
  have hA : a = dg a 0 + dg a 1 * 4294967296 := by rw [u1, u2]; omega
  have hB : b = dg b 0 + dg b 1 * 4294967296 := by rw [v1, v2]; omega
  obtain ⟨p⟩ := prod4 hx0 hx1 hy0 hy1
  obtain ⟨a0, c0, a1, c1, b1, e0, b2, e1, l0, l1, l2, l3, m0, m1, m2, m3, r1, r2, r3, r4, r5, r6, r7, r8, tot⟩ := p
  rw [← hA, ← hB] at tot
  have HD := Lib.hid (dg_of l0 l2 l3 m3 tot)
  clear tot hA hB u1 u2 v1 v2
  have U3 := Lib.hid u3
  have U4 := Lib.hid u4
  have V3 := Lib.hid v3
  have V4 := Lib.hid v4
  clear u3 u4 v3 v4
  have k00 := mul_bd hx0 hy0
  have k01 := mul_bd hx0 hy1
  have k10 := mul_bd hx1 hy0
  have k11 := mul_bd hx1 hy1
  go_enter Try.func64, Try.ntmps64
  go_wp2_with fail
  refine (big_any a _ ha).mono ?_
  rintro e w1 ⟨rfl, hb1⟩
  rw [U3.out, U4.out]
  obtain ⟨g1, f1⟩ := bcell hb1
  have z1 := (hb1).size
  try simp at z1
  try simp at g1
  try simp at f1
  have z1a : w.heap.size < w1.heap.size := by omega
  go_wp2_with fail
  refine (big_any b _ hb).mono ?_
  rintro e w2 ⟨rfl, hb2⟩
  rw [V3.out, V4.out]
  obtain ⟨g2, f2⟩ := bcell hb2
  have z2 := (hb2).size
  try simp at z2
  try simp at g2
  try simp at f2
  have z2a : w.heap.size < w2.heap.size := by omega
  generalize dg a 0 = x0 at *
  generalize dg a 1 = x1 at *
  generalize dg b 0 = y0 at *
  generalize dg b 1 = y1 at *
  go_wp2
  refine wp_loop_rounds 3 ?_
  rw [rounds_succ]
  go_wp2
  refine wp_loop_rounds 3 ?_
  rw [rounds_succ]
  go_wp2
  go_quiet (fail)
  go_wp2
  rw [rounds_succ]
  go_wp2
  go_quiet (fail)
  go_wp2
  rw [rounds_succ]
  go_wp2
  rw [rounds_succ]
  go_wp2
  refine wp_loop_rounds 3 ?_
  rw [rounds_succ]
  go_wp2
  go_quiet (fail)
  go_wp2
  rw [rounds_succ]
  go_wp2
  go_quiet (fail)
  go_wp2
  rw [rounds_succ]
  go_wp2
  have oR := (((((Own.new w 98 [.int .u64 0, .int .u64 0, .int .u64 0, .int .u64 0]).below hb1).below hb2).alloc (.cells #[.int .u64 x0, .int .u64 x1, .int .u64 0, .int .u64 0] 98)).alloc (.cells #[.int .u64 y0, .int .u64 y1, .int .u64 0, .int .u64 0] 98)).alloc (.cells #[.int .u64 0, .int .u64 0, .int .u64 0, .int .u64 0] 98)
  have hB := below_to (below_to (below_to (ba1 _ _) hb1) hb2) (ba3 w2 (.cells #[.int .u64 x0, .int .u64 x1, .int .u64 0, .int .u64 0] 98) (.cells #[.int .u64 y0, .int .u64 y1, .int .u64 0, .int .u64 0] 98) (.cells #[.int .u64 0, .int .u64 0, .int .u64 0, .int .u64 0] 98))
  have hne : w.heap.size ≠ w2.heap.size + 1 + 1 := by omega
  refine rounds_gen (fun W => Own W (w2.heap.size + 1 + 1) 98 [.int .u64 a0, .int .u64 b1, .int .u64 b2, .int .u64 e1] ∧ Own W w.heap.size 98 [.int .u64 0, .int .u64 0, .int .u64 0, .int .u64 0] ∧ Below w.heap.size w W) ?_ ?_
  · refine ⟨?_, ?_, ?_⟩
    · exact ((((((((((own_third w2 _ _ _ _).drewN _).set 0 _).drewN _).set 1 _).set 2 _).drewN _).set 1 _).drewN _).set 2 _).set 3 _
    · exact ((((((((((oR.drewN _).other hne 0 _).drewN _).other hne 1 _).other hne 2 _).drewN _).other hne 1 _).drewN _).other hne 2 _).other hne 3 _)
    · repeat (first | refine Below.setCell ?_ (by simp; omega) _ | refine bd ?_ _)
      exact hB
  · clear oR hB g1 f1 g2 f2 r1 r2 r3 r4 r5 r6 r7 r8
    rintro W ⟨oO, oR, hB⟩
    obtain ⟨c3, f3⟩ := oO.rules
    obtain ⟨c4, f4⟩ := oR.rules
    rw [rounds_succ]
    go_wp2
    refine bodyPost_ret (v := .agg #[.int .u64 a0, .int .u64 b1, .int .u64 b2, .int .u64 e1]) (by simp [results, Try.results64, go_sem, c4]) rfl ⟨by rw [HD.out.1, HD.out.2.1, HD.out.2.2.1, HD.out.2.2.2], ?_⟩
    repeat (refine Below.setCell ?_ (by first | omega | (simp; done) | (simp; omega)) _)
    exact hB
set_option maxRecDepth 100000 in
set_option maxHeartbeats 4000000 in
theorem bbelow_any (x y : Nat) (w : World) (hx : x < 340282366920938463463374607431768211456) (hy : y < 340282366920938463463374607431768211456) :
    Calls Try.prog 67 #[.agg #[.int .u64 (dg x 0), .int .u64 (dg x 1), .int .u64 (dg x 2), .int .u64 (dg x 3)], .agg #[.int .u64 (dg y 0), .int .u64 (dg y 1), .int .u64 (dg y 2), .int .u64 (dg y 3)]] w fun e w' => e = .returned (.bool (decide (x < y))) ∧ Below w.heap.size w w' := by
  have HX := Lib.hid (dg_sum x hx)
  have HY := Lib.hid (dg_sum y hy)
  clear hx hy
  have lx0 := dg_lt x 0
  have lx1 := dg_lt x 1
  have lx2 := dg_lt x 2
  have lx3 := dg_lt x 3
  have ly0 := dg_lt y 0
  have ly1 := dg_lt y 1
  have ly2 := dg_lt y 2
  have ly3 := dg_lt y 3
  generalize dg x 0 = x0 at *
  generalize dg x 1 = x1 at *
  generalize dg x 2 = x2 at *
  generalize dg x 3 = x3 at *
  generalize dg y 0 = y0 at *
  generalize dg y 1 = y1 at *
  generalize dg y 2 = y2 at *
  generalize dg y 3 = y3 at *
  go_enter Try.func67, Try.ntmps67
  go_wp2
  refine wp_loop_rounds 5 ?_
  rw [rounds_succ]
  go_wp2
  by_cases h3 : x3 = y3
  case neg =>
    have q : ((x3 : Int) != (y3 : Int)) = true := by simp; omega
    have H : Hid (decide (x < y) = decide (x3 < y3)) := by
      show _ = _
      have h1 := HX.out
      have h2 := HY.out
      exact decide_eq_decide.2 (by omega)
    clear h3
    go_quiet (fail)
    go_wp2
    go_quiet (fail)
    go_wp2
    go_ret
    exact ⟨by rw [H.out]; try rfl, by (repeat (refine bd ?_ _)); exact ba2 _ _ _⟩
  have q3 : ((x3 : Int) != (y3 : Int)) = false := by simp; omega
  have G3 := Lib.hid h3
  clear h3
  go_quiet (fail)
  go_wp2
  rw [rounds_succ]
  go_wp2
  by_cases h2 : x2 = y2
  case neg =>
    have q : ((x2 : Int) != (y2 : Int)) = true := by simp; omega
    have H : Hid (decide (x < y) = decide (x2 < y2)) := by
      show _ = _
      have h1 := HX.out
      have h2 := HY.out
      have g3 := G3.out
      exact decide_eq_decide.2 (by omega)
    clear h2
    go_quiet (fail)
    go_wp2
    go_quiet (fail)
    go_wp2
    go_ret
    exact ⟨by rw [H.out]; try rfl, by (repeat (refine bd ?_ _)); exact ba2 _ _ _⟩
  have q2 : ((x2 : Int) != (y2 : Int)) = false := by simp; omega
  have G2 := Lib.hid h2
  clear h2
  go_quiet (fail)
  go_wp2
  rw [rounds_succ]
  go_wp2
  by_cases h1 : x1 = y1
  case neg =>
    have q : ((x1 : Int) != (y1 : Int)) = true := by simp; omega
    have H : Hid (decide (x < y) = decide (x1 < y1)) := by
      show _ = _
      have h1 := HX.out
      have h2 := HY.out
      have g3 := G3.out
      have g2 := G2.out
      exact decide_eq_decide.2 (by omega)
    clear h1
    go_quiet (fail)
    go_wp2
    go_quiet (fail)
    go_wp2
    go_ret
    exact ⟨by rw [H.out]; try rfl, by (repeat (refine bd ?_ _)); exact ba2 _ _ _⟩
  have q1 : ((x1 : Int) != (y1 : Int)) = false := by simp; omega
  have G1 := Lib.hid h1
  clear h1
  go_quiet (fail)
  go_wp2
  rw [rounds_succ]
  go_wp2
  by_cases h0 : x0 = y0
  case neg =>
    have q : ((x0 : Int) != (y0 : Int)) = true := by simp; omega
    have H : Hid (decide (x < y) = decide (x0 < y0)) := by
      show _ = _
      have h1 := HX.out
      have h2 := HY.out
      have g3 := G3.out
      have g2 := G2.out
      have g1 := G1.out
      exact decide_eq_decide.2 (by omega)
    clear h0
    go_quiet (fail)
    go_wp2
    go_quiet (fail)
    go_wp2
    go_ret
    exact ⟨by rw [H.out]; try rfl, by (repeat (refine bd ?_ _)); exact ba2 _ _ _⟩
  have q0 : ((x0 : Int) != (y0 : Int)) = false := by simp; omega
  have G0 := Lib.hid h0
  clear h0
  go_quiet (fail)
  go_wp2
  rw [rounds_succ]
  go_wp2
  go_ret
  have H : decide (x < y) = false := by
    have h1 := HX.out
    have h2 := HY.out
    have g3 := G3.out
    have g2 := G2.out
    have g1 := G1.out
    have g0 := G0.out
    have g0 := G0.out
    have g1 := G1.out
    have g2 := G2.out
    have g3 := G3.out
    simp
    omega
  exact ⟨by rw [H]; try rfl, by (repeat (refine bd ?_ _)); exact ba2 _ _ _⟩

theorem rfrboth_any (an ad bn bd : Int) (w : World) (h1 : i64 an) (h2 : i64 ad) (h3 : i64 bn) (h4 : i64 bd) :
    Calls Try.prog 61 #[.agg #[.int .i64 an, .int .i64 ad], .agg #[.int .i64 bn, .int .i64 bd]] w fun e w' => e = .returned (.int .i64 (fboth an ad bn bd)) ∧ Below w.heap.size w w' := by
  by_cases p : fchk an ad = 0
  · have H := Lib.hid (fboth_0 (bn := bn) (bd := bd) p)
    have b1 : (fchk an ad != 0) = false := by simp [p]
    clear p
    go_enter Try.func61, Try.ntmps61
    go_wp2_with fail
    refine (rcheck_any _ _ _ h1 h2).mono ?_
    rintro e w1 ⟨rfl, hb1⟩
    obtain ⟨c1, f1⟩ := bcell hb1
    have z1 := (hb1).size
    try simp at z1
    try simp at c1
    try simp at f1
    have z1a : w.heap.size < w1.heap.size := by omega
    have z1b : w.heap.size + 1 < w1.heap.size := by omega
    go_wp2_with fail
    refine (rcheck_any _ _ _ h3 h4).mono ?_
    rintro e w2 ⟨rfl, hb2⟩
    go_wp2
    go_ret
    exact ⟨by rw [H.out]; try rfl, below_to (below_to (ba2 _ _ _) hb1) hb2⟩
  · have H := Lib.hid (fboth_1 (bn := bn) (bd := bd) p)
    have b1 : (fchk an ad != 0) = true := by simp [p]
    clear p
    go_enter Try.func61, Try.ntmps61
    go_wp2_with fail
    refine (rcheck_any _ _ _ h1 h2).mono ?_
    rintro e w1 ⟨rfl, hb1⟩
    obtain ⟨c1, f1⟩ := bcell hb1
    have z1 := (hb1).size
    try simp at z1
    try simp at c1
    try simp at f1
    have z1a : w.heap.size < w1.heap.size := by omega
    have z1b : w.heap.size + 1 < w1.heap.size := by omega
    go_wp2_with fail
    refine (rcheck_any _ _ _ h1 h2).mono ?_
    rintro e w2 ⟨rfl, hb2⟩
    go_wp2
    go_ret
    exact ⟨by rw [H.out]; try rfl, below_to (below_to (ba2 _ _ _) hb1) hb2⟩

end Go.Proofs.Ytpjhiojdnebgoaa
