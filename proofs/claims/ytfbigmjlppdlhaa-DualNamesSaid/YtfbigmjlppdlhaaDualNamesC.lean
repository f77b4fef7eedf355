/- What is proved here: the law DualNames returns true. No condition. -/
import Derived.Test.YtfbigmjlppdlhaaC27
import Derived.Deep.DeepCutAuto
namespace Go.Proofs.Ytfbigmjlppdlhaa
open Go.RowKit

set_option maxRecDepth 100000 in
set_option maxHeartbeats 64000000 in
theorem dualNames_any (w : World) : Calls Try.prog 11 #[] w fun e w' => e = .returned (.bool true) ∧ Below w.heap.size w w' := by
  go_enter Try.func11, Try.ntmps11
  have hy := Below.refl w.heap.size w
  go_wp2_with fail
  refine (given39_any _).mono ?_
  rintro e W1 ⟨va1, vb1, rfl, hA1, hB1, hq⟩
  replace hy := below_to hy hq
  clear hq
  go_wp2_with fail
  have q2_0 := Own.new W1 2 [.int .i64 2, .int .i64 (-9)]
  have hq := ba1 W1 (.cells #[.int .i64 2, .int .i64 (-9)] 2)
  replace hA1 := hA1.below hq
  replace hB1 := hB1.below hq
  replace hy := below_to hy hq
  clear hq
  generalize (W1.alloc (.cells #[.int .i64 2, .int .i64 (-9)] 2)) = W2 at *
  obtain ⟨B2, hB2⟩ : ∃ B, B = W1.heap.size := ⟨_, rfl⟩
  rw [← hB2] at q2_0 ⊢
  clear hB2
  have s2_0 := si_of_own [2, -9] 2 rfl (by decide) q2_0
  refine (ints39_any [2, -9] _ _ s2_0 (by decide)).mono ?_
  rintro e W3 ⟨u3, rfl, t3, hq⟩
  replace hA1 := hA1.below hq
  replace hB1 := hB1.below hq
  replace s2_0 := s2_0.below hq
  replace hy := below_to hy hq
  clear hq
  simp only [List.map] at t3
  clear s2_0
  go_wp2_with fail
  refine (dfeas_any [[1, 0], [0, 1]] [3, 1] 2 [(2, 1), (-9, 1)] _ _ _ _ hA1 hB1 t3 (fi_of _ (by decide))).mono ?_
  rintro e W4 ⟨rfl, hq⟩
  replace hA1 := hA1.below hq
  replace hB1 := hB1.below hq
  replace t3 := t3.below hq
  replace hy := below_to hy hq
  clear hq
  rw [show dfeas [[1, 0], [0, 1]] [3, 1] 2 [(2, 1), (-9, 1)] = (true, 0) from by decide +kernel]
  clear hA1 hB1 t3
  go_wp2_with fail
  refine (given39_any _).mono ?_
  rintro e W5 ⟨va5, vb5, rfl, hA5, hB5, hq⟩
  replace hy := below_to hy hq
  clear hq
  go_wp2_with fail
  have q6_0 := Own.new W5 34 [.int .i64 2, .int .i64 1, .int .i64 13, .int .i64 6]
  have hq := ba1 W5 (.cells #[.int .i64 2, .int .i64 1, .int .i64 13, .int .i64 6] 34)
  replace hA5 := hA5.below hq
  replace hB5 := hB5.below hq
  replace hy := below_to hy hq
  clear hq
  generalize (W5.alloc (.cells #[.int .i64 2, .int .i64 1, .int .i64 13, .int .i64 6] 34)) = W6 at *
  obtain ⟨B6, hB6⟩ : ∃ B, B = W5.heap.size := ⟨_, rfl⟩
  rw [← hB6] at q6_0 ⊢
  clear hB6
  have s6_0 := sf_of_own [(2, 1), (13, 6)] 2 rfl (by decide) q6_0
  refine (dfeas_any [[1, 0], [0, 1]] [3, 1] 2 [(2, 1), (13, 6)] _ _ _ _ hA5 hB5 s6_0 (fi_of _ (by decide))).mono ?_
  rintro e W7 ⟨rfl, hq⟩
  replace hA5 := hA5.below hq
  replace hB5 := hB5.below hq
  replace s6_0 := s6_0.below hq
  replace hy := below_to hy hq
  clear hq
  rw [show dfeas [[1, 0], [0, 1]] [3, 1] 2 [(2, 1), (13, 6)] = (false, 0) from by decide +kernel]
  clear hA5 hB5 s6_0
  go_wp2_with fail
  refine (given39_any _).mono ?_
  rintro e W8 ⟨va8, vb8, rfl, hA8, hB8, hq⟩
  replace hy := below_to hy hq
  clear hq
  go_wp2_with fail
  have q9_0 := Own.new W8 2 [.int .i64 0, .int .i64 (-1)]
  have hq := ba1 W8 (.cells #[.int .i64 0, .int .i64 (-1)] 2)
  replace hA8 := hA8.below hq
  replace hB8 := hB8.below hq
  replace hy := below_to hy hq
  clear hq
  generalize (W8.alloc (.cells #[.int .i64 0, .int .i64 (-1)] 2)) = W9 at *
  obtain ⟨B9, hB9⟩ : ∃ B, B = W8.heap.size := ⟨_, rfl⟩
  rw [← hB9] at q9_0 ⊢
  clear hB9
  have s9_0 := si_of_own [0, -1] 2 rfl (by decide) q9_0
  refine (ints39_any [0, -1] _ _ s9_0 (by decide)).mono ?_
  rintro e W10 ⟨u10, rfl, t10, hq⟩
  replace hA8 := hA8.below hq
  replace hB8 := hB8.below hq
  replace s9_0 := s9_0.below hq
  replace hy := below_to hy hq
  clear hq
  simp only [List.map] at t10
  clear s9_0
  go_wp2_with fail
  refine (dworth_any [[1, 0], [0, 1]] [3, 1] [(0, 1), (-1, 1)] _ _ _ _ hA8 hB8 t10 (fi_of _ (by decide))).mono ?_
  rintro e W11 ⟨rfl, hq⟩
  replace hA8 := hA8.below hq
  replace hB8 := hB8.below hq
  replace t10 := t10.below hq
  replace hy := below_to hy hq
  clear hq
  rw [show dworth [[1, 0], [0, 1]] [3, 1] [(0, 1), (-1, 1)] = ⟨(-3), 2, 0⟩ from fr_is (by decide +kernel)]
  clear hA8 hB8 t10
  go_wp2_with fail
  have q12_0 := Own.new W11 34 [.int .i64 (-3), .int .i64 2]
  have hq := ba1 W11 (.cells #[.int .i64 (-3), .int .i64 2] 34)
  replace hy := below_to hy hq
  clear hq
  generalize (W11.alloc (.cells #[.int .i64 (-3), .int .i64 2] 34)) = W12 at *
  obtain ⟨B12, hB12⟩ : ∃ B, B = W11.heap.size := ⟨_, rfl⟩
  rw [← hB12] at q12_0 ⊢
  clear hB12
  have o12_0 := q12_0
  refine (given39_any _).mono ?_
  rintro e W13 ⟨va13, vb13, rfl, hA13, hB13, hq⟩
  replace o12_0 := o12_0.below hq
  replace hy := below_to hy hq
  clear hq
  obtain ⟨r12_0, f12_0⟩ := o12_0.rules
  have z12_0 := o12_0.lt
  go_wp2_with fail
  clear r12_0 f12_0 z12_0
  have q14_0 := Own.new W13 2 [.int .i64 0, .int .i64 0]
  have hq := ba1 W13 (.cells #[.int .i64 0, .int .i64 0] 2)
  replace o12_0 := o12_0.below hq
  replace hA13 := hA13.below hq
  replace hB13 := hB13.below hq
  replace hy := below_to hy hq
  clear hq
  generalize (W13.alloc (.cells #[.int .i64 0, .int .i64 0] 2)) = W14 at *
  obtain ⟨B14, hB14⟩ : ∃ B, B = W13.heap.size := ⟨_, rfl⟩
  rw [← hB14] at q14_0 ⊢
  clear hB14
  have s14_0 := si_of_own [0, 0] 2 rfl (by decide) q14_0
  refine (ints39_any [0, 0] _ _ s14_0 (by decide)).mono ?_
  rintro e W15 ⟨u15, rfl, t15, hq⟩
  replace o12_0 := o12_0.below hq
  replace hA13 := hA13.below hq
  replace hB13 := hB13.below hq
  replace s14_0 := s14_0.below hq
  replace hy := below_to hy hq
  clear hq
  simp only [List.map] at t15
  clear s14_0
  obtain ⟨r12_0, f12_0⟩ := o12_0.rules
  have z12_0 := o12_0.lt
  go_wp2_with fail
  clear r12_0 f12_0 z12_0
  refine (dmake_any [[1, 0], [0, 1]] [3, 1] 0 [(0, 1), (0, 1)] _ _ _ _ hA13 hB13 t15 (fi_of _ (by decide))).mono ?_
  rintro e W16 ⟨u16, rfl, t16, hq⟩
  replace o12_0 := o12_0.below hq
  replace hA13 := hA13.below hq
  replace hB13 := hB13.below hq
  replace t15 := t15.below hq
  replace hy := below_to hy hq
  clear hq
  have e16 : dMake [[1, 0], [0, 1]] [3, 1] 0 [(0, 1), (0, 1)] = ([(0, 1), (0, 1)], 0) := by decide +kernel
  rw [e16] at t16 ⊢
  clear e16
  clear hA13 hB13 t15
  obtain ⟨r12_0, f12_0⟩ := o12_0.rules
  have z12_0 := o12_0.lt
  go_wp2_with fail
  clear r12_0 f12_0 z12_0
  refine (given39_any _).mono ?_
  rintro e W17 ⟨va17, vb17, rfl, hA17, hB17, hq⟩
  replace o12_0 := o12_0.below hq
  replace t16 := t16.below hq
  replace hy := below_to hy hq
  clear hq
  obtain ⟨r12_0, f12_0⟩ := o12_0.rules
  have z12_0 := o12_0.lt
  go_wp2_with fail
  clear r12_0 f12_0 z12_0
  have q18_0 := Own.new W17 2 [.int .i64 5, .int .i64 7]
  have hq := ba1 W17 (.cells #[.int .i64 5, .int .i64 7] 2)
  replace o12_0 := o12_0.below hq
  replace t16 := t16.below hq
  replace hA17 := hA17.below hq
  replace hB17 := hB17.below hq
  replace hy := below_to hy hq
  clear hq
  generalize (W17.alloc (.cells #[.int .i64 5, .int .i64 7] 2)) = W18 at *
  obtain ⟨B18, hB18⟩ : ∃ B, B = W17.heap.size := ⟨_, rfl⟩
  rw [← hB18] at q18_0 ⊢
  clear hB18
  have s18_0 := si_of_own [5, 7] 2 rfl (by decide) q18_0
  refine (ints39_any [5, 7] _ _ s18_0 (by decide)).mono ?_
  rintro e W19 ⟨u19, rfl, t19, hq⟩
  replace o12_0 := o12_0.below hq
  replace t16 := t16.below hq
  replace hA17 := hA17.below hq
  replace hB17 := hB17.below hq
  replace s18_0 := s18_0.below hq
  replace hy := below_to hy hq
  clear hq
  simp only [List.map] at t19
  clear s18_0
  obtain ⟨r12_0, f12_0⟩ := o12_0.rules
  have z12_0 := o12_0.lt
  go_wp2_with fail
  clear r12_0 f12_0 z12_0
  refine (dmake_any [[1, 0], [0, 1]] [3, 1] 1000 [(5, 1), (7, 1)] _ _ _ _ hA17 hB17 t19 (fi_of _ (by decide))).mono ?_
  rintro e W20 ⟨u20, rfl, t20, hq⟩
  replace o12_0 := o12_0.below hq
  replace t16 := t16.below hq
  replace hA17 := hA17.below hq
  replace hB17 := hB17.below hq
  replace t19 := t19.below hq
  replace hy := below_to hy hq
  clear hq
  have e20 : dMake [[1, 0], [0, 1]] [3, 1] 1000 [(5, 1), (7, 1)] = ([(-2, 1), (-6, 1)], 0) := by decide +kernel
  rw [e20] at t20 ⊢
  clear e20
  clear hA17 hB17 t19
  obtain ⟨r12_0, f12_0⟩ := o12_0.rules
  have z12_0 := o12_0.lt
  go_wp2_with fail
  clear r12_0 f12_0 z12_0
  refine (given39_any _).mono ?_
  rintro e W21 ⟨va21, vb21, rfl, hA21, hB21, hq⟩
  replace o12_0 := o12_0.below hq
  replace t16 := t16.below hq
  replace t20 := t20.below hq
  replace hy := below_to hy hq
  clear hq
  obtain ⟨r12_0, f12_0⟩ := o12_0.rules
  have z12_0 := o12_0.lt
  go_wp2_with fail
  clear r12_0 f12_0 z12_0
  have q22_0 := Own.new W21 2 [.int .i64 0, .int .i64 0]
  have hq := ba1 W21 (.cells #[.int .i64 0, .int .i64 0] 2)
  replace o12_0 := o12_0.below hq
  replace t16 := t16.below hq
  replace t20 := t20.below hq
  replace hA21 := hA21.below hq
  replace hB21 := hB21.below hq
  replace hy := below_to hy hq
  clear hq
  generalize (W21.alloc (.cells #[.int .i64 0, .int .i64 0] 2)) = W22 at *
  obtain ⟨B22, hB22⟩ : ∃ B, B = W21.heap.size := ⟨_, rfl⟩
  rw [← hB22] at q22_0 ⊢
  clear hB22
  have s22_0 := si_of_own [0, 0] 2 rfl (by decide) q22_0
  refine (ints39_any [0, 0] _ _ s22_0 (by decide)).mono ?_
  rintro e W23 ⟨u23, rfl, t23, hq⟩
  replace o12_0 := o12_0.below hq
  replace t16 := t16.below hq
  replace t20 := t20.below hq
  replace hA21 := hA21.below hq
  replace hB21 := hB21.below hq
  replace s22_0 := s22_0.below hq
  replace hy := below_to hy hq
  clear hq
  simp only [List.map] at t23
  clear s22_0
  obtain ⟨r12_0, f12_0⟩ := o12_0.rules
  have z12_0 := o12_0.lt
  go_wp2_with fail
  clear r12_0 f12_0 z12_0
  have q24_0 := Own.new W23 34 [.int .i64 2, .int .i64 1, .int .i64 2, .int .i64 3]
  have hq := ba1 W23 (.cells #[.int .i64 2, .int .i64 1, .int .i64 2, .int .i64 3] 34)
  replace o12_0 := o12_0.below hq
  replace t16 := t16.below hq
  replace t20 := t20.below hq
  replace hA21 := hA21.below hq
  replace hB21 := hB21.below hq
  replace t23 := t23.below hq
  replace hy := below_to hy hq
  clear hq
  generalize (W23.alloc (.cells #[.int .i64 2, .int .i64 1, .int .i64 2, .int .i64 3] 34)) = W24 at *
  obtain ⟨B24, hB24⟩ : ∃ B, B = W23.heap.size := ⟨_, rfl⟩
  rw [← hB24] at q24_0 ⊢
  clear hB24
  have s24_0 := sf_of_own [(2, 1), (2, 3)] 2 rfl (by decide) q24_0
  refine (dacc_any [[1, 0], [0, 1]] [3, 1] 2 [(0, 1), (0, 1)] [(2, 1), (2, 3)] 5 9 _ _ _ _ _ hA21 hB21 t23 (fi_of _ (by decide)) s24_0 (fi_of _ (by decide)) ⟨by decide, by decide⟩ ⟨by decide, by decide⟩).mono ?_
  rintro e W25 ⟨rfl, hq⟩
  replace o12_0 := o12_0.below hq
  replace t16 := t16.below hq
  replace t20 := t20.below hq
  replace hA21 := hA21.below hq
  replace hB21 := hB21.below hq
  replace t23 := t23.below hq
  replace s24_0 := s24_0.below hq
  replace hy := below_to hy hq
  clear hq
  rw [show daccept [[1, 0], [0, 1]] [3, 1] 2 [(0, 1), (0, 1)] [(2, 1), (2, 3)] 5 9 = (true, 0) from by decide +kernel]
  clear hA21 hB21 t23 s24_0
  obtain ⟨r12_0, f12_0⟩ := o12_0.rules
  have z12_0 := o12_0.lt
  go_wp2_with fail
  clear r12_0 f12_0 z12_0
  refine (given39_any _).mono ?_
  rintro e W26 ⟨va26, vb26, rfl, hA26, hB26, hq⟩
  replace o12_0 := o12_0.below hq
  replace t16 := t16.below hq
  replace t20 := t20.below hq
  replace hy := below_to hy hq
  clear hq
  obtain ⟨r12_0, f12_0⟩ := o12_0.rules
  have z12_0 := o12_0.lt
  go_wp2_with fail
  clear r12_0 f12_0 z12_0
  have q27_0 := Own.new W26 2 [.int .i64 0, .int .i64 0]
  have hq := ba1 W26 (.cells #[.int .i64 0, .int .i64 0] 2)
  replace o12_0 := o12_0.below hq
  replace t16 := t16.below hq
  replace t20 := t20.below hq
  replace hA26 := hA26.below hq
  replace hB26 := hB26.below hq
  replace hy := below_to hy hq
  clear hq
  generalize (W26.alloc (.cells #[.int .i64 0, .int .i64 0] 2)) = W27 at *
  obtain ⟨B27, hB27⟩ : ∃ B, B = W26.heap.size := ⟨_, rfl⟩
  rw [← hB27] at q27_0 ⊢
  clear hB27
  have s27_0 := si_of_own [0, 0] 2 rfl (by decide) q27_0
  refine (ints39_any [0, 0] _ _ s27_0 (by decide)).mono ?_
  rintro e W28 ⟨u28, rfl, t28, hq⟩
  replace o12_0 := o12_0.below hq
  replace t16 := t16.below hq
  replace t20 := t20.below hq
  replace hA26 := hA26.below hq
  replace hB26 := hB26.below hq
  replace s27_0 := s27_0.below hq
  replace hy := below_to hy hq
  clear hq
  simp only [List.map] at t28
  clear s27_0
  obtain ⟨r12_0, f12_0⟩ := o12_0.rules
  have z12_0 := o12_0.lt
  go_wp2_with fail
  clear r12_0 f12_0 z12_0
  have q29_0 := Own.new W28 34 [.int .i64 2, .int .i64 1, .int .i64 2, .int .i64 3]
  have hq := ba1 W28 (.cells #[.int .i64 2, .int .i64 1, .int .i64 2, .int .i64 3] 34)
  replace o12_0 := o12_0.below hq
  replace t16 := t16.below hq
  replace t20 := t20.below hq
  replace hA26 := hA26.below hq
  replace hB26 := hB26.below hq
  replace t28 := t28.below hq
  replace hy := below_to hy hq
  clear hq
  generalize (W28.alloc (.cells #[.int .i64 2, .int .i64 1, .int .i64 2, .int .i64 3] 34)) = W29 at *
  obtain ⟨B29, hB29⟩ : ∃ B, B = W28.heap.size := ⟨_, rfl⟩
  rw [← hB29] at q29_0 ⊢
  clear hB29
  have s29_0 := sf_of_own [(2, 1), (2, 3)] 2 rfl (by decide) q29_0
  refine (dacc_any [[1, 0], [0, 1]] [3, 1] 2 [(0, 1), (0, 1)] [(2, 1), (2, 3)] 4 9 _ _ _ _ _ hA26 hB26 t28 (fi_of _ (by decide)) s29_0 (fi_of _ (by decide)) ⟨by decide, by decide⟩ ⟨by decide, by decide⟩).mono ?_
  rintro e W30 ⟨rfl, hq⟩
  replace o12_0 := o12_0.below hq
  replace t16 := t16.below hq
  replace t20 := t20.below hq
  replace hA26 := hA26.below hq
  replace hB26 := hB26.below hq
  replace t28 := t28.below hq
  replace s29_0 := s29_0.below hq
  replace hy := below_to hy hq
  clear hq
  rw [show daccept [[1, 0], [0, 1]] [3, 1] 2 [(0, 1), (0, 1)] [(2, 1), (2, 3)] 4 9 = (false, 0) from by decide +kernel]
  clear hA26 hB26 t28 s29_0
  obtain ⟨r12_0, f12_0⟩ := o12_0.rules
  have z12_0 := o12_0.lt
  go_wp2_with fail
  clear r12_0 f12_0 z12_0
  refine (given39_any _).mono ?_
  rintro e W31 ⟨va31, vb31, rfl, hA31, hB31, hq⟩
  replace o12_0 := o12_0.below hq
  replace t16 := t16.below hq
  replace t20 := t20.below hq
  replace hy := below_to hy hq
  clear hq
  obtain ⟨r12_0, f12_0⟩ := o12_0.rules
  have z12_0 := o12_0.lt
  go_wp2_with fail
  clear r12_0 f12_0 z12_0
  have q32_0 := Own.new W31 2 [.int .i64 0, .int .i64 0]
  have hq := ba1 W31 (.cells #[.int .i64 0, .int .i64 0] 2)
  replace o12_0 := o12_0.below hq
  replace t16 := t16.below hq
  replace t20 := t20.below hq
  replace hA31 := hA31.below hq
  replace hB31 := hB31.below hq
  replace hy := below_to hy hq
  clear hq
  generalize (W31.alloc (.cells #[.int .i64 0, .int .i64 0] 2)) = W32 at *
  obtain ⟨B32, hB32⟩ : ∃ B, B = W31.heap.size := ⟨_, rfl⟩
  rw [← hB32] at q32_0 ⊢
  clear hB32
  have s32_0 := si_of_own [0, 0] 2 rfl (by decide) q32_0
  refine (ints39_any [0, 0] _ _ s32_0 (by decide)).mono ?_
  rintro e W33 ⟨u33, rfl, t33, hq⟩
  replace o12_0 := o12_0.below hq
  replace t16 := t16.below hq
  replace t20 := t20.below hq
  replace hA31 := hA31.below hq
  replace hB31 := hB31.below hq
  replace s32_0 := s32_0.below hq
  replace hy := below_to hy hq
  clear hq
  simp only [List.map] at t33
  clear s32_0
  obtain ⟨r12_0, f12_0⟩ := o12_0.rules
  have z12_0 := o12_0.lt
  go_wp2_with fail
  clear r12_0 f12_0 z12_0
  have q34_0 := Own.new W33 2 [.int .i64 3, .int .i64 1]
  have hq := ba1 W33 (.cells #[.int .i64 3, .int .i64 1] 2)
  replace o12_0 := o12_0.below hq
  replace t16 := t16.below hq
  replace t20 := t20.below hq
  replace hA31 := hA31.below hq
  replace hB31 := hB31.below hq
  replace t33 := t33.below hq
  replace hy := below_to hy hq
  clear hq
  generalize (W33.alloc (.cells #[.int .i64 3, .int .i64 1] 2)) = W34 at *
  obtain ⟨B34, hB34⟩ : ∃ B, B = W33.heap.size := ⟨_, rfl⟩
  rw [← hB34] at q34_0 ⊢
  clear hB34
  have s34_0 := si_of_own [3, 1] 2 rfl (by decide) q34_0
  refine (ints39_any [3, 1] _ _ s34_0 (by decide)).mono ?_
  rintro e W35 ⟨u35, rfl, t35, hq⟩
  replace o12_0 := o12_0.below hq
  replace t16 := t16.below hq
  replace t20 := t20.below hq
  replace hA31 := hA31.below hq
  replace hB31 := hB31.below hq
  replace t33 := t33.below hq
  replace s34_0 := s34_0.below hq
  replace hy := below_to hy hq
  clear hq
  simp only [List.map] at t35
  clear s34_0
  obtain ⟨r12_0, f12_0⟩ := o12_0.rules
  have z12_0 := o12_0.lt
  go_wp2_with fail
  clear r12_0 f12_0 z12_0
  refine (rof_any 0 _).mono ?_
  rintro e W36 ⟨rfl, hq⟩
  replace o12_0 := o12_0.below hq
  replace t16 := t16.below hq
  replace t20 := t20.below hq
  replace hA31 := hA31.below hq
  replace hB31 := hB31.below hq
  replace t33 := t33.below hq
  replace t35 := t35.below hq
  replace hy := below_to hy hq
  clear hq
  obtain ⟨r12_0, f12_0⟩ := o12_0.rules
  have z12_0 := o12_0.lt
  go_wp2_with fail
  clear r12_0 f12_0 z12_0
  refine (dacc_any [[1, 0], [0, 1]] [3, 1] 2 [(0, 1), (0, 1)] [(3, 1), (1, 1)] 0 1 _ _ _ _ _ hA31 hB31 t33 (fi_of _ (by decide)) t35 (fi_of _ (by decide)) ⟨by decide, by decide⟩ ⟨by decide, by decide⟩).mono ?_
  rintro e W37 ⟨rfl, hq⟩
  replace o12_0 := o12_0.below hq
  replace t16 := t16.below hq
  replace t20 := t20.below hq
  replace hA31 := hA31.below hq
  replace hB31 := hB31.below hq
  replace t33 := t33.below hq
  replace t35 := t35.below hq
  replace hy := below_to hy hq
  clear hq
  rw [show daccept [[1, 0], [0, 1]] [3, 1] 2 [(0, 1), (0, 1)] [(3, 1), (1, 1)] 0 1 = (false, 0) from by decide +kernel]
  clear hA31 hB31 t33 t35
  obtain ⟨r12_0, f12_0⟩ := o12_0.rules
  have z12_0 := o12_0.lt
  go_wp2_with fail
  clear r12_0 f12_0 z12_0
  refine (given39_any _).mono ?_
  rintro e W38 ⟨va38, vb38, rfl, hA38, hB38, hq⟩
  replace o12_0 := o12_0.below hq
  replace t16 := t16.below hq
  replace t20 := t20.below hq
  replace hy := below_to hy hq
  clear hq
  obtain ⟨r12_0, f12_0⟩ := o12_0.rules
  have z12_0 := o12_0.lt
  go_wp2_with fail
  clear r12_0 f12_0 z12_0
  have q39_0 := Own.new W38 2 [.int .i64 0, .int .i64 0]
  have hq := ba1 W38 (.cells #[.int .i64 0, .int .i64 0] 2)
  replace o12_0 := o12_0.below hq
  replace t16 := t16.below hq
  replace t20 := t20.below hq
  replace hA38 := hA38.below hq
  replace hB38 := hB38.below hq
  replace hy := below_to hy hq
  clear hq
  generalize (W38.alloc (.cells #[.int .i64 0, .int .i64 0] 2)) = W39 at *
  obtain ⟨B39, hB39⟩ : ∃ B, B = W38.heap.size := ⟨_, rfl⟩
  rw [← hB39] at q39_0 ⊢
  clear hB39
  have s39_0 := si_of_own [0, 0] 2 rfl (by decide) q39_0
  refine (ints39_any [0, 0] _ _ s39_0 (by decide)).mono ?_
  rintro e W40 ⟨u40, rfl, t40, hq⟩
  replace o12_0 := o12_0.below hq
  replace t16 := t16.below hq
  replace t20 := t20.below hq
  replace hA38 := hA38.below hq
  replace hB38 := hB38.below hq
  replace s39_0 := s39_0.below hq
  replace hy := below_to hy hq
  clear hq
  simp only [List.map] at t40
  clear s39_0
  obtain ⟨r12_0, f12_0⟩ := o12_0.rules
  have z12_0 := o12_0.lt
  go_wp2_with fail
  clear r12_0 f12_0 z12_0
  have q41_0 := Own.new W40 2 [.int .i64 3, .int .i64 1]
  have hq := ba1 W40 (.cells #[.int .i64 3, .int .i64 1] 2)
  replace o12_0 := o12_0.below hq
  replace t16 := t16.below hq
  replace t20 := t20.below hq
  replace hA38 := hA38.below hq
  replace hB38 := hB38.below hq
  replace t40 := t40.below hq
  replace hy := below_to hy hq
  clear hq
  generalize (W40.alloc (.cells #[.int .i64 3, .int .i64 1] 2)) = W41 at *
  obtain ⟨B41, hB41⟩ : ∃ B, B = W40.heap.size := ⟨_, rfl⟩
  rw [← hB41] at q41_0 ⊢
  clear hB41
  have s41_0 := si_of_own [3, 1] 2 rfl (by decide) q41_0
  refine (ints39_any [3, 1] _ _ s41_0 (by decide)).mono ?_
  rintro e W42 ⟨u42, rfl, t42, hq⟩
  replace o12_0 := o12_0.below hq
  replace t16 := t16.below hq
  replace t20 := t20.below hq
  replace hA38 := hA38.below hq
  replace hB38 := hB38.below hq
  replace t40 := t40.below hq
  replace s41_0 := s41_0.below hq
  replace hy := below_to hy hq
  clear hq
  simp only [List.map] at t42
  clear s41_0
  obtain ⟨r12_0, f12_0⟩ := o12_0.rules
  have z12_0 := o12_0.lt
  go_wp2_with fail
  clear r12_0 f12_0 z12_0
  refine (dgap_any [[1, 0], [0, 1]] [3, 1] 2 [(0, 1), (0, 1)] [(3, 1), (1, 1)] _ _ _ _ _ hA38 hB38 t40 (fi_of _ (by decide)) t42 (fi_of _ (by decide))).mono ?_
  rintro e W43 ⟨rfl, hq⟩
  replace o12_0 := o12_0.below hq
  replace t16 := t16.below hq
  replace t20 := t20.below hq
  replace hA38 := hA38.below hq
  replace hB38 := hB38.below hq
  replace t40 := t40.below hq
  replace t42 := t42.below hq
  replace hy := below_to hy hq
  clear hq
  rw [show dgap [[1, 0], [0, 1]] [3, 1] 2 [(0, 1), (0, 1)] [(3, 1), (1, 1)] = ⟨0, 1, 0⟩ from fr_is (by decide +kernel)]
  clear hA38 hB38 t40 t42
  obtain ⟨r12_0, f12_0⟩ := o12_0.rules
  have z12_0 := o12_0.lt
  go_upto_region 10 with fail
  clear r12_0 f12_0 z12_0
  have q44_0 := Own.new W43 34 [.int .i64 0, .int .i64 1]
  have hq := ba1 W43 (.cells #[.int .i64 0, .int .i64 1] 34)
  replace o12_0 := o12_0.below hq
  replace t16 := t16.below hq
  replace t20 := t20.below hq
  replace hy := below_to hy hq
  clear hq
  generalize (W43.alloc (.cells #[.int .i64 0, .int .i64 1] 34)) = W44 at *
  obtain ⟨B44, hB44⟩ : ∃ B, B = W43.heap.size := ⟨_, rfl⟩
  rw [← hB44] at q44_0 ⊢
  clear hB44
  have o44_0 := q44_0
  obtain ⟨r12_0, f12_0⟩ := o12_0.rules
  have z12_0 := o12_0.lt
  obtain ⟨r44_0, f44_0⟩ := o44_0.rules
  have z44_0 := o44_0.lt
  have gl := @grow_lt
  refine wp_region_st [.t [0, 1, 2, 3, 4, 5, 6, 7, 8, 9, 10, 11, 12, 13, 14, 15, 16, 17, 18, 19, 20, 21, 22, 23, 24, 25, 26, 27], .f 28, .f 29, .f 30, .t [31, 32, 33, 34, 35, 36, 37], .f 38, .f 39, .f 40, .t [41, 42, 43, 44, 45, 46, 47, 48, 49, 50, 51, 52, 53, 54, 55, 56, 57, 58, 59, 60, 61, 62, 63, 64, 65, 66, 67, 68, 69, 70], .f 71, .t [72, 73]] [74] (by kernel_rfl) (by kernel_rfl) (fun _ _ _ _ _ h => h) ?_
  have hR : Below W44.heap.size W44 W44.drew := (Below.refl _ _).drew
  replace t16 := t16.below hR
  replace t20 := t20.below hR
  generalize W44.drew = W45 at *
  refine wpX_t ?_
  try simp only [List.append, opsAt, List.getElem?_toArray, List.getElem?_cons_zero, List.getElem?_cons_succ, Option.getD_some]
  repeat (go_big_quiet_step (fail))
  refine wpQuiet_nil ?_
  refine wpX_f rfl rfl (fun K' hK' => ?_)
  go_simp
  have q46 := Own.new (W45) 2 [.int .i64 0, .int .i64 0]
  have hq := ba1 (W45) (.cells #[.int .i64 0, .int .i64 0] 2)
  obtain ⟨B46, hB46⟩ : ∃ B, B = (W45).heap.size := ⟨_, rfl⟩
  rw [← hB46] at q46 ⊢
  clear hB46
  replace t16 := t16.below hq
  replace t20 := t20.below hq
  replace hR := below_to hR hq
  clear hq
  refine hK' _ _ (grow_of hR) ?_
  clear hK' K'
  generalize (W45).alloc (.cells #[.int .i64 0, .int .i64 0] 2) = W46 at *
  have s46_0 := si_of_own [0, 0] 2 rfl (by decide) q46
  refine wpX_f rfl rfl (fun K' hK' => ?_)
  go_simp
  refine (ints39_any [0, 0] _ _ s46_0 (by decide)).mono ?_
  rintro e W47 ⟨u47, rfl, t47, hq⟩
  replace t16 := t16.below hq
  replace t20 := t20.below hq
  replace s46_0 := s46_0.below hq
  replace hR := below_to hR hq
  clear hq
  refine hK' _ _ (grow_of hR) ?_
  clear hK' K'
  simp only [List.map] at t47
  clear o12_0 s46_0
  refine wpX_f rfl rfl (fun K' hK' => ?_)
  go_simp
  refine (rsame_true [(0, 1), (0, 1)] _ _ _ t16 t47).mono ?_
  rintro e W48 ⟨rfl, hq⟩
  replace t16 := t16.below hq
  replace t20 := t20.below hq
  replace t47 := t47.below hq
  replace hR := below_to hR hq
  clear hq
  refine hK' _ _ (grow_of hR) ?_
  clear hK' K'
  clear t16 t47
  refine wpX_t ?_
  try simp only [opsAt, List.getElem?_toArray, List.getElem?_cons_zero, List.getElem?_cons_succ, Option.getD_some]
  repeat (go_big_quiet_step (fail))
  refine wpQuiet_nil ?_
  refine wpX_f rfl rfl (fun K' hK' => ?_)
  go_simp
  have q49 := Own.new (W48) 2 [.int .i64 (-2), .int .i64 (-6)]
  have hq := ba1 (W48) (.cells #[.int .i64 (-2), .int .i64 (-6)] 2)
  obtain ⟨B49, hB49⟩ : ∃ B, B = (W48).heap.size := ⟨_, rfl⟩
  rw [← hB49] at q49 ⊢
  clear hB49
  replace t20 := t20.below hq
  replace hR := below_to hR hq
  clear hq
  refine hK' _ _ (grow_of hR) ?_
  clear hK' K'
  generalize (W48).alloc (.cells #[.int .i64 (-2), .int .i64 (-6)] 2) = W49 at *
  have s49_0 := si_of_own [-2, -6] 2 rfl (by decide) q49
  refine wpX_f rfl rfl (fun K' hK' => ?_)
  go_simp
  refine (ints39_any [-2, -6] _ _ s49_0 (by decide)).mono ?_
  rintro e W50 ⟨u50, rfl, t50, hq⟩
  replace t20 := t20.below hq
  replace s49_0 := s49_0.below hq
  replace hR := below_to hR hq
  clear hq
  refine hK' _ _ (grow_of hR) ?_
  clear hK' K'
  simp only [List.map] at t50
  clear s49_0
  refine wpX_f rfl rfl (fun K' hK' => ?_)
  go_simp
  refine (rsame_true [(-2, 1), (-6, 1)] _ _ _ t20 t50).mono ?_
  rintro e W51 ⟨rfl, hq⟩
  replace t20 := t20.below hq
  replace t50 := t50.below hq
  replace hR := below_to hR hq
  clear hq
  refine hK' _ _ (grow_of hR) ?_
  clear hK' K'
  clear t20 t50
  refine wpX_t ?_
  try simp only [opsAt, List.getElem?_toArray, List.getElem?_cons_zero, List.getElem?_cons_succ, Option.getD_some]
  repeat (go_big_quiet_step (fail))
  refine wpQuiet_nil ?_
  refine wpX_f rfl rfl (fun K' hK' => ?_)
  go_simp
  refine (rof_any 0 _).mono ?_
  rintro e W52 ⟨rfl, hq⟩
  replace hR := below_to hR hq
  clear hq
  refine hK' _ _ (grow_of hR) ?_
  clear hK' K'
  clear o44_0
  refine wpX_t ?_
  try simp only [opsAt, List.getElem?_toArray, List.getElem?_cons_zero, List.getElem?_cons_succ, Option.getD_some]
  repeat (go_big_quiet_step (fail))
  refine wpQuiet_nil ?_
  refine wpX_nil ?_
  try simp only [List.append, opsAt, List.getElem?_toArray, List.getElem?_cons_zero, List.getElem?_cons_succ, Option.getD_some]
  clear gl
  replace hy := below_to hy hR
  clear hR
  go_wp2_with fail
  have q53_0 := Own.new W52 2 [.int .i64 1000000000000000000, .int .i64 0]
  have hq := ba1 W52 (.cells #[.int .i64 1000000000000000000, .int .i64 0] 2)
  replace hy := below_to hy hq
  clear hq
  generalize (W52.alloc (.cells #[.int .i64 1000000000000000000, .int .i64 0] 2)) = W53 at *
  obtain ⟨B53, hB53⟩ : ∃ B, B = W52.heap.size := ⟨_, rfl⟩
  rw [← hB53] at q53_0 ⊢
  clear hB53
  have s53_0 := si_of_own [1000000000000000000, 0] 2 rfl (by decide) q53_0
  refine (ints39_any [1000000000000000000, 0] _ _ s53_0 (by decide)).mono ?_
  rintro e W54 ⟨u54, rfl, t54, hq⟩
  replace s53_0 := s53_0.below hq
  replace hy := below_to hy hq
  clear hq
  simp only [List.map] at t54
  clear s53_0
  go_wp2_with fail
  have q55_0 := (((Own.new W54 3 [.int .i64 2]).alloc (.cells #[.int .i64 1] 3)).alloc (.cells #[.slice (some ⟨W54.heap.size, 0, none⟩) 1 1, .slice (some ⟨W54.heap.size + 1, 0, none⟩) 1 1] 23)).alloc (.cells #[.int .i64 0, .int .i64 0] 3)
  have q55_1 := ((own_second W54 3 [.int .i64 1] (.cells #[.int .i64 2] 3)).alloc (.cells #[.slice (some ⟨W54.heap.size, 0, none⟩) 1 1, .slice (some ⟨W54.heap.size + 1, 0, none⟩) 1 1] 23)).alloc (.cells #[.int .i64 0, .int .i64 0] 3)
  have q55_2 := (own_third W54 23 [.slice (some ⟨W54.heap.size, 0, none⟩) 1 1, .slice (some ⟨W54.heap.size + 1, 0, none⟩) 1 1] (.cells #[.int .i64 2] 3) (.cells #[.int .i64 1] 3)).alloc (.cells #[.int .i64 0, .int .i64 0] 3)
  have q55_3 := own_4th W54 3 [.int .i64 0, .int .i64 0] (.cells #[.int .i64 2] 3) (.cells #[.int .i64 1] 3) (.cells #[.slice (some ⟨W54.heap.size, 0, none⟩) 1 1, .slice (some ⟨W54.heap.size + 1, 0, none⟩) 1 1] 23)
  have hq := ba4 W54 (.cells #[.int .i64 2] 3) (.cells #[.int .i64 1] 3) (.cells #[.slice (some ⟨W54.heap.size, 0, none⟩) 1 1, .slice (some ⟨W54.heap.size + 1, 0, none⟩) 1 1] 23) (.cells #[.int .i64 0, .int .i64 0] 3)
  replace t54 := t54.below hq
  replace hy := below_to hy hq
  clear hq
  generalize ((((W54.alloc (.cells #[.int .i64 2] 3)).alloc (.cells #[.int .i64 1] 3)).alloc (.cells #[.slice (some ⟨W54.heap.size, 0, none⟩) 1 1, .slice (some ⟨W54.heap.size + 1, 0, none⟩) 1 1] 23)).alloc (.cells #[.int .i64 0, .int .i64 0] 3)) = W55 at *
  obtain ⟨B55, hB55⟩ : ∃ B, B = W54.heap.size := ⟨_, rfl⟩
  rw [← hB55] at q55_0 q55_1 q55_2 q55_3 ⊢
  clear hB55
  have s55_0 := si_of_own [2] 1 rfl (by decide) q55_0
  have s55_1 := si_of_own [1] 1 rfl (by decide) q55_1
  have s55_2 := ss_of_own [[2], [1]] [(.slice (some ⟨B55, 0, none⟩) 1 1), (.slice (some ⟨B55 + 1, 0, none⟩) 1 1)] 2 rfl rfl (by decide) q55_2 (fun i h h' => by
    match i, h with
    | 0, _ => exact s55_0
    | 1, _ => exact s55_1
    )
  have s55_3 := si_of_own [0, 0] 2 rfl (by decide) q55_3
  refine (dfeas_any [[2], [1]] [0, 0] 2 [(1000000000000000000, 1), (0, 1)] _ _ _ _ s55_2 s55_3 t54 (fi_of _ (by decide))).mono ?_
  rintro e W56 ⟨rfl, hq⟩
  replace t54 := t54.below hq
  replace s55_0 := s55_0.below hq
  replace s55_1 := s55_1.below hq
  replace s55_2 := s55_2.below hq
  replace s55_3 := s55_3.below hq
  replace hy := below_to hy hq
  clear hq
  rw [show dfeas [[2], [1]] [0, 0] 2 [(1000000000000000000, 1), (0, 1)] = (false, 16) from by decide +kernel]
  clear s55_0 s55_1 s55_2 s55_3
  go_wp2_with fail
  refine (given39_any _).mono ?_
  rintro e W57 ⟨va57, vb57, rfl, hA57, hB57, hq⟩
  replace t54 := t54.below hq
  replace hy := below_to hy hq
  clear hq
  go_wp2_with fail
  refine (dworth_any [[1, 0], [0, 1]] [3, 1] [(1000000000000000000, 1), (0, 1)] _ _ _ _ hA57 hB57 t54 (fi_of _ (by decide))).mono ?_
  rintro e W58 ⟨rfl, hq⟩
  replace t54 := t54.below hq
  replace hA57 := hA57.below hq
  replace hB57 := hB57.below hq
  replace hy := below_to hy hq
  clear hq
  rw [show dworth [[1, 0], [0, 1]] [3, 1] [(1000000000000000000, 1), (0, 1)] = ⟨0, 0, 16⟩ from fr_is (by decide +kernel)]
  clear hA57 hB57
  go_wp2_with fail
  have q59_0 := Own.new W58 34 [.int .i64 0, .int .i64 0]
  have hq := ba1 W58 (.cells #[.int .i64 0, .int .i64 0] 34)
  replace t54 := t54.below hq
  replace hy := below_to hy hq
  clear hq
  generalize (W58.alloc (.cells #[.int .i64 0, .int .i64 0] 34)) = W59 at *
  obtain ⟨B59, hB59⟩ : ∃ B, B = W58.heap.size := ⟨_, rfl⟩
  rw [← hB59] at q59_0 ⊢
  clear hB59
  have o59_0 := q59_0
  refine (given39_any _).mono ?_
  rintro e W60 ⟨va60, vb60, rfl, hA60, hB60, hq⟩
  replace t54 := t54.below hq
  replace o59_0 := o59_0.below hq
  replace hy := below_to hy hq
  clear hq
  clear o59_0
  go_wp2_with fail
  refine (dmake_any [[1, 0], [0, 1]] [3, 1] 2 [(1000000000000000000, 1), (0, 1)] _ _ _ _ hA60 hB60 t54 (fi_of _ (by decide))).mono ?_
  rintro e W61 ⟨u61, rfl, t61, hq⟩
  replace t54 := t54.below hq
  replace hA60 := hA60.below hq
  replace hB60 := hB60.below hq
  replace hy := below_to hy hq
  clear hq
  have e61 : dMake [[1, 0], [0, 1]] [3, 1] 2 [(1000000000000000000, 1), (0, 1)] = ([(-999999999999999997, 1), (1, 1)], 0) := by decide +kernel
  rw [e61] at t61 ⊢
  clear e61
  clear t54 hA60 hB60
  go_wp2_with fail
  refine (given39_any _).mono ?_
  rintro e W62 ⟨va62, vb62, rfl, hA62, hB62, hq⟩
  replace t61 := t61.below hq
  replace hy := below_to hy hq
  clear hq
  go_wp2_with fail
  have q63_0 := Own.new W62 2 [.int .i64 1, .int .i64 1]
  have hq := ba1 W62 (.cells #[.int .i64 1, .int .i64 1] 2)
  replace t61 := t61.below hq
  replace hA62 := hA62.below hq
  replace hB62 := hB62.below hq
  replace hy := below_to hy hq
  clear hq
  generalize (W62.alloc (.cells #[.int .i64 1, .int .i64 1] 2)) = W63 at *
  obtain ⟨B63, hB63⟩ : ∃ B, B = W62.heap.size := ⟨_, rfl⟩
  rw [← hB63] at q63_0 ⊢
  clear hB63
  have s63_0 := si_of_own [1, 1] 2 rfl (by decide) q63_0
  refine (ints39_any [1, 1] _ _ s63_0 (by decide)).mono ?_
  rintro e W64 ⟨u64, rfl, t64, hq⟩
  replace t61 := t61.below hq
  replace hA62 := hA62.below hq
  replace hB62 := hB62.below hq
  replace s63_0 := s63_0.below hq
  replace hy := below_to hy hq
  clear hq
  simp only [List.map] at t64
  clear s63_0
  go_wp2_with fail
  refine (dfeas_any [[1, 0], [0, 1]] [3, 1] 1001 [(1, 1), (1, 1)] _ _ _ _ hA62 hB62 t64 (fi_of _ (by decide))).mono ?_
  rintro e W65 ⟨rfl, hq⟩
  replace t61 := t61.below hq
  replace hA62 := hA62.below hq
  replace hB62 := hB62.below hq
  replace t64 := t64.below hq
  replace hy := below_to hy hq
  clear hq
  rw [show dfeas [[1, 0], [0, 1]] [3, 1] 1001 [(1, 1), (1, 1)] = (false, 2) from by decide +kernel]
  clear hA62 hB62 t64
  go_wp2_with fail
  refine (given39_any _).mono ?_
  rintro e W66 ⟨va66, vb66, rfl, hA66, hB66, hq⟩
  replace t61 := t61.below hq
  replace hy := below_to hy hq
  clear hq
  go_wp2_with fail
  have q67_0 := Own.new W66 2 [.int .i64 1]
  have hq := ba1 W66 (.cells #[.int .i64 1] 2)
  replace t61 := t61.below hq
  replace hA66 := hA66.below hq
  replace hB66 := hB66.below hq
  replace hy := below_to hy hq
  clear hq
  generalize (W66.alloc (.cells #[.int .i64 1] 2)) = W67 at *
  obtain ⟨B67, hB67⟩ : ∃ B, B = W66.heap.size := ⟨_, rfl⟩
  rw [← hB67] at q67_0 ⊢
  clear hB67
  have s67_0 := si_of_own [1] 1 rfl (by decide) q67_0
  refine (ints39_any [1] _ _ s67_0 (by decide)).mono ?_
  rintro e W68 ⟨u68, rfl, t68, hq⟩
  replace t61 := t61.below hq
  replace hA66 := hA66.below hq
  replace hB66 := hB66.below hq
  replace s67_0 := s67_0.below hq
  replace hy := below_to hy hq
  clear hq
  simp only [List.map] at t68
  clear s67_0
  go_wp2_with fail
  refine (dfeas_any [[1, 0], [0, 1]] [3, 1] 2 [(1, 1)] _ _ _ _ hA66 hB66 t68 (fi_of _ (by decide))).mono ?_
  rintro e W69 ⟨rfl, hq⟩
  replace t61 := t61.below hq
  replace hA66 := hA66.below hq
  replace hB66 := hB66.below hq
  replace t68 := t68.below hq
  replace hy := below_to hy hq
  clear hq
  rw [show dfeas [[1, 0], [0, 1]] [3, 1] 2 [(1, 1)] = (false, 2) from by decide +kernel]
  clear hA66 hB66 t68
  go_wp2_with fail
  refine (given39_any _).mono ?_
  rintro e W70 ⟨va70, vb70, rfl, hA70, hB70, hq⟩
  replace t61 := t61.below hq
  replace hy := below_to hy hq
  clear hq
  go_wp2_with fail
  have q71_0 := Own.new W70 34 [.int .i64 0, .int .i64 0, .int .i64 0, .int .i64 1]
  have hq := ba1 W70 (.cells #[.int .i64 0, .int .i64 0, .int .i64 0, .int .i64 1] 34)
  replace t61 := t61.below hq
  replace hA70 := hA70.below hq
  replace hB70 := hB70.below hq
  replace hy := below_to hy hq
  clear hq
  generalize (W70.alloc (.cells #[.int .i64 0, .int .i64 0, .int .i64 0, .int .i64 1] 34)) = W71 at *
  obtain ⟨B71, hB71⟩ : ∃ B, B = W70.heap.size := ⟨_, rfl⟩
  rw [← hB71] at q71_0 ⊢
  clear hB71
  have s71_0 := sf_of_own [(0, 0), (0, 1)] 2 rfl (by decide) q71_0
  refine (dworth_any [[1, 0], [0, 1]] [3, 1] [(0, 0), (0, 1)] _ _ _ _ hA70 hB70 s71_0 (fi_of _ (by decide))).mono ?_
  rintro e W72 ⟨rfl, hq⟩
  replace t61 := t61.below hq
  replace hA70 := hA70.below hq
  replace hB70 := hB70.below hq
  replace s71_0 := s71_0.below hq
  replace hy := below_to hy hq
  clear hq
  rw [show dworth [[1, 0], [0, 1]] [3, 1] [(0, 0), (0, 1)] = ⟨0, 0, 2⟩ from fr_is (by decide +kernel)]
  clear hA70 hB70 s71_0
  go_wp2_with fail
  have q73_0 := Own.new W72 34 [.int .i64 0, .int .i64 0]
  have hq := ba1 W72 (.cells #[.int .i64 0, .int .i64 0] 34)
  replace t61 := t61.below hq
  replace hy := below_to hy hq
  clear hq
  generalize (W72.alloc (.cells #[.int .i64 0, .int .i64 0] 34)) = W73 at *
  obtain ⟨B73, hB73⟩ : ∃ B, B = W72.heap.size := ⟨_, rfl⟩
  rw [← hB73] at q73_0 ⊢
  clear hB73
  have o73_0 := q73_0
  refine (dworth_any [] [] [] _ _ _ _ (ss_nil _) (si_nil _) (sf_nil _) (fi_of _ (by decide))).mono ?_
  rintro e W74 ⟨rfl, hq⟩
  replace t61 := t61.below hq
  replace o73_0 := o73_0.below hq
  replace hy := below_to hy hq
  clear hq
  rw [show dworth [] [] [] = ⟨0, 0, 8⟩ from fr_is (by decide +kernel)]
  clear o73_0
  go_wp2_with fail
  have q75_0 := Own.new W74 34 [.int .i64 0, .int .i64 0]
  have hq := ba1 W74 (.cells #[.int .i64 0, .int .i64 0] 34)
  replace t61 := t61.below hq
  replace hy := below_to hy hq
  clear hq
  generalize (W74.alloc (.cells #[.int .i64 0, .int .i64 0] 34)) = W75 at *
  obtain ⟨B75, hB75⟩ : ∃ B, B = W74.heap.size := ⟨_, rfl⟩
  rw [← hB75] at q75_0 ⊢
  clear hB75
  have o75_0 := q75_0
  refine (given39_any _).mono ?_
  rintro e W76 ⟨va76, vb76, rfl, hA76, hB76, hq⟩
  replace t61 := t61.below hq
  replace o75_0 := o75_0.below hq
  replace hy := below_to hy hq
  clear hq
  clear o75_0
  go_wp2_with fail
  have q77_0 := Own.new W76 2 [.int .i64 1, .int .i64 (-1)]
  have hq := ba1 W76 (.cells #[.int .i64 1, .int .i64 (-1)] 2)
  replace t61 := t61.below hq
  replace hA76 := hA76.below hq
  replace hB76 := hB76.below hq
  replace hy := below_to hy hq
  clear hq
  generalize (W76.alloc (.cells #[.int .i64 1, .int .i64 (-1)] 2)) = W77 at *
  obtain ⟨B77, hB77⟩ : ∃ B, B = W76.heap.size := ⟨_, rfl⟩
  rw [← hB77] at q77_0 ⊢
  clear hB77
  have s77_0 := si_of_own [1, -1] 2 rfl (by decide) q77_0
  refine (ints39_any [1, -1] _ _ s77_0 (by decide)).mono ?_
  rintro e W78 ⟨u78, rfl, t78, hq⟩
  replace t61 := t61.below hq
  replace hA76 := hA76.below hq
  replace hB76 := hB76.below hq
  replace s77_0 := s77_0.below hq
  replace hy := below_to hy hq
  clear hq
  simp only [List.map] at t78
  clear s77_0
  go_wp2_with fail
  refine (dmake_any [[1, 0], [0, 1]] [3, 1] 2 [(1, 1), (-1, 1)] _ _ _ _ hA76 hB76 t78 (fi_of _ (by decide))).mono ?_
  rintro e W79 ⟨u79, rfl, t79, hq⟩
  replace t61 := t61.below hq
  replace hA76 := hA76.below hq
  replace hB76 := hB76.below hq
  replace t78 := t78.below hq
  replace hy := below_to hy hq
  clear hq
  have e79 : dMake [[1, 0], [0, 1]] [3, 1] 2 [(1, 1), (-1, 1)] = ([], 2) := by decide +kernel
  rw [e79] at t79 ⊢
  clear e79
  clear hA76 hB76 t78
  go_wp2_with fail
  refine (given39_any _).mono ?_
  rintro e W80 ⟨va80, vb80, rfl, hA80, hB80, hq⟩
  replace t61 := t61.below hq
  replace t79 := t79.below hq
  replace hy := below_to hy hq
  clear hq
  go_wp2_with fail
  have q81_0 := Own.new W80 2 [.int .i64 1, .int .i64 1]
  have hq := ba1 W80 (.cells #[.int .i64 1, .int .i64 1] 2)
  replace t61 := t61.below hq
  replace t79 := t79.below hq
  replace hA80 := hA80.below hq
  replace hB80 := hB80.below hq
  replace hy := below_to hy hq
  clear hq
  generalize (W80.alloc (.cells #[.int .i64 1, .int .i64 1] 2)) = W81 at *
  obtain ⟨B81, hB81⟩ : ∃ B, B = W80.heap.size := ⟨_, rfl⟩
  rw [← hB81] at q81_0 ⊢
  clear hB81
  have s81_0 := si_of_own [1, 1] 2 rfl (by decide) q81_0
  refine (ints39_any [1, 1] _ _ s81_0 (by decide)).mono ?_
  rintro e W82 ⟨u82, rfl, t82, hq⟩
  replace t61 := t61.below hq
  replace t79 := t79.below hq
  replace hA80 := hA80.below hq
  replace hB80 := hB80.below hq
  replace s81_0 := s81_0.below hq
  replace hy := below_to hy hq
  clear hq
  simp only [List.map] at t82
  clear s81_0
  go_wp2_with fail
  have q83_0 := Own.new W82 2 [.int .i64 1, .int .i64 1]
  have hq := ba1 W82 (.cells #[.int .i64 1, .int .i64 1] 2)
  replace t61 := t61.below hq
  replace t79 := t79.below hq
  replace hA80 := hA80.below hq
  replace hB80 := hB80.below hq
  replace t82 := t82.below hq
  replace hy := below_to hy hq
  clear hq
  generalize (W82.alloc (.cells #[.int .i64 1, .int .i64 1] 2)) = W83 at *
  obtain ⟨B83, hB83⟩ : ∃ B, B = W82.heap.size := ⟨_, rfl⟩
  rw [← hB83] at q83_0 ⊢
  clear hB83
  have s83_0 := si_of_own [1, 1] 2 rfl (by decide) q83_0
  refine (ints39_any [1, 1] _ _ s83_0 (by decide)).mono ?_
  rintro e W84 ⟨u84, rfl, t84, hq⟩
  replace t61 := t61.below hq
  replace t79 := t79.below hq
  replace hA80 := hA80.below hq
  replace hB80 := hB80.below hq
  replace t82 := t82.below hq
  replace s83_0 := s83_0.below hq
  replace hy := below_to hy hq
  clear hq
  simp only [List.map] at t84
  clear s83_0
  go_wp2_with fail
  refine (dgap_any [[1, 0], [0, 1]] [3, 1] (-1) [(1, 1), (1, 1)] [(1, 1), (1, 1)] _ _ _ _ _ hA80 hB80 t82 (fi_of _ (by decide)) t84 (fi_of _ (by decide))).mono ?_
  rintro e W85 ⟨rfl, hq⟩
  replace t61 := t61.below hq
  replace t79 := t79.below hq
  replace hA80 := hA80.below hq
  replace hB80 := hB80.below hq
  replace t82 := t82.below hq
  replace t84 := t84.below hq
  replace hy := below_to hy hq
  clear hq
  rw [show dgap [[1, 0], [0, 1]] [3, 1] (-1) [(1, 1), (1, 1)] [(1, 1), (1, 1)] = ⟨0, 0, 2⟩ from fr_is (by decide +kernel)]
  clear hA80 hB80 t82 t84
  go_wp2_with fail
  have q86_0 := Own.new W85 34 [.int .i64 0, .int .i64 0]
  have hq := ba1 W85 (.cells #[.int .i64 0, .int .i64 0] 34)
  replace t61 := t61.below hq
  replace t79 := t79.below hq
  replace hy := below_to hy hq
  clear hq
  generalize (W85.alloc (.cells #[.int .i64 0, .int .i64 0] 34)) = W86 at *
  obtain ⟨B86, hB86⟩ : ∃ B, B = W85.heap.size := ⟨_, rfl⟩
  rw [← hB86] at q86_0 ⊢
  clear hB86
  have o86_0 := q86_0
  refine (given39_any _).mono ?_
  rintro e W87 ⟨va87, vb87, rfl, hA87, hB87, hq⟩
  replace t61 := t61.below hq
  replace t79 := t79.below hq
  replace o86_0 := o86_0.below hq
  replace hy := below_to hy hq
  clear hq
  clear o86_0
  go_wp2_with fail
  have q88_0 := Own.new W87 2 [.int .i64 1]
  have hq := ba1 W87 (.cells #[.int .i64 1] 2)
  replace t61 := t61.below hq
  replace t79 := t79.below hq
  replace hA87 := hA87.below hq
  replace hB87 := hB87.below hq
  replace hy := below_to hy hq
  clear hq
  generalize (W87.alloc (.cells #[.int .i64 1] 2)) = W88 at *
  obtain ⟨B88, hB88⟩ : ∃ B, B = W87.heap.size := ⟨_, rfl⟩
  rw [← hB88] at q88_0 ⊢
  clear hB88
  have s88_0 := si_of_own [1] 1 rfl (by decide) q88_0
  refine (ints39_any [1] _ _ s88_0 (by decide)).mono ?_
  rintro e W89 ⟨u89, rfl, t89, hq⟩
  replace t61 := t61.below hq
  replace t79 := t79.below hq
  replace hA87 := hA87.below hq
  replace hB87 := hB87.below hq
  replace s88_0 := s88_0.below hq
  replace hy := below_to hy hq
  clear hq
  simp only [List.map] at t89
  clear s88_0
  go_wp2_with fail
  have q90_0 := Own.new W89 2 [.int .i64 1, .int .i64 1]
  have hq := ba1 W89 (.cells #[.int .i64 1, .int .i64 1] 2)
  replace t61 := t61.below hq
  replace t79 := t79.below hq
  replace hA87 := hA87.below hq
  replace hB87 := hB87.below hq
  replace t89 := t89.below hq
  replace hy := below_to hy hq
  clear hq
  generalize (W89.alloc (.cells #[.int .i64 1, .int .i64 1] 2)) = W90 at *
  obtain ⟨B90, hB90⟩ : ∃ B, B = W89.heap.size := ⟨_, rfl⟩
  rw [← hB90] at q90_0 ⊢
  clear hB90
  have s90_0 := si_of_own [1, 1] 2 rfl (by decide) q90_0
  refine (ints39_any [1, 1] _ _ s90_0 (by decide)).mono ?_
  rintro e W91 ⟨u91, rfl, t91, hq⟩
  replace t61 := t61.below hq
  replace t79 := t79.below hq
  replace hA87 := hA87.below hq
  replace hB87 := hB87.below hq
  replace t89 := t89.below hq
  replace s90_0 := s90_0.below hq
  replace hy := below_to hy hq
  clear hq
  simp only [List.map] at t91
  clear s90_0
  go_wp2_with fail
  refine (dgap_any [[1, 0], [0, 1]] [3, 1] 2 [(1, 1)] [(1, 1), (1, 1)] _ _ _ _ _ hA87 hB87 t89 (fi_of _ (by decide)) t91 (fi_of _ (by decide))).mono ?_
  rintro e W92 ⟨rfl, hq⟩
  replace t61 := t61.below hq
  replace t79 := t79.below hq
  replace hA87 := hA87.below hq
  replace hB87 := hB87.below hq
  replace t89 := t89.below hq
  replace t91 := t91.below hq
  replace hy := below_to hy hq
  clear hq
  rw [show dgap [[1, 0], [0, 1]] [3, 1] 2 [(1, 1)] [(1, 1), (1, 1)] = ⟨0, 0, 2⟩ from fr_is (by decide +kernel)]
  clear hA87 hB87 t89 t91
  go_wp2_with fail
  have q93_0 := Own.new W92 34 [.int .i64 0, .int .i64 0]
  have hq := ba1 W92 (.cells #[.int .i64 0, .int .i64 0] 34)
  replace t61 := t61.below hq
  replace t79 := t79.below hq
  replace hy := below_to hy hq
  clear hq
  generalize (W92.alloc (.cells #[.int .i64 0, .int .i64 0] 34)) = W93 at *
  obtain ⟨B93, hB93⟩ : ∃ B, B = W92.heap.size := ⟨_, rfl⟩
  rw [← hB93] at q93_0 ⊢
  clear hB93
  have o93_0 := q93_0
  refine (given39_any _).mono ?_
  rintro e W94 ⟨va94, vb94, rfl, hA94, hB94, hq⟩
  replace t61 := t61.below hq
  replace t79 := t79.below hq
  replace o93_0 := o93_0.below hq
  replace hy := below_to hy hq
  clear hq
  clear o93_0
  go_wp2_with fail
  have q95_0 := Own.new W94 2 [.int .i64 1, .int .i64 1]
  have hq := ba1 W94 (.cells #[.int .i64 1, .int .i64 1] 2)
  replace t61 := t61.below hq
  replace t79 := t79.below hq
  replace hA94 := hA94.below hq
  replace hB94 := hB94.below hq
  replace hy := below_to hy hq
  clear hq
  generalize (W94.alloc (.cells #[.int .i64 1, .int .i64 1] 2)) = W95 at *
  obtain ⟨B95, hB95⟩ : ∃ B, B = W94.heap.size := ⟨_, rfl⟩
  rw [← hB95] at q95_0 ⊢
  clear hB95
  have s95_0 := si_of_own [1, 1] 2 rfl (by decide) q95_0
  refine (ints39_any [1, 1] _ _ s95_0 (by decide)).mono ?_
  rintro e W96 ⟨u96, rfl, t96, hq⟩
  replace t61 := t61.below hq
  replace t79 := t79.below hq
  replace hA94 := hA94.below hq
  replace hB94 := hB94.below hq
  replace s95_0 := s95_0.below hq
  replace hy := below_to hy hq
  clear hq
  simp only [List.map] at t96
  clear s95_0
  go_wp2_with fail
  have q97_0 := Own.new W96 2 [.int .i64 1, .int .i64 1, .int .i64 1]
  have hq := ba1 W96 (.cells #[.int .i64 1, .int .i64 1, .int .i64 1] 2)
  replace t61 := t61.below hq
  replace t79 := t79.below hq
  replace hA94 := hA94.below hq
  replace hB94 := hB94.below hq
  replace t96 := t96.below hq
  replace hy := below_to hy hq
  clear hq
  generalize (W96.alloc (.cells #[.int .i64 1, .int .i64 1, .int .i64 1] 2)) = W97 at *
  obtain ⟨B97, hB97⟩ : ∃ B, B = W96.heap.size := ⟨_, rfl⟩
  rw [← hB97] at q97_0 ⊢
  clear hB97
  have s97_0 := si_of_own [1, 1, 1] 3 rfl (by decide) q97_0
  refine (ints39_any [1, 1, 1] _ _ s97_0 (by decide)).mono ?_
  rintro e W98 ⟨u98, rfl, t98, hq⟩
  replace t61 := t61.below hq
  replace t79 := t79.below hq
  replace hA94 := hA94.below hq
  replace hB94 := hB94.below hq
  replace t96 := t96.below hq
  replace s97_0 := s97_0.below hq
  replace hy := below_to hy hq
  clear hq
  simp only [List.map] at t98
  clear s97_0
  go_wp2_with fail
  refine (dgap_any [[1, 0], [0, 1]] [3, 1] 2 [(1, 1), (1, 1)] [(1, 1), (1, 1), (1, 1)] _ _ _ _ _ hA94 hB94 t96 (fi_of _ (by decide)) t98 (fi_of _ (by decide))).mono ?_
  rintro e W99 ⟨rfl, hq⟩
  replace t61 := t61.below hq
  replace t79 := t79.below hq
  replace hA94 := hA94.below hq
  replace hB94 := hB94.below hq
  replace t96 := t96.below hq
  replace t98 := t98.below hq
  replace hy := below_to hy hq
  clear hq
  rw [show dgap [[1, 0], [0, 1]] [3, 1] 2 [(1, 1), (1, 1)] [(1, 1), (1, 1), (1, 1)] = ⟨0, 0, 2⟩ from fr_is (by decide +kernel)]
  clear hA94 hB94 t96 t98
  go_wp2_with fail
  have q100_0 := Own.new W99 34 [.int .i64 0, .int .i64 0]
  have hq := ba1 W99 (.cells #[.int .i64 0, .int .i64 0] 34)
  replace t61 := t61.below hq
  replace t79 := t79.below hq
  replace hy := below_to hy hq
  clear hq
  generalize (W99.alloc (.cells #[.int .i64 0, .int .i64 0] 34)) = W100 at *
  obtain ⟨B100, hB100⟩ : ∃ B, B = W99.heap.size := ⟨_, rfl⟩
  rw [← hB100] at q100_0 ⊢
  clear hB100
  have o100_0 := q100_0
  refine (given39_any _).mono ?_
  rintro e W101 ⟨va101, vb101, rfl, hA101, hB101, hq⟩
  replace t61 := t61.below hq
  replace t79 := t79.below hq
  replace o100_0 := o100_0.below hq
  replace hy := below_to hy hq
  clear hq
  clear o100_0
  go_wp2_with fail
  have q102_0 := Own.new W101 2 [.int .i64 1, .int .i64 1]
  have hq := ba1 W101 (.cells #[.int .i64 1, .int .i64 1] 2)
  replace t61 := t61.below hq
  replace t79 := t79.below hq
  replace hA101 := hA101.below hq
  replace hB101 := hB101.below hq
  replace hy := below_to hy hq
  clear hq
  generalize (W101.alloc (.cells #[.int .i64 1, .int .i64 1] 2)) = W102 at *
  obtain ⟨B102, hB102⟩ : ∃ B, B = W101.heap.size := ⟨_, rfl⟩
  rw [← hB102] at q102_0 ⊢
  clear hB102
  have s102_0 := si_of_own [1, 1] 2 rfl (by decide) q102_0
  refine (ints39_any [1, 1] _ _ s102_0 (by decide)).mono ?_
  rintro e W103 ⟨u103, rfl, t103, hq⟩
  replace t61 := t61.below hq
  replace t79 := t79.below hq
  replace hA101 := hA101.below hq
  replace hB101 := hB101.below hq
  replace s102_0 := s102_0.below hq
  replace hy := below_to hy hq
  clear hq
  simp only [List.map] at t103
  clear s102_0
  go_wp2_with fail
  have q104_0 := Own.new W103 2 [.int .i64 1, .int .i64 1]
  have hq := ba1 W103 (.cells #[.int .i64 1, .int .i64 1] 2)
  replace t61 := t61.below hq
  replace t79 := t79.below hq
  replace hA101 := hA101.below hq
  replace hB101 := hB101.below hq
  replace t103 := t103.below hq
  replace hy := below_to hy hq
  clear hq
  generalize (W103.alloc (.cells #[.int .i64 1, .int .i64 1] 2)) = W104 at *
  obtain ⟨B104, hB104⟩ : ∃ B, B = W103.heap.size := ⟨_, rfl⟩
  rw [← hB104] at q104_0 ⊢
  clear hB104
  have s104_0 := si_of_own [1, 1] 2 rfl (by decide) q104_0
  refine (ints39_any [1, 1] _ _ s104_0 (by decide)).mono ?_
  rintro e W105 ⟨u105, rfl, t105, hq⟩
  replace t61 := t61.below hq
  replace t79 := t79.below hq
  replace hA101 := hA101.below hq
  replace hB101 := hB101.below hq
  replace t103 := t103.below hq
  replace s104_0 := s104_0.below hq
  replace hy := below_to hy hq
  clear hq
  simp only [List.map] at t105
  clear s104_0
  go_wp2_with fail
  refine (dacc_any [[1, 0], [0, 1]] [3, 1] 2 [(1, 1), (1, 1)] [(1, 1), (1, 1)] 2 2 _ _ _ _ _ hA101 hB101 t103 (fi_of _ (by decide)) t105 (fi_of _ (by decide)) ⟨by decide, by decide⟩ ⟨by decide, by decide⟩).mono ?_
  rintro e W106 ⟨rfl, hq⟩
  replace t61 := t61.below hq
  replace t79 := t79.below hq
  replace hA101 := hA101.below hq
  replace hB101 := hB101.below hq
  replace t103 := t103.below hq
  replace t105 := t105.below hq
  replace hy := below_to hy hq
  clear hq
  rw [show daccept [[1, 0], [0, 1]] [3, 1] 2 [(1, 1), (1, 1)] [(1, 1), (1, 1)] 2 2 = (false, 8) from by decide +kernel]
  clear hA101 hB101 t103 t105
  go_wp2_with fail
  refine (given39_any _).mono ?_
  rintro e W107 ⟨va107, vb107, rfl, hA107, hB107, hq⟩
  replace t61 := t61.below hq
  replace t79 := t79.below hq
  replace hy := below_to hy hq
  clear hq
  go_wp2_with fail
  have q108_0 := Own.new W107 2 [.int .i64 1, .int .i64 1]
  have hq := ba1 W107 (.cells #[.int .i64 1, .int .i64 1] 2)
  replace t61 := t61.below hq
  replace t79 := t79.below hq
  replace hA107 := hA107.below hq
  replace hB107 := hB107.below hq
  replace hy := below_to hy hq
  clear hq
  generalize (W107.alloc (.cells #[.int .i64 1, .int .i64 1] 2)) = W108 at *
  obtain ⟨B108, hB108⟩ : ∃ B, B = W107.heap.size := ⟨_, rfl⟩
  rw [← hB108] at q108_0 ⊢
  clear hB108
  have s108_0 := si_of_own [1, 1] 2 rfl (by decide) q108_0
  refine (ints39_any [1, 1] _ _ s108_0 (by decide)).mono ?_
  rintro e W109 ⟨u109, rfl, t109, hq⟩
  replace t61 := t61.below hq
  replace t79 := t79.below hq
  replace hA107 := hA107.below hq
  replace hB107 := hB107.below hq
  replace s108_0 := s108_0.below hq
  replace hy := below_to hy hq
  clear hq
  simp only [List.map] at t109
  clear s108_0
  go_wp2_with fail
  have q110_0 := Own.new W109 2 [.int .i64 1]
  have hq := ba1 W109 (.cells #[.int .i64 1] 2)
  replace t61 := t61.below hq
  replace t79 := t79.below hq
  replace hA107 := hA107.below hq
  replace hB107 := hB107.below hq
  replace t109 := t109.below hq
  replace hy := below_to hy hq
  clear hq
  generalize (W109.alloc (.cells #[.int .i64 1] 2)) = W110 at *
  obtain ⟨B110, hB110⟩ : ∃ B, B = W109.heap.size := ⟨_, rfl⟩
  rw [← hB110] at q110_0 ⊢
  clear hB110
  have s110_0 := si_of_own [1] 1 rfl (by decide) q110_0
  refine (ints39_any [1] _ _ s110_0 (by decide)).mono ?_
  rintro e W111 ⟨u111, rfl, t111, hq⟩
  replace t61 := t61.below hq
  replace t79 := t79.below hq
  replace hA107 := hA107.below hq
  replace hB107 := hB107.below hq
  replace t109 := t109.below hq
  replace s110_0 := s110_0.below hq
  replace hy := below_to hy hq
  clear hq
  simp only [List.map] at t111
  clear s110_0
  go_wp2_with fail
  refine (dacc_any [[1, 0], [0, 1]] [3, 1] 2 [(1, 1), (1, 1)] [(1, 1)] 0 0 _ _ _ _ _ hA107 hB107 t109 (fi_of _ (by decide)) t111 (fi_of _ (by decide)) ⟨by decide, by decide⟩ ⟨by decide, by decide⟩).mono ?_
  rintro e W112 ⟨rfl, hq⟩
  replace t61 := t61.below hq
  replace t79 := t79.below hq
  replace hA107 := hA107.below hq
  replace hB107 := hB107.below hq
  replace t109 := t109.below hq
  replace t111 := t111.below hq
  replace hy := below_to hy hq
  clear hq
  rw [show daccept [[1, 0], [0, 1]] [3, 1] 2 [(1, 1), (1, 1)] [(1, 1)] 0 0 = (false, 2) from by decide +kernel]
  clear hA107 hB107 t109 t111
  go_wp2_with fail
  have q113_0 := ((Own.new W112 3 [.int .i64 6]).alloc (.cells #[.slice (some ⟨W112.heap.size, 0, none⟩) 1 1] 23)).alloc (.cells #[.int .i64 1] 3)
  have q113_1 := (own_second W112 23 [.slice (some ⟨W112.heap.size, 0, none⟩) 1 1] (.cells #[.int .i64 6] 3)).alloc (.cells #[.int .i64 1] 3)
  have q113_2 := own_third W112 3 [.int .i64 1] (.cells #[.int .i64 6] 3) (.cells #[.slice (some ⟨W112.heap.size, 0, none⟩) 1 1] 23)
  have hq := ba3 W112 (.cells #[.int .i64 6] 3) (.cells #[.slice (some ⟨W112.heap.size, 0, none⟩) 1 1] 23) (.cells #[.int .i64 1] 3)
  replace t61 := t61.below hq
  replace t79 := t79.below hq
  replace hy := below_to hy hq
  clear hq
  generalize (((W112.alloc (.cells #[.int .i64 6] 3)).alloc (.cells #[.slice (some ⟨W112.heap.size, 0, none⟩) 1 1] 23)).alloc (.cells #[.int .i64 1] 3)) = W113 at *
  obtain ⟨B113, hB113⟩ : ∃ B, B = W112.heap.size := ⟨_, rfl⟩
  rw [← hB113] at q113_0 q113_1 q113_2 ⊢
  clear hB113
  have s113_0 := si_of_own [6] 1 rfl (by decide) q113_0
  have s113_1 := ss_of_own [[6]] [(.slice (some ⟨B113, 0, none⟩) 1 1)] 1 rfl rfl (by decide) q113_1 (fun i h h' => by
    match i, h with
    | 0, _ => exact s113_0
    )
  have s113_2 := si_of_own [1] 1 rfl (by decide) q113_2
  refine (dacc_any [[6]] [1] 2 [] [] 0 0 _ _ _ _ _ s113_1 s113_2 (sf_nil _) (fi_of _ (by decide)) (sf_nil _) (fi_of _ (by decide)) ⟨by decide, by decide⟩ ⟨by decide, by decide⟩).mono ?_
  rintro e W114 ⟨rfl, hq⟩
  replace t61 := t61.below hq
  replace t79 := t79.below hq
  replace s113_0 := s113_0.below hq
  replace s113_1 := s113_1.below hq
  replace s113_2 := s113_2.below hq
  replace hy := below_to hy hq
  clear hq
  rw [show daccept [[6]] [1] 2 [] [] 0 0 = (false, 8) from by decide +kernel]
  clear s113_0 s113_1 s113_2
  go_wp2_with fail
  refine (alive39_any _).mono ?_
  rintro e W115 ⟨rfl, hq⟩
  replace t61 := t61.below hq
  replace t79 := t79.below hq
  replace hy := below_to hy hq
  clear hq
  clear t61 t79

  go_wp2
  go_ret
  exact ⟨rfl, hy⟩
end Go.Proofs.Ytfbigmjlppdlhaa
