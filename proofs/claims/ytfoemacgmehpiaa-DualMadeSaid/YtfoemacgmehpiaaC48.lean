/- What is proved here: contracts of functions and plain facts, several texts in one; each one says ahead what it proves, and its conditions. -/
import Derived.Test.YtfoemacgmehpiaaC45
import Derived.Test.YtfoemacgmehpiaaC47
import Derived.Test.YtfoemacgmehpiaaC44
import Derived.Test.YtfoemacgmehpiaaC28
import Derived.Deep.DeepCutAuto
/- What is proved here: fringelaw39.alive returns true. No condition. -/
namespace Go.Proofs.Ytfoemacgmehpiaa
open Go.RowKit

set_option maxRecDepth 100000 in
set_option maxHeartbeats 64000000 in
theorem alive39_any (w : World) : Calls Try.prog 35 #[] w fun e w' => e = .returned (.bool true) ∧ Below w.heap.size w w' := by
  go_enter Try.func35, Try.ntmps35
  have hy := Below.refl w.heap.size w
  go_wp2_with fail
  refine (given39_any _).mono ?_
  rintro e W1 ⟨va1, vb1, rfl, hA1, hB1, hq⟩
  replace hy := below_to hy hq
  clear hq
  go_wp2_with fail
  have q2_0 := Own.new W1 2 [.int .i64 1, .int .i64 0]
  have hq := ba1 W1 (.cells #[.int .i64 1, .int .i64 0] 2)
  replace hA1 := hA1.below hq
  replace hB1 := hB1.below hq
  replace hy := below_to hy hq
  clear hq
  obtain ⟨B2, hB2⟩ : ∃ B, B = W1.heap.size := ⟨_, rfl⟩
  rw [← hB2] at q2_0 ⊢
  clear hB2
  generalize (W1.alloc (.cells #[.int .i64 1, .int .i64 0] 2)) = W2 at *
  have s2_0 := si_of_own [1, 0] 2 rfl (by decide) q2_0
  refine (ints39_any [1, 0] _ _ s2_0 (by decide)).mono ?_
  rintro e W3 ⟨u3, rfl, t3, hq⟩
  replace hA1 := hA1.below hq
  replace hB1 := hB1.below hq
  replace s2_0 := s2_0.below hq
  replace hy := below_to hy hq
  clear hq
  simp only [List.map] at t3
  clear s2_0
  go_wp2_with fail
  refine (dmake_any [[1, 0], [0, 1]] [3, 1] 2 [(1, 1), (0, 1)] _ _ _ _ hA1 hB1 t3 (fi_of _ (by decide))).mono ?_
  rintro e W4 ⟨u4, rfl, t4, hq⟩
  replace hA1 := hA1.below hq
  replace hB1 := hB1.below hq
  replace t3 := t3.below hq
  replace hy := below_to hy hq
  clear hq
  have e4 : dMake [[1, 0], [0, 1]] [3, 1] 2 [(1, 1), (0, 1)] = ([(2, 1), (1, 1)], 0) := by decide +kernel
  rw [e4] at t4 ⊢
  clear e4
  clear hA1 hB1 t3
  go_wp2_with fail
  refine (given39_any _).mono ?_
  rintro e W5 ⟨va5, vb5, rfl, hA5, hB5, hq⟩
  replace t4 := t4.below hq
  replace hy := below_to hy hq
  clear hq
  go_wp2_with fail
  refine (dworth_any [[1, 0], [0, 1]] [3, 1] [(2, 1), (1, 1)] _ _ _ _ hA5 hB5 t4 (fi_of _ (by decide))).mono ?_
  rintro e W6 ⟨rfl, hq⟩
  replace t4 := t4.below hq
  replace hA5 := hA5.below hq
  replace hB5 := hB5.below hq
  replace hy := below_to hy hq
  clear hq
  rw [show dworth [[1, 0], [0, 1]] [3, 1] [(2, 1), (1, 1)] = ⟨9, 2, 0⟩ from fr_is (by decide +kernel)]
  clear hA5 hB5
  go_wp2_with fail
  have q7_0 := Own.new W6 39 [.int .i64 9, .int .i64 2]
  have hq := ba1 W6 (.cells #[.int .i64 9, .int .i64 2] 39)
  replace t4 := t4.below hq
  replace hy := below_to hy hq
  clear hq
  obtain ⟨B7, hB7⟩ : ∃ B, B = W6.heap.size := ⟨_, rfl⟩
  rw [← hB7] at q7_0 ⊢
  clear hB7
  generalize (W6.alloc (.cells #[.int .i64 9, .int .i64 2] 39)) = W7 at *
  have o7_0 := q7_0
  refine (given39_any _).mono ?_
  rintro e W8 ⟨va8, vb8, rfl, hA8, hB8, hq⟩
  replace t4 := t4.below hq
  replace o7_0 := o7_0.below hq
  replace hy := below_to hy hq
  clear hq
  obtain ⟨r7_0, f7_0⟩ := o7_0.rules
  have z7_0 := o7_0.lt
  go_wp2_with fail
  clear r7_0 f7_0 z7_0
  have q9_0 := Own.new W8 2 [.int .i64 1, .int .i64 0]
  have hq := ba1 W8 (.cells #[.int .i64 1, .int .i64 0] 2)
  replace t4 := t4.below hq
  replace o7_0 := o7_0.below hq
  replace hA8 := hA8.below hq
  replace hB8 := hB8.below hq
  replace hy := below_to hy hq
  clear hq
  obtain ⟨B9, hB9⟩ : ∃ B, B = W8.heap.size := ⟨_, rfl⟩
  rw [← hB9] at q9_0 ⊢
  clear hB9
  generalize (W8.alloc (.cells #[.int .i64 1, .int .i64 0] 2)) = W9 at *
  have s9_0 := si_of_own [1, 0] 2 rfl (by decide) q9_0
  refine (ints39_any [1, 0] _ _ s9_0 (by decide)).mono ?_
  rintro e W10 ⟨u10, rfl, t10, hq⟩
  replace t4 := t4.below hq
  replace o7_0 := o7_0.below hq
  replace hA8 := hA8.below hq
  replace hB8 := hB8.below hq
  replace s9_0 := s9_0.below hq
  replace hy := below_to hy hq
  clear hq
  simp only [List.map] at t10
  clear s9_0
  obtain ⟨r7_0, f7_0⟩ := o7_0.rules
  have z7_0 := o7_0.lt
  go_wp2_with fail
  clear r7_0 f7_0 z7_0
  refine (dgap_any [[1, 0], [0, 1]] [3, 1] 2 [(1, 1), (0, 1)] [(2, 1), (1, 1)] _ _ _ _ _ hA8 hB8 t10 (fi_of _ (by decide)) t4 (fi_of _ (by decide))).mono ?_
  rintro e W11 ⟨rfl, hq⟩
  replace t4 := t4.below hq
  replace o7_0 := o7_0.below hq
  replace hA8 := hA8.below hq
  replace hB8 := hB8.below hq
  replace t10 := t10.below hq
  replace hy := below_to hy hq
  clear hq
  rw [show dgap [[1, 0], [0, 1]] [3, 1] 2 [(1, 1), (0, 1)] [(2, 1), (1, 1)] = ⟨0, 1, 0⟩ from fr_is (by decide +kernel)]
  clear hA8 hB8 t10
  obtain ⟨r7_0, f7_0⟩ := o7_0.rules
  have z7_0 := o7_0.lt
  go_wp2_with fail
  clear r7_0 f7_0 z7_0
  have q12_0 := Own.new W11 39 [.int .i64 0, .int .i64 1]
  have hq := ba1 W11 (.cells #[.int .i64 0, .int .i64 1] 39)
  replace t4 := t4.below hq
  replace o7_0 := o7_0.below hq
  replace hy := below_to hy hq
  clear hq
  obtain ⟨B12, hB12⟩ : ∃ B, B = W11.heap.size := ⟨_, rfl⟩
  rw [← hB12] at q12_0 ⊢
  clear hB12
  generalize (W11.alloc (.cells #[.int .i64 0, .int .i64 1] 39)) = W12 at *
  have o12_0 := q12_0
  refine (given39_any _).mono ?_
  rintro e W13 ⟨va13, vb13, rfl, hA13, hB13, hq⟩
  replace t4 := t4.below hq
  replace o7_0 := o7_0.below hq
  replace o12_0 := o12_0.below hq
  replace hy := below_to hy hq
  clear hq
  obtain ⟨r7_0, f7_0⟩ := o7_0.rules
  have z7_0 := o7_0.lt
  obtain ⟨r12_0, f12_0⟩ := o12_0.rules
  have z12_0 := o12_0.lt
  go_wp2_with fail
  clear r7_0 f7_0 z7_0 r12_0 f12_0 z12_0
  have q14_0 := Own.new W13 2 [.int .i64 0, .int .i64 0]
  have hq := ba1 W13 (.cells #[.int .i64 0, .int .i64 0] 2)
  replace t4 := t4.below hq
  replace o7_0 := o7_0.below hq
  replace o12_0 := o12_0.below hq
  replace hA13 := hA13.below hq
  replace hB13 := hB13.below hq
  replace hy := below_to hy hq
  clear hq
  obtain ⟨B14, hB14⟩ : ∃ B, B = W13.heap.size := ⟨_, rfl⟩
  rw [← hB14] at q14_0 ⊢
  clear hB14
  generalize (W13.alloc (.cells #[.int .i64 0, .int .i64 0] 2)) = W14 at *
  have s14_0 := si_of_own [0, 0] 2 rfl (by decide) q14_0
  refine (ints39_any [0, 0] _ _ s14_0 (by decide)).mono ?_
  rintro e W15 ⟨u15, rfl, t15, hq⟩
  replace t4 := t4.below hq
  replace o7_0 := o7_0.below hq
  replace o12_0 := o12_0.below hq
  replace hA13 := hA13.below hq
  replace hB13 := hB13.below hq
  replace s14_0 := s14_0.below hq
  replace hy := below_to hy hq
  clear hq
  simp only [List.map] at t15
  clear s14_0
  obtain ⟨r7_0, f7_0⟩ := o7_0.rules
  have z7_0 := o7_0.lt
  obtain ⟨r12_0, f12_0⟩ := o12_0.rules
  have z12_0 := o12_0.lt
  go_wp2_with fail
  clear r7_0 f7_0 z7_0 r12_0 f12_0 z12_0
  refine (dmake_any [[1, 0], [0, 1]] [3, 1] 2 [(0, 1), (0, 1)] _ _ _ _ hA13 hB13 t15 (fi_of _ (by decide))).mono ?_
  rintro e W16 ⟨u16, rfl, t16, hq⟩
  replace t4 := t4.below hq
  replace o7_0 := o7_0.below hq
  replace o12_0 := o12_0.below hq
  replace hA13 := hA13.below hq
  replace hB13 := hB13.below hq
  replace t15 := t15.below hq
  replace hy := below_to hy hq
  clear hq
  have e16 : dMake [[1, 0], [0, 1]] [3, 1] 2 [(0, 1), (0, 1)] = ([(2, 1), (2, 3)], 0) := by decide +kernel
  rw [e16] at t16 ⊢
  clear e16
  clear hA13 hB13 t15
  obtain ⟨r7_0, f7_0⟩ := o7_0.rules
  have z7_0 := o7_0.lt
  obtain ⟨r12_0, f12_0⟩ := o12_0.rules
  have z12_0 := o12_0.lt
  go_wp2_with fail
  clear r7_0 f7_0 z7_0 r12_0 f12_0 z12_0
  refine (given39_any _).mono ?_
  rintro e W17 ⟨va17, vb17, rfl, hA17, hB17, hq⟩
  replace t4 := t4.below hq
  replace o7_0 := o7_0.below hq
  replace o12_0 := o12_0.below hq
  replace t16 := t16.below hq
  replace hy := below_to hy hq
  clear hq
  obtain ⟨r7_0, f7_0⟩ := o7_0.rules
  have z7_0 := o7_0.lt
  obtain ⟨r12_0, f12_0⟩ := o12_0.rules
  have z12_0 := o12_0.lt
  go_wp2_with fail
  clear r7_0 f7_0 z7_0 r12_0 f12_0 z12_0
  refine (dworth_any [[1, 0], [0, 1]] [3, 1] [(2, 1), (2, 3)] _ _ _ _ hA17 hB17 t16 (fi_of _ (by decide))).mono ?_
  rintro e W18 ⟨rfl, hq⟩
  replace t4 := t4.below hq
  replace o7_0 := o7_0.below hq
  replace o12_0 := o12_0.below hq
  replace t16 := t16.below hq
  replace hA17 := hA17.below hq
  replace hB17 := hB17.below hq
  replace hy := below_to hy hq
  clear hq
  rw [show dworth [[1, 0], [0, 1]] [3, 1] [(2, 1), (2, 3)] = ⟨40, 9, 0⟩ from fr_is (by decide +kernel)]
  clear hA17 hB17
  obtain ⟨r7_0, f7_0⟩ := o7_0.rules
  have z7_0 := o7_0.lt
  obtain ⟨r12_0, f12_0⟩ := o12_0.rules
  have z12_0 := o12_0.lt
  go_wp2_with fail
  clear r7_0 f7_0 z7_0 r12_0 f12_0 z12_0
  have q19_0 := Own.new W18 39 [.int .i64 40, .int .i64 9]
  have hq := ba1 W18 (.cells #[.int .i64 40, .int .i64 9] 39)
  replace t4 := t4.below hq
  replace o7_0 := o7_0.below hq
  replace o12_0 := o12_0.below hq
  replace t16 := t16.below hq
  replace hy := below_to hy hq
  clear hq
  obtain ⟨B19, hB19⟩ : ∃ B, B = W18.heap.size := ⟨_, rfl⟩
  rw [← hB19] at q19_0 ⊢
  clear hB19
  generalize (W18.alloc (.cells #[.int .i64 40, .int .i64 9] 39)) = W19 at *
  have o19_0 := q19_0
  refine (given39_any _).mono ?_
  rintro e W20 ⟨va20, vb20, rfl, hA20, hB20, hq⟩
  replace t4 := t4.below hq
  replace o7_0 := o7_0.below hq
  replace o12_0 := o12_0.below hq
  replace t16 := t16.below hq
  replace o19_0 := o19_0.below hq
  replace hy := below_to hy hq
  clear hq
  obtain ⟨r7_0, f7_0⟩ := o7_0.rules
  have z7_0 := o7_0.lt
  obtain ⟨r12_0, f12_0⟩ := o12_0.rules
  have z12_0 := o12_0.lt
  obtain ⟨r19_0, f19_0⟩ := o19_0.rules
  have z19_0 := o19_0.lt
  go_wp2_with fail
  clear r7_0 f7_0 z7_0 r12_0 f12_0 z12_0 r19_0 f19_0 z19_0
  have q21_0 := Own.new W20 2 [.int .i64 0, .int .i64 0]
  have hq := ba1 W20 (.cells #[.int .i64 0, .int .i64 0] 2)
  replace t4 := t4.below hq
  replace o7_0 := o7_0.below hq
  replace o12_0 := o12_0.below hq
  replace t16 := t16.below hq
  replace o19_0 := o19_0.below hq
  replace hA20 := hA20.below hq
  replace hB20 := hB20.below hq
  replace hy := below_to hy hq
  clear hq
  obtain ⟨B21, hB21⟩ : ∃ B, B = W20.heap.size := ⟨_, rfl⟩
  rw [← hB21] at q21_0 ⊢
  clear hB21
  generalize (W20.alloc (.cells #[.int .i64 0, .int .i64 0] 2)) = W21 at *
  have s21_0 := si_of_own [0, 0] 2 rfl (by decide) q21_0
  refine (ints39_any [0, 0] _ _ s21_0 (by decide)).mono ?_
  rintro e W22 ⟨u22, rfl, t22, hq⟩
  replace t4 := t4.below hq
  replace o7_0 := o7_0.below hq
  replace o12_0 := o12_0.below hq
  replace t16 := t16.below hq
  replace o19_0 := o19_0.below hq
  replace hA20 := hA20.below hq
  replace hB20 := hB20.below hq
  replace s21_0 := s21_0.below hq
  replace hy := below_to hy hq
  clear hq
  simp only [List.map] at t22
  clear s21_0
  obtain ⟨r7_0, f7_0⟩ := o7_0.rules
  have z7_0 := o7_0.lt
  obtain ⟨r12_0, f12_0⟩ := o12_0.rules
  have z12_0 := o12_0.lt
  obtain ⟨r19_0, f19_0⟩ := o19_0.rules
  have z19_0 := o19_0.lt
  go_wp2_with fail
  clear r7_0 f7_0 z7_0 r12_0 f12_0 z12_0 r19_0 f19_0 z19_0
  refine (dgap_any [[1, 0], [0, 1]] [3, 1] 2 [(0, 1), (0, 1)] [(2, 1), (2, 3)] _ _ _ _ _ hA20 hB20 t22 (fi_of _ (by decide)) t16 (fi_of _ (by decide))).mono ?_
  rintro e W23 ⟨rfl, hq⟩
  replace t4 := t4.below hq
  replace o7_0 := o7_0.below hq
  replace o12_0 := o12_0.below hq
  replace t16 := t16.below hq
  replace o19_0 := o19_0.below hq
  replace hA20 := hA20.below hq
  replace hB20 := hB20.below hq
  replace t22 := t22.below hq
  replace hy := below_to hy hq
  clear hq
  rw [show dgap [[1, 0], [0, 1]] [3, 1] 2 [(0, 1), (0, 1)] [(2, 1), (2, 3)] = ⟨5, 9, 0⟩ from fr_is (by decide +kernel)]
  clear hA20 hB20 t22
  obtain ⟨r7_0, f7_0⟩ := o7_0.rules
  have z7_0 := o7_0.lt
  obtain ⟨r12_0, f12_0⟩ := o12_0.rules
  have z12_0 := o12_0.lt
  obtain ⟨r19_0, f19_0⟩ := o19_0.rules
  have z19_0 := o19_0.lt
  go_upto_region 7 with fail
  clear r7_0 f7_0 z7_0 r12_0 f12_0 z12_0 r19_0 f19_0 z19_0
  have q24_0 := Own.new W23 39 [.int .i64 5, .int .i64 9]
  have hq := ba1 W23 (.cells #[.int .i64 5, .int .i64 9] 39)
  replace t4 := t4.below hq
  replace o7_0 := o7_0.below hq
  replace o12_0 := o12_0.below hq
  replace t16 := t16.below hq
  replace o19_0 := o19_0.below hq
  replace hy := below_to hy hq
  clear hq
  obtain ⟨B24, hB24⟩ : ∃ B, B = W23.heap.size := ⟨_, rfl⟩
  rw [← hB24] at q24_0 ⊢
  clear hB24
  generalize (W23.alloc (.cells #[.int .i64 5, .int .i64 9] 39)) = W24 at *
  have o24_0 := q24_0
  obtain ⟨r7_0, f7_0⟩ := o7_0.rules
  have z7_0 := o7_0.lt
  obtain ⟨r12_0, f12_0⟩ := o12_0.rules
  have z12_0 := o12_0.lt
  obtain ⟨r19_0, f19_0⟩ := o19_0.rules
  have z19_0 := o19_0.lt
  obtain ⟨r24_0, f24_0⟩ := o24_0.rules
  have z24_0 := o24_0.lt
  have gl := @grow_lt
  refine wp_region_st [.t [0, 1, 2, 3], .f 4, .f 5, .f 6, .t [7, 8, 9, 10, 11, 12, 13, 14, 15, 16, 17, 18, 19, 20, 21, 22], .f 23, .t [24, 25, 26, 27, 28, 29, 30, 31, 32, 33], .f 34, .f 35, .t [36, 37, 38, 39, 40, 41, 42, 43, 44, 45, 46, 47, 48, 49, 50, 51, 52, 53, 54]] [55] (by kernel_rfl) (by kernel_rfl) (fun _ _ _ _ _ h => h) ?_
  have hR : Below W24.heap.size W24 W24.drew := (Below.refl _ _).drew
  replace t4 := t4.below hR
  replace t16 := t16.below hR
  generalize W24.drew = W25 at *
  refine wpX_t ?_
  try simp only [opsAt, List.getElem?_toArray, List.getElem?_cons_zero, List.getElem?_cons_succ, Option.getD_some]
  repeat (go_big_quiet_step (fail))
  refine wpQuiet_nil ?_
  refine wpX_f rfl rfl (fun K' hK' => ?_)
  go_simp
  have q26 := Own.new (W25) 2 [.int .i64 2, .int .i64 1]
  have hq := ba1 (W25) (.cells #[.int .i64 2, .int .i64 1] 2)
  obtain ⟨B26, hB26⟩ : ∃ B, B = (W25).heap.size := ⟨_, rfl⟩
  rw [← hB26] at q26 ⊢
  clear hB26
  replace t4 := t4.below hq
  replace t16 := t16.below hq
  replace hR := below_to hR hq
  clear hq
  refine hK' _ _ (grow_of hR) ?_
  clear hK' K'
  generalize (W25).alloc (.cells #[.int .i64 2, .int .i64 1] 2) = W26 at *
  have s26_0 := si_of_own [2, 1] 2 rfl (by decide) q26
  refine wpX_f rfl rfl (fun K' hK' => ?_)
  go_simp
  refine (ints39_any [2, 1] _ _ s26_0 (by decide)).mono ?_
  rintro e W27 ⟨u27, rfl, t27, hq⟩
  replace t4 := t4.below hq
  replace t16 := t16.below hq
  replace s26_0 := s26_0.below hq
  replace hR := below_to hR hq
  clear hq
  refine hK' _ _ (grow_of hR) ?_
  clear hK' K'
  simp only [List.map] at t27
  clear s26_0
  refine wpX_f rfl rfl (fun K' hK' => ?_)
  go_simp
  refine (rsame_true [(2, 1), (1, 1)] _ _ _ t4 t27).mono ?_
  rintro e W28 ⟨rfl, hq⟩
  replace t4 := t4.below hq
  replace t16 := t16.below hq
  replace t27 := t27.below hq
  replace hR := below_to hR hq
  clear hq
  refine hK' _ _ (grow_of hR) ?_
  clear hK' K'
  clear t4 t27
  refine wpX_t ?_
  try simp only [opsAt, List.getElem?_toArray, List.getElem?_cons_zero, List.getElem?_cons_succ, Option.getD_some]
  repeat (go_big_quiet_step (fail))
  refine wpQuiet_nil ?_
  refine wpX_f rfl rfl (fun K' hK' => ?_)
  go_simp
  refine (rof_any 0 _).mono ?_
  rintro e W29 ⟨rfl, hq⟩
  replace t16 := t16.below hq
  replace hR := below_to hR hq
  clear hq
  refine hK' _ _ (grow_of hR) ?_
  clear hK' K'
  clear o7_0 o12_0
  refine wpX_t ?_
  try simp only [opsAt, List.getElem?_toArray, List.getElem?_cons_zero, List.getElem?_cons_succ, Option.getD_some]
  repeat (go_big_quiet_step (fail))
  refine wpQuiet_nil ?_
  refine wpX_f rfl rfl (fun K' hK' => ?_)
  go_simp
  have q30 := Own.new (W29) 39 [.int .i64 2, .int .i64 1, .int .i64 2, .int .i64 3]
  have hq := ba1 (W29) (.cells #[.int .i64 2, .int .i64 1, .int .i64 2, .int .i64 3] 39)
  obtain ⟨B30, hB30⟩ : ∃ B, B = (W29).heap.size := ⟨_, rfl⟩
  rw [← hB30] at q30 ⊢
  clear hB30
  replace t16 := t16.below hq
  replace hR := below_to hR hq
  clear hq
  refine hK' _ _ (grow_of hR) ?_
  clear hK' K'
  generalize (W29).alloc (.cells #[.int .i64 2, .int .i64 1, .int .i64 2, .int .i64 3] 39) = W30 at *
  have s30_0 := sf_of_own [(2, 1), (2, 3)] 2 rfl (by decide) q30
  refine wpX_f rfl rfl (fun K' hK' => ?_)
  go_simp
  refine (rsame_true [(2, 1), (2, 3)] _ _ _ t16 s30_0).mono ?_
  rintro e W31 ⟨rfl, hq⟩
  replace t16 := t16.below hq
  replace s30_0 := s30_0.below hq
  replace hR := below_to hR hq
  clear hq
  refine hK' _ _ (grow_of hR) ?_
  clear hK' K'
  clear t16 s30_0
  refine wpX_t ?_
  try simp only [opsAt, List.getElem?_toArray, List.getElem?_cons_zero, List.getElem?_cons_succ, Option.getD_some]
  repeat (go_big_quiet_step (fail))
  refine wpQuiet_nil ?_
  refine wpX_nil ?_
  try simp only [opsAt, List.getElem?_toArray, List.getElem?_cons_zero, List.getElem?_cons_succ, Option.getD_some]
  clear gl
  replace hy := below_to hy hR
  clear hR
  go_wp2
  go_ret
  exact ⟨by first | rfl | simp, hy⟩
end Go.Proofs.Ytfoemacgmehpiaa
