/- What is proved here: the law InterpNames returns true. No condition. -/
import Derived.Test.YtpjhiojdnebgoaaC39
import Derived.Test.YtpjhiojdnebgoaaC46
import Derived.Test.YtpjhiojdnebgoaaC33
import Derived.Test.YtpjhiojdnebgoaaC25
import Derived.Test.YtpjhiojdnebgoaaC29
import Derived.Test.YtpjhiojdnebgoaaC36
import Derived.Test.YtpjhiojdnebgoaaC38
import Derived.Test.YtpjhiojdnebgoaaC22
import Derived.Test.YtpjhiojdnebgoaaC01
import Derived.Deep.DeepCutAuto
namespace Go.Proofs.Ytpjhiojdnebgoaa
open Go.RowKit

set_option maxRecDepth 100000 in
set_option maxHeartbeats 64000000 in
theorem interpNames_any (w : World) : Calls Try.prog 5 #[] w fun e w' => e = .returned (.bool true) ∧ Below w.heap.size w w' := by
  go_enter Try.func5, Try.ntmps5
  have hy := Below.refl w.heap.size w
  go_wp2_with fail
  refine (of15_any 1 1 _).mono ?_
  rintro e W1 ⟨rfl, hq⟩
  replace hy := below_to hy hq
  clear hq
  go_wp2_with fail
  have q2_0 := Own.new W1 24 [.int .i64 1, .int .i64 1]
  have hq := ba1 W1 (.cells #[.int .i64 1, .int .i64 1] 24)
  replace hy := below_to hy hq
  clear hq
  generalize (W1.alloc (.cells #[.int .i64 1, .int .i64 1] 24)) = W2 at *
  obtain ⟨B2, hB2⟩ : ∃ B, B = W1.heap.size := ⟨_, rfl⟩
  rw [← hB2] at q2_0 ⊢
  clear hB2
  have s2_0 := sf_of_own [(1, 1)] 1 rfl (by decide) q2_0
  refine (of15_any 2 4 _).mono ?_
  rintro e W3 ⟨rfl, hq⟩
  replace s2_0 := s2_0.below hq
  replace hy := below_to hy hq
  clear hq
  go_wp2_with fail
  refine (isplit_any 2 4 _ ⟨by decide, by decide⟩ ⟨by decide, by decide⟩).mono ?_
  rintro e W4 ⟨rfl, hq⟩
  replace s2_0 := s2_0.below hq
  replace hy := below_to hy hq
  clear hq
  rw [show fspl 2 4 = (0, 0, 0, 8) from by decide +kernel]
  go_wp2_with fail
  have q5_0 := Own.new W4 24 [.int .i64 0, .int .i64 0]
  have hq := ba1 W4 (.cells #[.int .i64 0, .int .i64 0] 24)
  replace s2_0 := s2_0.below hq
  replace hy := below_to hy hq
  clear hq
  generalize (W4.alloc (.cells #[.int .i64 0, .int .i64 0] 24)) = W5 at *
  obtain ⟨B5, hB5⟩ : ∃ B, B = W4.heap.size := ⟨_, rfl⟩
  rw [← hB5] at q5_0 ⊢
  clear hB5
  have o5_0 := q5_0
  refine (of15_any 0 1 _).mono ?_
  rintro e W6 ⟨rfl, hq⟩
  replace s2_0 := s2_0.below hq
  replace o5_0 := o5_0.below hq
  replace hy := below_to hy hq
  clear hq
  clear o5_0
  go_wp2_with fail
  refine (itaps_any 5 0 1 _ ⟨by decide, by decide⟩ ⟨by decide, by decide⟩ ⟨by decide, by decide⟩).mono ?_
  rintro e W7 ⟨u7, rfl, t7, hq⟩
  replace s2_0 := s2_0.below hq
  replace hy := below_to hy hq
  clear hq
  have e7 : ftaps 5 0 1 = ([], 2) := by decide +kernel
  rw [e7] at t7 ⊢
  clear e7
  go_wp2_with fail
  refine (of15_any 0 1 _).mono ?_
  rintro e W8 ⟨rfl, hq⟩
  replace s2_0 := s2_0.below hq
  replace t7 := t7.below hq
  replace hy := below_to hy hq
  clear hq
  go_wp2_with fail
  refine (itaps_any (-1) 0 1 _ ⟨by decide, by decide⟩ ⟨by decide, by decide⟩ ⟨by decide, by decide⟩).mono ?_
  rintro e W9 ⟨u9, rfl, t9, hq⟩
  replace s2_0 := s2_0.below hq
  replace t7 := t7.below hq
  replace hy := below_to hy hq
  clear hq
  have e9 : ftaps (-1) 0 1 = ([], 2) := by decide +kernel
  rw [e9] at t9 ⊢
  clear e9
  go_wp2_with fail
  refine (of15_any 1 1 _).mono ?_
  rintro e W10 ⟨rfl, hq⟩
  replace s2_0 := s2_0.below hq
  replace t7 := t7.below hq
  replace t9 := t9.below hq
  replace hy := below_to hy hq
  clear hq
  go_wp2_with fail
  refine (itaps_any 1 1 1 _ ⟨by decide, by decide⟩ ⟨by decide, by decide⟩ ⟨by decide, by decide⟩).mono ?_
  rintro e W11 ⟨u11, rfl, t11, hq⟩
  replace s2_0 := s2_0.below hq
  replace t7 := t7.below hq
  replace t9 := t9.below hq
  replace hy := below_to hy hq
  clear hq
  have e11 : ftaps 1 1 1 = ([], 8) := by decide +kernel
  rw [e11] at t11 ⊢
  clear e11
  go_wp2_with fail
  refine (of15_any (-1) 2 _).mono ?_
  rintro e W12 ⟨rfl, hq⟩
  replace s2_0 := s2_0.below hq
  replace t7 := t7.below hq
  replace t9 := t9.below hq
  replace t11 := t11.below hq
  replace hy := below_to hy hq
  clear hq
  go_wp2_with fail
  refine (itaps_any 1 (-1) 2 _ ⟨by decide, by decide⟩ ⟨by decide, by decide⟩ ⟨by decide, by decide⟩).mono ?_
  rintro e W13 ⟨u13, rfl, t13, hq⟩
  replace s2_0 := s2_0.below hq
  replace t7 := t7.below hq
  replace t9 := t9.below hq
  replace t11 := t11.below hq
  replace hy := below_to hy hq
  clear hq
  have e13 : ftaps 1 (-1) 2 = ([], 8) := by decide +kernel
  rw [e13] at t13 ⊢
  clear e13
  go_wp2_with fail
  refine (of15_any 1 17 _).mono ?_
  rintro e W14 ⟨rfl, hq⟩
  replace s2_0 := s2_0.below hq
  replace t7 := t7.below hq
  replace t9 := t9.below hq
  replace t11 := t11.below hq
  replace t13 := t13.below hq
  replace hy := below_to hy hq
  clear hq
  go_wp2_with fail
  refine (itaps_any 1 1 17 _ ⟨by decide, by decide⟩ ⟨by decide, by decide⟩ ⟨by decide, by decide⟩).mono ?_
  rintro e W15 ⟨u15, rfl, t15, hq⟩
  replace s2_0 := s2_0.below hq
  replace t7 := t7.below hq
  replace t9 := t9.below hq
  replace t11 := t11.below hq
  replace t13 := t13.below hq
  replace hy := below_to hy hq
  clear hq
  have e15 : ftaps 1 1 17 = ([], 8) := by decide +kernel
  rw [e15] at t15 ⊢
  clear e15
  have MK0 : (Instr.makeSlice 26 (.int .i64 257) (.int .i64 257)).run Try.prog W15 = .ok (.slice (some ⟨(W15).heap.size, 0, none⟩) 257 257) ((W15).alloc (.cells (fcs (List.replicate 257 (0, 0))).toArray 24)) := mk_fracs 257 257 rfl (by decide) (W15)
  obtain ⟨LL1, hLL1⟩ : ∃ L : List (Int × Int), L = (List.replicate 257 (0, 0)) := ⟨_, rfl⟩
  rw [← hLL1] at MK0
  replace hLL1 := Lib.hid hLL1
  try simp at MK0
  go_wp2_with fail
  clear MK0
  have q16_0 := Own.new W15 24 (fcs LL1)
  have hq := ba1 W15 (.cells (fcs LL1).toArray 24)
  replace s2_0 := s2_0.below hq
  replace t7 := t7.below hq
  replace t9 := t9.below hq
  replace t11 := t11.below hq
  replace t13 := t13.below hq
  replace t15 := t15.below hq
  replace hy := below_to hy hq
  clear hq
  generalize (W15.alloc (.cells (fcs LL1).toArray 24)) = W16 at *
  obtain ⟨B16, hB16⟩ : ∃ B, B = W15.heap.size := ⟨_, rfl⟩
  rw [← hB16] at q16_0 ⊢
  clear hB16
  have s16_0 := sf_of_own LL1 257 (by rw [hLL1.out, List.length_replicate]) (by decide) q16_0
  refine (ifilt_any LL1 [(1, 1)] _ _ _ s16_0 s2_0 (fi_of _ (by rw [hLL1.out]; decide +kernel)) (fi_of _ (by decide +kernel))).mono ?_
  rintro e W17 ⟨u17, rfl, t17, hq⟩
  replace s2_0 := s2_0.below hq
  replace t7 := t7.below hq
  replace t9 := t9.below hq
  replace t11 := t11.below hq
  replace t13 := t13.below hq
  replace t15 := t15.below hq
  replace s16_0 := s16_0.below hq
  replace hy := below_to hy hq
  clear hq
  have e17 : ffilt LL1 [(1, 1)] = ([], 4) := by rw [hLL1.out]; decide +kernel
  rw [e17] at t17 ⊢
  clear e17
  clear s16_0
  have MK0 : (Instr.makeSlice 26 (.int .i64 21) (.int .i64 21)).run Try.prog W17 = .ok (.slice (some ⟨(W17).heap.size, 0, none⟩) 21 21) ((W17).alloc (.cells (fcs (List.replicate 21 (0, 0))).toArray 24)) := mk_fracs 21 21 rfl (by decide) (W17)
  obtain ⟨LL2, hLL2⟩ : ∃ L : List (Int × Int), L = (List.replicate 21 (0, 0)) := ⟨_, rfl⟩
  rw [← hLL2] at MK0
  replace hLL2 := Lib.hid hLL2
  try simp at MK0
  go_wp2_with fail
  clear MK0
  have q18_0 := Own.new W17 24 (fcs LL2)
  have hq := ba1 W17 (.cells (fcs LL2).toArray 24)
  replace s2_0 := s2_0.below hq
  replace t7 := t7.below hq
  replace t9 := t9.below hq
  replace t11 := t11.below hq
  replace t13 := t13.below hq
  replace t15 := t15.below hq
  replace t17 := t17.below hq
  replace hy := below_to hy hq
  clear hq
  generalize (W17.alloc (.cells (fcs LL2).toArray 24)) = W18 at *
  obtain ⟨B18, hB18⟩ : ∃ B, B = W17.heap.size := ⟨_, rfl⟩
  rw [← hB18] at q18_0 ⊢
  clear hB18
  have s18_0 := sf_of_own LL2 21 (by rw [hLL2.out, List.length_replicate]) (by decide) q18_0
  refine (ifilt_any [(1, 1)] LL2 _ _ _ s2_0 s18_0 (fi_of _ (by decide +kernel)) (fi_of _ (by rw [hLL2.out]; decide +kernel))).mono ?_
  rintro e W19 ⟨u19, rfl, t19, hq⟩
  replace s2_0 := s2_0.below hq
  replace t7 := t7.below hq
  replace t9 := t9.below hq
  replace t11 := t11.below hq
  replace t13 := t13.below hq
  replace t15 := t15.below hq
  replace t17 := t17.below hq
  replace s18_0 := s18_0.below hq
  replace hy := below_to hy hq
  clear hq
  have e19 : ffilt [(1, 1)] LL2 = ([], 4) := by rw [hLL2.out]; decide +kernel
  rw [e19] at t19 ⊢
  clear e19
  clear s18_0
  go_wp2_with fail
  refine (ifilt_any [(1, 1)] [] _ _ _ s2_0 (sf_nil _) (fi_of _ (by decide +kernel)) (fi_of _ (by decide +kernel))).mono ?_
  rintro e W20 ⟨u20, rfl, t20, hq⟩
  replace s2_0 := s2_0.below hq
  replace t7 := t7.below hq
  replace t9 := t9.below hq
  replace t11 := t11.below hq
  replace t13 := t13.below hq
  replace t15 := t15.below hq
  replace t17 := t17.below hq
  replace t19 := t19.below hq
  replace hy := below_to hy hq
  clear hq
  have e20 : ffilt [(1, 1)] [] = ([], 8) := by decide +kernel
  rw [e20] at t20 ⊢
  clear e20
  go_wp2_with fail
  have q21_0 := Own.new W20 24 [.int .i64 0, .int .i64 0]
  have hq := ba1 W20 (.cells #[.int .i64 0, .int .i64 0] 24)
  replace s2_0 := s2_0.below hq
  replace t7 := t7.below hq
  replace t9 := t9.below hq
  replace t11 := t11.below hq
  replace t13 := t13.below hq
  replace t15 := t15.below hq
  replace t17 := t17.below hq
  replace t19 := t19.below hq
  replace t20 := t20.below hq
  replace hy := below_to hy hq
  clear hq
  generalize (W20.alloc (.cells #[.int .i64 0, .int .i64 0] 24)) = W21 at *
  obtain ⟨B21, hB21⟩ : ∃ B, B = W20.heap.size := ⟨_, rfl⟩
  rw [← hB21] at q21_0 ⊢
  clear hB21
  have s21_0 := sf_of_own [(0, 0)] 1 rfl (by decide) q21_0
  refine (ifilt_any [(0, 0)] [(1, 1)] _ _ _ s21_0 s2_0 (fi_of _ (by decide +kernel)) (fi_of _ (by decide +kernel))).mono ?_
  rintro e W22 ⟨u22, rfl, t22, hq⟩
  replace s2_0 := s2_0.below hq
  replace t7 := t7.below hq
  replace t9 := t9.below hq
  replace t11 := t11.below hq
  replace t13 := t13.below hq
  replace t15 := t15.below hq
  replace t17 := t17.below hq
  replace t19 := t19.below hq
  replace t20 := t20.below hq
  replace s21_0 := s21_0.below hq
  replace hy := below_to hy hq
  clear hq
  have e22 : ffilt [(0, 0)] [(1, 1)] = ([], 8) := by decide +kernel
  rw [e22] at t22 ⊢
  clear e22
  clear s21_0
  go_wp2_with fail
  refine (of15_any 2 2 _).mono ?_
  rintro e W23 ⟨rfl, hq⟩
  replace s2_0 := s2_0.below hq
  replace t7 := t7.below hq
  replace t9 := t9.below hq
  replace t11 := t11.below hq
  replace t13 := t13.below hq
  replace t15 := t15.below hq
  replace t17 := t17.below hq
  replace t19 := t19.below hq
  replace t20 := t20.below hq
  replace t22 := t22.below hq
  replace hy := below_to hy hq
  clear hq
  go_wp2_with fail
  have q24_0 := Own.new W23 24 [.int .i64 2, .int .i64 2]
  have hq := ba1 W23 (.cells #[.int .i64 2, .int .i64 2] 24)
  replace s2_0 := s2_0.below hq
  replace t7 := t7.below hq
  replace t9 := t9.below hq
  replace t11 := t11.below hq
  replace t13 := t13.below hq
  replace t15 := t15.below hq
  replace t17 := t17.below hq
  replace t19 := t19.below hq
  replace t20 := t20.below hq
  replace t22 := t22.below hq
  replace hy := below_to hy hq
  clear hq
  generalize (W23.alloc (.cells #[.int .i64 2, .int .i64 2] 24)) = W24 at *
  obtain ⟨B24, hB24⟩ : ∃ B, B = W23.heap.size := ⟨_, rfl⟩
  rw [← hB24] at q24_0 ⊢
  clear hB24
  have s24_0 := sf_of_own [(2, 2)] 1 rfl (by decide) q24_0
  refine (ifilt_any [(1, 1)] [(2, 2)] _ _ _ s2_0 s24_0 (fi_of _ (by decide +kernel)) (fi_of _ (by decide +kernel))).mono ?_
  rintro e W25 ⟨u25, rfl, t25, hq⟩
  replace s2_0 := s2_0.below hq
  replace t7 := t7.below hq
  replace t9 := t9.below hq
  replace t11 := t11.below hq
  replace t13 := t13.below hq
  replace t15 := t15.below hq
  replace t17 := t17.below hq
  replace t19 := t19.below hq
  replace t20 := t20.below hq
  replace t22 := t22.below hq
  replace s24_0 := s24_0.below hq
  replace hy := below_to hy hq
  clear hq
  have e25 : ffilt [(1, 1)] [(2, 2)] = ([], 8) := by decide +kernel
  rw [e25] at t25 ⊢
  clear e25
  clear s24_0
  go_wp2_with fail
  refine (of15_any 1 2 _).mono ?_
  rintro e W26 ⟨rfl, hq⟩
  replace s2_0 := s2_0.below hq
  replace t7 := t7.below hq
  replace t9 := t9.below hq
  replace t11 := t11.below hq
  replace t13 := t13.below hq
  replace t15 := t15.below hq
  replace t17 := t17.below hq
  replace t19 := t19.below hq
  replace t20 := t20.below hq
  replace t22 := t22.below hq
  replace t25 := t25.below hq
  replace hy := below_to hy hq
  clear hq
  go_wp2_with fail
  refine (of15_any 1 2 _).mono ?_
  rintro e W27 ⟨rfl, hq⟩
  replace s2_0 := s2_0.below hq
  replace t7 := t7.below hq
  replace t9 := t9.below hq
  replace t11 := t11.below hq
  replace t13 := t13.below hq
  replace t15 := t15.below hq
  replace t17 := t17.below hq
  replace t19 := t19.below hq
  replace t20 := t20.below hq
  replace t22 := t22.below hq
  replace t25 := t25.below hq
  replace hy := below_to hy hq
  clear hq
  go_wp2_with fail
  have q28_0 := Own.new W27 24 [.int .i64 1, .int .i64 2, .int .i64 1, .int .i64 2]
  have hq := ba1 W27 (.cells #[.int .i64 1, .int .i64 2, .int .i64 1, .int .i64 2] 24)
  replace s2_0 := s2_0.below hq
  replace t7 := t7.below hq
  replace t9 := t9.below hq
  replace t11 := t11.below hq
  replace t13 := t13.below hq
  replace t15 := t15.below hq
  replace t17 := t17.below hq
  replace t19 := t19.below hq
  replace t20 := t20.below hq
  replace t22 := t22.below hq
  replace t25 := t25.below hq
  replace hy := below_to hy hq
  clear hq
  generalize (W27.alloc (.cells #[.int .i64 1, .int .i64 2, .int .i64 1, .int .i64 2] 24)) = W28 at *
  obtain ⟨B28, hB28⟩ : ∃ B, B = W27.heap.size := ⟨_, rfl⟩
  rw [← hB28] at q28_0 ⊢
  clear hB28
  have s28_0 := sf_of_own [(1, 2), (1, 2)] 2 rfl (by decide) q28_0
  refine (ifilt_any [(1, 1)] [(1, 2), (1, 2)] _ _ _ s2_0 s28_0 (fi_of _ (by decide +kernel)) (fi_of _ (by decide +kernel))).mono ?_
  rintro e W29 ⟨u29, rfl, t29, hq⟩
  replace s2_0 := s2_0.below hq
  replace t7 := t7.below hq
  replace t9 := t9.below hq
  replace t11 := t11.below hq
  replace t13 := t13.below hq
  replace t15 := t15.below hq
  replace t17 := t17.below hq
  replace t19 := t19.below hq
  replace t20 := t20.below hq
  replace t22 := t22.below hq
  replace t25 := t25.below hq
  replace s28_0 := s28_0.below hq
  replace hy := below_to hy hq
  clear hq
  have e29 : ffilt [(1, 1)] [(1, 2), (1, 2)] = ([], 0) := by decide +kernel
  rw [e29] at t29 ⊢
  clear e29
  obtain ⟨ad29, cap29, rfl, _, _, _⟩ := t29.open
  simp only [List.length_nil] at *
  clear s28_0
  go_wp2_with fail
  refine (ijoin_any [(1, 1)] [] _ _ _ s2_0 (sf_nil _) (fi_of _ (by decide +kernel)) (fi_of _ (by decide +kernel))).mono ?_
  rintro e W30 ⟨u30, rfl, t30, hq⟩
  replace s2_0 := s2_0.below hq
  replace t7 := t7.below hq
  replace t9 := t9.below hq
  replace t11 := t11.below hq
  replace t13 := t13.below hq
  replace t15 := t15.below hq
  replace t17 := t17.below hq
  replace t19 := t19.below hq
  replace t20 := t20.below hq
  replace t22 := t22.below hq
  replace t25 := t25.below hq
  replace t29 := t29.below hq
  replace hy := below_to hy hq
  clear hq
  have e30 : fjoin [(1, 1)] [] = ([], 8) := by decide +kernel
  rw [e30] at t30 ⊢
  clear e30
  clear s2_0
  go_upto_region 15 with fail
  obtain ⟨LL3, hLL3⟩ : ∃ L : List (Int × Int), L = (List.replicate 11 (0, 0)) := ⟨_, rfl⟩
  have MK0 : ∀ w1 : World, (Instr.makeSlice 26 (.int .i64 11) (.int .i64 11)).run Try.prog w1 = .ok (.slice (some ⟨w1.heap.size, 0, none⟩) 11 11) (w1.alloc (.cells (fcs LL3).toArray 24)) := fun w1 => by rw [hLL3]; exact mk_fracs 11 11 rfl (by decide) w1
  replace hLL3 := Lib.hid hLL3
  obtain ⟨LL4, hLL4⟩ : ∃ L : List (Int × Int), L = (List.replicate 11 (0, 0)) := ⟨_, rfl⟩
  have MK1 : ∀ w1 : World, (Instr.makeSlice 26 (.int .i64 11) (.int .i64 11)).run Try.prog w1 = .ok (.slice (some ⟨w1.heap.size, 0, none⟩) 11 11) (w1.alloc (.cells (fcs LL4).toArray 24)) := fun w1 => by rw [hLL4]; exact mk_fracs 11 11 rfl (by decide) w1
  replace hLL4 := Lib.hid hLL4
  have gl := @grow_lt
  refine wp_region_gt [.g [0, 1], .s [.f 2]] _ [3, 4, 5] [6, 7] (by kernel_rfl) rfl (by kernel_rfl) (by kernel_rfl) (by kernel_rfl) (fun _ _ _ _ _ h => h) ?_
  refine wp_group2 (fun v w => SF w v LL3) (fun v w => SF w v LL4) (some 129) (some 130) rfl rfl (by decide) (fun _ _ _ h hb => h.below hb) (fun _ _ _ h hb => h.below hb) ?_ ?_ ?_
  · intro a' w' hb K' hK'
    refine wpOp_of rfl rfl ?_
    refine wp_made rfl (MK0 w') ?_
    exact hK' _ _ (sf_of_own LL3 11 (by rw [hLL3.out, List.length_replicate]) (by decide) (Own.new w' 24 (fcs LL3))) (ba1 w' (.cells (fcs LL3).toArray 24))
  · intro a' w' hb K' hK'
    refine wpOp_of rfl rfl ?_
    refine wp_made rfl (MK1 w') ?_
    exact hK' _ _ (sf_of_own LL4 11 (by rw [hLL4.out, List.length_replicate]) (by decide) (Own.new w' 24 (fcs LL4))) (ba1 w' (.cells (fcs LL4).toArray 24))
  intro g31a g31b W31 h31a h31b hR0
  have hR := below_to ((Below.refl W30.heap.size W30).drew) hR0
  clear hR0
  replace t7 := t7.below hR
  replace t9 := t9.below hR
  replace t11 := t11.below hR
  replace t13 := t13.below hR
  replace t15 := t15.below hR
  replace t17 := t17.below hR
  replace t19 := t19.below hR
  replace t20 := t20.below hR
  replace t22 := t22.below hR
  replace t25 := t25.below hR
  replace t29 := t29.below hR
  replace t30 := t30.below hR
  clear MK0
  clear MK1
  refine wpX_f rfl rfl (fun K' hK' => ?_)
  go_simp
  refine (ijoin_any LL3 LL4 _ _ _ h31a h31b (fi_of _ (by rw [hLL3.out]; decide +kernel)) (fi_of _ (by rw [hLL4.out]; decide +kernel))).mono ?_
  rintro e W32 ⟨u32, rfl, t32, hq⟩
  replace t7 := t7.below hq
  replace t9 := t9.below hq
  replace t11 := t11.below hq
  replace t13 := t13.below hq
  replace t15 := t15.below hq
  replace t17 := t17.below hq
  replace t19 := t19.below hq
  replace t20 := t20.below hq
  replace t22 := t22.below hq
  replace t25 := t25.below hq
  replace t29 := t29.below hq
  replace t30 := t30.below hq
  replace h31a := h31a.below hq
  replace h31b := h31b.below hq
  replace hR := below_to hR hq
  clear hq
  refine hK' _ _ (grow_of hR) ?_
  clear hK' K'
  have e32 : fjoin LL3 LL4 = ([], 4) := by rw [hLL3.out, hLL4.out]; decide +kernel
  rw [e32] at t32 ⊢
  clear e32
  clear h31a h31b
  refine wpX_nil ?_
  refine wpG_nil ?_
  try simp only [opsAt, List.getElem?_toArray, List.getElem?_cons_zero, List.getElem?_cons_succ, Option.getD_some]
  repeat (go_big_quiet_step (fail))
  refine wpQuiet_nil ?_
  try simp only [opsAt, List.getElem?_toArray, List.getElem?_cons_zero, List.getElem?_cons_succ, Option.getD_some]
  clear gl
  replace hy := below_to hy hR
  clear hR
  have MK0 : (Instr.makeSlice 22 (.int .i64 25) (.int .i64 25)).run Try.prog W32 = .ok (.slice (some ⟨(W32).heap.size, 0, none⟩) 25 25) ((W32).alloc (.cells (ics (List.replicate 25 0)).toArray 3)) := mk_ints 25 (by decide) (W32)
  obtain ⟨LL5, hLL5⟩ : ∃ L : List Int, L = (List.replicate 25 0) := ⟨_, rfl⟩
  rw [← hLL5] at MK0
  replace hLL5 := Lib.hid hLL5
  try simp at MK0
  go_wp2_with fail
  clear MK0
  have q33_0 := Own.new W32 3 (ics LL5)
  have hq := ba1 W32 (.cells (ics LL5).toArray 3)
  replace t7 := t7.below hq
  replace t9 := t9.below hq
  replace t11 := t11.below hq
  replace t13 := t13.below hq
  replace t15 := t15.below hq
  replace t17 := t17.below hq
  replace t19 := t19.below hq
  replace t20 := t20.below hq
  replace t22 := t22.below hq
  replace t25 := t25.below hq
  replace t29 := t29.below hq
  replace t30 := t30.below hq
  replace t32 := t32.below hq
  replace hy := below_to hy hq
  clear hq
  generalize (W32.alloc (.cells (ics LL5).toArray 3)) = W33 at *
  obtain ⟨B33, hB33⟩ : ∃ B, B = W32.heap.size := ⟨_, rfl⟩
  rw [← hB33] at q33_0 ⊢
  clear hB33
  have s33_0 := si_of_own LL5 25 (by rw [hLL5.out, List.length_replicate]) (by decide) q33_0
  refine (ideg_any LL5 _ _ s33_0).mono ?_
  rintro e W34 ⟨rfl, hq⟩
  replace t7 := t7.below hq
  replace t9 := t9.below hq
  replace t11 := t11.below hq
  replace t13 := t13.below hq
  replace t15 := t15.below hq
  replace t17 := t17.below hq
  replace t19 := t19.below hq
  replace t20 := t20.below hq
  replace t22 := t22.below hq
  replace t25 := t25.below hq
  replace t29 := t29.below hq
  replace t30 := t30.below hq
  replace t32 := t32.below hq
  replace s33_0 := s33_0.below hq
  replace hy := below_to hy hq
  clear hq
  rw [show fdeg LL5 = (0, 4) from by rw [hLL5.out]; decide +kernel]
  clear s33_0
  go_wp2_with fail
  have q35_0 := Own.new W34 3 [.int .i64 1000001]
  have hq := ba1 W34 (.cells #[.int .i64 1000001] 3)
  replace t7 := t7.below hq
  replace t9 := t9.below hq
  replace t11 := t11.below hq
  replace t13 := t13.below hq
  replace t15 := t15.below hq
  replace t17 := t17.below hq
  replace t19 := t19.below hq
  replace t20 := t20.below hq
  replace t22 := t22.below hq
  replace t25 := t25.below hq
  replace t29 := t29.below hq
  replace t30 := t30.below hq
  replace t32 := t32.below hq
  replace hy := below_to hy hq
  clear hq
  generalize (W34.alloc (.cells #[.int .i64 1000001] 3)) = W35 at *
  obtain ⟨B35, hB35⟩ : ∃ B, B = W34.heap.size := ⟨_, rfl⟩
  rw [← hB35] at q35_0 ⊢
  clear hB35
  have s35_0 := si_of_own [1000001] 1 rfl (by decide) q35_0
  refine (ideg_any [1000001] _ _ s35_0).mono ?_
  rintro e W36 ⟨rfl, hq⟩
  replace t7 := t7.below hq
  replace t9 := t9.below hq
  replace t11 := t11.below hq
  replace t13 := t13.below hq
  replace t15 := t15.below hq
  replace t17 := t17.below hq
  replace t19 := t19.below hq
  replace t20 := t20.below hq
  replace t22 := t22.below hq
  replace t25 := t25.below hq
  replace t29 := t29.below hq
  replace t30 := t30.below hq
  replace t32 := t32.below hq
  replace s35_0 := s35_0.below hq
  replace hy := below_to hy hq
  clear hq
  rw [show fdeg [1000001] = (0, 8) from by decide +kernel]
  clear s35_0
  go_upto_region 18 with fail
  obtain ⟨LL6, hLL6⟩ : ∃ L : List Int, L = (List.replicate 257 0) := ⟨_, rfl⟩
  have MK0 : ∀ w1 : World, (Instr.makeSlice 22 (.int .i64 257) (.int .i64 257)).run Try.prog w1 = .ok (.slice (some ⟨w1.heap.size, 0, none⟩) 257 257) (w1.alloc (.cells (ics LL6).toArray 3)) := fun w1 => by rw [hLL6]; exact mk_ints 257 (by decide) w1
  replace hLL6 := Lib.hid hLL6
  have gl := @grow_lt
  refine wp_region_gt [.g [0, 1], .s [.f 2]] _ [3, 4, 5] [6, 7] (by kernel_rfl) rfl (by kernel_rfl) (by kernel_rfl) (by kernel_rfl) (fun _ _ _ _ _ h => h) ?_
  refine wp_group2 (fun v w => SI w v LL6) (fun v _ => v = .agg #[.int .i64 0, .int .i64 1]) (some 145) (some 146) rfl rfl (by decide) (fun _ _ _ h hb => h.below hb) (fun _ _ _ h _ => h) ?_ ?_ ?_
  · intro a' w' hb K' hK'
    refine wpOp_of rfl rfl ?_
    refine wp_made rfl (MK0 w') ?_
    exact hK' _ _ (si_of_own LL6 257 (by rw [hLL6.out, List.length_replicate]) (by decide) (Own.new w' 3 (ics LL6))) (ba1 w' (.cells (ics LL6).toArray 3))
  · intro a' w' hb K' hK'
    refine wpOp_of rfl rfl ?_
    go_simp
    refine (of15_any 0 1 _).mono ?_
    rintro e w2 ⟨rfl, hq⟩
    exact hK' _ _ rfl hq
  intro g37a g37b W37 h37a h37b hR0
  have hR := below_to ((Below.refl W36.heap.size W36).drew) hR0
  clear hR0
  replace t7 := t7.below hR
  replace t9 := t9.below hR
  replace t11 := t11.below hR
  replace t13 := t13.below hR
  replace t15 := t15.below hR
  replace t17 := t17.below hR
  replace t19 := t19.below hR
  replace t20 := t20.below hR
  replace t22 := t22.below hR
  replace t25 := t25.below hR
  replace t29 := t29.below hR
  replace t30 := t30.below hR
  replace t32 := t32.below hR
  obtain rfl := h37b
  clear MK0
  refine wpX_f rfl rfl (fun K' hK' => ?_)
  go_simp
  refine (iread_any LL6 _ 1 0 1 _ h37a (il_of _ (by rw [hLL6.out]; decide +kernel)) ⟨by decide, by decide⟩ ⟨by decide, by decide⟩ ⟨by decide, by decide⟩).mono ?_
  rintro e W38 ⟨u38, rfl, t38, hq⟩
  replace t7 := t7.below hq
  replace t9 := t9.below hq
  replace t11 := t11.below hq
  replace t13 := t13.below hq
  replace t15 := t15.below hq
  replace t17 := t17.below hq
  replace t19 := t19.below hq
  replace t20 := t20.below hq
  replace t22 := t22.below hq
  replace t25 := t25.below hq
  replace t29 := t29.below hq
  replace t30 := t30.below hq
  replace t32 := t32.below hq
  replace h37a := h37a.below hq
  replace hR := below_to hR hq
  clear hq
  refine hK' _ _ (grow_of hR) ?_
  clear hK' K'
  have e38 : fread LL6 1 0 1 = ([], 4) := by rw [hLL6.out]; decide +kernel
  rw [e38] at t38 ⊢
  clear e38
  clear h37a
  refine wpX_nil ?_
  refine wpG_nil ?_
  try simp only [opsAt, List.getElem?_toArray, List.getElem?_cons_zero, List.getElem?_cons_succ, Option.getD_some]
  repeat (go_big_quiet_step (fail))
  refine wpQuiet_nil ?_
  try simp only [opsAt, List.getElem?_toArray, List.getElem?_cons_zero, List.getElem?_cons_succ, Option.getD_some]
  clear gl
  replace hy := below_to hy hR
  clear hR
  go_wp2_with fail
  have q39_0 := Own.new W38 3 [.int .i64 (-1000001)]
  have hq := ba1 W38 (.cells #[.int .i64 (-1000001)] 3)
  replace t7 := t7.below hq
  replace t9 := t9.below hq
  replace t11 := t11.below hq
  replace t13 := t13.below hq
  replace t15 := t15.below hq
  replace t17 := t17.below hq
  replace t19 := t19.below hq
  replace t20 := t20.below hq
  replace t22 := t22.below hq
  replace t25 := t25.below hq
  replace t29 := t29.below hq
  replace t30 := t30.below hq
  replace t32 := t32.below hq
  replace t38 := t38.below hq
  replace hy := below_to hy hq
  clear hq
  generalize (W38.alloc (.cells #[.int .i64 (-1000001)] 3)) = W39 at *
  obtain ⟨B39, hB39⟩ : ∃ B, B = W38.heap.size := ⟨_, rfl⟩
  rw [← hB39] at q39_0 ⊢
  clear hB39
  have s39_0 := si_of_own [-1000001] 1 rfl (by decide) q39_0
  refine (of15_any 0 1 _).mono ?_
  rintro e W40 ⟨rfl, hq⟩
  replace t7 := t7.below hq
  replace t9 := t9.below hq
  replace t11 := t11.below hq
  replace t13 := t13.below hq
  replace t15 := t15.below hq
  replace t17 := t17.below hq
  replace t19 := t19.below hq
  replace t20 := t20.below hq
  replace t22 := t22.below hq
  replace t25 := t25.below hq
  replace t29 := t29.below hq
  replace t30 := t30.below hq
  replace t32 := t32.below hq
  replace t38 := t38.below hq
  replace s39_0 := s39_0.below hq
  replace hy := below_to hy hq
  clear hq
  go_wp2_with fail
  refine (iread_any [-1000001] _ 9 0 1 _ s39_0 (il_of _ (by decide +kernel)) ⟨by decide, by decide⟩ ⟨by decide, by decide⟩ ⟨by decide, by decide⟩).mono ?_
  rintro e W41 ⟨u41, rfl, t41, hq⟩
  replace t7 := t7.below hq
  replace t9 := t9.below hq
  replace t11 := t11.below hq
  replace t13 := t13.below hq
  replace t15 := t15.below hq
  replace t17 := t17.below hq
  replace t19 := t19.below hq
  replace t20 := t20.below hq
  replace t22 := t22.below hq
  replace t25 := t25.below hq
  replace t29 := t29.below hq
  replace t30 := t30.below hq
  replace t32 := t32.below hq
  replace t38 := t38.below hq
  replace s39_0 := s39_0.below hq
  replace hy := below_to hy hq
  clear hq
  have e41 : fread [-1000001] 9 0 1 = ([], 8) := by decide +kernel
  rw [e41] at t41 ⊢
  clear e41
  clear s39_0
  go_wp2_with fail
  have q42_0 := Own.new W41 3 [.int .i64 1]
  have hq := ba1 W41 (.cells #[.int .i64 1] 3)
  replace t7 := t7.below hq
  replace t9 := t9.below hq
  replace t11 := t11.below hq
  replace t13 := t13.below hq
  replace t15 := t15.below hq
  replace t17 := t17.below hq
  replace t19 := t19.below hq
  replace t20 := t20.below hq
  replace t22 := t22.below hq
  replace t25 := t25.below hq
  replace t29 := t29.below hq
  replace t30 := t30.below hq
  replace t32 := t32.below hq
  replace t38 := t38.below hq
  replace t41 := t41.below hq
  replace hy := below_to hy hq
  clear hq
  generalize (W41.alloc (.cells #[.int .i64 1] 3)) = W42 at *
  obtain ⟨B42, hB42⟩ : ∃ B, B = W41.heap.size := ⟨_, rfl⟩
  rw [← hB42] at q42_0 ⊢
  clear hB42
  have s42_0 := si_of_own [1] 1 rfl (by decide) q42_0
  refine (of15_any 0 1 _).mono ?_
  rintro e W43 ⟨rfl, hq⟩
  replace t7 := t7.below hq
  replace t9 := t9.below hq
  replace t11 := t11.below hq
  replace t13 := t13.below hq
  replace t15 := t15.below hq
  replace t17 := t17.below hq
  replace t19 := t19.below hq
  replace t20 := t20.below hq
  replace t22 := t22.below hq
  replace t25 := t25.below hq
  replace t29 := t29.below hq
  replace t30 := t30.below hq
  replace t32 := t32.below hq
  replace t38 := t38.below hq
  replace t41 := t41.below hq
  replace s42_0 := s42_0.below hq
  replace hy := below_to hy hq
  clear hq
  go_wp2_with fail
  refine (iread_any [1] _ 9 0 1 _ s42_0 (il_of _ (by decide +kernel)) ⟨by decide, by decide⟩ ⟨by decide, by decide⟩ ⟨by decide, by decide⟩).mono ?_
  rintro e W44 ⟨u44, rfl, t44, hq⟩
  replace t7 := t7.below hq
  replace t9 := t9.below hq
  replace t11 := t11.below hq
  replace t13 := t13.below hq
  replace t15 := t15.below hq
  replace t17 := t17.below hq
  replace t19 := t19.below hq
  replace t20 := t20.below hq
  replace t22 := t22.below hq
  replace t25 := t25.below hq
  replace t29 := t29.below hq
  replace t30 := t30.below hq
  replace t32 := t32.below hq
  replace t38 := t38.below hq
  replace t41 := t41.below hq
  replace s42_0 := s42_0.below hq
  replace hy := below_to hy hq
  clear hq
  have e44 : fread [1] 9 0 1 = ([], 2) := by decide +kernel
  rw [e44] at t44 ⊢
  clear e44
  clear s42_0
  go_wp2_with fail
  have q45_0 := Own.new W44 3 [.int .i64 0, .int .i64 0]
  have hq := ba1 W44 (.cells #[.int .i64 0, .int .i64 0] 3)
  replace t7 := t7.below hq
  replace t9 := t9.below hq
  replace t11 := t11.below hq
  replace t13 := t13.below hq
  replace t15 := t15.below hq
  replace t17 := t17.below hq
  replace t19 := t19.below hq
  replace t20 := t20.below hq
  replace t22 := t22.below hq
  replace t25 := t25.below hq
  replace t29 := t29.below hq
  replace t30 := t30.below hq
  replace t32 := t32.below hq
  replace t38 := t38.below hq
  replace t41 := t41.below hq
  replace t44 := t44.below hq
  replace hy := below_to hy hq
  clear hq
  generalize (W44.alloc (.cells #[.int .i64 0, .int .i64 0] 3)) = W45 at *
  obtain ⟨B45, hB45⟩ : ∃ B, B = W44.heap.size := ⟨_, rfl⟩
  rw [← hB45] at q45_0 ⊢
  clear hB45
  have s45_0 := si_of_own [0, 0] 2 rfl (by decide) q45_0
  refine (ideg_any [0, 0] _ _ s45_0).mono ?_
  rintro e W46 ⟨rfl, hq⟩
  replace t7 := t7.below hq
  replace t9 := t9.below hq
  replace t11 := t11.below hq
  replace t13 := t13.below hq
  replace t15 := t15.below hq
  replace t17 := t17.below hq
  replace t19 := t19.below hq
  replace t20 := t20.below hq
  replace t22 := t22.below hq
  replace t25 := t25.below hq
  replace t29 := t29.below hq
  replace t30 := t30.below hq
  replace t32 := t32.below hq
  replace t38 := t38.below hq
  replace t41 := t41.below hq
  replace t44 := t44.below hq
  replace s45_0 := s45_0.below hq
  replace hy := below_to hy hq
  clear hq
  rw [show fdeg [0, 0] = (-1, 0) from by decide +kernel]
  clear s45_0
  go_wp2_with fail
  have q47_0 := Own.new W46 3 [.int .i64 7]
  have hq := ba1 W46 (.cells #[.int .i64 7] 3)
  replace t7 := t7.below hq
  replace t9 := t9.below hq
  replace t11 := t11.below hq
  replace t13 := t13.below hq
  replace t15 := t15.below hq
  replace t17 := t17.below hq
  replace t19 := t19.below hq
  replace t20 := t20.below hq
  replace t22 := t22.below hq
  replace t25 := t25.below hq
  replace t29 := t29.below hq
  replace t30 := t30.below hq
  replace t32 := t32.below hq
  replace t38 := t38.below hq
  replace t41 := t41.below hq
  replace t44 := t44.below hq
  replace hy := below_to hy hq
  clear hq
  generalize (W46.alloc (.cells #[.int .i64 7] 3)) = W47 at *
  obtain ⟨B47, hB47⟩ : ∃ B, B = W46.heap.size := ⟨_, rfl⟩
  rw [← hB47] at q47_0 ⊢
  clear hB47
  have s47_0 := si_of_own [7] 1 rfl (by decide) q47_0
  refine (ideg_any [7] _ _ s47_0).mono ?_
  rintro e W48 ⟨rfl, hq⟩
  replace t7 := t7.below hq
  replace t9 := t9.below hq
  replace t11 := t11.below hq
  replace t13 := t13.below hq
  replace t15 := t15.below hq
  replace t17 := t17.below hq
  replace t19 := t19.below hq
  replace t20 := t20.below hq
  replace t22 := t22.below hq
  replace t25 := t25.below hq
  replace t29 := t29.below hq
  replace t30 := t30.below hq
  replace t32 := t32.below hq
  replace t38 := t38.below hq
  replace t41 := t41.below hq
  replace t44 := t44.below hq
  replace s47_0 := s47_0.below hq
  replace hy := below_to hy hq
  clear hq
  rw [show fdeg [7] = (0, 0) from by decide +kernel]
  clear s47_0
  go_wp2_with fail
  have q49_0 := Own.new W48 3 [.int .i64 0, .int .i64 0, .int .i64 1]
  have hq := ba1 W48 (.cells #[.int .i64 0, .int .i64 0, .int .i64 1] 3)
  replace t7 := t7.below hq
  replace t9 := t9.below hq
  replace t11 := t11.below hq
  replace t13 := t13.below hq
  replace t15 := t15.below hq
  replace t17 := t17.below hq
  replace t19 := t19.below hq
  replace t20 := t20.below hq
  replace t22 := t22.below hq
  replace t25 := t25.below hq
  replace t29 := t29.below hq
  replace t30 := t30.below hq
  replace t32 := t32.below hq
  replace t38 := t38.below hq
  replace t41 := t41.below hq
  replace t44 := t44.below hq
  replace hy := below_to hy hq
  clear hq
  generalize (W48.alloc (.cells #[.int .i64 0, .int .i64 0, .int .i64 1] 3)) = W49 at *
  obtain ⟨B49, hB49⟩ : ∃ B, B = W48.heap.size := ⟨_, rfl⟩
  rw [← hB49] at q49_0 ⊢
  clear hB49
  have s49_0 := si_of_own [0, 0, 1] 3 rfl (by decide) q49_0
  refine (ideg_any [0, 0, 1] _ _ s49_0).mono ?_
  rintro e W50 ⟨rfl, hq⟩
  replace t7 := t7.below hq
  replace t9 := t9.below hq
  replace t11 := t11.below hq
  replace t13 := t13.below hq
  replace t15 := t15.below hq
  replace t17 := t17.below hq
  replace t19 := t19.below hq
  replace t20 := t20.below hq
  replace t22 := t22.below hq
  replace t25 := t25.below hq
  replace t29 := t29.below hq
  replace t30 := t30.below hq
  replace t32 := t32.below hq
  replace t38 := t38.below hq
  replace t41 := t41.below hq
  replace t44 := t44.below hq
  replace s49_0 := s49_0.below hq
  replace hy := below_to hy hq
  clear hq
  rw [show fdeg [0, 0, 1] = (2, 0) from by decide +kernel]
  clear s49_0
  go_wp2_with fail
  refine (of15_any 0 1 _).mono ?_
  rintro e W51 ⟨rfl, hq⟩
  replace t7 := t7.below hq
  replace t9 := t9.below hq
  replace t11 := t11.below hq
  replace t13 := t13.below hq
  replace t15 := t15.below hq
  replace t17 := t17.below hq
  replace t19 := t19.below hq
  replace t20 := t20.below hq
  replace t22 := t22.below hq
  replace t25 := t25.below hq
  replace t29 := t29.below hq
  replace t30 := t30.below hq
  replace t32 := t32.below hq
  replace t38 := t38.below hq
  replace t41 := t41.below hq
  replace t44 := t44.below hq
  replace hy := below_to hy hq
  clear hq
  go_wp2_with fail
  refine (itaps_any 3 0 1 _ ⟨by decide, by decide⟩ ⟨by decide, by decide⟩ ⟨by decide, by decide⟩).mono ?_
  rintro e W52 ⟨u52, rfl, t52, hq⟩
  replace t7 := t7.below hq
  replace t9 := t9.below hq
  replace t11 := t11.below hq
  replace t13 := t13.below hq
  replace t15 := t15.below hq
  replace t17 := t17.below hq
  replace t19 := t19.below hq
  replace t20 := t20.below hq
  replace t22 := t22.below hq
  replace t25 := t25.below hq
  replace t29 := t29.below hq
  replace t30 := t30.below hq
  replace t32 := t32.below hq
  replace t38 := t38.below hq
  replace t41 := t41.below hq
  replace t44 := t44.below hq
  replace hy := below_to hy hq
  clear hq
  have e52 : ftaps 3 0 1 = ([(0, 1), (1, 1), (0, 1), (0, 1)], 0) := by decide +kernel
  rw [e52] at t52 ⊢
  clear e52
  go_wp2_with fail
  refine (of15_any 1000000000000000000 1 _).mono ?_
  rintro e W53 ⟨rfl, hq⟩
  replace t7 := t7.below hq
  replace t9 := t9.below hq
  replace t11 := t11.below hq
  replace t13 := t13.below hq
  replace t15 := t15.below hq
  replace t17 := t17.below hq
  replace t19 := t19.below hq
  replace t20 := t20.below hq
  replace t22 := t22.below hq
  replace t25 := t25.below hq
  replace t29 := t29.below hq
  replace t30 := t30.below hq
  replace t32 := t32.below hq
  replace t38 := t38.below hq
  replace t41 := t41.below hq
  replace t44 := t44.below hq
  replace t52 := t52.below hq
  replace hy := below_to hy hq
  clear hq
  go_wp2_with fail
  have q54_0 := Own.new W53 24 [.int .i64 1000000000000000000, .int .i64 1]
  have hq := ba1 W53 (.cells #[.int .i64 1000000000000000000, .int .i64 1] 24)
  replace t7 := t7.below hq
  replace t9 := t9.below hq
  replace t11 := t11.below hq
  replace t13 := t13.below hq
  replace t15 := t15.below hq
  replace t17 := t17.below hq
  replace t19 := t19.below hq
  replace t20 := t20.below hq
  replace t22 := t22.below hq
  replace t25 := t25.below hq
  replace t29 := t29.below hq
  replace t30 := t30.below hq
  replace t32 := t32.below hq
  replace t38 := t38.below hq
  replace t41 := t41.below hq
  replace t44 := t44.below hq
  replace t52 := t52.below hq
  replace hy := below_to hy hq
  clear hq
  generalize (W53.alloc (.cells #[.int .i64 1000000000000000000, .int .i64 1] 24)) = W54 at *
  obtain ⟨B54, hB54⟩ : ∃ B, B = W53.heap.size := ⟨_, rfl⟩
  rw [← hB54] at q54_0 ⊢
  clear hB54
  have s54_0 := sf_of_own [(1000000000000000000, 1)] 1 rfl (by decide) q54_0
  refine (of15_any 3 1 _).mono ?_
  rintro e W55 ⟨rfl, hq⟩
  replace t7 := t7.below hq
  replace t9 := t9.below hq
  replace t11 := t11.below hq
  replace t13 := t13.below hq
  replace t15 := t15.below hq
  replace t17 := t17.below hq
  replace t19 := t19.below hq
  replace t20 := t20.below hq
  replace t22 := t22.below hq
  replace t25 := t25.below hq
  replace t29 := t29.below hq
  replace t30 := t30.below hq
  replace t32 := t32.below hq
  replace t38 := t38.below hq
  replace t41 := t41.below hq
  replace t44 := t44.below hq
  replace t52 := t52.below hq
  replace s54_0 := s54_0.below hq
  replace hy := below_to hy hq
  clear hq
  go_wp2_with fail
  have q56_0 := Own.new W55 24 [.int .i64 3, .int .i64 1]
  have hq := ba1 W55 (.cells #[.int .i64 3, .int .i64 1] 24)
  replace t7 := t7.below hq
  replace t9 := t9.below hq
  replace t11 := t11.below hq
  replace t13 := t13.below hq
  replace t15 := t15.below hq
  replace t17 := t17.below hq
  replace t19 := t19.below hq
  replace t20 := t20.below hq
  replace t22 := t22.below hq
  replace t25 := t25.below hq
  replace t29 := t29.below hq
  replace t30 := t30.below hq
  replace t32 := t32.below hq
  replace t38 := t38.below hq
  replace t41 := t41.below hq
  replace t44 := t44.below hq
  replace t52 := t52.below hq
  replace s54_0 := s54_0.below hq
  replace hy := below_to hy hq
  clear hq
  generalize (W55.alloc (.cells #[.int .i64 3, .int .i64 1] 24)) = W56 at *
  obtain ⟨B56, hB56⟩ : ∃ B, B = W55.heap.size := ⟨_, rfl⟩
  rw [← hB56] at q56_0 ⊢
  clear hB56
  have s56_0 := sf_of_own [(3, 1)] 1 rfl (by decide) q56_0
  refine (ifilt_any [(1000000000000000000, 1)] [(3, 1)] _ _ _ s54_0 s56_0 (fi_of _ (by decide +kernel)) (fi_of _ (by decide +kernel))).mono ?_
  rintro e W57 ⟨u57, rfl, t57, hq⟩
  replace t7 := t7.below hq
  replace t9 := t9.below hq
  replace t11 := t11.below hq
  replace t13 := t13.below hq
  replace t15 := t15.below hq
  replace t17 := t17.below hq
  replace t19 := t19.below hq
  replace t20 := t20.below hq
  replace t22 := t22.below hq
  replace t25 := t25.below hq
  replace t29 := t29.below hq
  replace t30 := t30.below hq
  replace t32 := t32.below hq
  replace t38 := t38.below hq
  replace t41 := t41.below hq
  replace t44 := t44.below hq
  replace t52 := t52.below hq
  replace s54_0 := s54_0.below hq
  replace s56_0 := s56_0.below hq
  replace hy := below_to hy hq
  clear hq
  have e57 : ffilt [(1000000000000000000, 1)] [(3, 1)] = ([], 16) := by decide +kernel
  rw [e57] at t57 ⊢
  clear e57
  obtain ⟨ad57, cap57, rfl, _, _, _⟩ := t57.open
  simp only [List.length_nil] at *
  clear s54_0 s56_0
  go_wp2_with fail
  refine (alive15_any _).mono ?_
  rintro e W58 ⟨rfl, hq⟩
  replace t7 := t7.below hq
  replace t9 := t9.below hq
  replace t11 := t11.below hq
  replace t13 := t13.below hq
  replace t15 := t15.below hq
  replace t17 := t17.below hq
  replace t19 := t19.below hq
  replace t20 := t20.below hq
  replace t22 := t22.below hq
  replace t25 := t25.below hq
  replace t29 := t29.below hq
  replace t30 := t30.below hq
  replace t32 := t32.below hq
  replace t38 := t38.below hq
  replace t41 := t41.below hq
  replace t44 := t44.below hq
  replace t52 := t52.below hq
  replace t57 := t57.below hq
  replace hy := below_to hy hq
  clear hq
  go_wp2_with fail
  refine (of15_any 0 1 _).mono ?_
  rintro e W59 ⟨rfl, hq⟩
  replace t7 := t7.below hq
  replace t9 := t9.below hq
  replace t11 := t11.below hq
  replace t13 := t13.below hq
  replace t15 := t15.below hq
  replace t17 := t17.below hq
  replace t19 := t19.below hq
  replace t20 := t20.below hq
  replace t22 := t22.below hq
  replace t25 := t25.below hq
  replace t29 := t29.below hq
  replace t30 := t30.below hq
  replace t32 := t32.below hq
  replace t38 := t38.below hq
  replace t41 := t41.below hq
  replace t44 := t44.below hq
  replace t52 := t52.below hq
  replace t57 := t57.below hq
  replace hy := below_to hy hq
  clear hq
  clear t7 t9 t11 t13 t15 t17 t19 t20 t22 t25 t29 t30 t32 t38 t41 t44
  go_wp2_with fail
  refine (of15_any 1 1 _).mono ?_
  rintro e W60 ⟨rfl, hq⟩
  replace t52 := t52.below hq
  replace t57 := t57.below hq
  replace hy := below_to hy hq
  clear hq
  go_wp2_with fail
  refine (of15_any 0 1 _).mono ?_
  rintro e W61 ⟨rfl, hq⟩
  replace t52 := t52.below hq
  replace t57 := t57.below hq
  replace hy := below_to hy hq
  clear hq
  go_wp2_with fail
  refine (of15_any 0 1 _).mono ?_
  rintro e W62 ⟨rfl, hq⟩
  replace t52 := t52.below hq
  replace t57 := t57.below hq
  replace hy := below_to hy hq
  clear hq
  go_wp2_with fail
  have q63_0 := Own.new W62 24 [.int .i64 0, .int .i64 1, .int .i64 1, .int .i64 1, .int .i64 0, .int .i64 1, .int .i64 0, .int .i64 1]
  have hq := ba1 W62 (.cells #[.int .i64 0, .int .i64 1, .int .i64 1, .int .i64 1, .int .i64 0, .int .i64 1, .int .i64 0, .int .i64 1] 24)
  replace t52 := t52.below hq
  replace t57 := t57.below hq
  replace hy := below_to hy hq
  clear hq
  generalize (W62.alloc (.cells #[.int .i64 0, .int .i64 1, .int .i64 1, .int .i64 1, .int .i64 0, .int .i64 1, .int .i64 0, .int .i64 1] 24)) = W63 at *
  obtain ⟨B63, hB63⟩ : ∃ B, B = W62.heap.size := ⟨_, rfl⟩
  rw [← hB63] at q63_0 ⊢
  clear hB63
  have s63_0 := sf_of_own [(0, 1), (1, 1), (0, 1), (0, 1)] 4 rfl (by decide) q63_0
  refine (rsame_true [(0, 1), (1, 1), (0, 1), (0, 1)] _ _ _ t52 s63_0).mono ?_
  rintro e W64 ⟨rfl, hq⟩
  replace t52 := t52.below hq
  replace t57 := t57.below hq
  replace s63_0 := s63_0.below hq
  replace hy := below_to hy hq
  clear hq
  clear t52 s63_0
  go_wp2
  go_ret
  exact ⟨by first | rfl | simp, hy⟩
end Go.Proofs.Ytpjhiojdnebgoaa

