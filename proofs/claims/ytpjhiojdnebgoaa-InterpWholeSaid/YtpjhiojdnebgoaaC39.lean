/- What is proved here: contracts of functions and plain facts, several texts in one; each one says ahead what it proves, and its conditions. -/
import Derived.Test.YtpjhiojdnebgoaaC33
import Derived.Test.YtpjhiojdnebgoaaC25
import Derived.Test.YtpjhiojdnebgoaaC29
import Derived.Test.YtpjhiojdnebgoaaC36
import Derived.Test.YtpjhiojdnebgoaaC38
import Derived.Test.YtpjhiojdnebgoaaC22
import Derived.Test.YtpjhiojdnebgoaaC01
import Derived.Deep.DeepCutAuto
/- What is proved here: fringelaw15.alive returns true. No condition. -/
namespace Go.Proofs.Ytpjhiojdnebgoaa
open Go.RowKit

set_option maxRecDepth 100000 in
set_option maxHeartbeats 64000000 in
theorem alive15_any (w : World) : Calls Try.prog 27 #[] w fun e w' => e = .returned (.bool true) ∧ Below w.heap.size w w' := by
  go_enter Try.func27, Try.ntmps27
  have hy := Below.refl w.heap.size w
  go_wp2_with fail
  refine (of15_any 1 4 _).mono ?_
  rintro e W1 ⟨rfl, hq⟩
  replace hy := below_to hy hq
  clear hq
  go_wp2_with fail
  refine (itaps_any 1 1 4 _ ⟨by decide, by decide⟩ ⟨by decide, by decide⟩ ⟨by decide, by decide⟩).mono ?_
  rintro e W2 ⟨u2, rfl, t2, hq⟩
  replace hy := below_to hy hq
  clear hq
  have e2 : ftaps 1 1 4 = ([(3, 4), (1, 4)], 0) := by decide +kernel
  rw [e2] at t2 ⊢
  clear e2
  go_wp2_with fail
  refine (of15_any 1 2 _).mono ?_
  rintro e W3 ⟨rfl, hq⟩
  replace t2 := t2.below hq
  replace hy := below_to hy hq
  clear hq
  go_wp2_with fail
  refine (itaps_any 2 1 2 _ ⟨by decide, by decide⟩ ⟨by decide, by decide⟩ ⟨by decide, by decide⟩).mono ?_
  rintro e W4 ⟨u4, rfl, t4, hq⟩
  replace t2 := t2.below hq
  replace hy := below_to hy hq
  clear hq
  have e4 : ftaps 2 1 2 = ([(-1, 8), (3, 4), (3, 8)], 0) := by decide +kernel
  rw [e4] at t4 ⊢
  clear e4
  go_wp2_with fail
  have q5_0 := Own.new W4 3 [.int .i64 0, .int .i64 1, .int .i64 4, .int .i64 9]
  have hq := ba1 W4 (.cells #[.int .i64 0, .int .i64 1, .int .i64 4, .int .i64 9] 3)
  replace t2 := t2.below hq
  replace t4 := t4.below hq
  replace hy := below_to hy hq
  clear hq
  generalize (W4.alloc (.cells #[.int .i64 0, .int .i64 1, .int .i64 4, .int .i64 9] 3)) = W5 at *
  obtain ⟨B5, hB5⟩ : ∃ B, B = W4.heap.size := ⟨_, rfl⟩
  rw [← hB5] at q5_0 ⊢
  clear hB5
  have s5_0 := si_of_own [0, 1, 4, 9] 4 rfl (by decide) q5_0
  refine (ideg_any [0, 1, 4, 9] _ _ s5_0).mono ?_
  rintro e W6 ⟨rfl, hq⟩
  replace t2 := t2.below hq
  replace t4 := t4.below hq
  replace s5_0 := s5_0.below hq
  replace hy := below_to hy hq
  clear hq
  rw [show fdeg [0, 1, 4, 9] = (2, 0) from by decide +kernel]
  clear s5_0
  go_wp2_with fail
  have q7_0 := Own.new W6 3 [.int .i64 0, .int .i64 1, .int .i64 4, .int .i64 9]
  have hq := ba1 W6 (.cells #[.int .i64 0, .int .i64 1, .int .i64 4, .int .i64 9] 3)
  replace t2 := t2.below hq
  replace t4 := t4.below hq
  replace hy := below_to hy hq
  clear hq
  generalize (W6.alloc (.cells #[.int .i64 0, .int .i64 1, .int .i64 4, .int .i64 9] 3)) = W7 at *
  obtain ⟨B7, hB7⟩ : ∃ B, B = W6.heap.size := ⟨_, rfl⟩
  rw [← hB7] at q7_0 ⊢
  clear hB7
  have s7_0 := si_of_own [0, 1, 4, 9] 4 rfl (by decide) q7_0
  refine (of15_any 1 2 _).mono ?_
  rintro e W8 ⟨rfl, hq⟩
  replace t2 := t2.below hq
  replace t4 := t4.below hq
  replace s7_0 := s7_0.below hq
  replace hy := below_to hy hq
  clear hq
  go_wp2_with fail
  refine (iread_any [0, 1, 4, 9] _ 2 1 2 _ s7_0 (il_of _ (by decide +kernel)) ⟨by decide, by decide⟩ ⟨by decide, by decide⟩ ⟨by decide, by decide⟩).mono ?_
  rintro e W9 ⟨u9, rfl, t9, hq⟩
  replace t2 := t2.below hq
  replace t4 := t4.below hq
  replace s7_0 := s7_0.below hq
  replace hy := below_to hy hq
  clear hq
  have e9 : fread [0, 1, 4, 9] 2 1 2 = ([(9, 4), (25, 4)], 0) := by decide +kernel
  rw [e9] at t9 ⊢
  clear e9
  clear s7_0
  go_wp2_with fail
  refine (of15_any 1 2 _).mono ?_
  rintro e W10 ⟨rfl, hq⟩
  replace t2 := t2.below hq
  replace t4 := t4.below hq
  replace t9 := t9.below hq
  replace hy := below_to hy hq
  clear hq
  go_wp2_with fail
  refine (of15_any 1 2 _).mono ?_
  rintro e W11 ⟨rfl, hq⟩
  replace t2 := t2.below hq
  replace t4 := t4.below hq
  replace t9 := t9.below hq
  replace hy := below_to hy hq
  clear hq
  go_wp2_with fail
  have q12_0 := Own.new W11 24 [.int .i64 1, .int .i64 2, .int .i64 1, .int .i64 2]
  have hq := ba1 W11 (.cells #[.int .i64 1, .int .i64 2, .int .i64 1, .int .i64 2] 24)
  replace t2 := t2.below hq
  replace t4 := t4.below hq
  replace t9 := t9.below hq
  replace hy := below_to hy hq
  clear hq
  generalize (W11.alloc (.cells #[.int .i64 1, .int .i64 2, .int .i64 1, .int .i64 2] 24)) = W12 at *
  obtain ⟨B12, hB12⟩ : ∃ B, B = W11.heap.size := ⟨_, rfl⟩
  rw [← hB12] at q12_0 ⊢
  clear hB12
  have s12_0 := sf_of_own [(1, 2), (1, 2)] 2 rfl (by decide) q12_0
  refine (ijoin_any [(1, 2), (1, 2)] [(1, 2), (1, 2)] _ _ _ s12_0 s12_0 (fi_of _ (by decide +kernel)) (fi_of _ (by decide +kernel))).mono ?_
  rintro e W13 ⟨u13, rfl, t13, hq⟩
  replace t2 := t2.below hq
  replace t4 := t4.below hq
  replace t9 := t9.below hq
  replace s12_0 := s12_0.below hq
  replace hy := below_to hy hq
  clear hq
  have e13 : fjoin [(1, 2), (1, 2)] [(1, 2), (1, 2)] = ([(1, 4), (1, 2), (1, 4)], 0) := by decide +kernel
  rw [e13] at t13 ⊢
  clear e13
  clear s12_0
  go_wp2_with fail
  refine (of15_any (-7) 4 _).mono ?_
  rintro e W14 ⟨rfl, hq⟩
  replace t2 := t2.below hq
  replace t4 := t4.below hq
  replace t9 := t9.below hq
  replace t13 := t13.below hq
  replace hy := below_to hy hq
  clear hq
  go_wp2_with fail
  refine (isplit_any (-7) 4 _ ⟨by decide, by decide⟩ ⟨by decide, by decide⟩).mono ?_
  rintro e W15 ⟨rfl, hq⟩
  replace t2 := t2.below hq
  replace t4 := t4.below hq
  replace t9 := t9.below hq
  replace t13 := t13.below hq
  replace hy := below_to hy hq
  clear hq
  rw [show fspl (-7) 4 = (-2, 1, 4, 0) from by decide +kernel]
  go_upto_region 9 with fail
  have q16_0 := Own.new W15 24 [.int .i64 1, .int .i64 4]
  have hq := ba1 W15 (.cells #[.int .i64 1, .int .i64 4] 24)
  replace t2 := t2.below hq
  replace t4 := t4.below hq
  replace t9 := t9.below hq
  replace t13 := t13.below hq
  replace hy := below_to hy hq
  clear hq
  generalize (W15.alloc (.cells #[.int .i64 1, .int .i64 4] 24)) = W16 at *
  obtain ⟨B16, hB16⟩ : ∃ B, B = W15.heap.size := ⟨_, rfl⟩
  rw [← hB16] at q16_0 ⊢
  clear hB16
  have o16_0 := q16_0
  obtain ⟨r16_0, f16_0⟩ := o16_0.rules
  have z16_0 := o16_0.lt
  have gl := @grow_lt
  refine wp_region_st [.t [0, 1, 2], .f 3, .f 4, .f 5, .f 6, .t [7, 8, 9], .f 10, .f 11, .f 12, .f 13, .f 14, .t [15, 16, 17, 18, 19, 20, 21], .f 22, .f 23, .f 24, .f 25, .t [26, 27, 28], .f 29, .f 30, .f 31, .f 32, .f 33, .t [34, 35, 36, 37, 38, 39, 40], .f 41, .t [42, 43]] [44] (by kernel_rfl) (by kernel_rfl) (fun _ _ _ _ _ h => h) ?_
  have hR : Below W16.heap.size W16 W16.drew := (Below.refl _ _).drew
  replace t2 := t2.below hR
  replace t4 := t4.below hR
  replace t9 := t9.below hR
  replace t13 := t13.below hR
  generalize W16.drew = W17 at *
  refine wpX_t ?_
  try simp only [opsAt, List.getElem?_toArray, List.getElem?_cons_zero, List.getElem?_cons_succ, Option.getD_some]
  repeat (go_big_quiet_step (fail))
  refine wpQuiet_nil ?_
  refine wpX_f rfl rfl (fun K' hK' => ?_)
  go_simp
  refine (of15_any 3 4 _).mono ?_
  rintro e W18 ⟨rfl, hq⟩
  replace t2 := t2.below hq
  replace t4 := t4.below hq
  replace t9 := t9.below hq
  replace t13 := t13.below hq
  replace hR := below_to hR hq
  clear hq
  refine hK' _ _ (grow_of hR) ?_
  clear hK' K'
  refine wpX_f rfl rfl (fun K' hK' => ?_)
  go_simp
  refine (of15_any 1 4 _).mono ?_
  rintro e W19 ⟨rfl, hq⟩
  replace t2 := t2.below hq
  replace t4 := t4.below hq
  replace t9 := t9.below hq
  replace t13 := t13.below hq
  replace hR := below_to hR hq
  clear hq
  refine hK' _ _ (grow_of hR) ?_
  clear hK' K'
  refine wpX_f rfl rfl (fun K' hK' => ?_)
  go_simp
  have q20 := Own.new (W19) 24 [.int .i64 3, .int .i64 4, .int .i64 1, .int .i64 4]
  have hq := ba1 (W19) (.cells #[.int .i64 3, .int .i64 4, .int .i64 1, .int .i64 4] 24)
  obtain ⟨B20, hB20⟩ : ∃ B, B = (W19).heap.size := ⟨_, rfl⟩
  rw [← hB20] at q20 ⊢
  clear hB20
  replace t2 := t2.below hq
  replace t4 := t4.below hq
  replace t9 := t9.below hq
  replace t13 := t13.below hq
  replace hR := below_to hR hq
  clear hq
  refine hK' _ _ (grow_of hR) ?_
  clear hK' K'
  generalize (W19).alloc (.cells #[.int .i64 3, .int .i64 4, .int .i64 1, .int .i64 4] 24) = W20 at *
  have s20_0 := sf_of_own [(3, 4), (1, 4)] 2 rfl (by decide) q20
  refine wpX_f rfl rfl (fun K' hK' => ?_)
  go_simp
  refine (rsame_true [(3, 4), (1, 4)] _ _ _ t2 s20_0).mono ?_
  rintro e W21 ⟨rfl, hq⟩
  replace t2 := t2.below hq
  replace t4 := t4.below hq
  replace t9 := t9.below hq
  replace t13 := t13.below hq
  replace s20_0 := s20_0.below hq
  replace hR := below_to hR hq
  clear hq
  refine hK' _ _ (grow_of hR) ?_
  clear hK' K'
  clear t2 s20_0
  refine wpX_t ?_
  try simp only [opsAt, List.getElem?_toArray, List.getElem?_cons_zero, List.getElem?_cons_succ, Option.getD_some]
  repeat (go_big_quiet_step (fail))
  refine wpQuiet_nil ?_
  refine wpX_f rfl rfl (fun K' hK' => ?_)
  go_simp
  refine (of15_any (-1) 8 _).mono ?_
  rintro e W22 ⟨rfl, hq⟩
  replace t4 := t4.below hq
  replace t9 := t9.below hq
  replace t13 := t13.below hq
  replace hR := below_to hR hq
  clear hq
  refine hK' _ _ (grow_of hR) ?_
  clear hK' K'
  refine wpX_f rfl rfl (fun K' hK' => ?_)
  go_simp
  refine (of15_any 3 4 _).mono ?_
  rintro e W23 ⟨rfl, hq⟩
  replace t4 := t4.below hq
  replace t9 := t9.below hq
  replace t13 := t13.below hq
  replace hR := below_to hR hq
  clear hq
  refine hK' _ _ (grow_of hR) ?_
  clear hK' K'
  refine wpX_f rfl rfl (fun K' hK' => ?_)
  go_simp
  refine (of15_any 3 8 _).mono ?_
  rintro e W24 ⟨rfl, hq⟩
  replace t4 := t4.below hq
  replace t9 := t9.below hq
  replace t13 := t13.below hq
  replace hR := below_to hR hq
  clear hq
  refine hK' _ _ (grow_of hR) ?_
  clear hK' K'
  refine wpX_f rfl rfl (fun K' hK' => ?_)
  go_simp
  have q25 := Own.new (W24) 24 [.int .i64 (-1), .int .i64 8, .int .i64 3, .int .i64 4, .int .i64 3, .int .i64 8]
  have hq := ba1 (W24) (.cells #[.int .i64 (-1), .int .i64 8, .int .i64 3, .int .i64 4, .int .i64 3, .int .i64 8] 24)
  obtain ⟨B25, hB25⟩ : ∃ B, B = (W24).heap.size := ⟨_, rfl⟩
  rw [← hB25] at q25 ⊢
  clear hB25
  replace t4 := t4.below hq
  replace t9 := t9.below hq
  replace t13 := t13.below hq
  replace hR := below_to hR hq
  clear hq
  refine hK' _ _ (grow_of hR) ?_
  clear hK' K'
  generalize (W24).alloc (.cells #[.int .i64 (-1), .int .i64 8, .int .i64 3, .int .i64 4, .int .i64 3, .int .i64 8] 24) = W25 at *
  have s25_0 := sf_of_own [(-1, 8), (3, 4), (3, 8)] 3 rfl (by decide) q25
  refine wpX_f rfl rfl (fun K' hK' => ?_)
  go_simp
  refine (rsame_true [(-1, 8), (3, 4), (3, 8)] _ _ _ t4 s25_0).mono ?_
  rintro e W26 ⟨rfl, hq⟩
  replace t4 := t4.below hq
  replace t9 := t9.below hq
  replace t13 := t13.below hq
  replace s25_0 := s25_0.below hq
  replace hR := below_to hR hq
  clear hq
  refine hK' _ _ (grow_of hR) ?_
  clear hK' K'
  clear t4 s25_0
  refine wpX_t ?_
  try simp only [opsAt, List.getElem?_toArray, List.getElem?_cons_zero, List.getElem?_cons_succ, Option.getD_some]
  repeat (go_big_quiet_step (fail))
  refine wpQuiet_nil ?_
  refine wpX_f rfl rfl (fun K' hK' => ?_)
  go_simp
  refine (of15_any 9 4 _).mono ?_
  rintro e W27 ⟨rfl, hq⟩
  replace t9 := t9.below hq
  replace t13 := t13.below hq
  replace hR := below_to hR hq
  clear hq
  refine hK' _ _ (grow_of hR) ?_
  clear hK' K'
  refine wpX_f rfl rfl (fun K' hK' => ?_)
  go_simp
  refine (of15_any 25 4 _).mono ?_
  rintro e W28 ⟨rfl, hq⟩
  replace t9 := t9.below hq
  replace t13 := t13.below hq
  replace hR := below_to hR hq
  clear hq
  refine hK' _ _ (grow_of hR) ?_
  clear hK' K'
  refine wpX_f rfl rfl (fun K' hK' => ?_)
  go_simp
  have q29 := Own.new (W28) 24 [.int .i64 9, .int .i64 4, .int .i64 25, .int .i64 4]
  have hq := ba1 (W28) (.cells #[.int .i64 9, .int .i64 4, .int .i64 25, .int .i64 4] 24)
  obtain ⟨B29, hB29⟩ : ∃ B, B = (W28).heap.size := ⟨_, rfl⟩
  rw [← hB29] at q29 ⊢
  clear hB29
  replace t9 := t9.below hq
  replace t13 := t13.below hq
  replace hR := below_to hR hq
  clear hq
  refine hK' _ _ (grow_of hR) ?_
  clear hK' K'
  generalize (W28).alloc (.cells #[.int .i64 9, .int .i64 4, .int .i64 25, .int .i64 4] 24) = W29 at *
  have s29_0 := sf_of_own [(9, 4), (25, 4)] 2 rfl (by decide) q29
  refine wpX_f rfl rfl (fun K' hK' => ?_)
  go_simp
  refine (rsame_true [(9, 4), (25, 4)] _ _ _ t9 s29_0).mono ?_
  rintro e W30 ⟨rfl, hq⟩
  replace t9 := t9.below hq
  replace t13 := t13.below hq
  replace s29_0 := s29_0.below hq
  replace hR := below_to hR hq
  clear hq
  refine hK' _ _ (grow_of hR) ?_
  clear hK' K'
  clear t9 s29_0
  refine wpX_t ?_
  try simp only [opsAt, List.getElem?_toArray, List.getElem?_cons_zero, List.getElem?_cons_succ, Option.getD_some]
  repeat (go_big_quiet_step (fail))
  refine wpQuiet_nil ?_
  refine wpX_f rfl rfl (fun K' hK' => ?_)
  go_simp
  refine (of15_any 1 4 _).mono ?_
  rintro e W31 ⟨rfl, hq⟩
  replace t13 := t13.below hq
  replace hR := below_to hR hq
  clear hq
  refine hK' _ _ (grow_of hR) ?_
  clear hK' K'
  refine wpX_f rfl rfl (fun K' hK' => ?_)
  go_simp
  refine (of15_any 1 2 _).mono ?_
  rintro e W32 ⟨rfl, hq⟩
  replace t13 := t13.below hq
  replace hR := below_to hR hq
  clear hq
  refine hK' _ _ (grow_of hR) ?_
  clear hK' K'
  refine wpX_f rfl rfl (fun K' hK' => ?_)
  go_simp
  refine (of15_any 1 4 _).mono ?_
  rintro e W33 ⟨rfl, hq⟩
  replace t13 := t13.below hq
  replace hR := below_to hR hq
  clear hq
  refine hK' _ _ (grow_of hR) ?_
  clear hK' K'
  refine wpX_f rfl rfl (fun K' hK' => ?_)
  go_simp
  have q34 := Own.new (W33) 24 [.int .i64 1, .int .i64 4, .int .i64 1, .int .i64 2, .int .i64 1, .int .i64 4]
  have hq := ba1 (W33) (.cells #[.int .i64 1, .int .i64 4, .int .i64 1, .int .i64 2, .int .i64 1, .int .i64 4] 24)
  obtain ⟨B34, hB34⟩ : ∃ B, B = (W33).heap.size := ⟨_, rfl⟩
  rw [← hB34] at q34 ⊢
  clear hB34
  replace t13 := t13.below hq
  replace hR := below_to hR hq
  clear hq
  refine hK' _ _ (grow_of hR) ?_
  clear hK' K'
  generalize (W33).alloc (.cells #[.int .i64 1, .int .i64 4, .int .i64 1, .int .i64 2, .int .i64 1, .int .i64 4] 24) = W34 at *
  have s34_0 := sf_of_own [(1, 4), (1, 2), (1, 4)] 3 rfl (by decide) q34
  refine wpX_f rfl rfl (fun K' hK' => ?_)
  go_simp
  refine (rsame_true [(1, 4), (1, 2), (1, 4)] _ _ _ t13 s34_0).mono ?_
  rintro e W35 ⟨rfl, hq⟩
  replace t13 := t13.below hq
  replace s34_0 := s34_0.below hq
  replace hR := below_to hR hq
  clear hq
  refine hK' _ _ (grow_of hR) ?_
  clear hK' K'
  clear t13 s34_0
  refine wpX_t ?_
  try simp only [opsAt, List.getElem?_toArray, List.getElem?_cons_zero, List.getElem?_cons_succ, Option.getD_some]
  repeat (go_big_quiet_step (fail))
  refine wpQuiet_nil ?_
  refine wpX_f rfl rfl (fun K' hK' => ?_)
  go_simp
  refine (of15_any 1 4 _).mono ?_
  rintro e W36 ⟨rfl, hq⟩
  replace hR := below_to hR hq
  clear hq
  refine hK' _ _ (grow_of hR) ?_
  clear hK' K'
  refine wpX_t ?_
  try simp only [opsAt, List.getElem?_toArray, List.getElem?_cons_zero, List.getElem?_cons_succ, Option.getD_some]
  repeat (go_big_quiet_step (fail))
  refine wpQuiet_nil ?_
  refine wpX_nil ?_
  try simp only [opsAt, List.getElem?_toArray, List.getElem?_cons_zero, List.getElem?_cons_succ, Option.getD_some]
  clear gl
  clear r16_0 f16_0 z16_0
  replace o16_0 := o16_0.below hR
  replace hy := below_to hy hR
  clear hR
  go_wp2
  go_ret
  exact ⟨by first | rfl | simp, hy⟩
end Go.Proofs.Ytpjhiojdnebgoaa
