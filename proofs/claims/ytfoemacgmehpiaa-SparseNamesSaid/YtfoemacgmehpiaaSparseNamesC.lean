/- What is proved here: the law SparseNames returns true. No condition. -/
import Derived.Test.YtfoemacgmehpiaaC34
import Derived.Test.YtfoemacgmehpiaaC76
import Derived.Test.YtfoemacgmehpiaaC77
import Derived.Deep.DeepCutAuto
namespace Go.Proofs.Ytfoemacgmehpiaa
open Go.RowKit

set_option maxRecDepth 100000 in
set_option maxHeartbeats 64000000 in
theorem sparseNames_any (w : World) : Calls Try.prog 13 #[] w fun e w' => e = .returned (.bool true) ∧ Below w.heap.size w w' := by
  go_enter Try.func13, Try.ntmps13
  have hy := Below.refl w.heap.size w
  go_wp2_with fail
  refine (given38_any _).mono ?_
  rintro e W1 ⟨va1, vb1, rfl, hA1, hB1, hq⟩
  replace hy := below_to hy hq
  clear hq
  go_wp2_with fail
  refine (spsolve_any [[1, 0], [0, 1]] [3, 1] 3 _ _ _ hA1 hB1).mono ?_
  rintro e W2 ⟨u2, rfl, t2, hq⟩
  replace hA1 := hA1.below hq
  replace hB1 := hB1.below hq
  replace hy := below_to hy hq
  clear hq
  have e2 : sSolve [[1, 0], [0, 1]] [3, 1] 3 = ([(0, 1), (0, 1)], 0, 0) := by decide +kernel
  rw [e2] at t2 ⊢
  clear e2
  clear hA1 hB1
  go_wp2_with fail
  refine (given38_any _).mono ?_
  rintro e W3 ⟨va3, vb3, rfl, hA3, hB3, hq⟩
  replace t2 := t2.below hq
  replace hy := below_to hy hq
  clear hq
  go_wp2_with fail
  refine (spsolve_any [[1, 0], [0, 1]] [3, 1] 1000 _ _ _ hA3 hB3).mono ?_
  rintro e W4 ⟨u4, rfl, t4, hq⟩
  replace t2 := t2.below hq
  replace hA3 := hA3.below hq
  replace hB3 := hB3.below hq
  replace hy := below_to hy hq
  clear hq
  have e4 : sSolve [[1, 0], [0, 1]] [3, 1] 1000 = ([(0, 1), (0, 1)], 0, 0) := by decide +kernel
  rw [e4] at t4 ⊢
  clear e4
  clear hA3 hB3
  go_wp2_with fail
  refine (given38_any _).mono ?_
  rintro e W5 ⟨va5, vb5, rfl, hA5, hB5, hq⟩
  replace t2 := t2.below hq
  replace t4 := t4.below hq
  replace hy := below_to hy hq
  clear hq
  go_wp2_with fail
  refine (spsolve_any [[1, 0], [0, 1]] [3, 1] 0 _ _ _ hA5 hB5).mono ?_
  rintro e W6 ⟨u6, rfl, t6, hq⟩
  replace t2 := t2.below hq
  replace t4 := t4.below hq
  replace hA5 := hA5.below hq
  replace hB5 := hB5.below hq
  replace hy := below_to hy hq
  clear hq
  have e6 : sSolve [[1, 0], [0, 1]] [3, 1] 0 = ([(3, 1), (1, 1)], 3, 0) := by decide +kernel
  rw [e6] at t6 ⊢
  clear e6
  clear hA5 hB5
  go_wp2_with fail
  have q7_0 := (((Own.new W6 3 [.int .i64 1, .int .i64 1]).alloc (.cells #[.int .i64 1, .int .i64 (-1)] 3)).alloc (.cells #[.slice (some ⟨W6.heap.size, 0, none⟩) 2 2, .slice (some ⟨W6.heap.size + 1, 0, none⟩) 2 2] 23)).alloc (.cells #[.int .i64 6, .int .i64 1] 3)
  have q7_1 := ((own_second W6 3 [.int .i64 1, .int .i64 (-1)] (.cells #[.int .i64 1, .int .i64 1] 3)).alloc (.cells #[.slice (some ⟨W6.heap.size, 0, none⟩) 2 2, .slice (some ⟨W6.heap.size + 1, 0, none⟩) 2 2] 23)).alloc (.cells #[.int .i64 6, .int .i64 1] 3)
  have q7_2 := (own_third W6 23 [.slice (some ⟨W6.heap.size, 0, none⟩) 2 2, .slice (some ⟨W6.heap.size + 1, 0, none⟩) 2 2] (.cells #[.int .i64 1, .int .i64 1] 3) (.cells #[.int .i64 1, .int .i64 (-1)] 3)).alloc (.cells #[.int .i64 6, .int .i64 1] 3)
  have q7_3 := own_4th W6 3 [.int .i64 6, .int .i64 1] (.cells #[.int .i64 1, .int .i64 1] 3) (.cells #[.int .i64 1, .int .i64 (-1)] 3) (.cells #[.slice (some ⟨W6.heap.size, 0, none⟩) 2 2, .slice (some ⟨W6.heap.size + 1, 0, none⟩) 2 2] 23)
  have hq := ba4 W6 (.cells #[.int .i64 1, .int .i64 1] 3) (.cells #[.int .i64 1, .int .i64 (-1)] 3) (.cells #[.slice (some ⟨W6.heap.size, 0, none⟩) 2 2, .slice (some ⟨W6.heap.size + 1, 0, none⟩) 2 2] 23) (.cells #[.int .i64 6, .int .i64 1] 3)
  replace t2 := t2.below hq
  replace t4 := t4.below hq
  replace t6 := t6.below hq
  replace hy := below_to hy hq
  clear hq
  generalize ((((W6.alloc (.cells #[.int .i64 1, .int .i64 1] 3)).alloc (.cells #[.int .i64 1, .int .i64 (-1)] 3)).alloc (.cells #[.slice (some ⟨W6.heap.size, 0, none⟩) 2 2, .slice (some ⟨W6.heap.size + 1, 0, none⟩) 2 2] 23)).alloc (.cells #[.int .i64 6, .int .i64 1] 3)) = W7 at *
  obtain ⟨B7, hB7⟩ : ∃ B, B = W6.heap.size := ⟨_, rfl⟩
  rw [← hB7] at q7_0 q7_1 q7_2 q7_3 ⊢
  clear hB7
  have s7_0 := si_of_own [1, 1] 2 rfl (by decide) q7_0
  have s7_1 := si_of_own [1, -1] 2 rfl (by decide) q7_1
  have s7_2 := ss_of_own [[1, 1], [1, -1]] [(.slice (some ⟨B7, 0, none⟩) 2 2), (.slice (some ⟨B7 + 1, 0, none⟩) 2 2)] 2 rfl rfl (by decide) q7_2 (fun i h h' => by
    match i, h with
    | 0, _ => exact s7_0
    | 1, _ => exact s7_1
    )
  have s7_3 := si_of_own [6, 1] 2 rfl (by decide) q7_3
  refine (spsolve_any [[1, 1], [1, -1]] [6, 1] 3 _ _ _ s7_2 s7_3).mono ?_
  rintro e W8 ⟨u8, rfl, t8, hq⟩
  replace t2 := t2.below hq
  replace t4 := t4.below hq
  replace t6 := t6.below hq
  replace s7_0 := s7_0.below hq
  replace s7_1 := s7_1.below hq
  replace s7_2 := s7_2.below hq
  replace s7_3 := s7_3.below hq
  replace hy := below_to hy hq
  clear hq
  have e8 : sSolve [[1, 1], [1, -1]] [6, 1] 3 = ([(2, 1), (1, 1)], 3, 0) := by decide +kernel
  rw [e8] at t8 ⊢
  clear e8
  clear s7_0 s7_1 s7_2 s7_3
  go_wp2_with fail
  have q9_0 := ((Own.new W8 3 [.int .i64 1, .int .i64 (-2)]).alloc (.cells #[.slice (some ⟨W8.heap.size, 0, none⟩) 2 2] 23)).alloc (.cells #[.int .i64 (-5)] 3)
  have q9_1 := (own_second W8 23 [.slice (some ⟨W8.heap.size, 0, none⟩) 2 2] (.cells #[.int .i64 1, .int .i64 (-2)] 3)).alloc (.cells #[.int .i64 (-5)] 3)
  have q9_2 := own_third W8 3 [.int .i64 (-5)] (.cells #[.int .i64 1, .int .i64 (-2)] 3) (.cells #[.slice (some ⟨W8.heap.size, 0, none⟩) 2 2] 23)
  have hq := ba3 W8 (.cells #[.int .i64 1, .int .i64 (-2)] 3) (.cells #[.slice (some ⟨W8.heap.size, 0, none⟩) 2 2] 23) (.cells #[.int .i64 (-5)] 3)
  replace t2 := t2.below hq
  replace t4 := t4.below hq
  replace t6 := t6.below hq
  replace t8 := t8.below hq
  replace hy := below_to hy hq
  clear hq
  generalize (((W8.alloc (.cells #[.int .i64 1, .int .i64 (-2)] 3)).alloc (.cells #[.slice (some ⟨W8.heap.size, 0, none⟩) 2 2] 23)).alloc (.cells #[.int .i64 (-5)] 3)) = W9 at *
  obtain ⟨B9, hB9⟩ : ∃ B, B = W8.heap.size := ⟨_, rfl⟩
  rw [← hB9] at q9_0 q9_1 q9_2 ⊢
  clear hB9
  have s9_0 := si_of_own [1, -2] 2 rfl (by decide) q9_0
  have s9_1 := ss_of_own [[1, -2]] [(.slice (some ⟨B9, 0, none⟩) 2 2)] 1 rfl rfl (by decide) q9_1 (fun i h h' => by
    match i, h with
    | 0, _ => exact s9_0
    )
  have s9_2 := si_of_own [-5] 1 rfl (by decide) q9_2
  refine (spdark_any [[1, -2]] [-5] _ _ _ s9_1 s9_2).mono ?_
  rintro e W10 ⟨rfl, hq⟩
  replace t2 := t2.below hq
  replace t4 := t4.below hq
  replace t6 := t6.below hq
  replace t8 := t8.below hq
  replace s9_0 := s9_0.below hq
  replace s9_1 := s9_1.below hq
  replace s9_2 := s9_2.below hq
  replace hy := below_to hy hq
  clear hq
  rw [show sDark [[1, -2]] [-5] = (10, 0) from by decide +kernel]
  clear s9_0 s9_1 s9_2
  go_wp2_with fail
  have q11_0 := ((Own.new W10 3 [.int .i64 1]).alloc (.cells #[.slice (some ⟨W10.heap.size, 0, none⟩) 1 1] 23)).alloc (.cells #[.int .i64 (-5)] 3)
  have q11_1 := (own_second W10 23 [.slice (some ⟨W10.heap.size, 0, none⟩) 1 1] (.cells #[.int .i64 1] 3)).alloc (.cells #[.int .i64 (-5)] 3)
  have q11_2 := own_third W10 3 [.int .i64 (-5)] (.cells #[.int .i64 1] 3) (.cells #[.slice (some ⟨W10.heap.size, 0, none⟩) 1 1] 23)
  have hq := ba3 W10 (.cells #[.int .i64 1] 3) (.cells #[.slice (some ⟨W10.heap.size, 0, none⟩) 1 1] 23) (.cells #[.int .i64 (-5)] 3)
  replace t2 := t2.below hq
  replace t4 := t4.below hq
  replace t6 := t6.below hq
  replace t8 := t8.below hq
  replace hy := below_to hy hq
  clear hq
  generalize (((W10.alloc (.cells #[.int .i64 1] 3)).alloc (.cells #[.slice (some ⟨W10.heap.size, 0, none⟩) 1 1] 23)).alloc (.cells #[.int .i64 (-5)] 3)) = W11 at *
  obtain ⟨B11, hB11⟩ : ∃ B, B = W10.heap.size := ⟨_, rfl⟩
  rw [← hB11] at q11_0 q11_1 q11_2 ⊢
  clear hB11
  have s11_0 := si_of_own [1] 1 rfl (by decide) q11_0
  have s11_1 := ss_of_own [[1]] [(.slice (some ⟨B11, 0, none⟩) 1 1)] 1 rfl rfl (by decide) q11_1 (fun i h h' => by
    match i, h with
    | 0, _ => exact s11_0
    )
  have s11_2 := si_of_own [-5] 1 rfl (by decide) q11_2
  refine (spdark_any [[1]] [-5] _ _ _ s11_1 s11_2).mono ?_
  rintro e W12 ⟨rfl, hq⟩
  replace t2 := t2.below hq
  replace t4 := t4.below hq
  replace t6 := t6.below hq
  replace t8 := t8.below hq
  replace s11_0 := s11_0.below hq
  replace s11_1 := s11_1.below hq
  replace s11_2 := s11_2.below hq
  replace hy := below_to hy hq
  clear hq
  rw [show sDark [[1]] [-5] = (0, 0) from by decide +kernel]
  clear s11_0 s11_1 s11_2
  go_wp2_with fail
  have q13_0 := ((((((Own.new W12 3 [.int .i64 5]).alloc (.cells #[.int .i64 5] 3)).alloc (.cells #[.int .i64 5] 3)).alloc (.cells #[.int .i64 5] 3)).alloc (.cells #[.int .i64 5] 3)).alloc (.cells #[.slice (some ⟨W12.heap.size, 0, none⟩) 1 1, .slice (some ⟨W12.heap.size + 1, 0, none⟩) 1 1, .slice (some ⟨W12.heap.size + 1 + 1, 0, none⟩) 1 1, .slice (some ⟨W12.heap.size + 1 + 1 + 1, 0, none⟩) 1 1, .slice (some ⟨W12.heap.size + 1 + 1 + 1 + 1, 0, none⟩) 1 1] 23)).alloc (.cells #[.int .i64 50, .int .i64 50, .int .i64 50, .int .i64 50, .int .i64 50] 3)
  have q13_1 := (((((own_second W12 3 [.int .i64 5] (.cells #[.int .i64 5] 3)).alloc (.cells #[.int .i64 5] 3)).alloc (.cells #[.int .i64 5] 3)).alloc (.cells #[.int .i64 5] 3)).alloc (.cells #[.slice (some ⟨W12.heap.size, 0, none⟩) 1 1, .slice (some ⟨W12.heap.size + 1, 0, none⟩) 1 1, .slice (some ⟨W12.heap.size + 1 + 1, 0, none⟩) 1 1, .slice (some ⟨W12.heap.size + 1 + 1 + 1, 0, none⟩) 1 1, .slice (some ⟨W12.heap.size + 1 + 1 + 1 + 1, 0, none⟩) 1 1] 23)).alloc (.cells #[.int .i64 50, .int .i64 50, .int .i64 50, .int .i64 50, .int .i64 50] 3)
  have q13_2 := ((((own_third W12 3 [.int .i64 5] (.cells #[.int .i64 5] 3) (.cells #[.int .i64 5] 3)).alloc (.cells #[.int .i64 5] 3)).alloc (.cells #[.int .i64 5] 3)).alloc (.cells #[.slice (some ⟨W12.heap.size, 0, none⟩) 1 1, .slice (some ⟨W12.heap.size + 1, 0, none⟩) 1 1, .slice (some ⟨W12.heap.size + 1 + 1, 0, none⟩) 1 1, .slice (some ⟨W12.heap.size + 1 + 1 + 1, 0, none⟩) 1 1, .slice (some ⟨W12.heap.size + 1 + 1 + 1 + 1, 0, none⟩) 1 1] 23)).alloc (.cells #[.int .i64 50, .int .i64 50, .int .i64 50, .int .i64 50, .int .i64 50] 3)
  have q13_3 := (((own_4th W12 3 [.int .i64 5] (.cells #[.int .i64 5] 3) (.cells #[.int .i64 5] 3) (.cells #[.int .i64 5] 3)).alloc (.cells #[.int .i64 5] 3)).alloc (.cells #[.slice (some ⟨W12.heap.size, 0, none⟩) 1 1, .slice (some ⟨W12.heap.size + 1, 0, none⟩) 1 1, .slice (some ⟨W12.heap.size + 1 + 1, 0, none⟩) 1 1, .slice (some ⟨W12.heap.size + 1 + 1 + 1, 0, none⟩) 1 1, .slice (some ⟨W12.heap.size + 1 + 1 + 1 + 1, 0, none⟩) 1 1] 23)).alloc (.cells #[.int .i64 50, .int .i64 50, .int .i64 50, .int .i64 50, .int .i64 50] 3)
  have q13_4 := ((own_fifth W12 3 [.int .i64 5] (.cells #[.int .i64 5] 3) (.cells #[.int .i64 5] 3) (.cells #[.int .i64 5] 3) (.cells #[.int .i64 5] 3)).alloc (.cells #[.slice (some ⟨W12.heap.size, 0, none⟩) 1 1, .slice (some ⟨W12.heap.size + 1, 0, none⟩) 1 1, .slice (some ⟨W12.heap.size + 1 + 1, 0, none⟩) 1 1, .slice (some ⟨W12.heap.size + 1 + 1 + 1, 0, none⟩) 1 1, .slice (some ⟨W12.heap.size + 1 + 1 + 1 + 1, 0, none⟩) 1 1] 23)).alloc (.cells #[.int .i64 50, .int .i64 50, .int .i64 50, .int .i64 50, .int .i64 50] 3)
  have q13_5 := (own_sixth W12 23 [.slice (some ⟨W12.heap.size, 0, none⟩) 1 1, .slice (some ⟨W12.heap.size + 1, 0, none⟩) 1 1, .slice (some ⟨W12.heap.size + 1 + 1, 0, none⟩) 1 1, .slice (some ⟨W12.heap.size + 1 + 1 + 1, 0, none⟩) 1 1, .slice (some ⟨W12.heap.size + 1 + 1 + 1 + 1, 0, none⟩) 1 1] (.cells #[.int .i64 5] 3) (.cells #[.int .i64 5] 3) (.cells #[.int .i64 5] 3) (.cells #[.int .i64 5] 3) (.cells #[.int .i64 5] 3)).alloc (.cells #[.int .i64 50, .int .i64 50, .int .i64 50, .int .i64 50, .int .i64 50] 3)
  have q13_6 := own_7th W12 3 [.int .i64 50, .int .i64 50, .int .i64 50, .int .i64 50, .int .i64 50] (.cells #[.int .i64 5] 3) (.cells #[.int .i64 5] 3) (.cells #[.int .i64 5] 3) (.cells #[.int .i64 5] 3) (.cells #[.int .i64 5] 3) (.cells #[.slice (some ⟨W12.heap.size, 0, none⟩) 1 1, .slice (some ⟨W12.heap.size + 1, 0, none⟩) 1 1, .slice (some ⟨W12.heap.size + 1 + 1, 0, none⟩) 1 1, .slice (some ⟨W12.heap.size + 1 + 1 + 1, 0, none⟩) 1 1, .slice (some ⟨W12.heap.size + 1 + 1 + 1 + 1, 0, none⟩) 1 1] 23)
  have hq := ba7 W12 (.cells #[.int .i64 5] 3) (.cells #[.int .i64 5] 3) (.cells #[.int .i64 5] 3) (.cells #[.int .i64 5] 3) (.cells #[.int .i64 5] 3) (.cells #[.slice (some ⟨W12.heap.size, 0, none⟩) 1 1, .slice (some ⟨W12.heap.size + 1, 0, none⟩) 1 1, .slice (some ⟨W12.heap.size + 1 + 1, 0, none⟩) 1 1, .slice (some ⟨W12.heap.size + 1 + 1 + 1, 0, none⟩) 1 1, .slice (some ⟨W12.heap.size + 1 + 1 + 1 + 1, 0, none⟩) 1 1] 23) (.cells #[.int .i64 50, .int .i64 50, .int .i64 50, .int .i64 50, .int .i64 50] 3)
  replace t2 := t2.below hq
  replace t4 := t4.below hq
  replace t6 := t6.below hq
  replace t8 := t8.below hq
  replace hy := below_to hy hq
  clear hq
  generalize (((((((W12.alloc (.cells #[.int .i64 5] 3)).alloc (.cells #[.int .i64 5] 3)).alloc (.cells #[.int .i64 5] 3)).alloc (.cells #[.int .i64 5] 3)).alloc (.cells #[.int .i64 5] 3)).alloc (.cells #[.slice (some ⟨W12.heap.size, 0, none⟩) 1 1, .slice (some ⟨W12.heap.size + 1, 0, none⟩) 1 1, .slice (some ⟨W12.heap.size + 1 + 1, 0, none⟩) 1 1, .slice (some ⟨W12.heap.size + 1 + 1 + 1, 0, none⟩) 1 1, .slice (some ⟨W12.heap.size + 1 + 1 + 1 + 1, 0, none⟩) 1 1] 23)).alloc (.cells #[.int .i64 50, .int .i64 50, .int .i64 50, .int .i64 50, .int .i64 50] 3)) = W13 at *
  obtain ⟨B13, hB13⟩ : ∃ B, B = W12.heap.size := ⟨_, rfl⟩
  rw [← hB13] at q13_0 q13_1 q13_2 q13_3 q13_4 q13_5 q13_6 ⊢
  clear hB13
  have s13_0 := si_of_own [5] 1 rfl (by decide) q13_0
  have s13_1 := si_of_own [5] 1 rfl (by decide) q13_1
  have s13_2 := si_of_own [5] 1 rfl (by decide) q13_2
  have s13_3 := si_of_own [5] 1 rfl (by decide) q13_3
  have s13_4 := si_of_own [5] 1 rfl (by decide) q13_4
  have s13_5 := ss_of_own [[5], [5], [5], [5], [5]] [(.slice (some ⟨B13, 0, none⟩) 1 1), (.slice (some ⟨B13 + 1, 0, none⟩) 1 1), (.slice (some ⟨B13 + 1 + 1, 0, none⟩) 1 1), (.slice (some ⟨B13 + 1 + 1 + 1, 0, none⟩) 1 1), (.slice (some ⟨B13 + 1 + 1 + 1 + 1, 0, none⟩) 1 1)] 5 rfl rfl (by decide) q13_5 (fun i h h' => by
    match i, h with
    | 0, _ => exact s13_0
    | 1, _ => exact s13_1
    | 2, _ => exact s13_2
    | 3, _ => exact s13_3
    | 4, _ => exact s13_4
    )
  have s13_6 := si_of_own [50, 50, 50, 50, 50] 5 rfl (by decide) q13_6
  refine (spdark_any [[5], [5], [5], [5], [5]] [50, 50, 50, 50, 50] _ _ _ s13_5 s13_6).mono ?_
  rintro e W14 ⟨rfl, hq⟩
  replace t2 := t2.below hq
  replace t4 := t4.below hq
  replace t6 := t6.below hq
  replace t8 := t8.below hq
  replace s13_0 := s13_0.below hq
  replace s13_1 := s13_1.below hq
  replace s13_2 := s13_2.below hq
  replace s13_3 := s13_3.below hq
  replace s13_4 := s13_4.below hq
  replace s13_5 := s13_5.below hq
  replace s13_6 := s13_6.below hq
  replace hy := below_to hy hq
  clear hq
  rw [show sDark [[5], [5], [5], [5], [5]] [50, 50, 50, 50, 50] = (1250, 0) from by decide +kernel]
  clear s13_0 s13_1 s13_2 s13_3 s13_4 s13_5 s13_6
  go_wp2_with fail
  have q15_0 := Own.new W14 39 [.int .i64 1, .int .i64 2, .int .i64 (-1), .int .i64 3]
  have hq := ba1 W14 (.cells #[.int .i64 1, .int .i64 2, .int .i64 (-1), .int .i64 3] 39)
  replace t2 := t2.below hq
  replace t4 := t4.below hq
  replace t6 := t6.below hq
  replace t8 := t8.below hq
  replace hy := below_to hy hq
  clear hq
  generalize (W14.alloc (.cells #[.int .i64 1, .int .i64 2, .int .i64 (-1), .int .i64 3] 39)) = W15 at *
  obtain ⟨B15, hB15⟩ : ∃ B, B = W14.heap.size := ⟨_, rfl⟩
  rw [← hB15] at q15_0 ⊢
  clear hB15
  have s15_0 := sf_of_own [(1, 2), (-1, 3)] 2 rfl (by decide) q15_0
  refine (sbright_any [(1, 2), (-1, 3)] _ _ s15_0 (fi_of _ (by decide))).mono ?_
  rintro e W16 ⟨rfl, hq⟩
  replace t2 := t2.below hq
  replace t4 := t4.below hq
  replace t6 := t6.below hq
  replace t8 := t8.below hq
  replace s15_0 := s15_0.below hq
  replace hy := below_to hy hq
  clear hq
  rw [show sBright [(1, 2), (-1, 3)] = ⟨1, 6, 0⟩ from fr_is (by decide +kernel)]
  clear s15_0
  go_wp2_with fail
  have q17_0 := Own.new W16 39 [.int .i64 1, .int .i64 6]
  have hq := ba1 W16 (.cells #[.int .i64 1, .int .i64 6] 39)
  replace t2 := t2.below hq
  replace t4 := t4.below hq
  replace t6 := t6.below hq
  replace t8 := t8.below hq
  replace hy := below_to hy hq
  clear hq
  generalize (W16.alloc (.cells #[.int .i64 1, .int .i64 6] 39)) = W17 at *
  obtain ⟨B17, hB17⟩ : ∃ B, B = W16.heap.size := ⟨_, rfl⟩
  rw [← hB17] at q17_0 ⊢
  clear hB17
  have o17_0 := q17_0
  refine (sbright_any [] _ _ (sf_nil _) (fi_of _ (by decide))).mono ?_
  rintro e W18 ⟨rfl, hq⟩
  replace t2 := t2.below hq
  replace t4 := t4.below hq
  replace t6 := t6.below hq
  replace t8 := t8.below hq
  replace o17_0 := o17_0.below hq
  replace hy := below_to hy hq
  clear hq
  rw [show sBright [] = ⟨0, 1, 0⟩ from fr_is (by decide +kernel)]
  obtain ⟨r17_0, f17_0⟩ := o17_0.rules
  have z17_0 := o17_0.lt
  as_aux_lemma =>
    go_upto_region 10 with fail
    clear r17_0 f17_0 z17_0
    have q19_0 := Own.new W18 39 [.int .i64 0, .int .i64 1]
    have hq := ba1 W18 (.cells #[.int .i64 0, .int .i64 1] 39)
    replace t2 := t2.below hq
    replace t4 := t4.below hq
    replace t6 := t6.below hq
    replace t8 := t8.below hq
    replace o17_0 := o17_0.below hq
    replace hy := below_to hy hq
    clear hq
    generalize (W18.alloc (.cells #[.int .i64 0, .int .i64 1] 39)) = W19 at *
    obtain ⟨B19, hB19⟩ : ∃ B, B = W18.heap.size := ⟨_, rfl⟩
    rw [← hB19] at q19_0 ⊢
    clear hB19
    have o19_0 := q19_0
    obtain ⟨r17_0, f17_0⟩ := o17_0.rules
    have z17_0 := o17_0.lt
    obtain ⟨r19_0, f19_0⟩ := o19_0.rules
    have z19_0 := o19_0.lt
    have gl := @grow_lt
    refine wp_region_st6 [.t [0, 1, 2, 3, 4, 5, 6, 7], .f 8, .f 9, .f 10, .t [11, 12, 13, 14, 15, 16, 17, 18, 19, 20, 21], .f 22, .f 23, .f 24, .t [25, 26, 27, 28, 29, 30, 31, 32, 33, 34, 35], .f 36, .f 37, .f 38, .t [39, 40, 41, 42, 43, 44, 45, 46, 47, 48, 49], .f 50, .f 51, .f 52, .t [53, 54, 55, 56, 57, 58, 59, 60, 61, 62, 63, 64, 65, 66, 67, 68, 69, 70, 71, 72, 73, 74, 75, 76, 77, 78, 79, 80, 81, 82, 83, 84, 85, 86, 87, 88, 89, 90, 91, 92], .f 93, .t [94, 95]] [.t [0, 1, 2, 3, 4, 5, 6, 7], .f 8, .f 9, .f 10, .t [11, 12, 13, 14, 15, 16, 17, 18, 19, 20, 21], .f 22, .f 23] [.f 24, .t [25, 26, 27, 28, 29, 30, 31, 32, 33, 34, 35], .f 36, .f 37, .f 38, .t [39, 40, 41, 42, 43, 44, 45, 46, 47, 48, 49]] [.f 50, .f 51, .f 52, .t [53, 54, 55, 56, 57, 58, 59, 60, 61, 62, 63, 64, 65, 66, 67, 68, 69, 70, 71, 72, 73, 74, 75, 76, 77, 78, 79, 80, 81, 82, 83, 84, 85, 86, 87, 88, 89, 90, 91, 92]] [.f 93, .t [94, 95]] #[true, true, true, true, true, true, true, true, true, true, true, true, true, true, true, true, true, true, true, true, true, true, true, true, false, false, false, false, false, false, false, false, false, false, false, false, false, false, false, false, false, false, false, false, false, false, false, false, false, false, false, false, false, false, false, false, false, false, false, false, false, false, false, false, false, false, false, false, false, false, false, false, false, false, false, false, false, false, false, false, false, false, false, false, false, false, false, false, false, false, false, false, false, false, false, false, false] #[true, true, true, true, true, true, true, true, true, true, true, true, true, true, true, true, true, true, true, true, true, true, true, true, true, true, true, true, true, true, true, true, true, true, true, true, true, true, true, true, true, true, true, true, true, true, true, true, true, true, false, false, false, false, false, false, false, false, false, false, false, false, false, false, false, false, false, false, false, false, false, false, false, false, false, false, false, false, false, false, false, false, false, false, false, false, false, false, false, false, false, false, false, false, false, false, false] #[true, true, true, true, true, true, true, true, true, true, true, true, true, true, true, true, true, true, true, true, true, true, true, true, true, true, true, true, true, true, true, true, true, true, true, true, true, true, true, true, true, true, true, true, true, true, true, true, true, true, true, true, true, true, true, true, true, true, true, true, true, true, true, true, true, true, true, true, true, true, true, true, true, true, true, true, true, true, true, true, true, true, true, true, true, true, true, true, true, true, true, true, true, false, false, false, false] #[true, true, true, true, true, true, true, true, true, true, true, true, true, true, true, true, true, true, true, true, true, true, true, true, true, true, true, true, true, true, true, true, true, true, true, true, true, true, true, true, true, true, true, true, true, true, true, true, true, true, true, true, true, true, true, true, true, true, true, true, true, true, true, true, true, true, true, true, true, true, true, true, true, true, true, true, true, true, true, true, true, true, true, true, true, true, true, true, true, true, true, true, true, true, true, true, false] [96] rfl (by kernel_rfl) (by as_aux_lemma => kernel_rfl) (by as_aux_lemma => kernel_rfl) (by as_aux_lemma => kernel_rfl) (by as_aux_lemma => kernel_rfl) (by as_aux_lemma => kernel_rfl) (by as_aux_lemma => kernel_rfl) (by as_aux_lemma => kernel_rfl) (by as_aux_lemma => kernel_rfl) (by as_aux_lemma => kernel_rfl) (by as_aux_lemma => kernel_rfl) (fun _ _ _ _ _ h => h) ?_
    have hR : Below W19.heap.size W19 W19.drew := (Below.refl _ _).drew
    replace t2 := t2.below hR
    replace t4 := t4.below hR
    replace t6 := t6.below hR
    replace t8 := t8.below hR
    generalize W19.drew = W20 at *
    refine wpX_t ?_
    try simp only [List.append, opsAt, List.getElem?_toArray, List.getElem?_cons_zero, List.getElem?_cons_succ, Option.getD_some]
    repeat (go_big_quiet_step (fail))
    refine wpQuiet_nil ?_
    refine wpX_f rfl rfl (fun K' hK' => ?_)
    go_simp
    have q21 := Own.new (W20) 2 [.int .i64 0, .int .i64 0]
    have hq := ba1 (W20) (.cells #[.int .i64 0, .int .i64 0] 2)
    obtain ⟨B21, hB21⟩ : ∃ B, B = (W20).heap.size := ⟨_, rfl⟩
    rw [← hB21] at q21 ⊢
    clear hB21
    replace t2 := t2.below hq
    replace t4 := t4.below hq
    replace t6 := t6.below hq
    replace t8 := t8.below hq
    replace hR := below_to hR hq
    clear hq
    refine hK' _ _ (grow_of hR) ?_
    clear hK' K'
    generalize (W20).alloc (.cells #[.int .i64 0, .int .i64 0] 2) = W21 at *
    have s21_0 := si_of_own [0, 0] 2 rfl (by decide) q21
    refine wpX_f rfl rfl (fun K' hK' => ?_)
    go_simp
    refine (ints38_any [0, 0] _ _ s21_0 (by decide)).mono ?_
    rintro e W22 ⟨u22, rfl, t22, hq⟩
    replace t2 := t2.below hq
    replace t4 := t4.below hq
    replace t6 := t6.below hq
    replace t8 := t8.below hq
    replace s21_0 := s21_0.below hq
    replace hR := below_to hR hq
    clear hq
    refine hK' _ _ (grow_of hR) ?_
    clear hK' K'
    simp only [List.map] at t22
    clear s21_0
    refine wpX_f rfl rfl (fun K' hK' => ?_)
    go_simp
    refine (rsame_true [(0, 1), (0, 1)] _ _ _ t2 t22).mono ?_
    rintro e W23 ⟨rfl, hq⟩
    replace t2 := t2.below hq
    replace t4 := t4.below hq
    replace t6 := t6.below hq
    replace t8 := t8.below hq
    replace t22 := t22.below hq
    replace hR := below_to hR hq
    clear hq
    refine hK' _ _ (grow_of hR) ?_
    clear hK' K'
    clear t2 t22
    refine wpX_t ?_
    try simp only [opsAt, List.getElem?_toArray, List.getElem?_cons_zero, List.getElem?_cons_succ, Option.getD_some]
    repeat (go_big_quiet_step (fail))
    refine wpQuiet_nil ?_
    refine wpX_f rfl rfl (fun K' hK' => ?_)
    go_simp
    have q24 := Own.new (W23) 2 [.int .i64 0, .int .i64 0]
    have hq := ba1 (W23) (.cells #[.int .i64 0, .int .i64 0] 2)
    obtain ⟨B24, hB24⟩ : ∃ B, B = (W23).heap.size := ⟨_, rfl⟩
    rw [← hB24] at q24 ⊢
    clear hB24
    replace t4 := t4.below hq
    replace t6 := t6.below hq
    replace t8 := t8.below hq
    replace hR := below_to hR hq
    clear hq
    refine hK' _ _ (grow_of hR) ?_
    clear hK' K'
    generalize (W23).alloc (.cells #[.int .i64 0, .int .i64 0] 2) = W24 at *
    have s24_0 := si_of_own [0, 0] 2 rfl (by decide) q24
    refine wpX_f rfl rfl (fun K' hK' => ?_)
    go_simp
    refine (ints38_any [0, 0] _ _ s24_0 (by decide)).mono ?_
    rintro e W25 ⟨u25, rfl, t25, hq⟩
    replace t4 := t4.below hq
    replace t6 := t6.below hq
    replace t8 := t8.below hq
    replace s24_0 := s24_0.below hq
    replace hR := below_to hR hq
    clear hq
    refine hK' _ _ (grow_of hR) ?_
    clear hK' K'
    simp only [List.map] at t25
    clear s24_0
    refine wpX_f rfl rfl (fun K' hK' => ?_)
    go_simp
    refine (rsame_true [(0, 1), (0, 1)] _ _ _ t4 t25).mono ?_
    rintro e W26 ⟨rfl, hq⟩
    replace t4 := t4.below hq
    replace t6 := t6.below hq
    replace t8 := t8.below hq
    replace t25 := t25.below hq
    replace hR := below_to hR hq
    clear hq
    refine hK' _ _ (grow_of hR) ?_
    clear hK' K'
    clear t4 t25
    as_aux_lemma =>
      refine wpX_t ?_
      try simp only [opsAt, List.getElem?_toArray, List.getElem?_cons_zero, List.getElem?_cons_succ, Option.getD_some]
      repeat (go_big_quiet_step (fail))
      refine wpQuiet_nil ?_
      refine wpX_f rfl rfl (fun K' hK' => ?_)
      go_simp
      have q27 := Own.new (W26) 2 [.int .i64 3, .int .i64 1]
      have hq := ba1 (W26) (.cells #[.int .i64 3, .int .i64 1] 2)
      obtain ⟨B27, hB27⟩ : ∃ B, B = (W26).heap.size := ⟨_, rfl⟩
      rw [← hB27] at q27 ⊢
      clear hB27
      replace t6 := t6.below hq
      replace t8 := t8.below hq
      replace hR := below_to hR hq
      clear hq
      refine hK' _ _ (grow_of hR) ?_
      clear hK' K'
      generalize (W26).alloc (.cells #[.int .i64 3, .int .i64 1] 2) = W27 at *
      have s27_0 := si_of_own [3, 1] 2 rfl (by decide) q27
      refine wpX_f rfl rfl (fun K' hK' => ?_)
      go_simp
      refine (ints38_any [3, 1] _ _ s27_0 (by decide)).mono ?_
      rintro e W28 ⟨u28, rfl, t28, hq⟩
      replace t6 := t6.below hq
      replace t8 := t8.below hq
      replace s27_0 := s27_0.below hq
      replace hR := below_to hR hq
      clear hq
      refine hK' _ _ (grow_of hR) ?_
      clear hK' K'
      simp only [List.map] at t28
      clear s27_0
      refine wpX_f rfl rfl (fun K' hK' => ?_)
      go_simp
      refine (rsame_true [(3, 1), (1, 1)] _ _ _ t6 t28).mono ?_
      rintro e W29 ⟨rfl, hq⟩
      replace t6 := t6.below hq
      replace t8 := t8.below hq
      replace t28 := t28.below hq
      replace hR := below_to hR hq
      clear hq
      refine hK' _ _ (grow_of hR) ?_
      clear hK' K'
      clear t6 t28
      refine wpX_t ?_
      try simp only [opsAt, List.getElem?_toArray, List.getElem?_cons_zero, List.getElem?_cons_succ, Option.getD_some]
      repeat (go_big_quiet_step (fail))
      refine wpQuiet_nil ?_
      refine wpX_f rfl rfl (fun K' hK' => ?_)
      go_simp
      have q30 := Own.new (W29) 2 [.int .i64 2, .int .i64 1]
      have hq := ba1 (W29) (.cells #[.int .i64 2, .int .i64 1] 2)
      obtain ⟨B30, hB30⟩ : ∃ B, B = (W29).heap.size := ⟨_, rfl⟩
      rw [← hB30] at q30 ⊢
      clear hB30
      replace t8 := t8.below hq
      replace hR := below_to hR hq
      clear hq
      refine hK' _ _ (grow_of hR) ?_
      clear hK' K'
      generalize (W29).alloc (.cells #[.int .i64 2, .int .i64 1] 2) = W30 at *
      have s30_0 := si_of_own [2, 1] 2 rfl (by decide) q30
      refine wpX_f rfl rfl (fun K' hK' => ?_)
      go_simp
      refine (ints38_any [2, 1] _ _ s30_0 (by decide)).mono ?_
      rintro e W31 ⟨u31, rfl, t31, hq⟩
      replace t8 := t8.below hq
      replace s30_0 := s30_0.below hq
      replace hR := below_to hR hq
      clear hq
      refine hK' _ _ (grow_of hR) ?_
      clear hK' K'
      simp only [List.map] at t31
      clear s30_0
      refine wpX_f rfl rfl (fun K' hK' => ?_)
      go_simp
      refine (rsame_true [(2, 1), (1, 1)] _ _ _ t8 t31).mono ?_
      rintro e W32 ⟨rfl, hq⟩
      replace t8 := t8.below hq
      replace t31 := t31.below hq
      replace hR := below_to hR hq
      clear hq
      refine hK' _ _ (grow_of hR) ?_
      clear hK' K'
      clear t8 t31
      refine wpX_t ?_
      try simp only [opsAt, List.getElem?_toArray, List.getElem?_cons_zero, List.getElem?_cons_succ, Option.getD_some]
      repeat (go_big_quiet_step (fail))
      refine wpQuiet_nil ?_
      refine wpX_f rfl rfl (fun K' hK' => ?_)
      go_simp
      refine (rof_any 0 _).mono ?_
      rintro e W33 ⟨rfl, hq⟩
      replace hR := below_to hR hq
      clear hq
      refine hK' _ _ (grow_of hR) ?_
      clear hK' K'
      clear o17_0
      refine wpX_t ?_
      try simp only [opsAt, List.getElem?_toArray, List.getElem?_cons_zero, List.getElem?_cons_succ, Option.getD_some]
      repeat (go_big_quiet_step (fail))
      refine wpQuiet_nil ?_
      refine wpX_nil ?_
      try simp only [List.append, opsAt, List.getElem?_toArray, List.getElem?_cons_zero, List.getElem?_cons_succ, Option.getD_some]
      clear gl
      clear r17_0 f17_0 z17_0 r19_0 f19_0 z19_0
      replace o19_0 := o19_0.below hR
      replace hy := below_to hy hR
      clear hR
      obtain ⟨r19_0, f19_0⟩ := o19_0.rules
      have z19_0 := o19_0.lt
      as_aux_lemma =>
        go_wp2_with fail
        clear r19_0 f19_0 z19_0
        have q34_0 := Own.new W33 2 [.int .i64 1, .int .i64 2, .int .i64 3, .int .i64 4]
        have hq := ba1 W33 (.cells #[.int .i64 1, .int .i64 2, .int .i64 3, .int .i64 4] 2)
        replace o19_0 := o19_0.below hq
        replace hy := below_to hy hq
        clear hq
        generalize (W33.alloc (.cells #[.int .i64 1, .int .i64 2, .int .i64 3, .int .i64 4] 2)) = W34 at *
        obtain ⟨B34, hB34⟩ : ∃ B, B = W33.heap.size := ⟨_, rfl⟩
        rw [← hB34] at q34_0 ⊢
        clear hB34
        have s34_0 := si_of_own [1, 2, 3, 4] 4 rfl (by decide) q34_0
        refine (ints38_any [1, 2, 3, 4] _ _ s34_0 (by decide)).mono ?_
        rintro e W35 ⟨u35, rfl, t35, hq⟩
        replace o19_0 := o19_0.below hq
        replace s34_0 := s34_0.below hq
        replace hy := below_to hy hq
        clear hq
        simp only [List.map] at t35
        clear o19_0 s34_0
        go_wp2_with fail
        refine (sbright_any [(1, 1), (2, 1), (3, 1), (4, 1)] _ _ t35 (fi_of _ (by decide))).mono ?_
        rintro e W36 ⟨rfl, hq⟩
        replace t35 := t35.below hq
        replace hy := below_to hy hq
        clear hq
        rw [show sBright [(1, 1), (2, 1), (3, 1), (4, 1)] = ⟨0, 0, 4⟩ from fr_is (by decide +kernel)]
        clear t35
        go_wp2_with fail
        have q37_0 := (Own.new W36 39 [.int .i64 0, .int .i64 0]).alloc (.cells #[.int .i64 0, .int .i64 0] 39)
        have q37_1 := own_second W36 39 [.int .i64 0, .int .i64 0] (.cells #[.int .i64 0, .int .i64 0] 39)
        have hq := ba2 W36 (.cells #[.int .i64 0, .int .i64 0] 39) (.cells #[.int .i64 0, .int .i64 0] 39)
        replace hy := below_to hy hq
        clear hq
        generalize ((W36.alloc (.cells #[.int .i64 0, .int .i64 0] 39)).alloc (.cells #[.int .i64 0, .int .i64 0] 39)) = W37 at *
        obtain ⟨B37, hB37⟩ : ∃ B, B = W36.heap.size := ⟨_, rfl⟩
        rw [← hB37] at q37_0 q37_1 ⊢
        clear hB37
        have o37_0 := q37_0
        have s37_1 := sf_of_own [(0, 0)] 1 rfl (by decide) q37_1
        refine (sbright_any [(0, 0)] _ _ s37_1 (fi_of _ (by decide))).mono ?_
        rintro e W38 ⟨rfl, hq⟩
        replace o37_0 := o37_0.below hq
        replace s37_1 := s37_1.below hq
        replace hy := below_to hy hq
        clear hq
        rw [show sBright [(0, 0)] = ⟨0, 0, 8⟩ from fr_is (by decide +kernel)]
        clear o37_0 s37_1
        go_wp2_with fail
        have q39_0 := (Own.new W38 39 [.int .i64 0, .int .i64 0]).alloc (.cells #[.int .i64 1000000000000000000, .int .i64 1] 2)
        have q39_1 := own_second W38 2 [.int .i64 1000000000000000000, .int .i64 1] (.cells #[.int .i64 0, .int .i64 0] 39)
        have hq := ba2 W38 (.cells #[.int .i64 0, .int .i64 0] 39) (.cells #[.int .i64 1000000000000000000, .int .i64 1] 2)
        replace hy := below_to hy hq
        clear hq
        generalize ((W38.alloc (.cells #[.int .i64 0, .int .i64 0] 39)).alloc (.cells #[.int .i64 1000000000000000000, .int .i64 1] 2)) = W39 at *
        obtain ⟨B39, hB39⟩ : ∃ B, B = W38.heap.size := ⟨_, rfl⟩
        rw [← hB39] at q39_0 q39_1 ⊢
        clear hB39
        have o39_0 := q39_0
        have s39_1 := si_of_own [1000000000000000000, 1] 2 rfl (by decide) q39_1
        refine (ints38_any [1000000000000000000, 1] _ _ s39_1 (by decide)).mono ?_
        rintro e W40 ⟨u40, rfl, t40, hq⟩
        replace o39_0 := o39_0.below hq
        replace s39_1 := s39_1.below hq
        replace hy := below_to hy hq
        clear hq
        simp only [List.map] at t40
        clear o39_0 s39_1
        go_wp2_with fail
        refine (sbright_any [(1000000000000000000, 1), (1, 1)] _ _ t40 (fi_of _ (by decide))).mono ?_
        rintro e W41 ⟨rfl, hq⟩
        replace t40 := t40.below hq
        replace hy := below_to hy hq
        clear hq
        rw [show sBright [(1000000000000000000, 1), (1, 1)] = ⟨0, 0, 16⟩ from fr_is (by decide +kernel)]
        clear t40
        go_wp2_with fail
        have q42_0 := Own.new W41 39 [.int .i64 0, .int .i64 0]
        have hq := ba1 W41 (.cells #[.int .i64 0, .int .i64 0] 39)
        replace hy := below_to hy hq
        clear hq
        generalize (W41.alloc (.cells #[.int .i64 0, .int .i64 0] 39)) = W42 at *
        obtain ⟨B42, hB42⟩ : ∃ B, B = W41.heap.size := ⟨_, rfl⟩
        rw [← hB42] at q42_0 ⊢
        clear hB42
        have o42_0 := q42_0
        refine (given38_any _).mono ?_
        rintro e W43 ⟨va43, vb43, rfl, hA43, hB43, hq⟩
        replace o42_0 := o42_0.below hq
        replace hy := below_to hy hq
        clear hq
        clear o42_0
        go_wp2_with fail
        have q44_0 := Own.new W43 2 [.int .i64 1, .int .i64 0]
        have hq := ba1 W43 (.cells #[.int .i64 1, .int .i64 0] 2)
        replace hA43 := hA43.below hq
        replace hB43 := hB43.below hq
        replace hy := below_to hy hq
        clear hq
        generalize (W43.alloc (.cells #[.int .i64 1, .int .i64 0] 2)) = W44 at *
        obtain ⟨B44, hB44⟩ : ∃ B, B = W43.heap.size := ⟨_, rfl⟩
        rw [← hB44] at q44_0 ⊢
        clear hB44
        have s44_0 := si_of_own [1, 0] 2 rfl (by decide) q44_0
        refine (ints38_any [1, 0] _ _ s44_0 (by decide)).mono ?_
        rintro e W45 ⟨u45, rfl, t45, hq⟩
        replace hA43 := hA43.below hq
        replace hB43 := hB43.below hq
        replace s44_0 := s44_0.below hq
        replace hy := below_to hy hq
        clear hq
        simp only [List.map] at t45
        clear s44_0
        go_wp2_with fail
        refine (scost_any [[1, 0], [0, 1]] [3, 1] (-1) [(1, 1), (0, 1)] _ _ _ _ hA43 hB43 t45 (fi_of _ (by decide))).mono ?_
        rintro e W46 ⟨rfl, hq⟩
        replace hA43 := hA43.below hq
        replace hB43 := hB43.below hq
        replace t45 := t45.below hq
        replace hy := below_to hy hq
        clear hq
        rw [show sCost [[1, 0], [0, 1]] [3, 1] (-1) [(1, 1), (0, 1)] = ⟨0, 0, 2⟩ from fr_is (by decide +kernel)]
        clear hA43 hB43 t45
        go_wp2_with fail
        have q47_0 := Own.new W46 39 [.int .i64 0, .int .i64 0]
        have hq := ba1 W46 (.cells #[.int .i64 0, .int .i64 0] 39)
        replace hy := below_to hy hq
        clear hq
        generalize (W46.alloc (.cells #[.int .i64 0, .int .i64 0] 39)) = W47 at *
        obtain ⟨B47, hB47⟩ : ∃ B, B = W46.heap.size := ⟨_, rfl⟩
        rw [← hB47] at q47_0 ⊢
        clear hB47
        have o47_0 := q47_0
        refine (given38_any _).mono ?_
        rintro e W48 ⟨va48, vb48, rfl, hA48, hB48, hq⟩
        replace o47_0 := o47_0.below hq
        replace hy := below_to hy hq
        clear hq
        clear o47_0
        go_wp2_with fail
        have q49_0 := Own.new W48 2 [.int .i64 1]
        have hq := ba1 W48 (.cells #[.int .i64 1] 2)
        replace hA48 := hA48.below hq
        replace hB48 := hB48.below hq
        replace hy := below_to hy hq
        clear hq
        generalize (W48.alloc (.cells #[.int .i64 1] 2)) = W49 at *
        obtain ⟨B49, hB49⟩ : ∃ B, B = W48.heap.size := ⟨_, rfl⟩
        rw [← hB49] at q49_0 ⊢
        clear hB49
        have s49_0 := si_of_own [1] 1 rfl (by decide) q49_0
        refine (ints38_any [1] _ _ s49_0 (by decide)).mono ?_
        rintro e W50 ⟨u50, rfl, t50, hq⟩
        replace hA48 := hA48.below hq
        replace hB48 := hB48.below hq
        replace s49_0 := s49_0.below hq
        replace hy := below_to hy hq
        clear hq
        simp only [List.map] at t50
        clear s49_0
        go_wp2_with fail
        refine (scost_any [[1, 0], [0, 1]] [3, 1] 2 [(1, 1)] _ _ _ _ hA48 hB48 t50 (fi_of _ (by decide))).mono ?_
        rintro e W51 ⟨rfl, hq⟩
        replace hA48 := hA48.below hq
        replace hB48 := hB48.below hq
        replace t50 := t50.below hq
        replace hy := below_to hy hq
        clear hq
        rw [show sCost [[1, 0], [0, 1]] [3, 1] 2 [(1, 1)] = ⟨0, 0, 2⟩ from fr_is (by decide +kernel)]
        clear hA48 hB48 t50
        go_wp2_with fail
        have q52_0 := ((((Own.new W51 39 [.int .i64 0, .int .i64 0]).alloc (.cells #[.int .i64 0] 3)).alloc (.cells #[.slice (some ⟨W51.heap.size + 1, 0, none⟩) 1 1] 23)).alloc (.cells #[.int .i64 0] 3)).alloc (.cells #[.int .i64 1000000000000000] 2)
        have q52_1 := (((own_second W51 3 [.int .i64 0] (.cells #[.int .i64 0, .int .i64 0] 39)).alloc (.cells #[.slice (some ⟨W51.heap.size + 1, 0, none⟩) 1 1] 23)).alloc (.cells #[.int .i64 0] 3)).alloc (.cells #[.int .i64 1000000000000000] 2)
        have q52_2 := ((own_third W51 23 [.slice (some ⟨W51.heap.size + 1, 0, none⟩) 1 1] (.cells #[.int .i64 0, .int .i64 0] 39) (.cells #[.int .i64 0] 3)).alloc (.cells #[.int .i64 0] 3)).alloc (.cells #[.int .i64 1000000000000000] 2)
        have q52_3 := (own_4th W51 3 [.int .i64 0] (.cells #[.int .i64 0, .int .i64 0] 39) (.cells #[.int .i64 0] 3) (.cells #[.slice (some ⟨W51.heap.size + 1, 0, none⟩) 1 1] 23)).alloc (.cells #[.int .i64 1000000000000000] 2)
        have q52_4 := own_fifth W51 2 [.int .i64 1000000000000000] (.cells #[.int .i64 0, .int .i64 0] 39) (.cells #[.int .i64 0] 3) (.cells #[.slice (some ⟨W51.heap.size + 1, 0, none⟩) 1 1] 23) (.cells #[.int .i64 0] 3)
        have hq := ba5 W51 (.cells #[.int .i64 0, .int .i64 0] 39) (.cells #[.int .i64 0] 3) (.cells #[.slice (some ⟨W51.heap.size + 1, 0, none⟩) 1 1] 23) (.cells #[.int .i64 0] 3) (.cells #[.int .i64 1000000000000000] 2)
        replace hy := below_to hy hq
        clear hq
        generalize (((((W51.alloc (.cells #[.int .i64 0, .int .i64 0] 39)).alloc (.cells #[.int .i64 0] 3)).alloc (.cells #[.slice (some ⟨W51.heap.size + 1, 0, none⟩) 1 1] 23)).alloc (.cells #[.int .i64 0] 3)).alloc (.cells #[.int .i64 1000000000000000] 2)) = W52 at *
        obtain ⟨B52, hB52⟩ : ∃ B, B = W51.heap.size := ⟨_, rfl⟩
        rw [← hB52] at q52_0 q52_1 q52_2 q52_3 q52_4 ⊢
        clear hB52
        have o52_0 := q52_0
        have s52_1 := si_of_own [0] 1 rfl (by decide) q52_1
        have s52_2 := ss_of_own [[0]] [(.slice (some ⟨B52 + 1, 0, none⟩) 1 1)] 1 rfl rfl (by decide) q52_2 (fun i h h' => by
          match i, h with
          | 0, _ => exact s52_1
          )
        have s52_3 := si_of_own [0] 1 rfl (by decide) q52_3
        have s52_4 := si_of_own [1000000000000000] 1 rfl (by decide) q52_4
        refine (ints38_any [1000000000000000] _ _ s52_4 (by decide)).mono ?_
        rintro e W53 ⟨u53, rfl, t53, hq⟩
        replace o52_0 := o52_0.below hq
        replace s52_1 := s52_1.below hq
        replace s52_2 := s52_2.below hq
        replace s52_3 := s52_3.below hq
        replace s52_4 := s52_4.below hq
        replace hy := below_to hy hq
        clear hq
        simp only [List.map] at t53
        clear o52_0 s52_4
        go_wp2_with fail
        refine (scost_any [[0]] [0] 1000 [(1000000000000000, 1)] _ _ _ _ s52_2 s52_3 t53 (fi_of _ (by decide))).mono ?_
        rintro e W54 ⟨rfl, hq⟩
        replace s52_1 := s52_1.below hq
        replace s52_2 := s52_2.below hq
        replace s52_3 := s52_3.below hq
        replace t53 := t53.below hq
        replace hy := below_to hy hq
        clear hq
        rw [show sCost [[0]] [0] 1000 [(1000000000000000, 1)] = ⟨1000000000000000000, 1, 0⟩ from fr_is (by decide +kernel)]
        clear s52_1 s52_2 s52_3 t53
        go_wp2_with fail
        have q55_0 := ((((Own.new W54 39 [.int .i64 1000000000000000000, .int .i64 1]).alloc (.cells #[.int .i64 0] 3)).alloc (.cells #[.slice (some ⟨W54.heap.size + 1, 0, none⟩) 1 1] 23)).alloc (.cells #[.int .i64 0] 3)).alloc (.cells #[.int .i64 1000000000000001] 2)
        have q55_1 := (((own_second W54 3 [.int .i64 0] (.cells #[.int .i64 1000000000000000000, .int .i64 1] 39)).alloc (.cells #[.slice (some ⟨W54.heap.size + 1, 0, none⟩) 1 1] 23)).alloc (.cells #[.int .i64 0] 3)).alloc (.cells #[.int .i64 1000000000000001] 2)
        have q55_2 := ((own_third W54 23 [.slice (some ⟨W54.heap.size + 1, 0, none⟩) 1 1] (.cells #[.int .i64 1000000000000000000, .int .i64 1] 39) (.cells #[.int .i64 0] 3)).alloc (.cells #[.int .i64 0] 3)).alloc (.cells #[.int .i64 1000000000000001] 2)
        have q55_3 := (own_4th W54 3 [.int .i64 0] (.cells #[.int .i64 1000000000000000000, .int .i64 1] 39) (.cells #[.int .i64 0] 3) (.cells #[.slice (some ⟨W54.heap.size + 1, 0, none⟩) 1 1] 23)).alloc (.cells #[.int .i64 1000000000000001] 2)
        have q55_4 := own_fifth W54 2 [.int .i64 1000000000000001] (.cells #[.int .i64 1000000000000000000, .int .i64 1] 39) (.cells #[.int .i64 0] 3) (.cells #[.slice (some ⟨W54.heap.size + 1, 0, none⟩) 1 1] 23) (.cells #[.int .i64 0] 3)
        have hq := ba5 W54 (.cells #[.int .i64 1000000000000000000, .int .i64 1] 39) (.cells #[.int .i64 0] 3) (.cells #[.slice (some ⟨W54.heap.size + 1, 0, none⟩) 1 1] 23) (.cells #[.int .i64 0] 3) (.cells #[.int .i64 1000000000000001] 2)
        replace hy := below_to hy hq
        clear hq
        generalize (((((W54.alloc (.cells #[.int .i64 1000000000000000000, .int .i64 1] 39)).alloc (.cells #[.int .i64 0] 3)).alloc (.cells #[.slice (some ⟨W54.heap.size + 1, 0, none⟩) 1 1] 23)).alloc (.cells #[.int .i64 0] 3)).alloc (.cells #[.int .i64 1000000000000001] 2)) = W55 at *
        obtain ⟨B55, hB55⟩ : ∃ B, B = W54.heap.size := ⟨_, rfl⟩
        rw [← hB55] at q55_0 q55_1 q55_2 q55_3 q55_4 ⊢
        clear hB55
        have o55_0 := q55_0
        have s55_1 := si_of_own [0] 1 rfl (by decide) q55_1
        have s55_2 := ss_of_own [[0]] [(.slice (some ⟨B55 + 1, 0, none⟩) 1 1)] 1 rfl rfl (by decide) q55_2 (fun i h h' => by
          match i, h with
          | 0, _ => exact s55_1
          )
        have s55_3 := si_of_own [0] 1 rfl (by decide) q55_3
        have s55_4 := si_of_own [1000000000000001] 1 rfl (by decide) q55_4
        refine (ints38_any [1000000000000001] _ _ s55_4 (by decide)).mono ?_
        rintro e W56 ⟨u56, rfl, t56, hq⟩
        replace o55_0 := o55_0.below hq
        replace s55_1 := s55_1.below hq
        replace s55_2 := s55_2.below hq
        as_aux_lemma =>
          replace s55_3 := s55_3.below hq
          replace s55_4 := s55_4.below hq
          replace hy := below_to hy hq
          clear hq
          simp only [List.map] at t56
          clear o55_0 s55_4
          go_wp2_with fail
          refine (scost_any [[0]] [0] 1000 [(1000000000000001, 1)] _ _ _ _ s55_2 s55_3 t56 (fi_of _ (by decide))).mono ?_
          rintro e W57 ⟨rfl, hq⟩
          replace s55_1 := s55_1.below hq
          replace s55_2 := s55_2.below hq
          replace s55_3 := s55_3.below hq
          replace t56 := t56.below hq
          replace hy := below_to hy hq
          clear hq
          rw [show sCost [[0]] [0] 1000 [(1000000000000001, 1)] = ⟨0, 0, 16⟩ from fr_is (by decide +kernel)]
          clear s55_1 s55_2 s55_3 t56
          go_wp2_with fail
          have q58_0 := Own.new W57 39 [.int .i64 0, .int .i64 0]
          have hq := ba1 W57 (.cells #[.int .i64 0, .int .i64 0] 39)
          replace hy := below_to hy hq
          clear hq
          generalize (W57.alloc (.cells #[.int .i64 0, .int .i64 0] 39)) = W58 at *
          obtain ⟨B58, hB58⟩ : ∃ B, B = W57.heap.size := ⟨_, rfl⟩
          rw [← hB58] at q58_0 ⊢
          clear hB58
          have o58_0 := q58_0
          refine (given38_any _).mono ?_
          rintro e W59 ⟨va59, vb59, rfl, hA59, hB59, hq⟩
          replace o58_0 := o58_0.below hq
          replace hy := below_to hy hq
          clear hq
          clear o58_0
          go_wp2_with fail
          have q60_0 := Own.new W59 2 [.int .i64 1, .int .i64 0]
          have hq := ba1 W59 (.cells #[.int .i64 1, .int .i64 0] 2)
          replace hA59 := hA59.below hq
          replace hB59 := hB59.below hq
          replace hy := below_to hy hq
          clear hq
          generalize (W59.alloc (.cells #[.int .i64 1, .int .i64 0] 2)) = W60 at *
          obtain ⟨B60, hB60⟩ : ∃ B, B = W59.heap.size := ⟨_, rfl⟩
          rw [← hB60] at q60_0 ⊢
          clear hB60
          have s60_0 := si_of_own [1, 0] 2 rfl (by decide) q60_0
          refine (ints38_any [1, 0] _ _ s60_0 (by decide)).mono ?_
          rintro e W61 ⟨u61, rfl, t61, hq⟩
          replace hA59 := hA59.below hq
          replace hB59 := hB59.below hq
          replace s60_0 := s60_0.below hq
          replace hy := below_to hy hq
          clear hq
          simp only [List.map] at t61
          clear s60_0
          go_wp2_with fail
          refine (sslope_any [[1, 0], [0, 1]] [3, 1] 1001 [(1, 1), (0, 1)] _ _ _ _ hA59 hB59 t61 (fi_of _ (by decide))).mono ?_
          rintro e W62 ⟨u62, rfl, t62, hq⟩
          replace hA59 := hA59.below hq
          replace hB59 := hB59.below hq
          replace t61 := t61.below hq
          replace hy := below_to hy hq
          clear hq
          have e62 : sSlope [[1, 0], [0, 1]] [3, 1] 1001 [(1, 1), (0, 1)] = ([], 2) := by decide +kernel
          rw [e62] at t62 ⊢
          clear e62
          clear hA59 hB59 t61
          go_wp2_with fail
          refine (sslope_any [] [] 2 [] _ _ _ _ (ss_nil _) (si_nil _) (sf_nil _) (fi_of _ (by decide))).mono ?_
          rintro e W63 ⟨u63, rfl, t63, hq⟩
          replace t62 := t62.below hq
          replace hy := below_to hy hq
          clear hq
          have e63 : sSlope [] [] 2 [] = ([], 8) := by decide +kernel
          rw [e63] at t63 ⊢
          clear e63
          go_wp2_with fail
          refine (given38_any _).mono ?_
          rintro e W64 ⟨va64, vb64, rfl, hA64, hB64, hq⟩
          replace t62 := t62.below hq
          replace t63 := t63.below hq
          replace hy := below_to hy hq
          clear hq
          go_wp2_with fail
          have q65_0 := Own.new W64 2 [.int .i64 1, .int .i64 1]
          have hq := ba1 W64 (.cells #[.int .i64 1, .int .i64 1] 2)
          replace t62 := t62.below hq
          replace t63 := t63.below hq
          replace hA64 := hA64.below hq
          replace hB64 := hB64.below hq
          replace hy := below_to hy hq
          clear hq
          generalize (W64.alloc (.cells #[.int .i64 1, .int .i64 1] 2)) = W65 at *
          obtain ⟨B65, hB65⟩ : ∃ B, B = W64.heap.size := ⟨_, rfl⟩
          rw [← hB65] at q65_0 ⊢
          clear hB65
          have s65_0 := si_of_own [1, 1] 2 rfl (by decide) q65_0
          refine (ints38_any [1, 1] _ _ s65_0 (by decide)).mono ?_
          rintro e W66 ⟨u66, rfl, t66, hq⟩
          replace t62 := t62.below hq
          replace t63 := t63.below hq
          replace hA64 := hA64.below hq
          replace hB64 := hB64.below hq
          replace s65_0 := s65_0.below hq
          replace hy := below_to hy hq
          clear hq
          simp only [List.map] at t66
          clear s65_0
          go_wp2_with fail
          refine (sopt_any [[1, 0], [0, 1]] [3, 1] 2 [(1, 1), (1, 1)] _ _ _ _ hA64 hB64 t66 (fi_of _ (by decide))).mono ?_
          rintro e W67 ⟨rfl, hq⟩
          replace t62 := t62.below hq
          replace t63 := t63.below hq
          replace hA64 := hA64.below hq
          replace hB64 := hB64.below hq
          replace t66 := t66.below hq
          replace hy := below_to hy hq
          clear hq
          rw [show sOptimal [[1, 0], [0, 1]] [3, 1] 2 [(1, 1), (1, 1)] = (false, 0) from by decide +kernel]
          clear hA64 hB64 t66
          go_wp2_with fail
          refine (given38_any _).mono ?_
          rintro e W68 ⟨va68, vb68, rfl, hA68, hB68, hq⟩
          replace t62 := t62.below hq
          replace t63 := t63.below hq
          replace hy := below_to hy hq
          clear hq
          go_wp2_with fail
          have q69_0 := Own.new W68 39 [.int .i64 (-1), .int .i64 1, .int .i64 0, .int .i64 1]
          have hq := ba1 W68 (.cells #[.int .i64 (-1), .int .i64 1, .int .i64 0, .int .i64 1] 39)
          replace t62 := t62.below hq
          replace t63 := t63.below hq
          replace hA68 := hA68.below hq
          replace hB68 := hB68.below hq
          replace hy := below_to hy hq
          clear hq
          generalize (W68.alloc (.cells #[.int .i64 (-1), .int .i64 1, .int .i64 0, .int .i64 1] 39)) = W69 at *
          obtain ⟨B69, hB69⟩ : ∃ B, B = W68.heap.size := ⟨_, rfl⟩
          rw [← hB69] at q69_0 ⊢
          clear hB69
          have s69_0 := sf_of_own [(-1, 1), (0, 1)] 2 rfl (by decide) q69_0
          refine (sopt_any [[1, 0], [0, 1]] [3, 1] 2 [(-1, 1), (0, 1)] _ _ _ _ hA68 hB68 s69_0 (fi_of _ (by decide))).mono ?_
          rintro e W70 ⟨rfl, hq⟩
          replace t62 := t62.below hq
          replace t63 := t63.below hq
          replace hA68 := hA68.below hq
          replace hB68 := hB68.below hq
          replace s69_0 := s69_0.below hq
          replace hy := below_to hy hq
          clear hq
          rw [show sOptimal [[1, 0], [0, 1]] [3, 1] 2 [(-1, 1), (0, 1)] = (false, 2) from by decide +kernel]
          clear hA68 hB68 s69_0
          go_wp2_with fail
          refine (given38_any _).mono ?_
          rintro e W71 ⟨va71, vb71, rfl, hA71, hB71, hq⟩
          replace t62 := t62.below hq
          replace t63 := t63.below hq
          replace hy := below_to hy hq
          clear hq
          go_wp2_with fail
          refine (spsolve_any [[1, 0], [0, 1]] [3, 1] 1001 _ _ _ hA71 hB71).mono ?_
          rintro e W72 ⟨u72, rfl, t72, hq⟩
          replace t62 := t62.below hq
          replace t63 := t63.below hq
          replace hA71 := hA71.below hq
          replace hB71 := hB71.below hq
          replace hy := below_to hy hq
          clear hq
          have e72 : sSolve [[1, 0], [0, 1]] [3, 1] 1001 = ([], 0, 2) := by decide +kernel
          rw [e72] at t72 ⊢
          clear e72
          clear hA71 hB71
          go_wp2_with fail
          refine (spsolve_any [] [] (-1) _ _ _ (ss_nil _) (si_nil _)).mono ?_
          rintro e W73 ⟨u73, rfl, t73, hq⟩
          replace t62 := t62.below hq
          replace t63 := t63.below hq
          replace t72 := t72.below hq
          replace hy := below_to hy hq
          clear hq
          have e73 : sSolve [] [] (-1) = ([], 0, 8) := by decide +kernel
          rw [e73] at t73 ⊢
          clear e73
          go_wp2_with fail
          have q74_0 := ((Own.new W73 3 [.int .i64 6]).alloc (.cells #[.slice (some ⟨W73.heap.size, 0, none⟩) 1 1] 23)).alloc (.cells #[.int .i64 1] 3)
          have q74_1 := (own_second W73 23 [.slice (some ⟨W73.heap.size, 0, none⟩) 1 1] (.cells #[.int .i64 6] 3)).alloc (.cells #[.int .i64 1] 3)
          have q74_2 := own_third W73 3 [.int .i64 1] (.cells #[.int .i64 6] 3) (.cells #[.slice (some ⟨W73.heap.size, 0, none⟩) 1 1] 23)
          have hq := ba3 W73 (.cells #[.int .i64 6] 3) (.cells #[.slice (some ⟨W73.heap.size, 0, none⟩) 1 1] 23) (.cells #[.int .i64 1] 3)
          replace t62 := t62.below hq
          replace t63 := t63.below hq
          replace t72 := t72.below hq
          replace t73 := t73.below hq
          replace hy := below_to hy hq
          clear hq
          generalize (((W73.alloc (.cells #[.int .i64 6] 3)).alloc (.cells #[.slice (some ⟨W73.heap.size, 0, none⟩) 1 1] 23)).alloc (.cells #[.int .i64 1] 3)) = W74 at *
          obtain ⟨B74, hB74⟩ : ∃ B, B = W73.heap.size := ⟨_, rfl⟩
          rw [← hB74] at q74_0 q74_1 q74_2 ⊢
          clear hB74
          have s74_0 := si_of_own [6] 1 rfl (by decide) q74_0
          have s74_1 := ss_of_own [[6]] [(.slice (some ⟨B74, 0, none⟩) 1 1)] 1 rfl rfl (by decide) q74_1 (fun i h h' => by
            match i, h with
            | 0, _ => exact s74_0
            )
          have s74_2 := si_of_own [1] 1 rfl (by decide) q74_2
          refine (spdark_any [[6]] [1] _ _ _ s74_1 s74_2).mono ?_
          rintro e W75 ⟨rfl, hq⟩
          replace t62 := t62.below hq
          replace t63 := t63.below hq
          replace t72 := t72.below hq
          replace t73 := t73.below hq
          replace s74_0 := s74_0.below hq
          replace s74_1 := s74_1.below hq
          replace s74_2 := s74_2.below hq
          replace hy := below_to hy hq
          clear hq
          rw [show sDark [[6]] [1] = (0, 8) from by decide +kernel]
          clear s74_0 s74_1 s74_2
          go_wp2_with fail
          refine (alive38_any _).mono ?_
          rintro e W76 ⟨rfl, hq⟩
          replace t62 := t62.below hq
          replace t63 := t63.below hq
          replace t72 := t72.below hq
          replace t73 := t73.below hq
          replace hy := below_to hy hq
          clear hq
          clear t62 t63 t72 t73
          go_wp2
          go_ret
          exact ⟨by first | rfl | simp, hy⟩
end Go.Proofs.Ytfoemacgmehpiaa

