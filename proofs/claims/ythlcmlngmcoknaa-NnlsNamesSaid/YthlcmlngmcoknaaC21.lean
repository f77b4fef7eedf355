/- What is proved here: contracts of functions and plain facts, several texts in one; each one says ahead what it proves, and its conditions. -/
import Derived.Test.YthlcmlngmcoknaaC06
import Derived.Test.YthlcmlngmcoknaaC12
import Derived.Test.YthlcmlngmcoknaaC20
import Derived.Test.YthlcmlngmcoknaaC11
import Derived.Test.YthlcmlngmcoknaaC01
import Derived.Deep.DeepCutAuto
/- What is proved here: fringelaw37.alive returns true. No condition. -/
namespace Go.Proofs.Ythlcmlngmcoknaa
open Go.RowKit

set_option maxRecDepth 100000 in
set_option maxHeartbeats 64000000 in
theorem alive37_any (w : World) : Calls Try.prog 58 #[] w fun e w' => e = .returned (.bool true) ∧ Below w.heap.size w w' := by
  go_enter Try.func58, Try.ntmps58
  have hy := Below.refl w.heap.size w
  go_wp2_with fail
  have q1_0 := ((((Own.new w 3 [.int .i64 1, .int .i64 0]).alloc (.cells #[.int .i64 0, .int .i64 1] 3)).alloc (.cells #[.slice (some ⟨w.heap.size, 0, none⟩) 2 2, .slice (some ⟨w.heap.size + 1, 0, none⟩) 2 2] 23)).alloc (.cells #[.int .i64 3, .int .i64 (-2)] 3)).alloc (.cells #[.slice (some ⟨w.heap.size + 1 + 1, 0, none⟩) 2 2, .slice (some ⟨w.heap.size + 1 + 1 + 1, 0, none⟩) 2 2] 25)
  have q1_1 := (((own_second w 3 [.int .i64 0, .int .i64 1] (.cells #[.int .i64 1, .int .i64 0] 3)).alloc (.cells #[.slice (some ⟨w.heap.size, 0, none⟩) 2 2, .slice (some ⟨w.heap.size + 1, 0, none⟩) 2 2] 23)).alloc (.cells #[.int .i64 3, .int .i64 (-2)] 3)).alloc (.cells #[.slice (some ⟨w.heap.size + 1 + 1, 0, none⟩) 2 2, .slice (some ⟨w.heap.size + 1 + 1 + 1, 0, none⟩) 2 2] 25)
  have q1_2 := ((own_third w 23 [.slice (some ⟨w.heap.size, 0, none⟩) 2 2, .slice (some ⟨w.heap.size + 1, 0, none⟩) 2 2] (.cells #[.int .i64 1, .int .i64 0] 3) (.cells #[.int .i64 0, .int .i64 1] 3)).alloc (.cells #[.int .i64 3, .int .i64 (-2)] 3)).alloc (.cells #[.slice (some ⟨w.heap.size + 1 + 1, 0, none⟩) 2 2, .slice (some ⟨w.heap.size + 1 + 1 + 1, 0, none⟩) 2 2] 25)
  have q1_3 := (own_4th w 3 [.int .i64 3, .int .i64 (-2)] (.cells #[.int .i64 1, .int .i64 0] 3) (.cells #[.int .i64 0, .int .i64 1] 3) (.cells #[.slice (some ⟨w.heap.size, 0, none⟩) 2 2, .slice (some ⟨w.heap.size + 1, 0, none⟩) 2 2] 23)).alloc (.cells #[.slice (some ⟨w.heap.size + 1 + 1, 0, none⟩) 2 2, .slice (some ⟨w.heap.size + 1 + 1 + 1, 0, none⟩) 2 2] 25)
  have q1_4 := own_fifth w 25 [.slice (some ⟨w.heap.size + 1 + 1, 0, none⟩) 2 2, .slice (some ⟨w.heap.size + 1 + 1 + 1, 0, none⟩) 2 2] (.cells #[.int .i64 1, .int .i64 0] 3) (.cells #[.int .i64 0, .int .i64 1] 3) (.cells #[.slice (some ⟨w.heap.size, 0, none⟩) 2 2, .slice (some ⟨w.heap.size + 1, 0, none⟩) 2 2] 23) (.cells #[.int .i64 3, .int .i64 (-2)] 3)
  have hq := ba5 w (.cells #[.int .i64 1, .int .i64 0] 3) (.cells #[.int .i64 0, .int .i64 1] 3) (.cells #[.slice (some ⟨w.heap.size, 0, none⟩) 2 2, .slice (some ⟨w.heap.size + 1, 0, none⟩) 2 2] 23) (.cells #[.int .i64 3, .int .i64 (-2)] 3) (.cells #[.slice (some ⟨w.heap.size + 1 + 1, 0, none⟩) 2 2, .slice (some ⟨w.heap.size + 1 + 1 + 1, 0, none⟩) 2 2] 25)
  replace hy := below_to hy hq
  clear hq
  generalize (((((w.alloc (.cells #[.int .i64 1, .int .i64 0] 3)).alloc (.cells #[.int .i64 0, .int .i64 1] 3)).alloc (.cells #[.slice (some ⟨w.heap.size, 0, none⟩) 2 2, .slice (some ⟨w.heap.size + 1, 0, none⟩) 2 2] 23)).alloc (.cells #[.int .i64 3, .int .i64 (-2)] 3)).alloc (.cells #[.slice (some ⟨w.heap.size + 1 + 1, 0, none⟩) 2 2, .slice (some ⟨w.heap.size + 1 + 1 + 1, 0, none⟩) 2 2] 25)) = W1 at *
  obtain ⟨B1, hB1⟩ : ∃ B, B = w.heap.size := ⟨_, rfl⟩
  rw [← hB1] at q1_0 q1_1 q1_2 q1_3 q1_4 ⊢
  clear hB1
  have s1_0 := si_of_own [1, 0] 2 rfl (by decide) q1_0
  have s1_1 := si_of_own [0, 1] 2 rfl (by decide) q1_1
  have s1_2 := ss_of_own [[1, 0], [0, 1]] [(.slice (some ⟨B1, 0, none⟩) 2 2), (.slice (some ⟨B1 + 1, 0, none⟩) 2 2)] 2 rfl rfl (by decide) q1_2 (fun i h h' => by
    match i, h with
    | 0, _ => exact s1_0
    | 1, _ => exact s1_1
    )
  have s1_3 := si_of_own [3, -2] 2 rfl (by decide) q1_3
  have o1_4 := q1_4
  refine (nsolve_any [[1, 0], [0, 1]] [3, -2] _ _ _ s1_2 s1_3).mono ?_
  rintro e W2 ⟨u2, rfl, t2, hq⟩
  replace s1_0 := s1_0.below hq
  replace s1_1 := s1_1.below hq
  replace s1_2 := s1_2.below hq
  replace s1_3 := s1_3.below hq
  replace o1_4 := o1_4.below hq
  replace hy := below_to hy hq
  clear hq
  have e2 : nSolve [[1, 0], [0, 1]] [3, -2] 0 = ([(3, 1), (0, 1)], 1, 0) := by decide +kernel
  rw [e2] at t2 ⊢
  clear e2
  obtain ⟨r1_4, f1_4⟩ := o1_4.rules
  have z1_4 := o1_4.lt
  go_upto_region 3 with fail
  clear r1_4 f1_4 z1_4
  obtain ⟨r1_4, f1_4⟩ := o1_4.rules
  have z1_4 := o1_4.lt
  have gl := @grow_lt
  refine wp_region_stt [.t [0], .f 1, .f 2, .f 3] [4, 5, 6] [7, 8] (by kernel_rfl) (by kernel_rfl) (fun _ _ _ _ _ h => h) ?_
  have hR : Below W2.heap.size W2 W2.drew := (Below.refl _ _).drew
  replace s1_0 := s1_0.below hR
  replace s1_1 := s1_1.below hR
  replace s1_2 := s1_2.below hR
  replace s1_3 := s1_3.below hR
  replace t2 := t2.below hR
  generalize W2.drew = W3 at *
  refine wpX_t ?_
  try simp only [opsAt, List.getElem?_toArray, List.getElem?_cons_zero, List.getElem?_cons_succ, Option.getD_some]
  repeat (go_big_quiet_step (fail))
  refine wpQuiet_nil ?_
  refine wpX_f rfl rfl (fun K' hK' => ?_)
  go_simp
  have q4 := Own.new (W3) 2 [.int .i64 3, .int .i64 0]
  have hq := ba1 (W3) (.cells #[.int .i64 3, .int .i64 0] 2)
  obtain ⟨B4, hB4⟩ : ∃ B, B = (W3).heap.size := ⟨_, rfl⟩
  rw [← hB4] at q4 ⊢
  clear hB4
  replace s1_0 := s1_0.below hq
  replace s1_1 := s1_1.below hq
  replace s1_2 := s1_2.below hq
  replace s1_3 := s1_3.below hq
  replace t2 := t2.below hq
  replace hR := below_to hR hq
  clear hq
  refine hK' _ _ (grow_of hR) ?_
  clear hK' K'
  generalize (W3).alloc (.cells #[.int .i64 3, .int .i64 0] 2) = W4 at *
  have s4_0 := si_of_own [3, 0] 2 rfl (by decide) q4
  refine wpX_f rfl rfl (fun K' hK' => ?_)
  go_simp
  refine (ints37_any [3, 0] _ _ s4_0 (by decide)).mono ?_
  rintro e W5 ⟨u5, rfl, t5, hq⟩
  replace s1_0 := s1_0.below hq
  replace s1_1 := s1_1.below hq
  replace s1_2 := s1_2.below hq
  replace s1_3 := s1_3.below hq
  replace t2 := t2.below hq
  replace s4_0 := s4_0.below hq
  replace hR := below_to hR hq
  clear hq
  refine hK' _ _ (grow_of hR) ?_
  clear hK' K'
  simp only [List.map] at t5
  clear s4_0
  refine wpX_f rfl rfl (fun K' hK' => ?_)
  go_simp
  refine (ngrad_any [[1, 0], [0, 1]] [3, -2] [(3, 1), (0, 1)] _ _ _ _ s1_2 s1_3 t5 (fi_of _ (by decide))).mono ?_
  rintro e W6 ⟨u6, rfl, t6, hq⟩
  replace s1_0 := s1_0.below hq
  replace s1_1 := s1_1.below hq
  replace s1_2 := s1_2.below hq
  replace s1_3 := s1_3.below hq
  replace t2 := t2.below hq
  replace t5 := t5.below hq
  replace hR := below_to hR hq
  clear hq
  refine hK' _ _ (grow_of hR) ?_
  clear hK' K'
  have e6 : nGradient [[1, 0], [0, 1]] [3, -2] [(3, 1), (0, 1)] = ([(0, 1), (2, 1)], 0) := by decide +kernel
  rw [e6] at t6 ⊢
  clear e6
  clear t5
  refine wpX_nil ?_
  repeat (go_big_quiet_step (fail))
  refine wpQuiet_nil ?_
  clear gl
  clear r1_4 f1_4 z1_4
  replace o1_4 := o1_4.below hR
  replace hy := below_to hy hR
  clear hR
  obtain ⟨r1_4, f1_4⟩ := o1_4.rules
  have z1_4 := o1_4.lt
  go_upto_region 4 with fail
  clear r1_4 f1_4 z1_4
  have K_s1_0 := s1_0
  have K_s1_1 := s1_1
  have K_s1_2 := s1_2
  have K_s1_3 := s1_3
  have K_o1_4 := o1_4
  have K_t2 := t2
  have K_t6 := t6
  obtain ⟨r1_4, f1_4⟩ := o1_4.rules
  have z1_4 := o1_4.lt
  have gl := @grow_lt
  refine wp_region_fs [(7, ⟨78, [.int .i64 0, .int .i64 0], fun b => .pointer (some ⟨b, 0, none⟩)⟩)] [0] [.op 1, .op 2, .op 3, .tk 4, .tk 5, .tk 6, .fl 7, .op 8] [9] (by kernel_rfl) (by kernel_rfl) ⟨fun ρ W => by kernel_rfl, trivial⟩ (fun _ _ _ _ _ h => h) (fun _ _ _ _ _ h => h) ?_
  try simp only [opsAt, List.getElem?_toArray, List.getElem?_cons_zero, List.getElem?_cons_succ, Option.getD_some]
  repeat (go_big_quiet_step (fail))
  refine wpQuiet_nil ?_
  clear gl
  clear r1_4 f1_4 z1_4
  have hF := Below.refl W6.heap.size W6
  refine wpFl_op rfl ?_
  intro V7 hv K' hK'
  replace s1_0 := s1_0.below hv
  replace s1_1 := s1_1.below hv
  replace s1_2 := s1_2.below hv
  replace s1_3 := s1_3.below hv
  replace o1_4 := o1_4.below hv
  replace t2 := t2.below hv
  replace t6 := t6.below hv
  replace hF := below_to hF hv
  clear hv
  go_simp
  have q8 := Own.new (V7) 2 [.int .i64 3, .int .i64 0]
  have hq := ba1 (V7) (.cells #[.int .i64 3, .int .i64 0] 2)
  obtain ⟨B8, hB8⟩ : ∃ B, B = (V7).heap.size := ⟨_, rfl⟩
  rw [← hB8] at q8 ⊢
  clear hB8
  refine hK' _ _ (Mod.of_below hq) ?_
  clear hK' K'
  replace s1_0 := s1_0.below hq
  replace s1_1 := s1_1.below hq
  replace s1_2 := s1_2.below hq
  replace s1_3 := s1_3.below hq
  replace o1_4 := o1_4.below hq
  replace t2 := t2.below hq
  replace t6 := t6.below hq
  replace hF := below_to hF hq
  clear hq
  generalize (V7).alloc (.cells #[.int .i64 3, .int .i64 0] 2) = W8 at *
  have s8_0 := si_of_own [3, 0] 2 rfl (by decide) q8
  refine wpFl_op rfl ?_
  intro V9 hv K' hK'
  replace s1_0 := s1_0.below hv
  replace s1_1 := s1_1.below hv
  replace s1_2 := s1_2.below hv
  replace s1_3 := s1_3.below hv
  replace o1_4 := o1_4.below hv
  replace t2 := t2.below hv
  replace t6 := t6.below hv
  replace s8_0 := s8_0.below hv
  replace hF := below_to hF hv
  clear hv
  go_simp
  refine (ints37_any [3, 0] _ _ s8_0 (by decide)).mono ?_
  rintro e W10 ⟨u10, rfl, t10, hq⟩
  refine hK' _ _ (Mod.of_below hq) ?_
  clear hK' K'
  replace s1_0 := s1_0.below hq
  replace s1_1 := s1_1.below hq
  replace s1_2 := s1_2.below hq
  replace s1_3 := s1_3.below hq
  replace o1_4 := o1_4.below hq
  replace t2 := t2.below hq
  replace t6 := t6.below hq
  replace s8_0 := s8_0.below hq
  replace hF := below_to hF hq
  clear hq
  simp only [List.map] at t10
  clear s8_0
  refine wpFl_op rfl ?_
  intro V11 hv K' hK'
  replace s1_0 := s1_0.below hv
  replace s1_1 := s1_1.below hv
  replace s1_2 := s1_2.below hv
  replace s1_3 := s1_3.below hv
  replace o1_4 := o1_4.below hv
  replace t2 := t2.below hv
  replace t6 := t6.below hv
  replace t10 := t10.below hv
  replace hF := below_to hF hv
  clear hv
  go_simp
  refine (nval_any [[1, 0], [0, 1]] [3, -2] [(3, 1), (0, 1)] _ _ _ _ s1_2 s1_3 t10 (fi_of _ (by decide))).mono ?_
  rintro e W12 ⟨rfl, hq⟩
  refine hK' _ _ (Mod.of_below hq) ?_
  clear hK' K'
  replace s1_0 := s1_0.below hq
  replace s1_1 := s1_1.below hq
  replace s1_2 := s1_2.below hq
  replace s1_3 := s1_3.below hq
  replace o1_4 := o1_4.below hq
  replace t2 := t2.below hq
  replace t6 := t6.below hq
  replace t10 := t10.below hq
  replace hF := below_to hF hq
  clear hq
  rw [show nValue [[1, 0], [0, 1]] [3, -2] [(3, 1), (0, 1)] = ⟨4, 1, 0⟩ from fr_is (by decide +kernel)]
  clear s1_0 s1_1 s1_2 s1_3 o1_4 t10
  refine wpFl_tk ?_
  try simp only [opsAt, List.getElem?_toArray, List.getElem?_cons_zero, List.getElem?_cons_succ, Option.getD_some]
  repeat (go_big_quiet_step (fail))
  refine wpQuiet_nil ?_
  refine wpFl_tk ?_
  try simp only [opsAt, List.getElem?_toArray, List.getElem?_cons_zero, List.getElem?_cons_succ, Option.getD_some]
  repeat (go_big_quiet_step (fail))
  refine wpQuiet_nil ?_
  refine wpFl_tk ?_
  try simp only [opsAt, List.getElem?_toArray, List.getElem?_cons_zero, List.getElem?_cons_succ, Option.getD_some]
  repeat (go_big_quiet_step (fail))
  refine wpQuiet_nil ?_
  refine wpFl_fl rfl ?_
  intro bX13 w6 hv oX13 zX130 _
  go_simp
  replace t2 := t2.below hv
  replace t6 := t6.below hv
  replace hF := below_to hF hv
  clear hv
  refine wpFl_op rfl ?_
  intro w7 hv K' hK'
  replace oX13 := oX13.below hv
  replace t2 := t2.below hv
  replace t6 := t6.below hv
  replace hF := below_to hF hv
  clear hv
  obtain ⟨rX13, fX13⟩ := oX13.rules
  have zX13 := oX13.lt
  go_wp2_with fail
  refine hK' _ _ (((Mod.refl _ _).set (by simp) _).set (by simp) _) ?_
  clear hK' K' rX13 fX13 zX13
  clear t2 t6
  replace oX13 := (oX13.set 0 (.int .i64 4)).set 1 (.int .i64 1)
  replace hF := (hF.setCell (p := ⟨bX13, 0, none⟩) zX130 (.int .i64 4)).setCell (p := ⟨bX13, 1, none⟩) zX130 (.int .i64 1)
  refine wpFl_nil (fun W14 hv => ?_)
  replace oX13 := oX13.below hv
  replace hF := below_to hF hv
  clear hv zX130
  try simp only [opsAt, List.getElem?_toArray, List.getElem?_cons_zero, List.getElem?_cons_succ, Option.getD_some]
  have t2 := K_t2.below hF
  have t6 := K_t6.below hF
  clear K_s1_0 K_s1_1 K_s1_2 K_s1_3 K_o1_4 K_t2 K_t6
  replace hy := below_to hy hF
  clear hF
  obtain ⟨rX13, fX13⟩ := oX13.rules
  have zX13 := oX13.lt
  go_wp2_with fail
  clear rX13 fX13 zX13
  have q15_0 := ((((Own.new W14 3 [.int .i64 1, .int .i64 1]).alloc (.cells #[.int .i64 1, .int .i64 1] 3)).alloc (.cells #[.slice (some ⟨W14.heap.size, 0, none⟩) 2 2, .slice (some ⟨W14.heap.size + 1, 0, none⟩) 2 2] 23)).alloc (.cells #[.int .i64 2, .int .i64 4] 3)).alloc (.cells #[.slice (some ⟨W14.heap.size + 1 + 1, 0, none⟩) 2 2, .slice (some ⟨W14.heap.size + 1 + 1 + 1, 0, none⟩) 2 2] 25)
  have q15_1 := (((own_second W14 3 [.int .i64 1, .int .i64 1] (.cells #[.int .i64 1, .int .i64 1] 3)).alloc (.cells #[.slice (some ⟨W14.heap.size, 0, none⟩) 2 2, .slice (some ⟨W14.heap.size + 1, 0, none⟩) 2 2] 23)).alloc (.cells #[.int .i64 2, .int .i64 4] 3)).alloc (.cells #[.slice (some ⟨W14.heap.size + 1 + 1, 0, none⟩) 2 2, .slice (some ⟨W14.heap.size + 1 + 1 + 1, 0, none⟩) 2 2] 25)
  have q15_2 := ((own_third W14 23 [.slice (some ⟨W14.heap.size, 0, none⟩) 2 2, .slice (some ⟨W14.heap.size + 1, 0, none⟩) 2 2] (.cells #[.int .i64 1, .int .i64 1] 3) (.cells #[.int .i64 1, .int .i64 1] 3)).alloc (.cells #[.int .i64 2, .int .i64 4] 3)).alloc (.cells #[.slice (some ⟨W14.heap.size + 1 + 1, 0, none⟩) 2 2, .slice (some ⟨W14.heap.size + 1 + 1 + 1, 0, none⟩) 2 2] 25)
  have q15_3 := (own_4th W14 3 [.int .i64 2, .int .i64 4] (.cells #[.int .i64 1, .int .i64 1] 3) (.cells #[.int .i64 1, .int .i64 1] 3) (.cells #[.slice (some ⟨W14.heap.size, 0, none⟩) 2 2, .slice (some ⟨W14.heap.size + 1, 0, none⟩) 2 2] 23)).alloc (.cells #[.slice (some ⟨W14.heap.size + 1 + 1, 0, none⟩) 2 2, .slice (some ⟨W14.heap.size + 1 + 1 + 1, 0, none⟩) 2 2] 25)
  have q15_4 := own_fifth W14 25 [.slice (some ⟨W14.heap.size + 1 + 1, 0, none⟩) 2 2, .slice (some ⟨W14.heap.size + 1 + 1 + 1, 0, none⟩) 2 2] (.cells #[.int .i64 1, .int .i64 1] 3) (.cells #[.int .i64 1, .int .i64 1] 3) (.cells #[.slice (some ⟨W14.heap.size, 0, none⟩) 2 2, .slice (some ⟨W14.heap.size + 1, 0, none⟩) 2 2] 23) (.cells #[.int .i64 2, .int .i64 4] 3)
  have hq := ba5 W14 (.cells #[.int .i64 1, .int .i64 1] 3) (.cells #[.int .i64 1, .int .i64 1] 3) (.cells #[.slice (some ⟨W14.heap.size, 0, none⟩) 2 2, .slice (some ⟨W14.heap.size + 1, 0, none⟩) 2 2] 23) (.cells #[.int .i64 2, .int .i64 4] 3) (.cells #[.slice (some ⟨W14.heap.size + 1 + 1, 0, none⟩) 2 2, .slice (some ⟨W14.heap.size + 1 + 1 + 1, 0, none⟩) 2 2] 25)
  replace t2 := t2.below hq
  replace t6 := t6.below hq
  replace oX13 := oX13.below hq
  replace hy := below_to hy hq
  clear hq
  generalize (((((W14.alloc (.cells #[.int .i64 1, .int .i64 1] 3)).alloc (.cells #[.int .i64 1, .int .i64 1] 3)).alloc (.cells #[.slice (some ⟨W14.heap.size, 0, none⟩) 2 2, .slice (some ⟨W14.heap.size + 1, 0, none⟩) 2 2] 23)).alloc (.cells #[.int .i64 2, .int .i64 4] 3)).alloc (.cells #[.slice (some ⟨W14.heap.size + 1 + 1, 0, none⟩) 2 2, .slice (some ⟨W14.heap.size + 1 + 1 + 1, 0, none⟩) 2 2] 25)) = W15 at *
  obtain ⟨B15, hB15⟩ : ∃ B, B = W14.heap.size := ⟨_, rfl⟩
  rw [← hB15] at q15_0 q15_1 q15_2 q15_3 q15_4 ⊢
  clear hB15
  have s15_0 := si_of_own [1, 1] 2 rfl (by decide) q15_0
  have s15_1 := si_of_own [1, 1] 2 rfl (by decide) q15_1
  have s15_2 := ss_of_own [[1, 1], [1, 1]] [(.slice (some ⟨B15, 0, none⟩) 2 2), (.slice (some ⟨B15 + 1, 0, none⟩) 2 2)] 2 rfl rfl (by decide) q15_2 (fun i h h' => by
    match i, h with
    | 0, _ => exact s15_0
    | 1, _ => exact s15_1
    )
  have s15_3 := si_of_own [2, 4] 2 rfl (by decide) q15_3
  have o15_4 := q15_4
  refine (nsolve_any [[1, 1], [1, 1]] [2, 4] _ _ _ s15_2 s15_3).mono ?_
  rintro e W16 ⟨u16, rfl, t16, hq⟩
  replace t2 := t2.below hq
  replace t6 := t6.below hq
  replace oX13 := oX13.below hq
  replace s15_0 := s15_0.below hq
  replace s15_1 := s15_1.below hq
  replace s15_2 := s15_2.below hq
  replace s15_3 := s15_3.below hq
  replace o15_4 := o15_4.below hq
  replace hy := below_to hy hq
  clear hq
  have e16 : nSolve [[1, 1], [1, 1]] [2, 4] 0 = ([(3, 1), (0, 1)], 1, 0) := by decide +kernel
  rw [e16] at t16 ⊢
  clear e16
  obtain ⟨rX13, fX13⟩ := oX13.rules
  have zX13 := oX13.lt
  obtain ⟨r15_4, f15_4⟩ := o15_4.rules
  have z15_4 := o15_4.lt
  go_upto_region 7 with fail
  clear rX13 fX13 zX13 r15_4 f15_4 z15_4
  obtain ⟨rX13, fX13⟩ := oX13.rules
  have zX13 := oX13.lt
  obtain ⟨r15_4, f15_4⟩ := o15_4.rules
  have z15_4 := o15_4.lt
  have gl := @grow_lt
  refine wp_region_stt [.t [0], .f 1, .f 2, .f 3] [4, 5, 6] [7, 8] (by kernel_rfl) (by kernel_rfl) (fun _ _ _ _ _ h => h) ?_
  have hR : Below W16.heap.size W16 W16.drew := (Below.refl _ _).drew
  replace t2 := t2.below hR
  replace t6 := t6.below hR
  replace s15_0 := s15_0.below hR
  replace s15_1 := s15_1.below hR
  replace s15_2 := s15_2.below hR
  replace s15_3 := s15_3.below hR
  replace t16 := t16.below hR
  generalize W16.drew = W17 at *
  refine wpX_t ?_
  try simp only [opsAt, List.getElem?_toArray, List.getElem?_cons_zero, List.getElem?_cons_succ, Option.getD_some]
  repeat (go_big_quiet_step (fail))
  refine wpQuiet_nil ?_
  refine wpX_f rfl rfl (fun K' hK' => ?_)
  go_simp
  have q18 := Own.new (W17) 2 [.int .i64 3, .int .i64 0]
  have hq := ba1 (W17) (.cells #[.int .i64 3, .int .i64 0] 2)
  obtain ⟨B18, hB18⟩ : ∃ B, B = (W17).heap.size := ⟨_, rfl⟩
  rw [← hB18] at q18 ⊢
  clear hB18
  replace t2 := t2.below hq
  replace t6 := t6.below hq
  replace s15_0 := s15_0.below hq
  replace s15_1 := s15_1.below hq
  replace s15_2 := s15_2.below hq
  replace s15_3 := s15_3.below hq
  replace t16 := t16.below hq
  replace hR := below_to hR hq
  clear hq
  refine hK' _ _ (grow_of hR) ?_
  clear hK' K'
  generalize (W17).alloc (.cells #[.int .i64 3, .int .i64 0] 2) = W18 at *
  have s18_0 := si_of_own [3, 0] 2 rfl (by decide) q18
  refine wpX_f rfl rfl (fun K' hK' => ?_)
  go_simp
  refine (ints37_any [3, 0] _ _ s18_0 (by decide)).mono ?_
  rintro e W19 ⟨u19, rfl, t19, hq⟩
  replace t2 := t2.below hq
  replace t6 := t6.below hq
  replace s15_0 := s15_0.below hq
  replace s15_1 := s15_1.below hq
  replace s15_2 := s15_2.below hq
  replace s15_3 := s15_3.below hq
  replace t16 := t16.below hq
  replace s18_0 := s18_0.below hq
  replace hR := below_to hR hq
  clear hq
  refine hK' _ _ (grow_of hR) ?_
  clear hK' K'
  simp only [List.map] at t19
  clear s18_0
  refine wpX_f rfl rfl (fun K' hK' => ?_)
  go_simp
  refine (nresid_any [[1, 1], [1, 1]] [2, 4] [(3, 1), (0, 1)] _ _ _ _ s15_2 s15_3 t19 (fi_of _ (by decide))).mono ?_
  rintro e W20 ⟨u20, rfl, t20, hq⟩
  replace t2 := t2.below hq
  replace t6 := t6.below hq
  replace s15_0 := s15_0.below hq
  replace s15_1 := s15_1.below hq
  replace s15_2 := s15_2.below hq
  replace s15_3 := s15_3.below hq
  replace t16 := t16.below hq
  replace t19 := t19.below hq
  replace hR := below_to hR hq
  clear hq
  refine hK' _ _ (grow_of hR) ?_
  clear hK' K'
  have e20 : nResidual [[1, 1], [1, 1]] [2, 4] [(3, 1), (0, 1)] = ([(1, 1), (-1, 1)], 0) := by decide +kernel
  rw [e20] at t20 ⊢
  clear e20
  clear t19
  refine wpX_nil ?_
  repeat (go_big_quiet_step (fail))
  refine wpQuiet_nil ?_
  clear gl
  clear rX13 fX13 zX13 r15_4 f15_4 z15_4
  replace oX13 := oX13.below hR
  replace o15_4 := o15_4.below hR
  replace hy := below_to hy hR
  clear hR
  obtain ⟨rX13, fX13⟩ := oX13.rules
  have zX13 := oX13.lt
  obtain ⟨r15_4, f15_4⟩ := o15_4.rules
  have z15_4 := o15_4.lt
  go_upto_region 8 with fail
  clear rX13 fX13 zX13 r15_4 f15_4 z15_4
  obtain ⟨rX13, fX13⟩ := oX13.rules
  have zX13 := oX13.lt
  obtain ⟨r15_4, f15_4⟩ := o15_4.rules
  have z15_4 := o15_4.lt
  have gl := @grow_lt
  refine wp_region_stt [.t [0], .f 1, .f 2, .f 3] [4, 5, 6] [7, 8] (by kernel_rfl) (by kernel_rfl) (fun _ _ _ _ _ h => h) ?_
  have hR : Below W20.heap.size W20 W20.drew := (Below.refl _ _).drew
  replace t2 := t2.below hR
  replace t6 := t6.below hR
  replace s15_0 := s15_0.below hR
  replace s15_1 := s15_1.below hR
  replace s15_2 := s15_2.below hR
  replace s15_3 := s15_3.below hR
  replace t16 := t16.below hR
  replace t20 := t20.below hR
  generalize W20.drew = W21 at *
  refine wpX_t ?_
  try simp only [opsAt, List.getElem?_toArray, List.getElem?_cons_zero, List.getElem?_cons_succ, Option.getD_some]
  repeat (go_big_quiet_step (fail))
  refine wpQuiet_nil ?_
  refine wpX_f rfl rfl (fun K' hK' => ?_)
  go_simp
  have q22 := Own.new (W21) 2 [.int .i64 0, .int .i64 3]
  have hq := ba1 (W21) (.cells #[.int .i64 0, .int .i64 3] 2)
  obtain ⟨B22, hB22⟩ : ∃ B, B = (W21).heap.size := ⟨_, rfl⟩
  rw [← hB22] at q22 ⊢
  clear hB22
  replace t2 := t2.below hq
  replace t6 := t6.below hq
  replace s15_0 := s15_0.below hq
  replace s15_1 := s15_1.below hq
  replace s15_2 := s15_2.below hq
  replace s15_3 := s15_3.below hq
  replace t16 := t16.below hq
  replace t20 := t20.below hq
  replace hR := below_to hR hq
  clear hq
  refine hK' _ _ (grow_of hR) ?_
  clear hK' K'
  generalize (W21).alloc (.cells #[.int .i64 0, .int .i64 3] 2) = W22 at *
  have s22_0 := si_of_own [0, 3] 2 rfl (by decide) q22
  refine wpX_f rfl rfl (fun K' hK' => ?_)
  go_simp
  refine (ints37_any [0, 3] _ _ s22_0 (by decide)).mono ?_
  rintro e W23 ⟨u23, rfl, t23, hq⟩
  replace t2 := t2.below hq
  replace t6 := t6.below hq
  replace s15_0 := s15_0.below hq
  replace s15_1 := s15_1.below hq
  replace s15_2 := s15_2.below hq
  replace s15_3 := s15_3.below hq
  replace t16 := t16.below hq
  replace t20 := t20.below hq
  replace s22_0 := s22_0.below hq
  replace hR := below_to hR hq
  clear hq
  refine hK' _ _ (grow_of hR) ?_
  clear hK' K'
  simp only [List.map] at t23
  clear s22_0
  refine wpX_f rfl rfl (fun K' hK' => ?_)
  go_simp
  refine (nopt_any [[1, 1], [1, 1]] [2, 4] [(0, 1), (3, 1)] _ _ _ _ s15_2 s15_3 t23 (fi_of _ (by decide))).mono ?_
  rintro e W24 ⟨rfl, hq⟩
  replace t2 := t2.below hq
  replace t6 := t6.below hq
  replace s15_0 := s15_0.below hq
  replace s15_1 := s15_1.below hq
  replace s15_2 := s15_2.below hq
  replace s15_3 := s15_3.below hq
  replace t16 := t16.below hq
  replace t20 := t20.below hq
  replace t23 := t23.below hq
  replace hR := below_to hR hq
  clear hq
  refine hK' _ _ (grow_of hR) ?_
  clear hK' K'
  rw [show nOptimal [[1, 1], [1, 1]] [2, 4] [(0, 1), (3, 1)] = (true, 0) from by decide +kernel]
  clear s15_0 s15_1 s15_2 s15_3 o15_4 t23
  refine wpX_nil ?_
  repeat (go_big_quiet_step (fail))
  refine wpQuiet_nil ?_
  clear gl
  clear rX13 fX13 zX13 r15_4 f15_4 z15_4
  replace oX13 := oX13.below hR
  replace hy := below_to hy hR
  clear hR
  obtain ⟨rX13, fX13⟩ := oX13.rules
  have zX13 := oX13.lt
  go_upto_region 9 with fail
  clear rX13 fX13 zX13
  obtain ⟨rX13, fX13⟩ := oX13.rules
  have zX13 := oX13.lt
  have gl := @grow_lt
  refine wp_region_st [.t [0, 1, 2, 3], .f 4, .f 5, .f 6, .t [7, 8, 9, 10, 11, 12, 13, 14, 15, 16, 17], .f 18, .f 19, .f 20, .t [21, 22, 23, 24, 25, 26, 27], .f 28, .t [29, 30, 31, 32, 33, 34, 35, 36], .f 37, .f 38, .f 39, .t [40, 41, 42, 43, 44, 45, 46, 47, 48, 49, 50], .f 51, .f 52, .f 53, .t [54, 55, 56, 57, 58, 59, 60, 61]] [62] (by kernel_rfl) (by kernel_rfl) (fun _ _ _ _ _ h => h) ?_
  have hR : Below W24.heap.size W24 W24.drew := (Below.refl _ _).drew
  replace t2 := t2.below hR
  replace t6 := t6.below hR
  replace t16 := t16.below hR
  replace t20 := t20.below hR
  generalize W24.drew = W25 at *
  refine wpX_t ?_
  try simp only [opsAt, List.getElem?_toArray, List.getElem?_cons_zero, List.getElem?_cons_succ, Option.getD_some]
  repeat (go_big_quiet_step (fail))
  refine wpQuiet_nil ?_
  refine wpX_f rfl rfl (fun K' hK' => ?_)
  go_simp
  have q26 := Own.new (W25) 2 [.int .i64 3, .int .i64 0]
  have hq := ba1 (W25) (.cells #[.int .i64 3, .int .i64 0] 2)
  obtain ⟨B26, hB26⟩ : ∃ B, B = (W25).heap.size := ⟨_, rfl⟩
  rw [← hB26] at q26 ⊢
  clear hB26
  replace t2 := t2.below hq
  replace t6 := t6.below hq
  replace t16 := t16.below hq
  replace t20 := t20.below hq
  replace hR := below_to hR hq
  clear hq
  refine hK' _ _ (grow_of hR) ?_
  clear hK' K'
  generalize (W25).alloc (.cells #[.int .i64 3, .int .i64 0] 2) = W26 at *
  have s26_0 := si_of_own [3, 0] 2 rfl (by decide) q26
  refine wpX_f rfl rfl (fun K' hK' => ?_)
  go_simp
  refine (ints37_any [3, 0] _ _ s26_0 (by decide)).mono ?_
  rintro e W27 ⟨u27, rfl, t27, hq⟩
  replace t2 := t2.below hq
  replace t6 := t6.below hq
  replace t16 := t16.below hq
  replace t20 := t20.below hq
  replace s26_0 := s26_0.below hq
  replace hR := below_to hR hq
  clear hq
  refine hK' _ _ (grow_of hR) ?_
  clear hK' K'
  simp only [List.map] at t27
  clear s26_0
  refine wpX_f rfl rfl (fun K' hK' => ?_)
  go_simp
  refine (rsame_true [(3, 1), (0, 1)] _ _ _ t2 t27).mono ?_
  rintro e W28 ⟨rfl, hq⟩
  replace t2 := t2.below hq
  replace t6 := t6.below hq
  replace t16 := t16.below hq
  replace t20 := t20.below hq
  replace t27 := t27.below hq
  replace hR := below_to hR hq
  clear hq
  refine hK' _ _ (grow_of hR) ?_
  clear hK' K'
  clear t27
  refine wpX_t ?_
  try simp only [opsAt, List.getElem?_toArray, List.getElem?_cons_zero, List.getElem?_cons_succ, Option.getD_some]
  repeat (go_big_quiet_step (fail))
  refine wpQuiet_nil ?_
  refine wpX_f rfl rfl (fun K' hK' => ?_)
  go_simp
  have q29 := Own.new (W28) 2 [.int .i64 0, .int .i64 2]
  have hq := ba1 (W28) (.cells #[.int .i64 0, .int .i64 2] 2)
  obtain ⟨B29, hB29⟩ : ∃ B, B = (W28).heap.size := ⟨_, rfl⟩
  rw [← hB29] at q29 ⊢
  clear hB29
  replace t2 := t2.below hq
  replace t6 := t6.below hq
  replace t16 := t16.below hq
  replace t20 := t20.below hq
  replace hR := below_to hR hq
  clear hq
  refine hK' _ _ (grow_of hR) ?_
  clear hK' K'
  generalize (W28).alloc (.cells #[.int .i64 0, .int .i64 2] 2) = W29 at *
  have s29_0 := si_of_own [0, 2] 2 rfl (by decide) q29
  refine wpX_f rfl rfl (fun K' hK' => ?_)
  go_simp
  refine (ints37_any [0, 2] _ _ s29_0 (by decide)).mono ?_
  rintro e W30 ⟨u30, rfl, t30, hq⟩
  replace t2 := t2.below hq
  replace t6 := t6.below hq
  replace t16 := t16.below hq
  replace t20 := t20.below hq
  replace s29_0 := s29_0.below hq
  replace hR := below_to hR hq
  clear hq
  refine hK' _ _ (grow_of hR) ?_
  clear hK' K'
  simp only [List.map] at t30
  clear t2 s29_0
  refine wpX_f rfl rfl (fun K' hK' => ?_)
  go_simp
  refine (rsame_true [(0, 1), (2, 1)] _ _ _ t6 t30).mono ?_
  rintro e W31 ⟨rfl, hq⟩
  replace t6 := t6.below hq
  replace t16 := t16.below hq
  replace t20 := t20.below hq
  replace t30 := t30.below hq
  replace hR := below_to hR hq
  clear hq
  refine hK' _ _ (grow_of hR) ?_
  clear hK' K'
  clear t6 t30
  refine wpX_t ?_
  try simp only [opsAt, List.getElem?_toArray, List.getElem?_cons_zero, List.getElem?_cons_succ, Option.getD_some]
  repeat (go_big_quiet_step (fail))
  refine wpQuiet_nil ?_
  refine wpX_f rfl rfl (fun K' hK' => ?_)
  go_simp
  refine (rof_any 4 _).mono ?_
  rintro e W32 ⟨rfl, hq⟩
  replace t16 := t16.below hq
  replace t20 := t20.below hq
  replace hR := below_to hR hq
  clear hq
  refine hK' _ _ (grow_of hR) ?_
  clear hK' K'
  refine wpX_t ?_
  try simp only [opsAt, List.getElem?_toArray, List.getElem?_cons_zero, List.getElem?_cons_succ, Option.getD_some]
  repeat (go_big_quiet_step (fail))
  refine wpQuiet_nil ?_
  refine wpX_f rfl rfl (fun K' hK' => ?_)
  go_simp
  have q33 := Own.new (W32) 2 [.int .i64 3, .int .i64 0]
  have hq := ba1 (W32) (.cells #[.int .i64 3, .int .i64 0] 2)
  obtain ⟨B33, hB33⟩ : ∃ B, B = (W32).heap.size := ⟨_, rfl⟩
  rw [← hB33] at q33 ⊢
  clear hB33
  replace t16 := t16.below hq
  replace t20 := t20.below hq
  replace hR := below_to hR hq
  clear hq
  refine hK' _ _ (grow_of hR) ?_
  clear hK' K'
  generalize (W32).alloc (.cells #[.int .i64 3, .int .i64 0] 2) = W33 at *
  have s33_0 := si_of_own [3, 0] 2 rfl (by decide) q33
  refine wpX_f rfl rfl (fun K' hK' => ?_)
  go_simp
  refine (ints37_any [3, 0] _ _ s33_0 (by decide)).mono ?_
  rintro e W34 ⟨u34, rfl, t34, hq⟩
  replace t16 := t16.below hq
  replace t20 := t20.below hq
  replace s33_0 := s33_0.below hq
  replace hR := below_to hR hq
  clear hq
  refine hK' _ _ (grow_of hR) ?_
  clear hK' K'
  simp only [List.map] at t34
  clear oX13 s33_0
  refine wpX_f rfl rfl (fun K' hK' => ?_)
  go_simp
  refine (rsame_true [(3, 1), (0, 1)] _ _ _ t16 t34).mono ?_
  rintro e W35 ⟨rfl, hq⟩
  replace t16 := t16.below hq
  replace t20 := t20.below hq
  replace t34 := t34.below hq
  replace hR := below_to hR hq
  clear hq
  refine hK' _ _ (grow_of hR) ?_
  clear hK' K'
  clear t34
  refine wpX_t ?_
  try simp only [opsAt, List.getElem?_toArray, List.getElem?_cons_zero, List.getElem?_cons_succ, Option.getD_some]
  repeat (go_big_quiet_step (fail))
  refine wpQuiet_nil ?_
  refine wpX_f rfl rfl (fun K' hK' => ?_)
  go_simp
  have q36 := Own.new (W35) 2 [.int .i64 1, .int .i64 (-1)]
  have hq := ba1 (W35) (.cells #[.int .i64 1, .int .i64 (-1)] 2)
  obtain ⟨B36, hB36⟩ : ∃ B, B = (W35).heap.size := ⟨_, rfl⟩
  rw [← hB36] at q36 ⊢
  clear hB36
  replace t16 := t16.below hq
  replace t20 := t20.below hq
  replace hR := below_to hR hq
  clear hq
  refine hK' _ _ (grow_of hR) ?_
  clear hK' K'
  generalize (W35).alloc (.cells #[.int .i64 1, .int .i64 (-1)] 2) = W36 at *
  have s36_0 := si_of_own [1, -1] 2 rfl (by decide) q36
  refine wpX_f rfl rfl (fun K' hK' => ?_)
  go_simp
  refine (ints37_any [1, -1] _ _ s36_0 (by decide)).mono ?_
  rintro e W37 ⟨u37, rfl, t37, hq⟩
  replace t16 := t16.below hq
  replace t20 := t20.below hq
  replace s36_0 := s36_0.below hq
  replace hR := below_to hR hq
  clear hq
  refine hK' _ _ (grow_of hR) ?_
  clear hK' K'
  simp only [List.map] at t37
  clear t16 s36_0
  refine wpX_f rfl rfl (fun K' hK' => ?_)
  go_simp
  refine (rsame_true [(1, 1), (-1, 1)] _ _ _ t20 t37).mono ?_
  rintro e W38 ⟨rfl, hq⟩
  replace t20 := t20.below hq
  replace t37 := t37.below hq
  replace hR := below_to hR hq
  clear hq
  refine hK' _ _ (grow_of hR) ?_
  clear hK' K'
  clear t20 t37
  refine wpX_t ?_
  try simp only [opsAt, List.getElem?_toArray, List.getElem?_cons_zero, List.getElem?_cons_succ, Option.getD_some]
  repeat (go_big_quiet_step (fail))
  refine wpQuiet_nil ?_
  refine wpX_nil ?_
  try simp only [opsAt, List.getElem?_toArray, List.getElem?_cons_zero, List.getElem?_cons_succ, Option.getD_some]
  clear gl
  clear rX13 fX13 zX13
  replace hy := below_to hy hR
  clear hR
  go_wp2
  go_ret
  exact ⟨by first | rfl | simp, hy⟩
end Go.Proofs.Ythlcmlngmcoknaa
