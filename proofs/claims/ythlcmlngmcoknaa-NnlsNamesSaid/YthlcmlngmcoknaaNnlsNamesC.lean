/- What is proved here: the law NnlsNames returns true. No condition. -/
import Derived.Test.YthlcmlngmcoknaaC21
import Derived.Test.YthlcmlngmcoknaaC11
import Derived.Test.YthlcmlngmcoknaaC02
import Derived.Test.YthlcmlngmcoknaaC20
import Derived.Test.YthlcmlngmcoknaaC24
import Derived.Test.YthlcmlngmcoknaaC01
import Derived.Deep.DeepCutAuto
namespace Go.Proofs.Ythlcmlngmcoknaa
open Go.RowKit
set_option linter.unusedVariables false

theorem si_nilat {w : World} {xss : List (List Int)} {n : Nat} (e : xss = List.replicate n []) (i : Nat) (h : i < xss.length) : SI w (.slice none 0 0) xss[i] := by
  subst e
  rw [List.getElem_replicate]
  exact si_nil _
theorem si_slice {w : World} {v : Value} {xs : List Int} {n : Nat} (h : SI w v xs) (hn : xs.length = n) : ∃ ad cap, v = .slice ad n cap := by
  subst hn
  obtain ⟨ad, cap, e, _, _, _⟩ := h.open
  exact ⟨ad, cap, e⟩
theorem ss_slice {w : World} {v : Value} {xss : List (List Int)} {n : Nat} (h : SS w v xss) (hn : xss.length = n) : ∃ ad cap, v = .slice ad n cap := by
  subst hn
  obtain ⟨ad, cap, e, _, _, _⟩ := h.open
  exact ⟨ad, cap, e⟩
theorem wpX_t1 {P : Program} {ops : Array Oper} {Q : Exit → Act → World → Prop} {C : World → Prop} {K : Act → World → Prop} {i : Nat} {o : Oper} {r : List Sg} {a : Act} {w : World} (ho : ops[i]? = some o) (h : wpQuiet P ops C (fun a' => wpX P ops Q C K r a' w) [o] a) : wpX P ops Q C K (.t [i] :: r) a w := by
  refine wpX_t ?_
  rw [show opsAt ops [i] = [o] from by simp [opsAt, ho]]
  exact h
theorem app_get {A B : List Oper} {i j : Nat} (h : A.length + j = i) : (List.append A B).toArray[i]? = B[j]? := by
  subst h
  show (A ++ B).toArray[A.length + j]? = _
  rw [List.getElem?_toArray, List.getElem?_append_right (by omega)]
  congr 1
  omega
theorem wpG_s {P : Program} {ops : Array Oper} {Q : Exit → Act → World → Prop} {C : World → Prop} {K : Act → World → Prop} {l : List Sg} {r : List Ig} {a : Act} {w : World} (h : wpX P ops Q C (fun a' w' => wpG P ops Q C K r a' w') l a w) : wpG P ops Q C K (.s l :: r) a w := h
attribute [local irreducible] wpG wpX
set_option maxRecDepth 100000 in
set_option maxHeartbeats 64000000 in
theorem nnlsNames_any (w : World) : Calls Try.prog 11 #[] w fun e w' => e = .returned (.bool true) ∧ Below w.heap.size w w' := by
  go_enter Try.func11, Try.ntmps11
  have hy := Below.refl w.heap.size w
  go_wp2_with fail
  have q1_0 := ((((Own.new w 3 [.int .i64 1]).alloc (.cells #[.int .i64 1] 3)).alloc (.cells #[.int .i64 1] 3)).alloc (.cells #[.slice (some ⟨w.heap.size, 0, none⟩) 1 1, .slice (some ⟨w.heap.size + 1, 0, none⟩) 1 1, .slice (some ⟨w.heap.size + 1 + 1, 0, none⟩) 1 1] 23)).alloc (.cells #[.int .i64 1, .int .i64 2, .int .i64 6] 3)
  have q1_1 := (((own_second w 3 [.int .i64 1] (.cells #[.int .i64 1] 3)).alloc (.cells #[.int .i64 1] 3)).alloc (.cells #[.slice (some ⟨w.heap.size, 0, none⟩) 1 1, .slice (some ⟨w.heap.size + 1, 0, none⟩) 1 1, .slice (some ⟨w.heap.size + 1 + 1, 0, none⟩) 1 1] 23)).alloc (.cells #[.int .i64 1, .int .i64 2, .int .i64 6] 3)
  have q1_2 := ((own_third w 3 [.int .i64 1] (.cells #[.int .i64 1] 3) (.cells #[.int .i64 1] 3)).alloc (.cells #[.slice (some ⟨w.heap.size, 0, none⟩) 1 1, .slice (some ⟨w.heap.size + 1, 0, none⟩) 1 1, .slice (some ⟨w.heap.size + 1 + 1, 0, none⟩) 1 1] 23)).alloc (.cells #[.int .i64 1, .int .i64 2, .int .i64 6] 3)
  have q1_3 := (own_4th w 23 [.slice (some ⟨w.heap.size, 0, none⟩) 1 1, .slice (some ⟨w.heap.size + 1, 0, none⟩) 1 1, .slice (some ⟨w.heap.size + 1 + 1, 0, none⟩) 1 1] (.cells #[.int .i64 1] 3) (.cells #[.int .i64 1] 3) (.cells #[.int .i64 1] 3)).alloc (.cells #[.int .i64 1, .int .i64 2, .int .i64 6] 3)
  have q1_4 := own_fifth w 3 [.int .i64 1, .int .i64 2, .int .i64 6] (.cells #[.int .i64 1] 3) (.cells #[.int .i64 1] 3) (.cells #[.int .i64 1] 3) (.cells #[.slice (some ⟨w.heap.size, 0, none⟩) 1 1, .slice (some ⟨w.heap.size + 1, 0, none⟩) 1 1, .slice (some ⟨w.heap.size + 1 + 1, 0, none⟩) 1 1] 23)
  have hq := ba5 w (.cells #[.int .i64 1] 3) (.cells #[.int .i64 1] 3) (.cells #[.int .i64 1] 3) (.cells #[.slice (some ⟨w.heap.size, 0, none⟩) 1 1, .slice (some ⟨w.heap.size + 1, 0, none⟩) 1 1, .slice (some ⟨w.heap.size + 1 + 1, 0, none⟩) 1 1] 23) (.cells #[.int .i64 1, .int .i64 2, .int .i64 6] 3)
  replace hy := below_to hy hq
  clear hq
  generalize (((((w.alloc (.cells #[.int .i64 1] 3)).alloc (.cells #[.int .i64 1] 3)).alloc (.cells #[.int .i64 1] 3)).alloc (.cells #[.slice (some ⟨w.heap.size, 0, none⟩) 1 1, .slice (some ⟨w.heap.size + 1, 0, none⟩) 1 1, .slice (some ⟨w.heap.size + 1 + 1, 0, none⟩) 1 1] 23)).alloc (.cells #[.int .i64 1, .int .i64 2, .int .i64 6] 3)) = W1 at *
  obtain ⟨B1, hB1⟩ : ∃ B, B = w.heap.size := ⟨_, rfl⟩
  rw [← hB1] at q1_0 q1_1 q1_2 q1_3 q1_4 ⊢
  clear hB1
  have s1_0 := si_of_own [1] 1 rfl (by decide) q1_0
  have s1_1 := si_of_own [1] 1 rfl (by decide) q1_1
  have s1_2 := si_of_own [1] 1 rfl (by decide) q1_2
  have s1_3 := ss_of_own [[1], [1], [1]] [(.slice (some ⟨B1, 0, none⟩) 1 1), (.slice (some ⟨B1 + 1, 0, none⟩) 1 1), (.slice (some ⟨B1 + 1 + 1, 0, none⟩) 1 1)] 3 rfl rfl (by decide) q1_3 (fun i h h' => by
    match i, h with
    | 0, _ => exact s1_0
    | 1, _ => exact s1_1
    | 2, _ => exact s1_2
    )
  have s1_4 := si_of_own [1, 2, 6] 3 rfl (by decide) q1_4
  refine (nsolve_any [[1], [1], [1]] [1, 2, 6] _ _ _ s1_3 s1_4).mono ?_
  rintro e W2 ⟨u2, rfl, t2, hq⟩
  replace s1_0 := s1_0.below hq
  replace s1_1 := s1_1.below hq
  replace s1_2 := s1_2.below hq
  replace s1_3 := s1_3.below hq
  replace s1_4 := s1_4.below hq
  replace hy := below_to hy hq
  clear hq
  have e2 : nSolve [[1], [1], [1]] [1, 2, 6] 0 = ([(3, 1)], 1, 0) := by decide +kernel
  rw [e2] at t2 ⊢
  clear e2
  clear s1_0 s1_1 s1_2 s1_3 s1_4
  go_wp2_with fail
  have q3_0 := (((Own.new W2 3 [.int .i64 1, .int .i64 2]).alloc (.cells #[.int .i64 1, .int .i64 3] 3)).alloc (.cells #[.slice (some ⟨W2.heap.size, 0, none⟩) 2 2, .slice (some ⟨W2.heap.size + 1, 0, none⟩) 2 2] 23)).alloc (.cells #[.int .i64 (-1), .int .i64 (-5)] 3)
  have q3_1 := ((own_second W2 3 [.int .i64 1, .int .i64 3] (.cells #[.int .i64 1, .int .i64 2] 3)).alloc (.cells #[.slice (some ⟨W2.heap.size, 0, none⟩) 2 2, .slice (some ⟨W2.heap.size + 1, 0, none⟩) 2 2] 23)).alloc (.cells #[.int .i64 (-1), .int .i64 (-5)] 3)
  have q3_2 := (own_third W2 23 [.slice (some ⟨W2.heap.size, 0, none⟩) 2 2, .slice (some ⟨W2.heap.size + 1, 0, none⟩) 2 2] (.cells #[.int .i64 1, .int .i64 2] 3) (.cells #[.int .i64 1, .int .i64 3] 3)).alloc (.cells #[.int .i64 (-1), .int .i64 (-5)] 3)
  have q3_3 := own_4th W2 3 [.int .i64 (-1), .int .i64 (-5)] (.cells #[.int .i64 1, .int .i64 2] 3) (.cells #[.int .i64 1, .int .i64 3] 3) (.cells #[.slice (some ⟨W2.heap.size, 0, none⟩) 2 2, .slice (some ⟨W2.heap.size + 1, 0, none⟩) 2 2] 23)
  have hq := ba4 W2 (.cells #[.int .i64 1, .int .i64 2] 3) (.cells #[.int .i64 1, .int .i64 3] 3) (.cells #[.slice (some ⟨W2.heap.size, 0, none⟩) 2 2, .slice (some ⟨W2.heap.size + 1, 0, none⟩) 2 2] 23) (.cells #[.int .i64 (-1), .int .i64 (-5)] 3)
  replace t2 := t2.below hq
  replace hy := below_to hy hq
  clear hq
  generalize ((((W2.alloc (.cells #[.int .i64 1, .int .i64 2] 3)).alloc (.cells #[.int .i64 1, .int .i64 3] 3)).alloc (.cells #[.slice (some ⟨W2.heap.size, 0, none⟩) 2 2, .slice (some ⟨W2.heap.size + 1, 0, none⟩) 2 2] 23)).alloc (.cells #[.int .i64 (-1), .int .i64 (-5)] 3)) = W3 at *
  obtain ⟨B3, hB3⟩ : ∃ B, B = W2.heap.size := ⟨_, rfl⟩
  rw [← hB3] at q3_0 q3_1 q3_2 q3_3 ⊢
  clear hB3
  have s3_0 := si_of_own [1, 2] 2 rfl (by decide) q3_0
  have s3_1 := si_of_own [1, 3] 2 rfl (by decide) q3_1
  have s3_2 := ss_of_own [[1, 2], [1, 3]] [(.slice (some ⟨B3, 0, none⟩) 2 2), (.slice (some ⟨B3 + 1, 0, none⟩) 2 2)] 2 rfl rfl (by decide) q3_2 (fun i h h' => by
    match i, h with
    | 0, _ => exact s3_0
    | 1, _ => exact s3_1
    )
  have s3_3 := si_of_own [-1, -5] 2 rfl (by decide) q3_3
  refine (nsolve_any [[1, 2], [1, 3]] [-1, -5] _ _ _ s3_2 s3_3).mono ?_
  rintro e W4 ⟨u4, rfl, t4, hq⟩
  replace t2 := t2.below hq
  replace s3_0 := s3_0.below hq
  replace s3_1 := s3_1.below hq
  replace s3_2 := s3_2.below hq
  replace s3_3 := s3_3.below hq
  replace hy := below_to hy hq
  clear hq
  have e4 : nSolve [[1, 2], [1, 3]] [-1, -5] 0 = ([(0, 1), (0, 1)], 0, 0) := by decide +kernel
  rw [e4] at t4 ⊢
  clear e4
  clear s3_0 s3_1 s3_2 s3_3
  go_wp2_with fail
  have q5_0 := (((Own.new W4 3 [.int .i64 1, .int .i64 1]).alloc (.cells #[.int .i64 1, .int .i64 (-1)] 3)).alloc (.cells #[.slice (some ⟨W4.heap.size, 0, none⟩) 2 2, .slice (some ⟨W4.heap.size + 1, 0, none⟩) 2 2] 23)).alloc (.cells #[.int .i64 3, .int .i64 2] 3)
  have q5_1 := ((own_second W4 3 [.int .i64 1, .int .i64 (-1)] (.cells #[.int .i64 1, .int .i64 1] 3)).alloc (.cells #[.slice (some ⟨W4.heap.size, 0, none⟩) 2 2, .slice (some ⟨W4.heap.size + 1, 0, none⟩) 2 2] 23)).alloc (.cells #[.int .i64 3, .int .i64 2] 3)
  have q5_2 := (own_third W4 23 [.slice (some ⟨W4.heap.size, 0, none⟩) 2 2, .slice (some ⟨W4.heap.size + 1, 0, none⟩) 2 2] (.cells #[.int .i64 1, .int .i64 1] 3) (.cells #[.int .i64 1, .int .i64 (-1)] 3)).alloc (.cells #[.int .i64 3, .int .i64 2] 3)
  have q5_3 := own_4th W4 3 [.int .i64 3, .int .i64 2] (.cells #[.int .i64 1, .int .i64 1] 3) (.cells #[.int .i64 1, .int .i64 (-1)] 3) (.cells #[.slice (some ⟨W4.heap.size, 0, none⟩) 2 2, .slice (some ⟨W4.heap.size + 1, 0, none⟩) 2 2] 23)
  have hq := ba4 W4 (.cells #[.int .i64 1, .int .i64 1] 3) (.cells #[.int .i64 1, .int .i64 (-1)] 3) (.cells #[.slice (some ⟨W4.heap.size, 0, none⟩) 2 2, .slice (some ⟨W4.heap.size + 1, 0, none⟩) 2 2] 23) (.cells #[.int .i64 3, .int .i64 2] 3)
  replace t2 := t2.below hq
  replace t4 := t4.below hq
  replace hy := below_to hy hq
  clear hq
  generalize ((((W4.alloc (.cells #[.int .i64 1, .int .i64 1] 3)).alloc (.cells #[.int .i64 1, .int .i64 (-1)] 3)).alloc (.cells #[.slice (some ⟨W4.heap.size, 0, none⟩) 2 2, .slice (some ⟨W4.heap.size + 1, 0, none⟩) 2 2] 23)).alloc (.cells #[.int .i64 3, .int .i64 2] 3)) = W5 at *
  obtain ⟨B5, hB5⟩ : ∃ B, B = W4.heap.size := ⟨_, rfl⟩
  rw [← hB5] at q5_0 q5_1 q5_2 q5_3 ⊢
  clear hB5
  have s5_0 := si_of_own [1, 1] 2 rfl (by decide) q5_0
  have s5_1 := si_of_own [1, -1] 2 rfl (by decide) q5_1
  have s5_2 := ss_of_own [[1, 1], [1, -1]] [(.slice (some ⟨B5, 0, none⟩) 2 2), (.slice (some ⟨B5 + 1, 0, none⟩) 2 2)] 2 rfl rfl (by decide) q5_2 (fun i h h' => by
    match i, h with
    | 0, _ => exact s5_0
    | 1, _ => exact s5_1
    )
  have s5_3 := si_of_own [3, 2] 2 rfl (by decide) q5_3
  refine (nsolve_any [[1, 1], [1, -1]] [3, 2] _ _ _ s5_2 s5_3).mono ?_
  rintro e W6 ⟨u6, rfl, t6, hq⟩
  replace t2 := t2.below hq
  replace t4 := t4.below hq
  replace s5_0 := s5_0.below hq
  replace s5_1 := s5_1.below hq
  replace s5_2 := s5_2.below hq
  replace s5_3 := s5_3.below hq
  replace hy := below_to hy hq
  clear hq
  have e6 : nSolve [[1, 1], [1, -1]] [3, 2] 0 = ([(5, 2), (1, 2)], 3, 0) := by decide +kernel
  rw [e6] at t6 ⊢
  clear e6
  clear s5_0 s5_1 s5_2 s5_3
  go_wp2_with fail
  have q7_0 := (((Own.new W6 3 [.int .i64 0, .int .i64 0]).alloc (.cells #[.int .i64 0, .int .i64 0] 3)).alloc (.cells #[.slice (some ⟨W6.heap.size, 0, none⟩) 2 2, .slice (some ⟨W6.heap.size + 1, 0, none⟩) 2 2] 23)).alloc (.cells #[.int .i64 5, .int .i64 5] 3)
  have q7_1 := ((own_second W6 3 [.int .i64 0, .int .i64 0] (.cells #[.int .i64 0, .int .i64 0] 3)).alloc (.cells #[.slice (some ⟨W6.heap.size, 0, none⟩) 2 2, .slice (some ⟨W6.heap.size + 1, 0, none⟩) 2 2] 23)).alloc (.cells #[.int .i64 5, .int .i64 5] 3)
  have q7_2 := (own_third W6 23 [.slice (some ⟨W6.heap.size, 0, none⟩) 2 2, .slice (some ⟨W6.heap.size + 1, 0, none⟩) 2 2] (.cells #[.int .i64 0, .int .i64 0] 3) (.cells #[.int .i64 0, .int .i64 0] 3)).alloc (.cells #[.int .i64 5, .int .i64 5] 3)
  have q7_3 := own_4th W6 3 [.int .i64 5, .int .i64 5] (.cells #[.int .i64 0, .int .i64 0] 3) (.cells #[.int .i64 0, .int .i64 0] 3) (.cells #[.slice (some ⟨W6.heap.size, 0, none⟩) 2 2, .slice (some ⟨W6.heap.size + 1, 0, none⟩) 2 2] 23)
  have hq := ba4 W6 (.cells #[.int .i64 0, .int .i64 0] 3) (.cells #[.int .i64 0, .int .i64 0] 3) (.cells #[.slice (some ⟨W6.heap.size, 0, none⟩) 2 2, .slice (some ⟨W6.heap.size + 1, 0, none⟩) 2 2] 23) (.cells #[.int .i64 5, .int .i64 5] 3)
  replace t2 := t2.below hq
  replace t4 := t4.below hq
  replace t6 := t6.below hq
  replace hy := below_to hy hq
  clear hq
  generalize ((((W6.alloc (.cells #[.int .i64 0, .int .i64 0] 3)).alloc (.cells #[.int .i64 0, .int .i64 0] 3)).alloc (.cells #[.slice (some ⟨W6.heap.size, 0, none⟩) 2 2, .slice (some ⟨W6.heap.size + 1, 0, none⟩) 2 2] 23)).alloc (.cells #[.int .i64 5, .int .i64 5] 3)) = W7 at *
  obtain ⟨B7, hB7⟩ : ∃ B, B = W6.heap.size := ⟨_, rfl⟩
  rw [← hB7] at q7_0 q7_1 q7_2 q7_3 ⊢
  clear hB7
  have s7_0 := si_of_own [0, 0] 2 rfl (by decide) q7_0
  have s7_1 := si_of_own [0, 0] 2 rfl (by decide) q7_1
  have s7_2 := ss_of_own [[0, 0], [0, 0]] [(.slice (some ⟨B7, 0, none⟩) 2 2), (.slice (some ⟨B7 + 1, 0, none⟩) 2 2)] 2 rfl rfl (by decide) q7_2 (fun i h h' => by
    match i, h with
    | 0, _ => exact s7_0
    | 1, _ => exact s7_1
    )
  have s7_3 := si_of_own [5, 5] 2 rfl (by decide) q7_3
  refine (nsolve_any [[0, 0], [0, 0]] [5, 5] _ _ _ s7_2 s7_3).mono ?_
  rintro e W8 ⟨u8, rfl, t8, hq⟩
  replace t2 := t2.below hq
  replace t4 := t4.below hq
  replace t6 := t6.below hq
  replace s7_0 := s7_0.below hq
  replace s7_1 := s7_1.below hq
  replace s7_2 := s7_2.below hq
  replace s7_3 := s7_3.below hq
  replace hy := below_to hy hq
  clear hq
  have e8 : nSolve [[0, 0], [0, 0]] [5, 5] 0 = ([(0, 1), (0, 1)], 0, 0) := by decide +kernel
  rw [e8] at t8 ⊢
  clear e8
  clear s7_0 s7_1 s7_2 s7_3
  go_wp2_with fail
  have q9_0 := ((Own.new W8 3 [.int .i64 (-1), .int .i64 2]).alloc (.cells #[.slice (some ⟨W8.heap.size, 0, none⟩) 2 2] 23)).alloc (.cells #[.int .i64 3] 3)
  have q9_1 := (own_second W8 23 [.slice (some ⟨W8.heap.size, 0, none⟩) 2 2] (.cells #[.int .i64 (-1), .int .i64 2] 3)).alloc (.cells #[.int .i64 3] 3)
  have q9_2 := own_third W8 3 [.int .i64 3] (.cells #[.int .i64 (-1), .int .i64 2] 3) (.cells #[.slice (some ⟨W8.heap.size, 0, none⟩) 2 2] 23)
  have hq := ba3 W8 (.cells #[.int .i64 (-1), .int .i64 2] 3) (.cells #[.slice (some ⟨W8.heap.size, 0, none⟩) 2 2] 23) (.cells #[.int .i64 3] 3)
  replace t2 := t2.below hq
  replace t4 := t4.below hq
  replace t6 := t6.below hq
  replace t8 := t8.below hq
  replace hy := below_to hy hq
  clear hq
  generalize (((W8.alloc (.cells #[.int .i64 (-1), .int .i64 2] 3)).alloc (.cells #[.slice (some ⟨W8.heap.size, 0, none⟩) 2 2] 23)).alloc (.cells #[.int .i64 3] 3)) = W9 at *
  obtain ⟨B9, hB9⟩ : ∃ B, B = W8.heap.size := ⟨_, rfl⟩
  rw [← hB9] at q9_0 q9_1 q9_2 ⊢
  clear hB9
  have s9_0 := si_of_own [-1, 2] 2 rfl (by decide) q9_0
  have s9_1 := ss_of_own [[-1, 2]] [(.slice (some ⟨B9, 0, none⟩) 2 2)] 1 rfl rfl (by decide) q9_1 (fun i h h' => by
    match i, h with
    | 0, _ => exact s9_0
    )
  have s9_2 := si_of_own [3] 1 rfl (by decide) q9_2
  refine (nsolve_any [[-1, 2]] [3] _ _ _ s9_1 s9_2).mono ?_
  rintro e W10 ⟨u10, rfl, t10, hq⟩
  replace t2 := t2.below hq
  replace t4 := t4.below hq
  replace t6 := t6.below hq
  replace t8 := t8.below hq
  replace s9_0 := s9_0.below hq
  replace s9_1 := s9_1.below hq
  replace s9_2 := s9_2.below hq
  replace hy := below_to hy hq
  clear hq
  have e10 : nSolve [[-1, 2]] [3] 0 = ([(0, 1), (3, 2)], 2, 0) := by decide +kernel
  rw [e10] at t10 ⊢
  clear e10
  clear s9_0 s9_1 s9_2
  go_wp2_with fail
  have q11_0 := Own.new W10 2 [.int .i64 3]
  have hq := ba1 W10 (.cells #[.int .i64 3] 2)
  replace t2 := t2.below hq
  replace t4 := t4.below hq
  replace t6 := t6.below hq
  replace t8 := t8.below hq
  replace t10 := t10.below hq
  replace hy := below_to hy hq
  clear hq
  generalize (W10.alloc (.cells #[.int .i64 3] 2)) = W11 at *
  obtain ⟨B11, hB11⟩ : ∃ B, B = W10.heap.size := ⟨_, rfl⟩
  rw [← hB11] at q11_0 ⊢
  clear hB11
  have s11_0 := si_of_own [3] 1 rfl (by decide) q11_0
  refine (ints37_any [3] _ _ s11_0 (by decide)).mono ?_
  rintro e W12 ⟨u12, rfl, t12, hq⟩
  replace t2 := t2.below hq
  replace t4 := t4.below hq
  replace t6 := t6.below hq
  replace t8 := t8.below hq
  replace t10 := t10.below hq
  replace s11_0 := s11_0.below hq
  replace hy := below_to hy hq
  clear hq
  simp only [List.map] at t12
  clear s11_0
  go_wp2_with fail
  refine (rsame_true [(3, 1)] _ _ _ t2 t12).mono ?_
  rintro e W13 ⟨rfl, hq⟩
  replace t2 := t2.below hq
  replace t4 := t4.below hq
  replace t6 := t6.below hq
  replace t8 := t8.below hq
  replace t10 := t10.below hq
  replace t12 := t12.below hq
  replace hy := below_to hy hq
  clear hq
  clear t12
  go_wp2_with fail
  have q14_0 := Own.new W13 2 [.int .i64 0, .int .i64 0]
  have hq := ba1 W13 (.cells #[.int .i64 0, .int .i64 0] 2)
  replace t2 := t2.below hq
  replace t4 := t4.below hq
  replace t6 := t6.below hq
  replace t8 := t8.below hq
  replace t10 := t10.below hq
  replace hy := below_to hy hq
  clear hq
  generalize (W13.alloc (.cells #[.int .i64 0, .int .i64 0] 2)) = W14 at *
  obtain ⟨B14, hB14⟩ : ∃ B, B = W13.heap.size := ⟨_, rfl⟩
  rw [← hB14] at q14_0 ⊢
  clear hB14
  have s14_0 := si_of_own [0, 0] 2 rfl (by decide) q14_0
  refine (ints37_any [0, 0] _ _ s14_0 (by decide)).mono ?_
  rintro e W15 ⟨u15, rfl, t15, hq⟩
  replace t2 := t2.below hq
  replace t4 := t4.below hq
  replace t6 := t6.below hq
  replace t8 := t8.below hq
  replace t10 := t10.below hq
  replace s14_0 := s14_0.below hq
  replace hy := below_to hy hq
  clear hq
  simp only [List.map] at t15
  clear t2 s14_0
  go_wp2_with fail
  refine (rsame_true [(0, 1), (0, 1)] _ _ _ t4 t15).mono ?_
  rintro e W16 ⟨rfl, hq⟩
  replace t4 := t4.below hq
  replace t6 := t6.below hq
  replace t8 := t8.below hq
  replace t10 := t10.below hq
  replace t15 := t15.below hq
  replace hy := below_to hy hq
  clear hq
  clear t15
  go_wp2_with fail
  have q17_0 := Own.new W16 78 [.int .i64 5, .int .i64 2, .int .i64 1, .int .i64 2]
  have hq := ba1 W16 (.cells #[.int .i64 5, .int .i64 2, .int .i64 1, .int .i64 2] 78)
  replace t4 := t4.below hq
  replace t6 := t6.below hq
  replace t8 := t8.below hq
  replace t10 := t10.below hq
  replace hy := below_to hy hq
  clear hq
  generalize (W16.alloc (.cells #[.int .i64 5, .int .i64 2, .int .i64 1, .int .i64 2] 78)) = W17 at *
  obtain ⟨B17, hB17⟩ : ∃ B, B = W16.heap.size := ⟨_, rfl⟩
  rw [← hB17] at q17_0 ⊢
  clear hB17
  have s17_0 := sf_of_own [(5, 2), (1, 2)] 2 rfl (by decide) q17_0
  refine (rsame_true [(5, 2), (1, 2)] _ _ _ t6 s17_0).mono ?_
  rintro e W18 ⟨rfl, hq⟩
  replace t4 := t4.below hq
  replace t6 := t6.below hq
  replace t8 := t8.below hq
  replace t10 := t10.below hq
  replace s17_0 := s17_0.below hq
  replace hy := below_to hy hq
  clear hq
  clear t4 s17_0
  go_wp2_with fail
  have q19_0 := Own.new W18 2 [.int .i64 0, .int .i64 0]
  have hq := ba1 W18 (.cells #[.int .i64 0, .int .i64 0] 2)
  replace t6 := t6.below hq
  replace t8 := t8.below hq
  replace t10 := t10.below hq
  replace hy := below_to hy hq
  clear hq
  generalize (W18.alloc (.cells #[.int .i64 0, .int .i64 0] 2)) = W19 at *
  obtain ⟨B19, hB19⟩ : ∃ B, B = W18.heap.size := ⟨_, rfl⟩
  rw [← hB19] at q19_0 ⊢
  clear hB19
  have s19_0 := si_of_own [0, 0] 2 rfl (by decide) q19_0
  refine (ints37_any [0, 0] _ _ s19_0 (by decide)).mono ?_
  rintro e W20 ⟨u20, rfl, t20, hq⟩
  replace t6 := t6.below hq
  replace t8 := t8.below hq
  replace t10 := t10.below hq
  replace s19_0 := s19_0.below hq
  replace hy := below_to hy hq
  clear hq
  simp only [List.map] at t20
  clear t6 s19_0
  go_wp2_with fail
  refine (rsame_true [(0, 1), (0, 1)] _ _ _ t8 t20).mono ?_
  rintro e W21 ⟨rfl, hq⟩
  replace t8 := t8.below hq
  replace t10 := t10.below hq
  replace t20 := t20.below hq
  replace hy := below_to hy hq
  clear hq
  clear t20
  go_wp2_with fail
  have q22_0 := Own.new W21 78 [.int .i64 0, .int .i64 1, .int .i64 3, .int .i64 2]
  have hq := ba1 W21 (.cells #[.int .i64 0, .int .i64 1, .int .i64 3, .int .i64 2] 78)
  replace t8 := t8.below hq
  replace t10 := t10.below hq
  replace hy := below_to hy hq
  clear hq
  generalize (W21.alloc (.cells #[.int .i64 0, .int .i64 1, .int .i64 3, .int .i64 2] 78)) = W22 at *
  obtain ⟨B22, hB22⟩ : ∃ B, B = W21.heap.size := ⟨_, rfl⟩
  rw [← hB22] at q22_0 ⊢
  clear hB22
  have s22_0 := sf_of_own [(0, 1), (3, 2)] 2 rfl (by decide) q22_0
  refine (rsame_true [(0, 1), (3, 2)] _ _ _ t10 s22_0).mono ?_
  rintro e W23 ⟨rfl, hq⟩
  replace t8 := t8.below hq
  replace t10 := t10.below hq
  replace s22_0 := s22_0.below hq
  replace hy := below_to hy hq
  clear hq
  clear t8 s22_0
  go_upto_region 8 with fail
  have q24_0 := ((((Own.new W23 3 [.int .i64 1, .int .i64 0]).alloc (.cells #[.int .i64 0, .int .i64 1] 3)).alloc (.cells #[.slice (some ⟨W23.heap.size, 0, none⟩) 2 2, .slice (some ⟨W23.heap.size + 1, 0, none⟩) 2 2] 23)).alloc (.cells #[.int .i64 3, .int .i64 (-2)] 3)).alloc (.cells #[.slice (some ⟨W23.heap.size + 1 + 1, 0, none⟩) 2 2, .slice (some ⟨W23.heap.size + 1 + 1 + 1, 0, none⟩) 2 2] 25)
  have q24_1 := (((own_second W23 3 [.int .i64 0, .int .i64 1] (.cells #[.int .i64 1, .int .i64 0] 3)).alloc (.cells #[.slice (some ⟨W23.heap.size, 0, none⟩) 2 2, .slice (some ⟨W23.heap.size + 1, 0, none⟩) 2 2] 23)).alloc (.cells #[.int .i64 3, .int .i64 (-2)] 3)).alloc (.cells #[.slice (some ⟨W23.heap.size + 1 + 1, 0, none⟩) 2 2, .slice (some ⟨W23.heap.size + 1 + 1 + 1, 0, none⟩) 2 2] 25)
  have q24_2 := ((own_third W23 23 [.slice (some ⟨W23.heap.size, 0, none⟩) 2 2, .slice (some ⟨W23.heap.size + 1, 0, none⟩) 2 2] (.cells #[.int .i64 1, .int .i64 0] 3) (.cells #[.int .i64 0, .int .i64 1] 3)).alloc (.cells #[.int .i64 3, .int .i64 (-2)] 3)).alloc (.cells #[.slice (some ⟨W23.heap.size + 1 + 1, 0, none⟩) 2 2, .slice (some ⟨W23.heap.size + 1 + 1 + 1, 0, none⟩) 2 2] 25)
  have q24_3 := (own_4th W23 3 [.int .i64 3, .int .i64 (-2)] (.cells #[.int .i64 1, .int .i64 0] 3) (.cells #[.int .i64 0, .int .i64 1] 3) (.cells #[.slice (some ⟨W23.heap.size, 0, none⟩) 2 2, .slice (some ⟨W23.heap.size + 1, 0, none⟩) 2 2] 23)).alloc (.cells #[.slice (some ⟨W23.heap.size + 1 + 1, 0, none⟩) 2 2, .slice (some ⟨W23.heap.size + 1 + 1 + 1, 0, none⟩) 2 2] 25)
  have q24_4 := own_fifth W23 25 [.slice (some ⟨W23.heap.size + 1 + 1, 0, none⟩) 2 2, .slice (some ⟨W23.heap.size + 1 + 1 + 1, 0, none⟩) 2 2] (.cells #[.int .i64 1, .int .i64 0] 3) (.cells #[.int .i64 0, .int .i64 1] 3) (.cells #[.slice (some ⟨W23.heap.size, 0, none⟩) 2 2, .slice (some ⟨W23.heap.size + 1, 0, none⟩) 2 2] 23) (.cells #[.int .i64 3, .int .i64 (-2)] 3)
  have hq := ba5 W23 (.cells #[.int .i64 1, .int .i64 0] 3) (.cells #[.int .i64 0, .int .i64 1] 3) (.cells #[.slice (some ⟨W23.heap.size, 0, none⟩) 2 2, .slice (some ⟨W23.heap.size + 1, 0, none⟩) 2 2] 23) (.cells #[.int .i64 3, .int .i64 (-2)] 3) (.cells #[.slice (some ⟨W23.heap.size + 1 + 1, 0, none⟩) 2 2, .slice (some ⟨W23.heap.size + 1 + 1 + 1, 0, none⟩) 2 2] 25)
  replace t10 := t10.below hq
  replace hy := below_to hy hq
  clear hq
  generalize (((((W23.alloc (.cells #[.int .i64 1, .int .i64 0] 3)).alloc (.cells #[.int .i64 0, .int .i64 1] 3)).alloc (.cells #[.slice (some ⟨W23.heap.size, 0, none⟩) 2 2, .slice (some ⟨W23.heap.size + 1, 0, none⟩) 2 2] 23)).alloc (.cells #[.int .i64 3, .int .i64 (-2)] 3)).alloc (.cells #[.slice (some ⟨W23.heap.size + 1 + 1, 0, none⟩) 2 2, .slice (some ⟨W23.heap.size + 1 + 1 + 1, 0, none⟩) 2 2] 25)) = W24 at *
  obtain ⟨B24, hB24⟩ : ∃ B, B = W23.heap.size := ⟨_, rfl⟩
  rw [← hB24] at q24_0 q24_1 q24_2 q24_3 q24_4 ⊢
  clear hB24
  have s24_0 := si_of_own [1, 0] 2 rfl (by decide) q24_0
  have s24_1 := si_of_own [0, 1] 2 rfl (by decide) q24_1
  have s24_2 := ss_of_own [[1, 0], [0, 1]] [(.slice (some ⟨B24, 0, none⟩) 2 2), (.slice (some ⟨B24 + 1, 0, none⟩) 2 2)] 2 rfl rfl (by decide) q24_2 (fun i h h' => by
    match i, h with
    | 0, _ => exact s24_0
    | 1, _ => exact s24_1
    )
  have s24_3 := si_of_own [3, -2] 2 rfl (by decide) q24_3
  have o24_4 := q24_4
  obtain ⟨r24_4, f24_4⟩ := o24_4.rules
  have z24_4 := o24_4.lt
  have gl := @grow_lt
  refine wp_region_stt [.t [0], .f 1, .f 2, .f 3] [4, 5, 6] [7, 8] (by kernel_rfl) (by kernel_rfl) (fun _ _ _ _ _ h => h) ?_
  have hR : Below W24.heap.size W24 W24.drew := (Below.refl _ _).drew
  replace t10 := t10.below hR
  replace s24_0 := s24_0.below hR
  replace s24_1 := s24_1.below hR
  replace s24_2 := s24_2.below hR
  replace s24_3 := s24_3.below hR
  generalize W24.drew = W25 at *
  refine wpX_t ?_
  try simp only [opsAt, List.getElem?_toArray, List.getElem?_cons_zero, List.getElem?_cons_succ, Option.getD_some]
  repeat (go_big_quiet_step (fail))
  refine wpQuiet_nil ?_
  refine wpX_f rfl rfl (fun K' hK' => ?_)
  go_simp
  have q26 := Own.new (W25) 2 [.int .i64 1]
  have hq := ba1 (W25) (.cells #[.int .i64 1] 2)
  obtain ⟨B26, hB26⟩ : ∃ B, B = (W25).heap.size := ⟨_, rfl⟩
  rw [← hB26] at q26 ⊢
  clear hB26
  replace t10 := t10.below hq
  replace s24_0 := s24_0.below hq
  replace s24_1 := s24_1.below hq
  replace s24_2 := s24_2.below hq
  replace s24_3 := s24_3.below hq
  replace hR := below_to hR hq
  clear hq
  refine hK' _ _ (grow_of hR) ?_
  clear hK' K'
  generalize (W25).alloc (.cells #[.int .i64 1] 2) = W26 at *
  have s26_0 := si_of_own [1] 1 rfl (by decide) q26
  refine wpX_f rfl rfl (fun K' hK' => ?_)
  go_simp
  refine (ints37_any [1] _ _ s26_0 (by decide)).mono ?_
  rintro e W27 ⟨u27, rfl, t27, hq⟩
  replace t10 := t10.below hq
  replace s24_0 := s24_0.below hq
  replace s24_1 := s24_1.below hq
  replace s24_2 := s24_2.below hq
  replace s24_3 := s24_3.below hq
  replace s26_0 := s26_0.below hq
  replace hR := below_to hR hq
  clear hq
  refine hK' _ _ (grow_of hR) ?_
  clear hK' K'
  simp only [List.map] at t27
  clear t10 s26_0
  refine wpX_f rfl rfl (fun K' hK' => ?_)
  go_simp
  refine (nresid_any [[1, 0], [0, 1]] [3, -2] [(1, 1)] _ _ _ _ s24_2 s24_3 t27 (fi_of _ (by decide))).mono ?_
  rintro e W28 ⟨u28, rfl, t28, hq⟩
  replace s24_0 := s24_0.below hq
  replace s24_1 := s24_1.below hq
  replace s24_2 := s24_2.below hq
  replace s24_3 := s24_3.below hq
  replace t27 := t27.below hq
  replace hR := below_to hR hq
  clear hq
  refine hK' _ _ (grow_of hR) ?_
  clear hK' K'
  have e28 : nResidual [[1, 0], [0, 1]] [3, -2] [(1, 1)] = ([], 2) := by decide +kernel
  rw [e28] at t28 ⊢
  clear e28
  clear t27
  refine wpX_nil ?_
  try simp only [opsAt, List.getElem?_toArray, List.getElem?_cons_zero, List.getElem?_cons_succ, Option.getD_some]
  repeat (go_big_quiet_step (fail))
  refine wpQuiet_nil ?_
  try simp only [opsAt, List.getElem?_toArray, List.getElem?_cons_zero, List.getElem?_cons_succ, Option.getD_some]
  clear gl
  clear r24_4 f24_4 z24_4
  replace o24_4 := o24_4.below hR
  replace hy := below_to hy hR
  clear hR
  obtain ⟨r24_4, f24_4⟩ := o24_4.rules
  have z24_4 := o24_4.lt
  go_upto_region 9 with fail
  clear r24_4 f24_4 z24_4
  obtain ⟨r24_4, f24_4⟩ := o24_4.rules
  have z24_4 := o24_4.lt
  have gl := @grow_lt
  refine wp_region_stt [.t [0], .f 1, .f 2, .f 3] [4, 5, 6] [7, 8] (by kernel_rfl) (by kernel_rfl) (fun _ _ _ _ _ h => h) ?_
  have hR : Below W28.heap.size W28 W28.drew := (Below.refl _ _).drew
  replace s24_0 := s24_0.below hR
  replace s24_1 := s24_1.below hR
  replace s24_2 := s24_2.below hR
  replace s24_3 := s24_3.below hR
  replace t28 := t28.below hR
  generalize W28.drew = W29 at *
  refine wpX_t ?_
  try simp only [opsAt, List.getElem?_toArray, List.getElem?_cons_zero, List.getElem?_cons_succ, Option.getD_some]
  repeat (go_big_quiet_step (fail))
  refine wpQuiet_nil ?_
  refine wpX_f rfl rfl (fun K' hK' => ?_)
  go_simp
  have q30 := Own.new (W29) 2 [.int .i64 1, .int .i64 (-1)]
  have hq := ba1 (W29) (.cells #[.int .i64 1, .int .i64 (-1)] 2)
  obtain ⟨B30, hB30⟩ : ∃ B, B = (W29).heap.size := ⟨_, rfl⟩
  rw [← hB30] at q30 ⊢
  clear hB30
  replace s24_0 := s24_0.below hq
  replace s24_1 := s24_1.below hq
  replace s24_2 := s24_2.below hq
  replace s24_3 := s24_3.below hq
  replace t28 := t28.below hq
  replace hR := below_to hR hq
  clear hq
  refine hK' _ _ (grow_of hR) ?_
  clear hK' K'
  generalize (W29).alloc (.cells #[.int .i64 1, .int .i64 (-1)] 2) = W30 at *
  have s30_0 := si_of_own [1, -1] 2 rfl (by decide) q30
  refine wpX_f rfl rfl (fun K' hK' => ?_)
  go_simp
  refine (ints37_any [1, -1] _ _ s30_0 (by decide)).mono ?_
  rintro e W31 ⟨u31, rfl, t31, hq⟩
  replace s24_0 := s24_0.below hq
  replace s24_1 := s24_1.below hq
  replace s24_2 := s24_2.below hq
  replace s24_3 := s24_3.below hq
  replace t28 := t28.below hq
  replace s30_0 := s30_0.below hq
  replace hR := below_to hR hq
  clear hq
  refine hK' _ _ (grow_of hR) ?_
  clear hK' K'
  simp only [List.map] at t31
  clear s30_0
  refine wpX_f rfl rfl (fun K' hK' => ?_)
  go_simp
  refine (ngrad_any [[1, 0], [0, 1]] [3, -2] [(1, 1), (-1, 1)] _ _ _ _ s24_2 s24_3 t31 (fi_of _ (by decide))).mono ?_
  rintro e W32 ⟨u32, rfl, t32, hq⟩
  replace s24_0 := s24_0.below hq
  replace s24_1 := s24_1.below hq
  replace s24_2 := s24_2.below hq
  replace s24_3 := s24_3.below hq
  replace t28 := t28.below hq
  replace t31 := t31.below hq
  replace hR := below_to hR hq
  clear hq
  refine hK' _ _ (grow_of hR) ?_
  clear hK' K'
  have e32 : nGradient [[1, 0], [0, 1]] [3, -2] [(1, 1), (-1, 1)] = ([], 2) := by decide +kernel
  rw [e32] at t32 ⊢
  clear e32
  clear t31
  refine wpX_nil ?_
  try simp only [opsAt, List.getElem?_toArray, List.getElem?_cons_zero, List.getElem?_cons_succ, Option.getD_some]
  repeat (go_big_quiet_step (fail))
  refine wpQuiet_nil ?_
  try simp only [opsAt, List.getElem?_toArray, List.getElem?_cons_zero, List.getElem?_cons_succ, Option.getD_some]
  clear gl
  clear r24_4 f24_4 z24_4
  replace o24_4 := o24_4.below hR
  replace hy := below_to hy hR
  clear hR
  obtain ⟨r24_4, f24_4⟩ := o24_4.rules
  have z24_4 := o24_4.lt
  go_wp2_with fail
  clear r24_4 f24_4 z24_4
  have q33_0 := Own.new W32 78 [.int .i64 2, .int .i64 2, .int .i64 0, .int .i64 1]
  have hq := ba1 W32 (.cells #[.int .i64 2, .int .i64 2, .int .i64 0, .int .i64 1] 78)
  replace s24_0 := s24_0.below hq
  replace s24_1 := s24_1.below hq
  replace s24_2 := s24_2.below hq
  replace s24_3 := s24_3.below hq
  replace o24_4 := o24_4.below hq
  replace t28 := t28.below hq
  replace t32 := t32.below hq
  replace hy := below_to hy hq
  clear hq
  generalize (W32.alloc (.cells #[.int .i64 2, .int .i64 2, .int .i64 0, .int .i64 1] 78)) = W33 at *
  obtain ⟨B33, hB33⟩ : ∃ B, B = W32.heap.size := ⟨_, rfl⟩
  rw [← hB33] at q33_0 ⊢
  clear hB33
  have s33_0 := sf_of_own [(2, 2), (0, 1)] 2 rfl (by decide) q33_0
  refine (nval_any [[1, 0], [0, 1]] [3, -2] [(2, 2), (0, 1)] _ _ _ _ s24_2 s24_3 s33_0 (fi_of _ (by decide))).mono ?_
  rintro e W34 ⟨rfl, hq⟩
  replace s24_0 := s24_0.below hq
  replace s24_1 := s24_1.below hq
  replace s24_2 := s24_2.below hq
  replace s24_3 := s24_3.below hq
  replace o24_4 := o24_4.below hq
  replace t28 := t28.below hq
  replace t32 := t32.below hq
  replace s33_0 := s33_0.below hq
  replace hy := below_to hy hq
  clear hq
  rw [show nValue [[1, 0], [0, 1]] [3, -2] [(2, 2), (0, 1)] = ⟨0, 0, 2⟩ from fr_is (by decide +kernel)]
  clear s33_0
  obtain ⟨r24_4, f24_4⟩ := o24_4.rules
  have z24_4 := o24_4.lt
  go_upto_region 11 with fail
  clear r24_4 f24_4 z24_4
  have q35_0 := Own.new W34 78 [.int .i64 0, .int .i64 0]
  have hq := ba1 W34 (.cells #[.int .i64 0, .int .i64 0] 78)
  replace s24_0 := s24_0.below hq
  replace s24_1 := s24_1.below hq
  replace s24_2 := s24_2.below hq
  replace s24_3 := s24_3.below hq
  replace o24_4 := o24_4.below hq
  replace t28 := t28.below hq
  replace t32 := t32.below hq
  replace hy := below_to hy hq
  clear hq
  generalize (W34.alloc (.cells #[.int .i64 0, .int .i64 0] 78)) = W35 at *
  obtain ⟨B35, hB35⟩ : ∃ B, B = W34.heap.size := ⟨_, rfl⟩
  rw [← hB35] at q35_0 ⊢
  clear hB35
  have o35_0 := q35_0
  obtain ⟨r24_4, f24_4⟩ := o24_4.rules
  have z24_4 := o24_4.lt
  obtain ⟨r35_0, f35_0⟩ := o35_0.rules
  have z35_0 := o35_0.lt
  have gl := @grow_lt
  refine wp_region_stt [.t [0], .f 1, .f 2, .f 3] [4, 5, 6] [7, 8] (by kernel_rfl) (by kernel_rfl) (fun _ _ _ _ _ h => h) ?_
  have hR : Below W35.heap.size W35 W35.drew := (Below.refl _ _).drew
  replace s24_0 := s24_0.below hR
  replace s24_1 := s24_1.below hR
  replace s24_2 := s24_2.below hR
  replace s24_3 := s24_3.below hR
  replace t28 := t28.below hR
  replace t32 := t32.below hR
  generalize W35.drew = W36 at *
  refine wpX_t ?_
  try simp only [opsAt, List.getElem?_toArray, List.getElem?_cons_zero, List.getElem?_cons_succ, Option.getD_some]
  repeat (go_big_quiet_step (fail))
  refine wpQuiet_nil ?_
  refine wpX_f rfl rfl (fun K' hK' => ?_)
  go_simp
  have q37 := Own.new (W36) 2 [.int .i64 2, .int .i64 0]
  have hq := ba1 (W36) (.cells #[.int .i64 2, .int .i64 0] 2)
  obtain ⟨B37, hB37⟩ : ∃ B, B = (W36).heap.size := ⟨_, rfl⟩
  rw [← hB37] at q37 ⊢
  clear hB37
  replace s24_0 := s24_0.below hq
  replace s24_1 := s24_1.below hq
  replace s24_2 := s24_2.below hq
  replace s24_3 := s24_3.below hq
  replace t28 := t28.below hq
  replace t32 := t32.below hq
  replace hR := below_to hR hq
  clear hq
  refine hK' _ _ (grow_of hR) ?_
  clear hK' K'
  generalize (W36).alloc (.cells #[.int .i64 2, .int .i64 0] 2) = W37 at *
  have s37_0 := si_of_own [2, 0] 2 rfl (by decide) q37
  refine wpX_f rfl rfl (fun K' hK' => ?_)
  go_simp
  refine (ints37_any [2, 0] _ _ s37_0 (by decide)).mono ?_
  rintro e W38 ⟨u38, rfl, t38, hq⟩
  replace s24_0 := s24_0.below hq
  replace s24_1 := s24_1.below hq
  replace s24_2 := s24_2.below hq
  replace s24_3 := s24_3.below hq
  replace t28 := t28.below hq
  replace t32 := t32.below hq
  replace s37_0 := s37_0.below hq
  replace hR := below_to hR hq
  clear hq
  refine hK' _ _ (grow_of hR) ?_
  clear hK' K'
  simp only [List.map] at t38
  clear o35_0 s37_0
  refine wpX_f rfl rfl (fun K' hK' => ?_)
  go_simp
  refine (nopt_any [[1, 0], [0, 1]] [3, -2] [(2, 1), (0, 1)] _ _ _ _ s24_2 s24_3 t38 (fi_of _ (by decide))).mono ?_
  rintro e W39 ⟨rfl, hq⟩
  replace s24_0 := s24_0.below hq
  replace s24_1 := s24_1.below hq
  replace s24_2 := s24_2.below hq
  replace s24_3 := s24_3.below hq
  replace t28 := t28.below hq
  replace t32 := t32.below hq
  replace t38 := t38.below hq
  replace hR := below_to hR hq
  clear hq
  refine hK' _ _ (grow_of hR) ?_
  clear hK' K'
  rw [show nOptimal [[1, 0], [0, 1]] [3, -2] [(2, 1), (0, 1)] = (false, 0) from by decide +kernel]
  clear t38
  refine wpX_nil ?_
  try simp only [opsAt, List.getElem?_toArray, List.getElem?_cons_zero, List.getElem?_cons_succ, Option.getD_some]
  repeat (go_big_quiet_step (fail))
  refine wpQuiet_nil ?_
  try simp only [opsAt, List.getElem?_toArray, List.getElem?_cons_zero, List.getElem?_cons_succ, Option.getD_some]
  clear gl
  clear r24_4 f24_4 z24_4 r35_0 f35_0 z35_0
  replace o24_4 := o24_4.below hR
  replace hy := below_to hy hR
  clear hR
  obtain ⟨r24_4, f24_4⟩ := o24_4.rules
  have z24_4 := o24_4.lt
  go_wp2_with fail
  clear r24_4 f24_4 z24_4
  have q40_0 := (((Own.new W39 78 [.int .i64 1000000000000000000, .int .i64 1, .int .i64 0, .int .i64 1]).alloc (.cells #[.int .i64 2, .int .i64 0] 3)).alloc (.cells #[.slice (some ⟨W39.heap.size + 1, 0, none⟩) 2 2] 23)).alloc (.cells #[.int .i64 0] 3)
  have q40_1 := ((own_second W39 3 [.int .i64 2, .int .i64 0] (.cells #[.int .i64 1000000000000000000, .int .i64 1, .int .i64 0, .int .i64 1] 78)).alloc (.cells #[.slice (some ⟨W39.heap.size + 1, 0, none⟩) 2 2] 23)).alloc (.cells #[.int .i64 0] 3)
  have q40_2 := (own_third W39 23 [.slice (some ⟨W39.heap.size + 1, 0, none⟩) 2 2] (.cells #[.int .i64 1000000000000000000, .int .i64 1, .int .i64 0, .int .i64 1] 78) (.cells #[.int .i64 2, .int .i64 0] 3)).alloc (.cells #[.int .i64 0] 3)
  have q40_3 := own_4th W39 3 [.int .i64 0] (.cells #[.int .i64 1000000000000000000, .int .i64 1, .int .i64 0, .int .i64 1] 78) (.cells #[.int .i64 2, .int .i64 0] 3) (.cells #[.slice (some ⟨W39.heap.size + 1, 0, none⟩) 2 2] 23)
  have hq := ba4 W39 (.cells #[.int .i64 1000000000000000000, .int .i64 1, .int .i64 0, .int .i64 1] 78) (.cells #[.int .i64 2, .int .i64 0] 3) (.cells #[.slice (some ⟨W39.heap.size + 1, 0, none⟩) 2 2] 23) (.cells #[.int .i64 0] 3)
  replace s24_0 := s24_0.below hq
  replace s24_1 := s24_1.below hq
  replace s24_2 := s24_2.below hq
  replace s24_3 := s24_3.below hq
  replace o24_4 := o24_4.below hq
  replace t28 := t28.below hq
  replace t32 := t32.below hq
  replace hy := below_to hy hq
  clear hq
  generalize ((((W39.alloc (.cells #[.int .i64 1000000000000000000, .int .i64 1, .int .i64 0, .int .i64 1] 78)).alloc (.cells #[.int .i64 2, .int .i64 0] 3)).alloc (.cells #[.slice (some ⟨W39.heap.size + 1, 0, none⟩) 2 2] 23)).alloc (.cells #[.int .i64 0] 3)) = W40 at *
  obtain ⟨B40, hB40⟩ : ∃ B, B = W39.heap.size := ⟨_, rfl⟩
  rw [← hB40] at q40_0 q40_1 q40_2 q40_3 ⊢
  clear hB40
  have s40_0 := sf_of_own [(1000000000000000000, 1), (0, 1)] 2 rfl (by decide) q40_0
  have s40_1 := si_of_own [2, 0] 2 rfl (by decide) q40_1
  have s40_2 := ss_of_own [[2, 0]] [(.slice (some ⟨B40 + 1, 0, none⟩) 2 2)] 1 rfl rfl (by decide) q40_2 (fun i h h' => by
    match i, h with
    | 0, _ => exact s40_1
    )
  have s40_3 := si_of_own [0] 1 rfl (by decide) q40_3
  refine (nresid_any [[2, 0]] [0] [(1000000000000000000, 1), (0, 1)] _ _ _ _ s40_2 s40_3 s40_0 (fi_of _ (by decide))).mono ?_
  rintro e W41 ⟨u41, rfl, t41, hq⟩
  replace s24_0 := s24_0.below hq
  replace s24_1 := s24_1.below hq
  replace s24_2 := s24_2.below hq
  replace s24_3 := s24_3.below hq
  replace o24_4 := o24_4.below hq
  replace t28 := t28.below hq
  replace t32 := t32.below hq
  replace s40_0 := s40_0.below hq
  replace s40_1 := s40_1.below hq
  replace s40_2 := s40_2.below hq
  replace s40_3 := s40_3.below hq
  replace hy := below_to hy hq
  clear hq
  have e41 : nResidual [[2, 0]] [0] [(1000000000000000000, 1), (0, 1)] = ([], 16) := by decide +kernel
  rw [e41] at t41 ⊢
  clear e41
  clear s40_1 s40_2 s40_3
  obtain ⟨r24_4, f24_4⟩ := o24_4.rules
  have z24_4 := o24_4.lt
  go_wp2_with fail
  clear r24_4 f24_4 z24_4
  refine (nval_any [[1, 0], [0, 1]] [3, -2] [(1000000000000000000, 1), (0, 1)] _ _ _ _ s24_2 s24_3 s40_0 (fi_of _ (by decide))).mono ?_
  rintro e W42 ⟨rfl, hq⟩
  replace s24_0 := s24_0.below hq
  replace s24_1 := s24_1.below hq
  replace s24_2 := s24_2.below hq
  replace s24_3 := s24_3.below hq
  replace o24_4 := o24_4.below hq
  replace t28 := t28.below hq
  replace t32 := t32.below hq
  replace s40_0 := s40_0.below hq
  replace t41 := t41.below hq
  replace hy := below_to hy hq
  clear hq
  rw [show nValue [[1, 0], [0, 1]] [3, -2] [(1000000000000000000, 1), (0, 1)] = ⟨0, 0, 16⟩ from fr_is (by decide +kernel)]
  clear s24_0 s24_1 s24_2 s24_3 o24_4 s40_0
  go_wp2_with fail
  have q43_0 := Own.new W42 78 [.int .i64 0, .int .i64 0]
  have hq := ba1 W42 (.cells #[.int .i64 0, .int .i64 0] 78)
  replace t28 := t28.below hq
  replace t32 := t32.below hq
  replace t41 := t41.below hq
  replace hy := below_to hy hq
  clear hq
  generalize (W42.alloc (.cells #[.int .i64 0, .int .i64 0] 78)) = W43 at *
  obtain ⟨B43, hB43⟩ : ∃ B, B = W42.heap.size := ⟨_, rfl⟩
  rw [← hB43] at q43_0 ⊢
  clear hB43
  have o43_0 := q43_0
  refine (nsolve_any [] [] _ _ _ (ss_nil _) (si_nil _)).mono ?_
  rintro e W44 ⟨u44, rfl, t44, hq⟩
  replace t28 := t28.below hq
  replace t32 := t32.below hq
  replace t41 := t41.below hq
  replace o43_0 := o43_0.below hq
  replace hy := below_to hy hq
  clear hq
  have e44 : nSolve [] [] 0 = ([], 0, 8) := by decide +kernel
  rw [e44] at t44 ⊢
  clear e44
  clear o43_0
  go_upto_region 16 with fail
  have K_t28 := Lib.hid t28
  have K_t32 := Lib.hid t32
  have K_t41 := Lib.hid t41
  have K_t44 := Lib.hid t44
  clear t28 t32 t41 t44
  refine wp_region_g [.g [0, 1], .s [.f 2, .f 3, .f 4, .f 5], .g [6, 7, 8], .s [.f 9, .f 10, .f 11, .f 12, .f 13], .g [14, 15, 16], .s [.f 17, .f 18, .f 19, .f 20, .f 21], .g [22, 23, 24], .s [.f 25, .f 26, .f 27, .f 28, .f 29], .g [30, 31, 32], .s [.f 33, .f 34, .f 35, .f 36, .f 37], .g [38, 39, 40, 41], .s [.f 42, .f 43, .f 44, .f 45, .f 46], .g [47, 48, 49], .s [.f 50, .f 51, .f 52, .f 53, .f 54], .g [55, 56, 57], .s [.f 58, .f 59, .f 60, .f 61, .f 62], .g [63, 64, 65, 66, 67, 68, 69], .s [.f 70, .f 71, .f 72, .f 73]] _ [74] (by kernel_rfl) rfl (by kernel_rfl) (by kernel_rfl) (by kernel_rfl) (fun _ _ _ _ _ h => h) ?_
  have hR : Below W44.heap.size W44 W44.drew := (Below.refl _ _).drew
  refine wp_groupT [(0, .r [[], [], [], [], [], []]), (1, .i [0, 0, 0, 0, 0])] (by kernel_rfl) (by first | rfl | kernel_rfl) ?_ ?_
  · intro k g hm b w' hb hbs hdep hoth K' hK'
    simp only [List.mem_cons, Prod.mk.injEq, List.not_mem_nil, or_false] at hm
    rcases hm with ⟨rfl, rfl⟩ | ⟨rfl, rfl⟩
    · have MK := mk_rowz 6 (by decide) w'
      refine wpOp_in rfl (wanted_free rfl) ?_
      refine wp_made rfl MK ?_
      refine hK' _ _ (fun g' hg' => ?_) (ba1 w' _)
      obtain rfl : g' = .r [[], [], [], [], [], []] := by simpa using hg'
      exact ss_of_own [[], [], [], [], [], []] (List.replicate 6 (.slice none 0 0)) 6 rfl rfl (by decide) (Own.new w' 23 (List.replicate 6 (.slice none 0 0))) (fun i h h' => by rw [List.getElem_replicate]; exact si_nilat (n := 6) rfl i h)
    · have MK := mk_ints 5 (by decide) w'
      refine wpOp_in rfl (wanted_free rfl) ?_
      refine wp_made rfl MK ?_
      refine hK' _ _ (fun g' hg' => ?_) (ba1 w' _)
      obtain rfl : g' = .i [0, 0, 0, 0, 0] := by simpa using hg'
      exact si_of_own [0, 0, 0, 0, 0] 5 rfl (by decide) (Own.new w' 3 (ics (List.replicate 5 0)))
  intro e W45 he hf hb
  obtain ⟨g45_0, g45_1, rfl⟩ := keys2 he
  have f45_0 : SS W45 g45_0 [[], [], [], [], [], []] := hf (0, g45_0) (by simp) (.r [[], [], [], [], [], []]) (by simp)
  have f45_1 : SI W45 g45_1 [0, 0, 0, 0, 0] := hf (1, g45_1) (by simp) (.i [0, 0, 0, 0, 0]) (by simp)
  clear hf he
  replace hR := below_to hR hb
  clear hb
  obtain ⟨pa45A, pc45A, ea⟩ := ss_slice (n := 6) f45_0 rfl
  subst ea
  obtain ⟨pa45B, pc45B, ea⟩ := si_slice (n := 5) f45_1 rfl
  subst ea
  refine wpG_putD [213, 214] rfl ?_
  simp only [putD]
  refine wpG_s ?_
  refine wpX_f rfl (by kernel_rfl) (fun K' hK' => ?_)
  go_simp
  refine hK' _ _ (grow_of hR) ?_
  clear hK' K'
  refine wpX_f rfl (by kernel_rfl) (fun K' hK' => ?_)
  go_simp
  refine (ncheck_any [[], [], [], [], [], []] [0, 0, 0, 0, 0] _ _ _ f45_0 f45_1).mono ?_
  rintro e W46 ⟨rfl, hq⟩
  rw [show ncheck [[], [], [], [], [], []] [0, 0, 0, 0, 0] = 4 from by decide +kernel]
  replace hR := below_to hR hq
  clear hq
  clear f45_0 f45_1
  refine hK' _ _ (grow_of hR) ?_
  clear hK' K'
  refine wpX_f rfl (by kernel_rfl) (fun K' hK' => ?_)
  go_simp
  refine hK' _ _ (grow_of hR) ?_
  clear hK' K'
  refine wpX_f rfl (by kernel_rfl) (fun K' hK' => ?_)
  go_simp
  refine hK' _ _ (grow_of hR) ?_
  clear hK' K'
  refine wpX_nil ?_
  refine wp_groupT [(6, .i [1]), (7, .r [[1]]), (8, .i [0, 0, 0, 0, 0, 0])] (by kernel_rfl) (by first | rfl | kernel_rfl) ?_ ?_
  · intro k g hm b w' hb hbs hdep hoth K' hK'
    simp only [List.mem_cons, Prod.mk.injEq, List.not_mem_nil, or_false] at hm
    have hgd : b.tmps[218]? = some (.bool true) := (hoth 218 (by decide +kernel)).trans rfl
    rcases hm with ⟨rfl, rfl⟩ | ⟨rfl, rfl⟩ | ⟨rfl, rfl⟩
    · refine wpOp_in rfl (wanted_guard rfl rfl hgd) ?_
      go_simp
      refine hK' _ _ (fun g' hg' => ?_) (ba1 w' (.cells #[.int .i64 1] 3))
      obtain rfl : g' = .i [1] := by simpa using hg'
      exact si_of_own [1] 1 rfl (by decide) (Own.new w' 3 [.int .i64 1])
    · skip
      obtain ⟨p0, hp0, ho0⟩ := hdep 6 (.i [1]) 219 (by simp) (by kernel_rfl) rfl
      replace ho0 : SI w' p0 [1] := ho0
      obtain ⟨pa0, pc0, e0⟩ := si_slice (n := 1) ho0 rfl
      subst e0
      replace hp0 := eval_slot hp0
      refine wpOp_hold rfl (wanted_guard rfl rfl hgd) (exec_buildC (parts' := #[(0, Value.slice pa0 1 pc0)]) (w' := w'.alloc (.cells #[.slice pa0 1 pc0] 23)) (v := .slice (some ⟨w'.heap.size, 0, none⟩) 1 1) rfl (by simp [hp0]) (by simp [go_sem])) ?_
      refine hK' _ _ (fun g' hg' => ?_) (ba1 w' (.cells #[.slice pa0 1 pc0] 23))
      obtain rfl : g' = .r [[1]] := by simpa using hg'
      have hq := ba1 w' (.cells #[.slice pa0 1 pc0] 23)
      exact ss_of_own [[1]] [.slice pa0 1 pc0] 1 rfl rfl (by decide) (Own.new w' 23 [.slice pa0 1 pc0]) (fun i h h' => by
        match i, h with
        | 0, _ => exact ho0.below hq
        )
    · have MK := mk_ints 6 (by decide) w'
      refine wpOp_in rfl (wanted_guard rfl rfl hgd) ?_
      refine wp_made rfl MK ?_
      refine hK' _ _ (fun g' hg' => ?_) (ba1 w' _)
      obtain rfl : g' = .i [0, 0, 0, 0, 0, 0] := by simpa using hg'
      exact si_of_own [0, 0, 0, 0, 0, 0] 6 rfl (by decide) (Own.new w' 3 (ics (List.replicate 6 0)))
  intro e W47 he hf hb
  obtain ⟨g47_6, g47_7, g47_8, rfl⟩ := keys3 he
  have f47_6 : SI W47 g47_6 [1] := hf (6, g47_6) (by simp) (.i [1]) (by simp)
  have f47_7 : SS W47 g47_7 [[1]] := hf (7, g47_7) (by simp) (.r [[1]]) (by simp)
  have f47_8 : SI W47 g47_8 [0, 0, 0, 0, 0, 0] := hf (8, g47_8) (by simp) (.i [0, 0, 0, 0, 0, 0]) (by simp)
  clear hf he
  replace hR := below_to hR hb
  clear hb
  obtain ⟨pa47A, pc47A, ea⟩ := ss_slice (n := 1) f47_7 rfl
  subst ea
  obtain ⟨pa47B, pc47B, ea⟩ := si_slice (n := 6) f47_8 rfl
  subst ea
  refine wpG_putD [219, 220, 221] rfl ?_
  simp only [putD]
  refine wpG_s ?_
  refine wpX_f rfl (by kernel_rfl) (fun K' hK' => ?_)
  go_simp
  refine hK' _ _ (grow_of hR) ?_
  clear hK' K'
  refine wpX_f rfl (by kernel_rfl) (fun K' hK' => ?_)
  go_simp
  refine (ncheck_any [[1]] [0, 0, 0, 0, 0, 0] _ _ _ f47_7 f47_8).mono ?_
  rintro e W48 ⟨rfl, hq⟩
  rw [show ncheck [[1]] [0, 0, 0, 0, 0, 0] = 4 from by decide +kernel]
  replace hR := below_to hR hq
  clear hq
  clear f47_6 f47_7 f47_8
  refine hK' _ _ (grow_of hR) ?_
  clear hK' K'
  refine wpX_f rfl (by kernel_rfl) (fun K' hK' => ?_)
  go_simp
  refine hK' _ _ (grow_of hR) ?_
  clear hK' K'
  refine wpX_f rfl (by kernel_rfl) (fun K' hK' => ?_)
  go_simp
  refine hK' _ _ (grow_of hR) ?_
  clear hK' K'
  refine wpX_f rfl (by kernel_rfl) (fun K' hK' => ?_)
  go_simp
  refine hK' _ _ (grow_of hR) ?_
  clear hK' K'
  refine wpX_nil ?_
  refine wp_groupT [(14, .i [0, 0, 0, 0]), (15, .r [[0, 0, 0, 0]]), (16, .i [1])] (by kernel_rfl) (by first | rfl | kernel_rfl) ?_ ?_
  · intro k g hm b w' hb hbs hdep hoth K' hK'
    simp only [List.mem_cons, Prod.mk.injEq, List.not_mem_nil, or_false] at hm
    have hgd : b.tmps[226]? = some (.bool true) := (hoth 226 (by decide +kernel)).trans rfl
    rcases hm with ⟨rfl, rfl⟩ | ⟨rfl, rfl⟩ | ⟨rfl, rfl⟩
    · have MK := mk_ints 4 (by decide) w'
      refine wpOp_in rfl (wanted_guard rfl rfl hgd) ?_
      refine wp_made rfl MK ?_
      refine hK' _ _ (fun g' hg' => ?_) (ba1 w' _)
      obtain rfl : g' = .i [0, 0, 0, 0] := by simpa using hg'
      exact si_of_own [0, 0, 0, 0] 4 rfl (by decide) (Own.new w' 3 (ics (List.replicate 4 0)))
    · skip
      obtain ⟨p0, hp0, ho0⟩ := hdep 14 (.i [0, 0, 0, 0]) 227 (by simp) (by kernel_rfl) rfl
      replace ho0 : SI w' p0 [0, 0, 0, 0] := ho0
      obtain ⟨pa0, pc0, e0⟩ := si_slice (n := 4) ho0 rfl
      subst e0
      replace hp0 := eval_slot hp0
      refine wpOp_hold rfl (wanted_guard rfl rfl hgd) (exec_buildC (parts' := #[(0, Value.slice pa0 4 pc0)]) (w' := w'.alloc (.cells #[.slice pa0 4 pc0] 23)) (v := .slice (some ⟨w'.heap.size, 0, none⟩) 1 1) rfl (by simp [hp0]) (by simp [go_sem])) ?_
      refine hK' _ _ (fun g' hg' => ?_) (ba1 w' (.cells #[.slice pa0 4 pc0] 23))
      obtain rfl : g' = .r [[0, 0, 0, 0]] := by simpa using hg'
      have hq := ba1 w' (.cells #[.slice pa0 4 pc0] 23)
      exact ss_of_own [[0, 0, 0, 0]] [.slice pa0 4 pc0] 1 rfl rfl (by decide) (Own.new w' 23 [.slice pa0 4 pc0]) (fun i h h' => by
        match i, h with
        | 0, _ => exact ho0.below hq
        )
    · refine wpOp_in rfl (wanted_guard rfl rfl hgd) ?_
      go_simp
      refine hK' _ _ (fun g' hg' => ?_) (ba1 w' (.cells #[.int .i64 1] 3))
      obtain rfl : g' = .i [1] := by simpa using hg'
      exact si_of_own [1] 1 rfl (by decide) (Own.new w' 3 [.int .i64 1])
  intro e W49 he hf hb
  obtain ⟨g49_14, g49_15, g49_16, rfl⟩ := keys3 he
  have f49_14 : SI W49 g49_14 [0, 0, 0, 0] := hf (14, g49_14) (by simp) (.i [0, 0, 0, 0]) (by simp)
  have f49_15 : SS W49 g49_15 [[0, 0, 0, 0]] := hf (15, g49_15) (by simp) (.r [[0, 0, 0, 0]]) (by simp)
  have f49_16 : SI W49 g49_16 [1] := hf (16, g49_16) (by simp) (.i [1]) (by simp)
  clear hf he
  replace hR := below_to hR hb
  clear hb
  obtain ⟨pa49A, pc49A, ea⟩ := ss_slice (n := 1) f49_15 rfl
  subst ea
  obtain ⟨pa49B, pc49B, ea⟩ := si_slice (n := 1) f49_16 rfl
  subst ea
  refine wpG_putD [227, 228, 229] rfl ?_
  simp only [putD]
  refine wpG_s ?_
  refine wpX_f rfl (by kernel_rfl) (fun K' hK' => ?_)
  go_simp
  refine hK' _ _ (grow_of hR) ?_
  clear hK' K'
  refine wpX_f rfl (by kernel_rfl) (fun K' hK' => ?_)
  go_simp
  refine (ncheck_any [[0, 0, 0, 0]] [1] _ _ _ f49_15 f49_16).mono ?_
  rintro e W50 ⟨rfl, hq⟩
  rw [show ncheck [[0, 0, 0, 0]] [1] = 4 from by decide +kernel]
  replace hR := below_to hR hq
  clear hq
  clear f49_14 f49_15 f49_16
  refine hK' _ _ (grow_of hR) ?_
  clear hK' K'
  refine wpX_f rfl (by kernel_rfl) (fun K' hK' => ?_)
  go_simp
  refine hK' _ _ (grow_of hR) ?_
  clear hK' K'
  refine wpX_f rfl (by kernel_rfl) (fun K' hK' => ?_)
  go_simp
  refine hK' _ _ (grow_of hR) ?_
  clear hK' K'
  refine wpX_f rfl (by kernel_rfl) (fun K' hK' => ?_)
  go_simp
  refine hK' _ _ (grow_of hR) ?_
  clear hK' K'
  refine wpX_nil ?_
  refine wp_groupT [(22, .i [1]), (23, .r [[1]]), (24, .i [1, 2])] (by kernel_rfl) (by first | rfl | kernel_rfl) ?_ ?_
  · intro k g hm b w' hb hbs hdep hoth K' hK'
    simp only [List.mem_cons, Prod.mk.injEq, List.not_mem_nil, or_false] at hm
    have hgd : b.tmps[234]? = some (.bool true) := (hoth 234 (by decide +kernel)).trans rfl
    rcases hm with ⟨rfl, rfl⟩ | ⟨rfl, rfl⟩ | ⟨rfl, rfl⟩
    · refine wpOp_in rfl (wanted_guard rfl rfl hgd) ?_
      go_simp
      refine hK' _ _ (fun g' hg' => ?_) (ba1 w' (.cells #[.int .i64 1] 3))
      obtain rfl : g' = .i [1] := by simpa using hg'
      exact si_of_own [1] 1 rfl (by decide) (Own.new w' 3 [.int .i64 1])
    · skip
      obtain ⟨p0, hp0, ho0⟩ := hdep 22 (.i [1]) 235 (by simp) (by kernel_rfl) rfl
      replace ho0 : SI w' p0 [1] := ho0
      obtain ⟨pa0, pc0, e0⟩ := si_slice (n := 1) ho0 rfl
      subst e0
      replace hp0 := eval_slot hp0
      refine wpOp_hold rfl (wanted_guard rfl rfl hgd) (exec_buildC (parts' := #[(0, Value.slice pa0 1 pc0)]) (w' := w'.alloc (.cells #[.slice pa0 1 pc0] 23)) (v := .slice (some ⟨w'.heap.size, 0, none⟩) 1 1) rfl (by simp [hp0]) (by simp [go_sem])) ?_
      refine hK' _ _ (fun g' hg' => ?_) (ba1 w' (.cells #[.slice pa0 1 pc0] 23))
      obtain rfl : g' = .r [[1]] := by simpa using hg'
      have hq := ba1 w' (.cells #[.slice pa0 1 pc0] 23)
      exact ss_of_own [[1]] [.slice pa0 1 pc0] 1 rfl rfl (by decide) (Own.new w' 23 [.slice pa0 1 pc0]) (fun i h h' => by
        match i, h with
        | 0, _ => exact ho0.below hq
        )
    · refine wpOp_in rfl (wanted_guard rfl rfl hgd) ?_
      go_simp
      refine hK' _ _ (fun g' hg' => ?_) (ba1 w' (.cells #[.int .i64 1, .int .i64 2] 3))
      obtain rfl : g' = .i [1, 2] := by simpa using hg'
      exact si_of_own [1, 2] 2 rfl (by decide) (Own.new w' 3 [.int .i64 1, .int .i64 2])
  intro e W51 he hf hb
  obtain ⟨g51_22, g51_23, g51_24, rfl⟩ := keys3 he
  have f51_22 : SI W51 g51_22 [1] := hf (22, g51_22) (by simp) (.i [1]) (by simp)
  have f51_23 : SS W51 g51_23 [[1]] := hf (23, g51_23) (by simp) (.r [[1]]) (by simp)
  have f51_24 : SI W51 g51_24 [1, 2] := hf (24, g51_24) (by simp) (.i [1, 2]) (by simp)
  clear hf he
  replace hR := below_to hR hb
  clear hb
  obtain ⟨pa51A, pc51A, ea⟩ := ss_slice (n := 1) f51_23 rfl
  subst ea
  obtain ⟨pa51B, pc51B, ea⟩ := si_slice (n := 2) f51_24 rfl
  subst ea
  refine wpG_putD [235, 236, 237] rfl ?_
  simp only [putD]
  refine wpG_s ?_
  refine wpX_f rfl (by kernel_rfl) (fun K' hK' => ?_)
  go_simp
  refine hK' _ _ (grow_of hR) ?_
  clear hK' K'
  refine wpX_f rfl (by kernel_rfl) (fun K' hK' => ?_)
  go_simp
  refine (ncheck_any [[1]] [1, 2] _ _ _ f51_23 f51_24).mono ?_
  rintro e W52 ⟨rfl, hq⟩
  rw [show ncheck [[1]] [1, 2] = 8 from by decide +kernel]
  replace hR := below_to hR hq
  clear hq
  clear f51_22 f51_23 f51_24
  refine hK' _ _ (grow_of hR) ?_
  clear hK' K'
  refine wpX_f rfl (by kernel_rfl) (fun K' hK' => ?_)
  go_simp
  refine hK' _ _ (grow_of hR) ?_
  clear hK' K'
  refine wpX_f rfl (by kernel_rfl) (fun K' hK' => ?_)
  go_simp
  refine hK' _ _ (grow_of hR) ?_
  clear hK' K'
  refine wpX_f rfl (by kernel_rfl) (fun K' hK' => ?_)
  go_simp
  refine hK' _ _ (grow_of hR) ?_
  clear hK' K'
  refine wpX_nil ?_
  refine wp_groupT [(30, .i []), (31, .r [[]]), (32, .i [1])] (by kernel_rfl) (by first | rfl | kernel_rfl) ?_ ?_
  · intro k g hm b w' hb hbs hdep hoth K' hK'
    simp only [List.mem_cons, Prod.mk.injEq, List.not_mem_nil, or_false] at hm
    have hgd : b.tmps[242]? = some (.bool true) := (hoth 242 (by decide +kernel)).trans rfl
    rcases hm with ⟨rfl, rfl⟩ | ⟨rfl, rfl⟩ | ⟨rfl, rfl⟩
    · refine wpOp_in rfl (wanted_guard rfl rfl hgd) ?_
      go_simp
      refine hK' _ _ (fun g' hg' => ?_) (ba1 w' (.cells #[] 3))
      obtain rfl : g' = .i [] := by simpa using hg'
      exact si_of_own [] 0 rfl (by decide) (Own.new w' 3 [])
    · skip
      obtain ⟨p0, hp0, ho0⟩ := hdep 30 (.i []) 243 (by simp) (by kernel_rfl) rfl
      replace ho0 : SI w' p0 [] := ho0
      obtain ⟨pa0, pc0, e0⟩ := si_slice (n := 0) ho0 rfl
      subst e0
      replace hp0 := eval_slot hp0
      refine wpOp_hold rfl (wanted_guard rfl rfl hgd) (exec_buildC (parts' := #[(0, Value.slice pa0 0 pc0)]) (w' := w'.alloc (.cells #[.slice pa0 0 pc0] 23)) (v := .slice (some ⟨w'.heap.size, 0, none⟩) 1 1) rfl (by simp [hp0]) (by simp [go_sem])) ?_
      refine hK' _ _ (fun g' hg' => ?_) (ba1 w' (.cells #[.slice pa0 0 pc0] 23))
      obtain rfl : g' = .r [[]] := by simpa using hg'
      have hq := ba1 w' (.cells #[.slice pa0 0 pc0] 23)
      exact ss_of_own [[]] [.slice pa0 0 pc0] 1 rfl rfl (by decide) (Own.new w' 23 [.slice pa0 0 pc0]) (fun i h h' => by
        match i, h with
        | 0, _ => exact ho0.below hq
        )
    · refine wpOp_in rfl (wanted_guard rfl rfl hgd) ?_
      go_simp
      refine hK' _ _ (fun g' hg' => ?_) (ba1 w' (.cells #[.int .i64 1] 3))
      obtain rfl : g' = .i [1] := by simpa using hg'
      exact si_of_own [1] 1 rfl (by decide) (Own.new w' 3 [.int .i64 1])
  intro e W53 he hf hb
  obtain ⟨g53_30, g53_31, g53_32, rfl⟩ := keys3 he
  have f53_30 : SI W53 g53_30 [] := hf (30, g53_30) (by simp) (.i []) (by simp)
  have f53_31 : SS W53 g53_31 [[]] := hf (31, g53_31) (by simp) (.r [[]]) (by simp)
  have f53_32 : SI W53 g53_32 [1] := hf (32, g53_32) (by simp) (.i [1]) (by simp)
  clear hf he
  replace hR := below_to hR hb
  clear hb
  obtain ⟨pa53A, pc53A, ea⟩ := ss_slice (n := 1) f53_31 rfl
  subst ea
  obtain ⟨pa53B, pc53B, ea⟩ := si_slice (n := 1) f53_32 rfl
  subst ea
  refine wpG_putD [243, 244, 245] rfl ?_
  simp only [putD]
  refine wpG_s ?_
  refine wpX_f rfl (by kernel_rfl) (fun K' hK' => ?_)
  go_simp
  refine hK' _ _ (grow_of hR) ?_
  clear hK' K'
  refine wpX_f rfl (by kernel_rfl) (fun K' hK' => ?_)
  go_simp
  refine (ncheck_any [[]] [1] _ _ _ f53_31 f53_32).mono ?_
  rintro e W54 ⟨rfl, hq⟩
  rw [show ncheck [[]] [1] = 8 from by decide +kernel]
  replace hR := below_to hR hq
  clear hq
  clear f53_30 f53_31 f53_32
  refine hK' _ _ (grow_of hR) ?_
  clear hK' K'
  refine wpX_f rfl (by kernel_rfl) (fun K' hK' => ?_)
  go_simp
  refine hK' _ _ (grow_of hR) ?_
  clear hK' K'
  refine wpX_f rfl (by kernel_rfl) (fun K' hK' => ?_)
  go_simp
  refine hK' _ _ (grow_of hR) ?_
  clear hK' K'
  refine wpX_f rfl (by kernel_rfl) (fun K' hK' => ?_)
  go_simp
  refine hK' _ _ (grow_of hR) ?_
  clear hK' K'
  refine wpX_nil ?_
  refine wp_groupT [(38, .i [1]), (39, .i [1, 2]), (40, .r [[1], [1, 2]]), (41, .i [1, 2])] (by kernel_rfl) (by first | rfl | kernel_rfl) ?_ ?_
  · intro k g hm b w' hb hbs hdep hoth K' hK'
    simp only [List.mem_cons, Prod.mk.injEq, List.not_mem_nil, or_false] at hm
    have hgd : b.tmps[250]? = some (.bool true) := (hoth 250 (by decide +kernel)).trans rfl
    rcases hm with ⟨rfl, rfl⟩ | ⟨rfl, rfl⟩ | ⟨rfl, rfl⟩ | ⟨rfl, rfl⟩
    · refine wpOp_in rfl (wanted_guard rfl rfl hgd) ?_
      go_simp
      refine hK' _ _ (fun g' hg' => ?_) (ba1 w' (.cells #[.int .i64 1] 3))
      obtain rfl : g' = .i [1] := by simpa using hg'
      exact si_of_own [1] 1 rfl (by decide) (Own.new w' 3 [.int .i64 1])
    · refine wpOp_in rfl (wanted_guard rfl rfl hgd) ?_
      go_simp
      refine hK' _ _ (fun g' hg' => ?_) (ba1 w' (.cells #[.int .i64 1, .int .i64 2] 3))
      obtain rfl : g' = .i [1, 2] := by simpa using hg'
      exact si_of_own [1, 2] 2 rfl (by decide) (Own.new w' 3 [.int .i64 1, .int .i64 2])
    · skip
      obtain ⟨p0, hp0, ho0⟩ := hdep 38 (.i [1]) 251 (by simp) (by kernel_rfl) rfl
      replace ho0 : SI w' p0 [1] := ho0
      obtain ⟨pa0, pc0, e0⟩ := si_slice (n := 1) ho0 rfl
      subst e0
      replace hp0 := eval_slot hp0
      obtain ⟨p1, hp1, ho1⟩ := hdep 39 (.i [1, 2]) 252 (by simp) (by kernel_rfl) rfl
      replace ho1 : SI w' p1 [1, 2] := ho1
      obtain ⟨pa1, pc1, e1⟩ := si_slice (n := 2) ho1 rfl
      subst e1
      replace hp1 := eval_slot hp1
      refine wpOp_hold rfl (wanted_guard rfl rfl hgd) (exec_buildC (parts' := #[(0, Value.slice pa0 1 pc0), (1, Value.slice pa1 2 pc1)]) (w' := w'.alloc (.cells #[.slice pa0 1 pc0, .slice pa1 2 pc1] 23)) (v := .slice (some ⟨w'.heap.size, 0, none⟩) 2 2) rfl (by simp [hp0, hp1]) (by simp [go_sem])) ?_
      refine hK' _ _ (fun g' hg' => ?_) (ba1 w' (.cells #[.slice pa0 1 pc0, .slice pa1 2 pc1] 23))
      obtain rfl : g' = .r [[1], [1, 2]] := by simpa using hg'
      have hq := ba1 w' (.cells #[.slice pa0 1 pc0, .slice pa1 2 pc1] 23)
      exact ss_of_own [[1], [1, 2]] [.slice pa0 1 pc0, .slice pa1 2 pc1] 2 rfl rfl (by decide) (Own.new w' 23 [.slice pa0 1 pc0, .slice pa1 2 pc1]) (fun i h h' => by
        match i, h with
        | 0, _ => exact ho0.below hq
        | 1, _ => exact ho1.below hq
        )
    · refine wpOp_in rfl (wanted_guard rfl rfl hgd) ?_
      go_simp
      refine hK' _ _ (fun g' hg' => ?_) (ba1 w' (.cells #[.int .i64 1, .int .i64 2] 3))
      obtain rfl : g' = .i [1, 2] := by simpa using hg'
      exact si_of_own [1, 2] 2 rfl (by decide) (Own.new w' 3 [.int .i64 1, .int .i64 2])
  intro e W55 he hf hb
  obtain ⟨g55_38, g55_39, g55_40, g55_41, rfl⟩ := keys4 he
  have f55_38 : SI W55 g55_38 [1] := hf (38, g55_38) (by simp) (.i [1]) (by simp)
  have f55_39 : SI W55 g55_39 [1, 2] := hf (39, g55_39) (by simp) (.i [1, 2]) (by simp)
  have f55_40 : SS W55 g55_40 [[1], [1, 2]] := hf (40, g55_40) (by simp) (.r [[1], [1, 2]]) (by simp)
  have f55_41 : SI W55 g55_41 [1, 2] := hf (41, g55_41) (by simp) (.i [1, 2]) (by simp)
  clear hf he
  replace hR := below_to hR hb
  clear hb
  obtain ⟨pa55A, pc55A, ea⟩ := ss_slice (n := 2) f55_40 rfl
  subst ea
  obtain ⟨pa55B, pc55B, ea⟩ := si_slice (n := 2) f55_41 rfl
  subst ea
  refine wpG_putD [251, 252, 253, 254] rfl ?_
  simp only [putD]
  refine wpG_s ?_
  refine wpX_f rfl (by kernel_rfl) (fun K' hK' => ?_)
  go_simp
  refine hK' _ _ (grow_of hR) ?_
  clear hK' K'
  refine wpX_f rfl (by kernel_rfl) (fun K' hK' => ?_)
  go_simp
  refine (ncheck_any [[1], [1, 2]] [1, 2] _ _ _ f55_40 f55_41).mono ?_
  rintro e W56 ⟨rfl, hq⟩
  rw [show ncheck [[1], [1, 2]] [1, 2] = 8 from by decide +kernel]
  replace hR := below_to hR hq
  clear hq
  clear f55_38 f55_39 f55_40 f55_41
  refine hK' _ _ (grow_of hR) ?_
  clear hK' K'
  refine wpX_f rfl (by kernel_rfl) (fun K' hK' => ?_)
  go_simp
  refine hK' _ _ (grow_of hR) ?_
  clear hK' K'
  refine wpX_f rfl (by kernel_rfl) (fun K' hK' => ?_)
  go_simp
  refine hK' _ _ (grow_of hR) ?_
  clear hK' K'
  refine wpX_f rfl (by kernel_rfl) (fun K' hK' => ?_)
  go_simp
  refine hK' _ _ (grow_of hR) ?_
  clear hK' K'
  refine wpX_nil ?_
  refine wp_groupT [(47, .i [6]), (48, .r [[6]]), (49, .i [1])] (by kernel_rfl) (by first | rfl | kernel_rfl) ?_ ?_
  · intro k g hm b w' hb hbs hdep hoth K' hK'
    simp only [List.mem_cons, Prod.mk.injEq, List.not_mem_nil, or_false] at hm
    have hgd : b.tmps[259]? = some (.bool true) := (hoth 259 (by decide +kernel)).trans rfl
    rcases hm with ⟨rfl, rfl⟩ | ⟨rfl, rfl⟩ | ⟨rfl, rfl⟩
    · refine wpOp_in rfl (wanted_guard rfl rfl hgd) ?_
      go_simp
      refine hK' _ _ (fun g' hg' => ?_) (ba1 w' (.cells #[.int .i64 6] 3))
      obtain rfl : g' = .i [6] := by simpa using hg'
      exact si_of_own [6] 1 rfl (by decide) (Own.new w' 3 [.int .i64 6])
    · skip
      obtain ⟨p0, hp0, ho0⟩ := hdep 47 (.i [6]) 260 (by simp) (by kernel_rfl) rfl
      replace ho0 : SI w' p0 [6] := ho0
      obtain ⟨pa0, pc0, e0⟩ := si_slice (n := 1) ho0 rfl
      subst e0
      replace hp0 := eval_slot hp0
      refine wpOp_hold rfl (wanted_guard rfl rfl hgd) (exec_buildC (parts' := #[(0, Value.slice pa0 1 pc0)]) (w' := w'.alloc (.cells #[.slice pa0 1 pc0] 23)) (v := .slice (some ⟨w'.heap.size, 0, none⟩) 1 1) rfl (by simp [hp0]) (by simp [go_sem])) ?_
      refine hK' _ _ (fun g' hg' => ?_) (ba1 w' (.cells #[.slice pa0 1 pc0] 23))
      obtain rfl : g' = .r [[6]] := by simpa using hg'
      have hq := ba1 w' (.cells #[.slice pa0 1 pc0] 23)
      exact ss_of_own [[6]] [.slice pa0 1 pc0] 1 rfl rfl (by decide) (Own.new w' 23 [.slice pa0 1 pc0]) (fun i h h' => by
        match i, h with
        | 0, _ => exact ho0.below hq
        )
    · refine wpOp_in rfl (wanted_guard rfl rfl hgd) ?_
      go_simp
      refine hK' _ _ (fun g' hg' => ?_) (ba1 w' (.cells #[.int .i64 1] 3))
      obtain rfl : g' = .i [1] := by simpa using hg'
      exact si_of_own [1] 1 rfl (by decide) (Own.new w' 3 [.int .i64 1])
  intro e W57 he hf hb
  obtain ⟨g57_47, g57_48, g57_49, rfl⟩ := keys3 he
  have f57_47 : SI W57 g57_47 [6] := hf (47, g57_47) (by simp) (.i [6]) (by simp)
  have f57_48 : SS W57 g57_48 [[6]] := hf (48, g57_48) (by simp) (.r [[6]]) (by simp)
  have f57_49 : SI W57 g57_49 [1] := hf (49, g57_49) (by simp) (.i [1]) (by simp)
  clear hf he
  replace hR := below_to hR hb
  clear hb
  obtain ⟨pa57A, pc57A, ea⟩ := ss_slice (n := 1) f57_48 rfl
  subst ea
  obtain ⟨pa57B, pc57B, ea⟩ := si_slice (n := 1) f57_49 rfl
  subst ea
  refine wpG_putD [260, 261, 262] rfl ?_
  simp only [putD]
  refine wpG_s ?_
  refine wpX_f rfl (by kernel_rfl) (fun K' hK' => ?_)
  go_simp
  refine hK' _ _ (grow_of hR) ?_
  clear hK' K'
  refine wpX_f rfl (by kernel_rfl) (fun K' hK' => ?_)
  go_simp
  refine (ncheck_any [[6]] [1] _ _ _ f57_48 f57_49).mono ?_
  rintro e W58 ⟨rfl, hq⟩
  rw [show ncheck [[6]] [1] = 8 from by decide +kernel]
  replace hR := below_to hR hq
  clear hq
  clear f57_47 f57_48 f57_49
  refine hK' _ _ (grow_of hR) ?_
  clear hK' K'
  refine wpX_f rfl (by kernel_rfl) (fun K' hK' => ?_)
  go_simp
  refine hK' _ _ (grow_of hR) ?_
  clear hK' K'
  refine wpX_f rfl (by kernel_rfl) (fun K' hK' => ?_)
  go_simp
  refine hK' _ _ (grow_of hR) ?_
  clear hK' K'
  refine wpX_f rfl (by kernel_rfl) (fun K' hK' => ?_)
  go_simp
  refine hK' _ _ (grow_of hR) ?_
  clear hK' K'
  refine wpX_nil ?_
  refine wp_groupT [(55, .i [1]), (56, .r [[1]]), (57, .i [-51])] (by kernel_rfl) (by first | rfl | kernel_rfl) ?_ ?_
  · intro k g hm b w' hb hbs hdep hoth K' hK'
    simp only [List.mem_cons, Prod.mk.injEq, List.not_mem_nil, or_false] at hm
    have hgd : b.tmps[267]? = some (.bool true) := (hoth 267 (by decide +kernel)).trans rfl
    rcases hm with ⟨rfl, rfl⟩ | ⟨rfl, rfl⟩ | ⟨rfl, rfl⟩
    · refine wpOp_in rfl (wanted_guard rfl rfl hgd) ?_
      go_simp
      refine hK' _ _ (fun g' hg' => ?_) (ba1 w' (.cells #[.int .i64 1] 3))
      obtain rfl : g' = .i [1] := by simpa using hg'
      exact si_of_own [1] 1 rfl (by decide) (Own.new w' 3 [.int .i64 1])
    · skip
      obtain ⟨p0, hp0, ho0⟩ := hdep 55 (.i [1]) 268 (by simp) (by kernel_rfl) rfl
      replace ho0 : SI w' p0 [1] := ho0
      obtain ⟨pa0, pc0, e0⟩ := si_slice (n := 1) ho0 rfl
      subst e0
      replace hp0 := eval_slot hp0
      refine wpOp_hold rfl (wanted_guard rfl rfl hgd) (exec_buildC (parts' := #[(0, Value.slice pa0 1 pc0)]) (w' := w'.alloc (.cells #[.slice pa0 1 pc0] 23)) (v := .slice (some ⟨w'.heap.size, 0, none⟩) 1 1) rfl (by simp [hp0]) (by simp [go_sem])) ?_
      refine hK' _ _ (fun g' hg' => ?_) (ba1 w' (.cells #[.slice pa0 1 pc0] 23))
      obtain rfl : g' = .r [[1]] := by simpa using hg'
      have hq := ba1 w' (.cells #[.slice pa0 1 pc0] 23)
      exact ss_of_own [[1]] [.slice pa0 1 pc0] 1 rfl rfl (by decide) (Own.new w' 23 [.slice pa0 1 pc0]) (fun i h h' => by
        match i, h with
        | 0, _ => exact ho0.below hq
        )
    · refine wpOp_in rfl (wanted_guard rfl rfl hgd) ?_
      go_simp
      refine hK' _ _ (fun g' hg' => ?_) (ba1 w' (.cells #[.int .i64 (-51)] 3))
      obtain rfl : g' = .i [-51] := by simpa using hg'
      exact si_of_own [-51] 1 rfl (by decide) (Own.new w' 3 [.int .i64 (-51)])
  intro e W59 he hf hb
  obtain ⟨g59_55, g59_56, g59_57, rfl⟩ := keys3 he
  have f59_55 : SI W59 g59_55 [1] := hf (55, g59_55) (by simp) (.i [1]) (by simp)
  have f59_56 : SS W59 g59_56 [[1]] := hf (56, g59_56) (by simp) (.r [[1]]) (by simp)
  have f59_57 : SI W59 g59_57 [-51] := hf (57, g59_57) (by simp) (.i [-51]) (by simp)
  clear hf he
  replace hR := below_to hR hb
  clear hb
  obtain ⟨pa59A, pc59A, ea⟩ := ss_slice (n := 1) f59_56 rfl
  subst ea
  obtain ⟨pa59B, pc59B, ea⟩ := si_slice (n := 1) f59_57 rfl
  subst ea
  refine wpG_putD [268, 269, 270] rfl ?_
  simp only [putD]
  refine wpG_s ?_
  refine wpX_f rfl (by kernel_rfl) (fun K' hK' => ?_)
  go_simp
  refine hK' _ _ (grow_of hR) ?_
  clear hK' K'
  refine wpX_f rfl (by kernel_rfl) (fun K' hK' => ?_)
  go_simp
  refine (ncheck_any [[1]] [-51] _ _ _ f59_56 f59_57).mono ?_
  rintro e W60 ⟨rfl, hq⟩
  rw [show ncheck [[1]] [-51] = 8 from by decide +kernel]
  replace hR := below_to hR hq
  clear hq
  clear f59_55 f59_56 f59_57
  refine hK' _ _ (grow_of hR) ?_
  clear hK' K'
  refine wpX_f rfl (by kernel_rfl) (fun K' hK' => ?_)
  go_simp
  refine hK' _ _ (grow_of hR) ?_
  clear hK' K'
  refine wpX_f rfl (by kernel_rfl) (fun K' hK' => ?_)
  go_simp
  refine hK' _ _ (grow_of hR) ?_
  clear hK' K'
  refine wpX_f rfl (by kernel_rfl) (fun K' hK' => ?_)
  go_simp
  refine hK' _ _ (grow_of hR) ?_
  clear hK' K'
  refine wpX_nil ?_
  refine wp_groupT [(63, .i [-5, 5, 0]), (64, .i [0, 0, 0]), (65, .i [0, 0, 0]), (66, .i [0, 0, 0]), (67, .i [0, 0, 5]), (68, .r [[-5, 5, 0], [0, 0, 0], [0, 0, 0], [0, 0, 0], [0, 0, 5]]), (69, .i [50, -50, 0, 0, 0])] (by kernel_rfl) (by first | rfl | kernel_rfl) ?_ ?_
  · intro k g hm b w' hb hbs hdep hoth K' hK'
    simp only [List.mem_cons, Prod.mk.injEq, List.not_mem_nil, or_false] at hm
    have hgd : b.tmps[275]? = some (.bool true) := (hoth 275 (by decide +kernel)).trans rfl
    rcases hm with ⟨rfl, rfl⟩ | ⟨rfl, rfl⟩ | ⟨rfl, rfl⟩ | ⟨rfl, rfl⟩ | ⟨rfl, rfl⟩ | ⟨rfl, rfl⟩ | ⟨rfl, rfl⟩
    · refine wpOp_in rfl (wanted_guard rfl rfl hgd) ?_
      go_simp
      refine hK' _ _ (fun g' hg' => ?_) (ba1 w' (.cells #[.int .i64 (-5), .int .i64 5, .int .i64 0] 3))
      obtain rfl : g' = .i [-5, 5, 0] := by simpa using hg'
      exact si_of_own [-5, 5, 0] 3 rfl (by decide) (Own.new w' 3 [.int .i64 (-5), .int .i64 5, .int .i64 0])
    · refine wpOp_in rfl (wanted_guard rfl rfl hgd) ?_
      go_simp
      refine hK' _ _ (fun g' hg' => ?_) (ba1 w' (.cells #[.int .i64 0, .int .i64 0, .int .i64 0] 3))
      obtain rfl : g' = .i [0, 0, 0] := by simpa using hg'
      exact si_of_own [0, 0, 0] 3 rfl (by decide) (Own.new w' 3 [.int .i64 0, .int .i64 0, .int .i64 0])
    · refine wpOp_in rfl (wanted_guard rfl rfl hgd) ?_
      go_simp
      refine hK' _ _ (fun g' hg' => ?_) (ba1 w' (.cells #[.int .i64 0, .int .i64 0, .int .i64 0] 3))
      obtain rfl : g' = .i [0, 0, 0] := by simpa using hg'
      exact si_of_own [0, 0, 0] 3 rfl (by decide) (Own.new w' 3 [.int .i64 0, .int .i64 0, .int .i64 0])
    · refine wpOp_in rfl (wanted_guard rfl rfl hgd) ?_
      go_simp
      refine hK' _ _ (fun g' hg' => ?_) (ba1 w' (.cells #[.int .i64 0, .int .i64 0, .int .i64 0] 3))
      obtain rfl : g' = .i [0, 0, 0] := by simpa using hg'
      exact si_of_own [0, 0, 0] 3 rfl (by decide) (Own.new w' 3 [.int .i64 0, .int .i64 0, .int .i64 0])
    · refine wpOp_in rfl (wanted_guard rfl rfl hgd) ?_
      go_simp
      refine hK' _ _ (fun g' hg' => ?_) (ba1 w' (.cells #[.int .i64 0, .int .i64 0, .int .i64 5] 3))
      obtain rfl : g' = .i [0, 0, 5] := by simpa using hg'
      exact si_of_own [0, 0, 5] 3 rfl (by decide) (Own.new w' 3 [.int .i64 0, .int .i64 0, .int .i64 5])
    · skip
      obtain ⟨p0, hp0, ho0⟩ := hdep 63 (.i [-5, 5, 0]) 276 (by simp) (by kernel_rfl) rfl
      replace ho0 : SI w' p0 [-5, 5, 0] := ho0
      obtain ⟨pa0, pc0, e0⟩ := si_slice (n := 3) ho0 rfl
      subst e0
      replace hp0 := eval_slot hp0
      obtain ⟨p1, hp1, ho1⟩ := hdep 64 (.i [0, 0, 0]) 277 (by simp) (by kernel_rfl) rfl
      replace ho1 : SI w' p1 [0, 0, 0] := ho1
      obtain ⟨pa1, pc1, e1⟩ := si_slice (n := 3) ho1 rfl
      subst e1
      replace hp1 := eval_slot hp1
      obtain ⟨p2, hp2, ho2⟩ := hdep 65 (.i [0, 0, 0]) 278 (by simp) (by kernel_rfl) rfl
      replace ho2 : SI w' p2 [0, 0, 0] := ho2
      obtain ⟨pa2, pc2, e2⟩ := si_slice (n := 3) ho2 rfl
      subst e2
      replace hp2 := eval_slot hp2
      obtain ⟨p3, hp3, ho3⟩ := hdep 66 (.i [0, 0, 0]) 279 (by simp) (by kernel_rfl) rfl
      replace ho3 : SI w' p3 [0, 0, 0] := ho3
      obtain ⟨pa3, pc3, e3⟩ := si_slice (n := 3) ho3 rfl
      subst e3
      replace hp3 := eval_slot hp3
      obtain ⟨p4, hp4, ho4⟩ := hdep 67 (.i [0, 0, 5]) 280 (by simp) (by kernel_rfl) rfl
      replace ho4 : SI w' p4 [0, 0, 5] := ho4
      obtain ⟨pa4, pc4, e4⟩ := si_slice (n := 3) ho4 rfl
      subst e4
      replace hp4 := eval_slot hp4
      refine wpOp_hold rfl (wanted_guard rfl rfl hgd) (exec_buildC (parts' := #[(0, Value.slice pa0 3 pc0), (1, Value.slice pa1 3 pc1), (2, Value.slice pa2 3 pc2), (3, Value.slice pa3 3 pc3), (4, Value.slice pa4 3 pc4)]) (w' := w'.alloc (.cells #[.slice pa0 3 pc0, .slice pa1 3 pc1, .slice pa2 3 pc2, .slice pa3 3 pc3, .slice pa4 3 pc4] 23)) (v := .slice (some ⟨w'.heap.size, 0, none⟩) 5 5) rfl (by simp [hp0, hp1, hp2, hp3, hp4]) (by simp [go_sem])) ?_
      refine hK' _ _ (fun g' hg' => ?_) (ba1 w' (.cells #[.slice pa0 3 pc0, .slice pa1 3 pc1, .slice pa2 3 pc2, .slice pa3 3 pc3, .slice pa4 3 pc4] 23))
      obtain rfl : g' = .r [[-5, 5, 0], [0, 0, 0], [0, 0, 0], [0, 0, 0], [0, 0, 5]] := by simpa using hg'
      have hq := ba1 w' (.cells #[.slice pa0 3 pc0, .slice pa1 3 pc1, .slice pa2 3 pc2, .slice pa3 3 pc3, .slice pa4 3 pc4] 23)
      exact ss_of_own [[-5, 5, 0], [0, 0, 0], [0, 0, 0], [0, 0, 0], [0, 0, 5]] [.slice pa0 3 pc0, .slice pa1 3 pc1, .slice pa2 3 pc2, .slice pa3 3 pc3, .slice pa4 3 pc4] 5 rfl rfl (by decide) (Own.new w' 23 [.slice pa0 3 pc0, .slice pa1 3 pc1, .slice pa2 3 pc2, .slice pa3 3 pc3, .slice pa4 3 pc4]) (fun i h h' => by
        match i, h with
        | 0, _ => exact ho0.below hq
        | 1, _ => exact ho1.below hq
        | 2, _ => exact ho2.below hq
        | 3, _ => exact ho3.below hq
        | 4, _ => exact ho4.below hq
        )
    · refine wpOp_in rfl (wanted_guard rfl rfl hgd) ?_
      go_simp
      refine hK' _ _ (fun g' hg' => ?_) (ba1 w' (.cells #[.int .i64 50, .int .i64 (-50), .int .i64 0, .int .i64 0, .int .i64 0] 3))
      obtain rfl : g' = .i [50, -50, 0, 0, 0] := by simpa using hg'
      exact si_of_own [50, -50, 0, 0, 0] 5 rfl (by decide) (Own.new w' 3 [.int .i64 50, .int .i64 (-50), .int .i64 0, .int .i64 0, .int .i64 0])
  intro e W61 he hf hb
  obtain ⟨g61_63, g61_64, g61_65, g61_66, g61_67, g61_68, g61_69, rfl⟩ := keys7 he
  have f61_63 : SI W61 g61_63 [-5, 5, 0] := hf (63, g61_63) (by simp) (.i [-5, 5, 0]) (by simp)
  have f61_64 : SI W61 g61_64 [0, 0, 0] := hf (64, g61_64) (by simp) (.i [0, 0, 0]) (by simp)
  have f61_65 : SI W61 g61_65 [0, 0, 0] := hf (65, g61_65) (by simp) (.i [0, 0, 0]) (by simp)
  have f61_66 : SI W61 g61_66 [0, 0, 0] := hf (66, g61_66) (by simp) (.i [0, 0, 0]) (by simp)
  have f61_67 : SI W61 g61_67 [0, 0, 5] := hf (67, g61_67) (by simp) (.i [0, 0, 5]) (by simp)
  have f61_68 : SS W61 g61_68 [[-5, 5, 0], [0, 0, 0], [0, 0, 0], [0, 0, 0], [0, 0, 5]] := hf (68, g61_68) (by simp) (.r [[-5, 5, 0], [0, 0, 0], [0, 0, 0], [0, 0, 0], [0, 0, 5]]) (by simp)
  have f61_69 : SI W61 g61_69 [50, -50, 0, 0, 0] := hf (69, g61_69) (by simp) (.i [50, -50, 0, 0, 0]) (by simp)
  clear hf he
  replace hR := below_to hR hb
  clear hb
  obtain ⟨pa61A, pc61A, ea⟩ := ss_slice (n := 5) f61_68 rfl
  subst ea
  obtain ⟨pa61B, pc61B, ea⟩ := si_slice (n := 5) f61_69 rfl
  subst ea
  refine wpG_putD [276, 277, 278, 279, 280, 281, 282] rfl ?_
  simp only [putD]
  refine wpG_s ?_
  refine wpX_f ((app_get (j := 33) (by kernel_rfl)).trans rfl) (by kernel_rfl) (fun K' hK' => ?_)
  go_simp
  refine hK' _ _ (grow_of hR) ?_
  clear hK' K'
  refine wpX_f ((app_get (j := 34) (by kernel_rfl)).trans rfl) (by kernel_rfl) (fun K' hK' => ?_)
  go_simp
  refine (ncheck_any [[-5, 5, 0], [0, 0, 0], [0, 0, 0], [0, 0, 0], [0, 0, 5]] [50, -50, 0, 0, 0] _ _ _ f61_68 f61_69).mono ?_
  rintro e W62 ⟨rfl, hq⟩
  rw [show ncheck [[-5, 5, 0], [0, 0, 0], [0, 0, 0], [0, 0, 0], [0, 0, 5]] [50, -50, 0, 0, 0] = 0 from by decide +kernel]
  replace hR := below_to hR hq
  clear hq
  clear f61_63 f61_64 f61_65 f61_66 f61_67 f61_68 f61_69
  refine hK' _ _ (grow_of hR) ?_
  clear hK' K'
  refine wpX_f ((app_get (j := 35) (by kernel_rfl)).trans rfl) (by kernel_rfl) (fun K' hK' => ?_)
  go_simp
  refine hK' _ _ (grow_of hR) ?_
  clear hK' K'
  refine wpX_f ((app_get (j := 36) (by kernel_rfl)).trans rfl) (by kernel_rfl) (fun K' hK' => ?_)
  go_simp
  refine hK' _ _ (grow_of hR) ?_
  clear hK' K'
  refine wpX_nil ?_
  refine wpG_nil ?_
  try simp only [opsAt, List.getElem?_toArray, List.getElem?_cons_zero, List.getElem?_cons_succ, Option.getD_some]
  have t28 := K_t28.out.below hR
  have t32 := K_t32.out.below hR
  have t41 := K_t41.out.below hR
  have t44 := K_t44.out.below hR
  clear K_t28 K_t32 K_t41 K_t44
  replace hy := below_to hy hR
  clear hR
  go_wp2_with fail
  refine (alive37_any _).mono ?_
  rintro e W63 ⟨rfl, hq⟩
  replace t28 := t28.below hq
  replace t32 := t32.below hq
  replace t41 := t41.below hq
  replace t44 := t44.below hq
  replace hy := below_to hy hq
  clear hq
  clear t28 t32 t41 t44
  go_wp2
  go_ret
  exact ⟨by first | rfl | simp, hy⟩
end Go.Proofs.Ythlcmlngmcoknaa

