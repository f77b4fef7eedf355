/- What is proved here: contracts of functions and plain facts, several texts in one; each one says ahead what it proves, and its conditions. -/
import Derived.Test.YtfoemacgmehpiaaC14
import Derived.Test.YtfoemacgmehpiaaC29
import Derived.Test.YtfoemacgmehpiaaC31
import Derived.Test.YtfoemacgmehpiaaC33
import Derived.Test.YtfoemacgmehpiaaC28
import Derived.Test.YtfoemacgmehpiaaC32
import Derived.Test.YtfoemacgmehpiaaC01
import Derived.Deep.DeepCutAuto
/- What is proved here: contracts of the sparse layer, with the value named. Condition: as each one says. -/
namespace Go.Proofs.Ytfoemacgmehpiaa
open Go.RowKit

theorem sopt_as (A : List (List Int)) (B : List Int) (c : Int) (x : List (Int × Int)) (r : Bool × Int) (va vb vx : Value) (w : World) (hA : SS w va A) (hB : SI w vb B) (hx : SF w vx x) (ix : FI x) (hr : sOptimal A B c x = r) :
    Calls Try.prog 20 #[.agg #[va, vb], .int .i64 c, vx] w fun e w' => e = .returned (.tuple #[.bool r.1, .int .i64 r.2]) ∧ Below w.heap.size w w' := by
  subst hr; exact sopt_any A B c x va vb vx w hA hB hx ix
theorem scost_as (A : List (List Int)) (B : List Int) (c : Int) (x : List (Int × Int)) (r : FR) (va vb vx : Value) (w : World) (hA : SS w va A) (hB : SI w vb B) (hx : SF w vx x) (ix : FI x) (hr : sCost A B c x = r) :
    Calls Try.prog 22 #[.agg #[va, vb], .int .i64 c, vx] w fun e w' => e = .returned (.tuple #[.agg #[.int .i64 r.n, .int .i64 r.d], .int .i64 r.e]) ∧ Below w.heap.size w w' := by
  subst hr; exact scost_any A B c x va vb vx w hA hB hx ix
theorem sslope_as (A : List (List Int)) (B : List Int) (c : Int) (x : List (Int × Int)) (r : List (Int × Int) × Int) (va vb vx : Value) (w : World) (hA : SS w va A) (hB : SI w vb B) (hx : SF w vx x) (ix : FI x) (hr : sSlope A B c x = r) :
    Calls Try.prog 21 #[.agg #[va, vb], .int .i64 c, vx] w (rows_post w r) := by
  subst hr; exact sslope_any A B c x va vb vx w hA hB hx ix
theorem spsolve_as (A : List (List Int)) (B : List Int) (c : Int) (r : List (Int × Int) × Nat × Int) (va vb : Value) (w : World) (hA : SS w va A) (hB : SI w vb B) (hr : sSolve A B c = r) :
    Calls Try.prog 18 #[.agg #[va, vb], .int .i64 c] w (solve_post w r) := by
  subst hr; exact spsolve_any A B c va vb w hA hB
theorem sbright_as (x : List (Int × Int)) (r : FR) (v : Value) (w : World) (hv : SF w v x) (ix : FI x) (hr : sBright x = r) :
    Calls Try.prog 26 #[v] w fun e w' => e = .returned (.tuple #[.agg #[.int .i64 r.n, .int .i64 r.d], .int .i64 r.e]) ∧ Below w.heap.size w w' := by
  subst hr; exact sbright_any x v w hv ix
end Go.Proofs.Ytfoemacgmehpiaa

/- What is proved here: fringelaw38.alive returns true. No condition. -/
namespace Go.Proofs.Ytfoemacgmehpiaa
open Go.RowKit

set_option maxRecDepth 100000 in
set_option maxHeartbeats 64000000 in
theorem alive38_any (w : World) : Calls Try.prog 15 #[] w fun e w' => e = .returned (.bool true) ∧ Below w.heap.size w w' := by
  go_enter Try.func15, Try.ntmps15
  have hy := Below.refl w.heap.size w
  go_wp2_with fail
  refine (given38_any _).mono ?_
  rintro e W1 ⟨va1, vb1, rfl, hA1, hB1, hq⟩
  replace hy := below_to hy hq
  clear hq
  go_wp2_with fail
  refine (spsolve_any [[1, 0], [0, 1]] [3, 1] 2 _ _ _ hA1 hB1).mono ?_
  rintro e W2 ⟨u2, rfl, t2, hq⟩
  replace hA1 := hA1.below hq
  replace hB1 := hB1.below hq
  replace hy := below_to hy hq
  clear hq
  have e2 : sSolve [[1, 0], [0, 1]] [3, 1] 2 = ([(1, 1), (0, 1)], 1, 0) := by decide +kernel
  rw [e2] at t2 ⊢
  clear e2
  clear hA1 hB1
  go_wp2_with fail
  refine (given38_any _).mono ?_
  rintro e W3 ⟨va3, vb3, rfl, hA3, hB3, hq⟩
  replace t2 := t2.below hq
  replace hy := below_to hy hq
  clear hq
  go_wp2_with fail
  have q4_0 := Own.new W3 2 [.int .i64 1, .int .i64 0]
  have hq := ba1 W3 (.cells #[.int .i64 1, .int .i64 0] 2)
  replace t2 := t2.below hq
  replace hA3 := hA3.below hq
  replace hB3 := hB3.below hq
  replace hy := below_to hy hq
  clear hq
  generalize (W3.alloc (.cells #[.int .i64 1, .int .i64 0] 2)) = W4 at *
  obtain ⟨B4, hB4⟩ : ∃ B, B = W3.heap.size := ⟨_, rfl⟩
  rw [← hB4] at q4_0 ⊢
  clear hB4
  have s4_0 := si_of_own [1, 0] 2 rfl (by decide) q4_0
  refine (ints38_any [1, 0] _ _ s4_0 (by decide)).mono ?_
  rintro e W5 ⟨u5, rfl, t5, hq⟩
  replace t2 := t2.below hq
  replace hA3 := hA3.below hq
  replace hB3 := hB3.below hq
  replace s4_0 := s4_0.below hq
  replace hy := below_to hy hq
  clear hq
  simp only [List.map] at t5
  clear s4_0
  go_wp2_with fail
  refine (sslope_any [[1, 0], [0, 1]] [3, 1] 2 [(1, 1), (0, 1)] _ _ _ _ hA3 hB3 t5 (fi_of _ (by decide))).mono ?_
  rintro e W6 ⟨u6, rfl, t6, hq⟩
  replace t2 := t2.below hq
  replace hA3 := hA3.below hq
  replace hB3 := hB3.below hq
  replace t5 := t5.below hq
  replace hy := below_to hy hq
  clear hq
  have e6 : sSlope [[1, 0], [0, 1]] [3, 1] 2 [(1, 1), (0, 1)] = ([(0, 1), (1, 1)], 0) := by decide +kernel
  rw [e6] at t6 ⊢
  clear e6
  clear hA3 hB3 t5
  go_wp2_with fail
  refine (given38_any _).mono ?_
  rintro e W7 ⟨va7, vb7, rfl, hA7, hB7, hq⟩
  replace t2 := t2.below hq
  replace t6 := t6.below hq
  replace hy := below_to hy hq
  clear hq
  go_wp2_with fail
  have q8_0 := Own.new W7 2 [.int .i64 1, .int .i64 0]
  have hq := ba1 W7 (.cells #[.int .i64 1, .int .i64 0] 2)
  replace t2 := t2.below hq
  replace t6 := t6.below hq
  replace hA7 := hA7.below hq
  replace hB7 := hB7.below hq
  replace hy := below_to hy hq
  clear hq
  generalize (W7.alloc (.cells #[.int .i64 1, .int .i64 0] 2)) = W8 at *
  obtain ⟨B8, hB8⟩ : ∃ B, B = W7.heap.size := ⟨_, rfl⟩
  rw [← hB8] at q8_0 ⊢
  clear hB8
  have s8_0 := si_of_own [1, 0] 2 rfl (by decide) q8_0
  refine (ints38_any [1, 0] _ _ s8_0 (by decide)).mono ?_
  rintro e W9 ⟨u9, rfl, t9, hq⟩
  replace t2 := t2.below hq
  replace t6 := t6.below hq
  replace hA7 := hA7.below hq
  replace hB7 := hB7.below hq
  replace s8_0 := s8_0.below hq
  replace hy := below_to hy hq
  clear hq
  simp only [List.map] at t9
  clear s8_0
  go_wp2_with fail
  refine (scost_any [[1, 0], [0, 1]] [3, 1] 2 [(1, 1), (0, 1)] _ _ _ _ hA7 hB7 t9 (fi_of _ (by decide))).mono ?_
  rintro e W10 ⟨rfl, hq⟩
  replace t2 := t2.below hq
  replace t6 := t6.below hq
  replace hA7 := hA7.below hq
  replace hB7 := hB7.below hq
  replace t9 := t9.below hq
  replace hy := below_to hy hq
  clear hq
  rw [show sCost [[1, 0], [0, 1]] [3, 1] 2 [(1, 1), (0, 1)] = ⟨9, 2, 0⟩ from fr_is (by decide +kernel)]
  clear hA7 hB7 t9
  go_wp2_with fail
  have q11_0 := Own.new W10 39 [.int .i64 9, .int .i64 2]
  have hq := ba1 W10 (.cells #[.int .i64 9, .int .i64 2] 39)
  replace t2 := t2.below hq
  replace t6 := t6.below hq
  replace hy := below_to hy hq
  clear hq
  generalize (W10.alloc (.cells #[.int .i64 9, .int .i64 2] 39)) = W11 at *
  obtain ⟨B11, hB11⟩ : ∃ B, B = W10.heap.size := ⟨_, rfl⟩
  rw [← hB11] at q11_0 ⊢
  clear hB11
  have o11_0 := q11_0
  refine (given38_any _).mono ?_
  rintro e W12 ⟨va12, vb12, rfl, hA12, hB12, hq⟩
  replace t2 := t2.below hq
  replace t6 := t6.below hq
  replace o11_0 := o11_0.below hq
  replace hy := below_to hy hq
  clear hq
  obtain ⟨r11_0, f11_0⟩ := o11_0.rules
  have z11_0 := o11_0.lt
  go_wp2_with fail
  clear r11_0 f11_0 z11_0
  refine (spdark_any [[1, 0], [0, 1]] [3, 1] _ _ _ hA12 hB12).mono ?_
  rintro e W13 ⟨rfl, hq⟩
  replace t2 := t2.below hq
  replace t6 := t6.below hq
  replace o11_0 := o11_0.below hq
  replace hA12 := hA12.below hq
  replace hB12 := hB12.below hq
  replace hy := below_to hy hq
  clear hq
  rw [show sDark [[1, 0], [0, 1]] [3, 1] = (3, 0) from by decide +kernel]
  clear hA12 hB12
  obtain ⟨r11_0, f11_0⟩ := o11_0.rules
  have z11_0 := o11_0.lt
  go_wp2_with fail
  clear r11_0 f11_0 z11_0
  have q14_0 := Own.new W13 2 [.int .i64 1, .int .i64 0]
  have hq := ba1 W13 (.cells #[.int .i64 1, .int .i64 0] 2)
  replace t2 := t2.below hq
  replace t6 := t6.below hq
  replace o11_0 := o11_0.below hq
  replace hy := below_to hy hq
  clear hq
  generalize (W13.alloc (.cells #[.int .i64 1, .int .i64 0] 2)) = W14 at *
  obtain ⟨B14, hB14⟩ : ∃ B, B = W13.heap.size := ⟨_, rfl⟩
  rw [← hB14] at q14_0 ⊢
  clear hB14
  have s14_0 := si_of_own [1, 0] 2 rfl (by decide) q14_0
  refine (ints38_any [1, 0] _ _ s14_0 (by decide)).mono ?_
  rintro e W15 ⟨u15, rfl, t15, hq⟩
  replace t2 := t2.below hq
  replace t6 := t6.below hq
  replace o11_0 := o11_0.below hq
  replace s14_0 := s14_0.below hq
  replace hy := below_to hy hq
  clear hq
  simp only [List.map] at t15
  clear s14_0
  obtain ⟨r11_0, f11_0⟩ := o11_0.rules
  have z11_0 := o11_0.lt
  go_wp2_with fail
  clear r11_0 f11_0 z11_0
  refine (rsame_true [(1, 1), (0, 1)] _ _ _ t2 t15).mono ?_
  rintro e W16 ⟨rfl, hq⟩
  replace t2 := t2.below hq
  replace t6 := t6.below hq
  replace o11_0 := o11_0.below hq
  replace t15 := t15.below hq
  replace hy := below_to hy hq
  clear hq
  clear t2 t15
  obtain ⟨r11_0, f11_0⟩ := o11_0.rules
  have z11_0 := o11_0.lt
  go_wp2_with fail
  clear r11_0 f11_0 z11_0
  have q17_0 := Own.new W16 2 [.int .i64 0, .int .i64 1]
  have hq := ba1 W16 (.cells #[.int .i64 0, .int .i64 1] 2)
  replace t6 := t6.below hq
  replace o11_0 := o11_0.below hq
  replace hy := below_to hy hq
  clear hq
  generalize (W16.alloc (.cells #[.int .i64 0, .int .i64 1] 2)) = W17 at *
  obtain ⟨B17, hB17⟩ : ∃ B, B = W16.heap.size := ⟨_, rfl⟩
  rw [← hB17] at q17_0 ⊢
  clear hB17
  have s17_0 := si_of_own [0, 1] 2 rfl (by decide) q17_0
  refine (ints38_any [0, 1] _ _ s17_0 (by decide)).mono ?_
  rintro e W18 ⟨u18, rfl, t18, hq⟩
  replace t6 := t6.below hq
  replace o11_0 := o11_0.below hq
  replace s17_0 := s17_0.below hq
  replace hy := below_to hy hq
  clear hq
  simp only [List.map] at t18
  clear s17_0
  obtain ⟨r11_0, f11_0⟩ := o11_0.rules
  have z11_0 := o11_0.lt
  go_wp2_with fail
  clear r11_0 f11_0 z11_0
  refine (rsame_true [(0, 1), (1, 1)] _ _ _ t6 t18).mono ?_
  rintro e W19 ⟨rfl, hq⟩
  replace t6 := t6.below hq
  replace o11_0 := o11_0.below hq
  replace t18 := t18.below hq
  replace hy := below_to hy hq
  clear hq
  clear t6 t18
  obtain ⟨r11_0, f11_0⟩ := o11_0.rules
  have z11_0 := o11_0.lt
  go_wp2
  go_ret
  exact ⟨by first | rfl | simp, hy⟩
end Go.Proofs.Ytfoemacgmehpiaa
