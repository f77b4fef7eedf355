/- What is proved here: contracts of functions and plain facts, several texts in one; each one says ahead what it proves, and its conditions. -/
import Derived.Test.YtpjhiojdnebgoaaC22
import Derived.Test.YtpjhiojdnebgoaaC12
import Derived.Test.YtpjhiojdnebgoaaC01
import Derived.Deep.DeepCutAuto
/- What is proved here: fringelaw22.vis, alive and fit. Condition: as each theorem says. -/
namespace Go.Proofs.Ytpjhiojdnebgoaa
open Go.RowKit

theorem sv_of_own {w : World} {g : Nat} {T : TypeId} (xs : List Vs) (n : Nat) (hn : xs.length = n) (hm : n ≤ 1000) (h : Own w g T (vcs xs)) : SV w (.slice (some ⟨g, 0, none⟩) n n) xs := by
  unfold SV; rw [hn]
  exact h.sl n (Nat.le_refl _) (by omega) _ ⟨[], by simp⟩
theorem vr_is {a : VR} {i j re im den n e : Int} (h : a.i = i ∧ a.j = j ∧ a.re = re ∧ a.im = im ∧ a.den = den ∧ a.n = n ∧ a.e = e) : a = ⟨i, j, re, im, den, n, e⟩ := by
  obtain ⟨rfl, rfl, rfl, rfl, rfl, rfl, rfl⟩ := h; rfl
set_option maxRecDepth 100000 in
set_option maxHeartbeats 4000000 in
theorem vis22_any (re im den n : Int) (w : World) : Calls Try.prog 46 #[.int .i64 re, .int .i64 im, .int .i64 den, .int .i64 n] w fun e w' => e = .returned (.agg #[.int .i64 0, .int .i64 1, .int .i64 re, .int .i64 im, .int .i64 den, .int .i64 n]) ∧ Below w.heap.size w w' := by
  have oR := Own.new w 60 [.int .i64 0, .int .i64 0, .int .i64 0, .int .i64 0, .int .i64 0, .int .i64 0]
  have hB := ba1 w (.cells #[.int .i64 0, .int .i64 0, .int .i64 0, .int .i64 0, .int .i64 0, .int .i64 0] 60)
  go_enter Try.func46, Try.ntmps46
  go_upto_region 1 with fail
  generalize w.alloc (.cells #[.int .i64 0, .int .i64 0, .int .i64 0, .int .i64 0, .int .i64 0, .int .i64 0] 60) = y0 at *
  obtain ⟨rR, fR⟩ := oR.rules
  have zR := oR.lt
  go_wp2
  clear rR fR zR
  replace oR := ((((((oR.set 0 (.int .i64 0)).set 1 (.int .i64 1)).set 2 (.int .i64 re)).set 3 (.int .i64 im)).set 4 (.int .i64 den)).set 5 (.int .i64 n))
  replace hB := ((((((hB.setCell (p := ⟨w.heap.size, 0, none⟩) (by simp) (.int .i64 0)).setCell (p := ⟨w.heap.size, 1, none⟩) (by simp) (.int .i64 1)).setCell (p := ⟨w.heap.size, 2, none⟩) (by simp) (.int .i64 re)).setCell (p := ⟨w.heap.size, 3, none⟩) (by simp) (.int .i64 im)).setCell (p := ⟨w.heap.size, 4, none⟩) (by simp) (.int .i64 den)).setCell (p := ⟨w.heap.size, 5, none⟩) (by simp) (.int .i64 n))
  refine bp_gen' (fun W => Own W _ _ _ ∧ Below w.heap.size w W) ⟨oR, hB⟩ ?_
  rintro wz ⟨oz, bz⟩
  obtain ⟨rz, fz⟩ := oz.rules
  clear oz
  refine bodyPost_ret (v := .agg #[.int .i64 0, .int .i64 1, .int .i64 re, .int .i64 im, .int .i64 den, .int .i64 n]) (by simp [results, Try.results46, go_sem, rz]) rfl ⟨rfl, ?_⟩
  exact bz
set_option maxRecDepth 100000 in
set_option maxHeartbeats 16000000 in
theorem alive22_any (w : World) : Calls Try.prog 33 #[] w fun e w' => e = .returned (.bool true) ∧ Below w.heap.size w w' := by
  go_enter Try.func33, Try.ntmps33
  go_wp2_with fail
  refine (vis22_any 1 0 2 1 _).mono ?_
  rintro e W1 ⟨rfl, hy⟩
  go_wp2_with fail
  refine (vis22_any 1 1 1 3 _).mono ?_
  rintro e W2 ⟨rfl, hq⟩
  replace hy := below_to hy hq
  clear hq
  go_wp2_with fail
  have oL := Own.new W2 60 (vcs [⟨0, 1, 1, 0, 2, 1⟩, ⟨0, 1, 1, 1, 1, 3⟩])
  have hq := ba1 W2 (.cells (vcs [⟨0, 1, 1, 0, 2, 1⟩, ⟨0, 1, 1, 1, 1, 3⟩]).toArray 60)
  have sL := sv_of_own _ 2 rfl (by decide) oL
  replace hy := below_to hy hq
  clear hq oL
  refine (vMean_any [⟨0, 1, 1, 0, 2, 1⟩, ⟨0, 1, 1, 1, 1, 3⟩] _ _ sL).mono ?_
  rintro e W3 ⟨rfl, hq⟩
  replace hy := below_to hy hq
  clear hq sL
  rw [show vMean [⟨0, 1, 1, 0, 2, 1⟩, ⟨0, 1, 1, 1, 1, 3⟩] = ⟨0, 1, 7, 6, 8, 4, 0⟩ from vr_is (by decide +kernel)]
  unfold VR.res
  have oA := Own.new W3 60 [.int .i64 0, .int .i64 1, .int .i64 7, .int .i64 6, .int .i64 8, .int .i64 4]
  have hq := ba1 W3 (.cells #[.int .i64 0, .int .i64 1, .int .i64 7, .int .i64 6, .int .i64 8, .int .i64 4] 60)
  go_upto_region 2 with fail
  replace hy := below_to hy hq
  clear hq
  obtain ⟨bA, hA⟩ : ∃ B, B = W3.heap.size := ⟨_, rfl⟩
  rw [← hA] at oA ⊢
  clear hA
  generalize W3.alloc (.cells #[.int .i64 0, .int .i64 1, .int .i64 7, .int .i64 6, .int .i64 8, .int .i64 4] 60) = W4 at *
  go_wp2_with fail
  refine (vmake_any 1 0 1 2 1 3 5 _ ⟨by decide, by decide⟩ ⟨by decide, by decide⟩ ⟨by decide, by decide⟩ ⟨by decide, by decide⟩).mono ?_
  rintro e W5 ⟨rfl, hq⟩
  replace oA := oA.below hq
  replace hy := below_to hy hq
  clear hq
  rw [show wmk 1 0 1 2 1 3 5 = ⟨0, 1, 3, -2, 6, 5, 0⟩ from vr_is (by decide +kernel)]
  have oB := Own.new W5 60 [.int .i64 0, .int .i64 1, .int .i64 3, .int .i64 (-2), .int .i64 6, .int .i64 5]
  have hq := ba1 W5 (.cells #[.int .i64 0, .int .i64 1, .int .i64 3, .int .i64 (-2), .int .i64 6, .int .i64 5] 60)
  go_upto_region 3 with fail
  replace oA := oA.below hq
  replace hy := below_to hy hq
  clear hq
  obtain ⟨bB, hB⟩ : ∃ B, B = W5.heap.size := ⟨_, rfl⟩
  rw [← hB] at oB ⊢
  clear hB
  generalize W5.alloc (.cells #[.int .i64 0, .int .i64 1, .int .i64 3, .int .i64 (-2), .int .i64 6, .int .i64 5] 60) = W6 at *
  have gl := @grow_lt
  obtain ⟨rA, fA⟩ := oA.rules
  have zA := oA.lt
  obtain ⟨rB, fB⟩ := oB.rules
  have zB := oB.lt
  go_wp2_with fail
  refine wp_region_st [.t [0, 1, 2, 3], .f 4, .t [5, 6, 7, 8, 9, 10, 11, 12], .f 13, .t [14, 15]] [16] (by kernel_rfl) (by kernel_rfl) (fun _ _ _ _ _ h => h) ?_
  refine wpX_t ?_
  try simp only [opsAt, List.getElem?_toArray, List.getElem?_cons_zero, List.getElem?_cons_succ, Option.getD_some]
  repeat (go_big_quiet_step (fail))
  refine wpQuiet_nil ?_
  have hD := (Below.refl W6.heap.size W6).drew
  refine wpX_f rfl rfl (fun K' hK' => ?_)
  go_simp
  refine (vis22_any 7 6 8 4 _).mono ?_
  rintro e z1 ⟨rfl, hq1⟩
  refine hK' _ _ (grow_of (below_to hD hq1)) ?_
  clear hK' K'
  refine wpX_t ?_
  try simp only [opsAt, List.getElem?_toArray, List.getElem?_cons_zero, List.getElem?_cons_succ, Option.getD_some]
  repeat (go_big_quiet_step (fail))
  refine wpQuiet_nil ?_
  refine wpX_f rfl rfl (fun K' hK' => ?_)
  go_simp
  refine (vis22_any 3 (-2) 6 5 _).mono ?_
  rintro e z2 ⟨rfl, hq2⟩
  refine hK' _ _ (grow_of (below_to (below_to hD hq1) hq2)) ?_
  clear hK' K'
  refine wpX_t ?_
  try simp only [opsAt, List.getElem?_toArray, List.getElem?_cons_zero, List.getElem?_cons_succ, Option.getD_some]
  repeat (go_big_quiet_step (fail))
  refine wpQuiet_nil ?_
  refine wpX_nil ?_
  try simp only [opsAt, List.getElem?_toArray, List.getElem?_cons_zero, List.getElem?_cons_succ, Option.getD_some]
  replace hy := below_to hy (below_to (below_to hD hq1) hq2)
  go_wp2
  go_ret
  exact ⟨by first | rfl | simp, hy⟩
set_option maxRecDepth 100000 in
set_option maxHeartbeats 4000000 in
theorem fit22_any (l : List Vs) (v : Value) (w : World) (hs : SV w v l) : Calls Try.prog 34 #[v] w fun e w' => e = .returned (.bool (decide (l.length ≤ 250) && decide (vlist l = 0))) ∧ Below w.heap.size w w' := by
  have S0 := Lib.hid hs
  clear hs
  by_cases g : 250 < l.length
  · go_enter Try.func34, Try.ntmps34
    go_wp2_with fail
    refine (rvlong_any l _ _ S0.out).mono ?_
    rintro e _ ⟨rfl, rfl⟩
    rw [decide_eq_true g]
    go_wp2
    go_ret
    exact ⟨by rw [decide_eq_false (show ¬ l.length ≤ 250 by omega)]; rfl, Below.refl _ _⟩
  go_enter Try.func34, Try.ntmps34
  go_wp2_with fail
  refine (rvlong_any l _ _ S0.out).mono ?_
  rintro e _ ⟨rfl, rfl⟩
  rw [decide_eq_false g]
  go_wp2_with fail
  refine (rvlist_any l _ _ S0.out).mono ?_
  rintro e W1 ⟨rfl, hq⟩
  by_cases h : vlist l = 0
  · have b1 : (vlist l == 0) = true := by simp [h]
    go_wp2
    go_ret
    exact ⟨by rw [decide_eq_true (show l.length ≤ 250 by omega), decide_eq_true h]; rfl, hq⟩
  · have b1 : (vlist l == 0) = false := by simpa using h
    go_wp2
    go_ret
    exact ⟨by rw [decide_eq_true (show l.length ≤ 250 by omega), decide_eq_false h]; rfl, hq⟩
end Go.Proofs.Ytpjhiojdnebgoaa
