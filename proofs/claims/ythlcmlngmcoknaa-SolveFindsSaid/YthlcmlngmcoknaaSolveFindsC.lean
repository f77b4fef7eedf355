/- What is proved here: the law SolveFinds returns true. Condition: a system that can be read. -/
import Derived.Test.YthlcmlngmcoknaaC51
import Derived.Test.YthlcmlngmcoknaaC25
import Derived.Test.YthlcmlngmcoknaaC52
import Derived.Test.YthlcmlngmcoknaaC02
namespace Go.Proofs.Ythlcmlngmcoknaa
open Go.RowKit

set_option maxRecDepth 100000 in
set_option maxHeartbeats 16000000 in
theorem solveFinds_any (A : List (List Int)) (B : List Int) (va vb : Value) (w : World) (hA : SS w va A) (hB : SI w vb B) :
    Calls Try.prog 4 #[.agg #[va, vb]] w fun e w' => e = .returned (.bool true) ∧ Below w.heap.size w w' := by
  go_enter Try.func4, Try.ntmps4
  have oS := Own.new w 25 [va, vb]
  have hy := ba1 w (.cells #[va, vb] 25)
  replace hA := hA.below hy
  replace hB := hB.below hy
  obtain ⟨rS, fS⟩ := oS.rules
  have zS := oS.lt
  go_wp2_with fail
  refine (rogreat_any A B _ _ _ hA hB).mono ?_
  rintro e y1 ⟨rfl, hq⟩
  clear rS fS zS
  replace oS := oS.below hq
  replace hA := hA.below hq
  replace hB := hB.below hq
  replace hy := below_to hy hq
  clear hq
  obtain ⟨rS, fS⟩ := oS.rules
  have zS := oS.lt
  cases hg : ogreat A B with
  | true =>
    go_wp2
    go_ret
    exact ⟨rfl, hy⟩
  | false =>
  clear hg
  go_wp2_with fail
  refine (orank_any A B _ _ _ hA hB).mono ?_
  rintro e y2 ⟨rfl, hq⟩
  clear rS fS zS
  replace oS := oS.below hq
  replace hA := hA.below hq
  replace hB := hB.below hq
  replace hy := below_to hy hq
  clear hq
  obtain ⟨rS, fS⟩ := oS.rules
  have zS := oS.lt
  go_wp2_with fail
  refine (rrank_any A B _ _ _ hA hB).mono ?_
  rintro e y3 ⟨rfl, hq⟩
  clear rS fS zS
  replace oS := oS.below hq
  replace hA := hA.below hq
  replace hB := hB.below hq
  replace hy := below_to hy hq
  clear hq
  obtain ⟨rS, fS⟩ := oS.rules
  have zS := oS.lt
  generalize (oRank A B).1 = r1 at *
  generalize (oRank A B).2 = r2 at *
  go_wp2_with fail
  refine (osolve_any A B _ _ _ hA hB).mono ?_
  rintro e y4 ⟨x1, x2, rfl, sx, sb, hq⟩
  clear rS fS zS
  replace oS := oS.below hq
  replace hA := hA.below hq
  replace hB := hB.below hq
  replace hy := below_to hy hq
  clear hq
  obtain ⟨rS, fS⟩ := oS.rules
  have zS := oS.lt
  go_wp2_with fail
  refine (rsolve_any A B _ _ _ hA hB).mono ?_
  rintro e y5 ⟨u1, u2, rfl, sy, sc, hq⟩
  replace sx := sx.below hq
  replace sb := sb.below hq
  clear rS fS zS
  replace oS := oS.below hq
  replace hA := hA.below hq
  replace hB := hB.below hq
  replace hy := below_to hy hq
  clear hq
  obtain ⟨rS, fS⟩ := oS.rules
  have zS := oS.lt
  generalize hO : oSolve A B = O at *
  clear hO
  obtain ⟨X, BB, E⟩ := O
  simp only at sx sb sy sc
  go_wp2_with fail
  refine (orefute_any A B _ _ _ hA hB).mono ?_
  rintro e y6 ⟨p1, rfl, sp, hq⟩
  replace sx := sx.below hq
  replace sb := sb.below hq
  replace sy := sy.below hq
  replace sc := sc.below hq
  clear rS fS zS
  replace oS := oS.below hq
  replace hA := hA.below hq
  replace hB := hB.below hq
  replace hy := below_to hy hq
  clear hq
  obtain ⟨rS, fS⟩ := oS.rules
  have zS := oS.lt
  go_wp2_with fail
  refine (rrefute_any A B _ _ _ hA hB).mono ?_
  rintro e y7 ⟨q1, rfl, sq, hq⟩
  replace sx := sx.below hq
  replace sb := sb.below hq
  replace sy := sy.below hq
  replace sc := sc.below hq
  replace sp := sp.below hq
  clear rS fS zS
  replace oS := oS.below hq
  replace hA := hA.below hq
  replace hB := hB.below hq
  replace hy := below_to hy hq
  clear hq
  obtain ⟨rS, fS⟩ := oS.rules
  have zS := oS.lt
  generalize hO : oRefute A B = O at *
  clear hO
  obtain ⟨PP, E2⟩ := O
  simp only at sp sq
  have gl := @grow_lt
  go_upto_region 9 with fail
  go_wp2_with fail
  refine wp_region_st [.t [0, 2], .f 1, .f 3, .t [4, 5, 6, 7, 8, 9, 10, 11, 12, 13, 14, 15, 16, 17], .f 18, .t [19, 20, 21, 22], .f 23, .t [24, 25, 26, 27, 28, 29, 30, 31, 32], .f 33, .t [34, 35, 36, 37, 38, 39]] [40] (by kernel_rfl) (by kernel_rfl) (fun _ _ _ _ _ h => h) ?_
  refine wpX_t ?_
  try simp only [opsAt, List.getElem?_toArray, List.getElem?_cons_zero, List.getElem?_cons_succ, Option.getD_some]
  repeat (go_big_quiet_step (fail))
  refine wpQuiet_nil ?_
  have hR : Below y7.heap.size y7 y7.drew := (Below.refl _ _).drew
  refine wpX_f rfl rfl (fun K' hK' => ?_)
  go_simp
  refine (ocheck_any A B _ _ _ (hA.below hR) (hB.below hR)).mono ?_
  rintro e z1 ⟨rfl, hq1⟩
  refine hK' _ _ (grow_of (below_to hR hq1)) ?_
  clear hK' K'
  replace hR := below_to hR hq1
  clear hq1
  refine wpX_f rfl rfl (fun K' hK' => ?_)
  go_simp
  refine (rocheck_any A B _ _ _ (hA.below hR) (hB.below hR)).mono ?_
  rintro e z2 ⟨rfl, hq1⟩
  refine hK' _ _ (grow_of (below_to hR hq1)) ?_
  clear hK' K'
  replace hR := below_to hR hq1
  clear hq1
  generalize ocheck A B = CH at *
  refine wpX_t ?_
  try simp only [opsAt, List.getElem?_toArray, List.getElem?_cons_zero, List.getElem?_cons_succ, Option.getD_some]
  repeat (go_big_quiet_step (fail))
  refine wpQuiet_nil ?_
  refine wpX_f rfl rfl (fun K' hK' => ?_)
  go_simp
  refine (same29_true X _ _ _ (sx.below hR) (sy.below hR)).mono ?_
  rintro e z3 ⟨rfl, hq1⟩
  refine hK' _ _ (grow_of (below_to hR hq1)) ?_
  clear hK' K'
  replace hR := below_to hR hq1
  clear hq1
  refine wpX_t ?_
  try simp only [opsAt, List.getElem?_toArray, List.getElem?_cons_zero, List.getElem?_cons_succ, Option.getD_some]
  repeat (go_big_quiet_step (fail))
  refine wpQuiet_nil ?_
  refine wpX_f rfl rfl (fun K' hK' => ?_)
  go_simp
  refine (sameall_true BB _ _ _ (sb.below hR) (sc.below hR)).mono ?_
  rintro e z4 ⟨rfl, hq1⟩
  refine hK' _ _ (grow_of (below_to hR hq1)) ?_
  clear hK' K'
  replace hR := below_to hR hq1
  clear hq1
  refine wpX_t ?_
  try simp only [opsAt, List.getElem?_toArray, List.getElem?_cons_zero, List.getElem?_cons_succ, Option.getD_some]
  repeat (go_big_quiet_step (fail))
  refine wpQuiet_nil ?_
  refine wpX_f rfl rfl (fun K' hK' => ?_)
  go_simp
  refine (same29_true PP _ _ _ (sp.below hR) (sq.below hR)).mono ?_
  rintro e z5 ⟨rfl, hq1⟩
  refine hK' _ _ (grow_of (below_to hR hq1)) ?_
  clear hK' K'
  replace hR := below_to hR hq1
  clear hq1
  refine wpX_t ?_
  try simp only [opsAt, List.getElem?_toArray, List.getElem?_cons_zero, List.getElem?_cons_succ, Option.getD_some]
  repeat (go_big_quiet_step (fail))
  refine wpQuiet_nil ?_
  refine wpX_nil ?_
  try simp only [opsAt, List.getElem?_toArray, List.getElem?_cons_zero, List.getElem?_cons_succ, Option.getD_some]
  clear gl rS fS zS oS hA hB sx sy sb sc sp sq
  replace hy := below_to hy hR
  go_wp2
  go_ret
  exact ⟨by first | rfl | simp, hy⟩
end Go.Proofs.Ythlcmlngmcoknaa
