/- What is proved here: the law NnlsTells returns true. Condition: a system and a slice of fractions that can be read. -/
import Derived.Test.YtfbigmjlppdlhaaC14
import Derived.Test.YtfbigmjlppdlhaaC26
import Derived.Test.YtfbigmjlppdlhaaC27
import Derived.Test.YtfbigmjlppdlhaaC17
import Derived.Deep.DeepCutAuto
namespace Go.Proofs.Ytfbigmjlppdlhaa
open Go.RowKit

set_option maxRecDepth 100000 in
set_option maxHeartbeats 16000000 in
theorem nnlsTells_any (A : List (List Int)) (B : List Int) (x : List (Int × Int)) (va vb vx : Value) (w : World) (hA : SS w va A) (hB : SI w vb B) (hx : SF w vx x) (ix : FI x) :
    Calls Try.prog 3 #[.agg #[va, vb], vx] w fun e w' => e = .returned (.bool true) ∧ Below w.heap.size w w' := by
  have IX := Lib.hid ix
  obtain ⟨adx, capx, rfl, hx1, hx2, _⟩ := hx.open
  clear ix
  go_enter Try.func3, Try.ntmps3
  have oS := Own.new w 25 [va, vb]
  have hy := ba1 w (.cells #[va, vb] 25)
  replace hA := hA.below hy
  replace hB := hB.below hy
  replace hx := hx.below hy
  obtain ⟨rS, fS⟩ := oS.rules
  have zS := oS.lt
  go_wp2_with fail
  refine (rngreat_any A B _ _ _ hA hB).mono ?_
  rintro e y1 ⟨rfl, hq⟩
  clear rS fS zS
  replace oS := oS.below hq
  replace hA := hA.below hq
  replace hB := hB.below hq
  replace hx := hx.below hq
  replace hy := below_to hy hq
  clear hq
  obtain ⟨rS, fS⟩ := oS.rules
  have zS := oS.lt
  by_cases g1 : ngreat A B = true
  · rw [g1]
    clear g1 hA hB hx
    go_wp2
    go_ret
    exact ⟨rfl, hy⟩
  have g1' : ngreat A B = false := by simpa using g1
  rw [g1']
  clear g1 g1'
  by_cases g2 : 20 < (x.length : Int)
  · have q2 : decide (20 < (x.length : Int)) = true := by simpa using g2
    clear hA hB hx
    go_wp2
    go_ret
    exact ⟨rfl, hy⟩
  have q2 : decide (20 < (x.length : Int)) = false := by simpa using g2
  have q3 : x.length ≤ 20 := by omega
  clear rS fS zS
  obtain ⟨rS, fS⟩ := oS.rules
  have zS := oS.lt
  go_wp2_with fail
  refine (nresid_any A B x _ _ _ _ hA hB hx IX.out).mono ?_
  rintro e v2 ⟨ua, rfl, sa, hq⟩
  clear rS fS zS
  replace oS := oS.below hq
  replace hA := hA.below hq
  replace hB := hB.below hq
  replace hx := hx.below hq
  replace hy := below_to hy hq
  clear hq
  obtain ⟨rS, fS⟩ := oS.rules
  have zS := oS.lt
  go_wp2_with fail
  refine (rnresid_any A B x _ _ _ _ hA hB hx IX.out).mono ?_
  rintro e v3 ⟨ub, rfl, sb, hq⟩
  clear rS fS zS
  replace oS := oS.below hq
  replace hA := hA.below hq
  replace hB := hB.below hq
  replace hx := hx.below hq
  replace sa := sa.below hq
  replace hy := below_to hy hq
  clear hq
  obtain ⟨rS, fS⟩ := oS.rules
  have zS := oS.lt
  go_wp2_with fail
  refine (ngrad_any A B x _ _ _ _ hA hB hx IX.out).mono ?_
  rintro e v4 ⟨uc, rfl, sc, hq⟩
  clear rS fS zS
  replace oS := oS.below hq
  replace hA := hA.below hq
  replace hB := hB.below hq
  replace hx := hx.below hq
  replace sa := sa.below hq
  replace sb := sb.below hq
  replace hy := below_to hy hq
  clear hq
  obtain ⟨rS, fS⟩ := oS.rules
  have zS := oS.lt
  go_wp2_with fail
  refine (rngrad_any A B x _ _ _ _ hA hB hx IX.out).mono ?_
  rintro e v5 ⟨ud, rfl, sd, hq⟩
  clear rS fS zS
  replace oS := oS.below hq
  replace hA := hA.below hq
  replace hB := hB.below hq
  replace hx := hx.below hq
  replace sa := sa.below hq
  replace sb := sb.below hq
  replace sc := sc.below hq
  replace hy := below_to hy hq
  clear hq
  obtain ⟨rS, fS⟩ := oS.rules
  have zS := oS.lt
  go_wp2_with fail
  refine (nval_any A B x _ _ _ _ hA hB hx IX.out).mono ?_
  rintro e v6 ⟨rfl, hq⟩
  clear rS fS zS
  replace oS := oS.below hq
  replace hA := hA.below hq
  replace hB := hB.below hq
  replace hx := hx.below hq
  replace sa := sa.below hq
  replace sb := sb.below hq
  replace sc := sc.below hq
  replace sd := sd.below hq
  replace hy := below_to hy hq
  clear hq
  obtain ⟨V, hV⟩ : ∃ V, V = nValue A B x := ⟨_, rfl⟩
  rw [← hV]
  have HVV := Lib.hid hV
  clear hV
  go_upto_region 8 with fail
  replace oS := oS.alloc (.cells #[.int .i64 V.n, .int .i64 V.d] 34)
  replace hA := hA.below (ba1 v6 (.cells #[.int .i64 V.n, .int .i64 V.d] 34))
  replace hB := hB.below (ba1 v6 (.cells #[.int .i64 V.n, .int .i64 V.d] 34))
  replace hx := hx.below (ba1 v6 (.cells #[.int .i64 V.n, .int .i64 V.d] 34))
  replace sa := sa.below (ba1 v6 (.cells #[.int .i64 V.n, .int .i64 V.d] 34))
  replace sb := sb.below (ba1 v6 (.cells #[.int .i64 V.n, .int .i64 V.d] 34))
  replace sc := sc.below (ba1 v6 (.cells #[.int .i64 V.n, .int .i64 V.d] 34))
  replace sd := sd.below (ba1 v6 (.cells #[.int .i64 V.n, .int .i64 V.d] 34))
  replace hy := below_to hy (ba1 v6 (.cells #[.int .i64 V.n, .int .i64 V.d] 34))
  have oP := Own.new v6 34 [.int .i64 V.n, .int .i64 V.d]
  generalize hbk : v6.heap.size = kP at oP ⊢
  clear hbk
  generalize v6.alloc (.cells #[.int .i64 V.n, .int .i64 V.d] 34) = y6 at *
  obtain ⟨rS, fS⟩ := oS.rules
  have zS := oS.lt
  go_wp2_with fail
  refine (rnval_any A B x _ _ _ _ hA hB hx IX.out).mono ?_
  rintro e v7 ⟨rfl, hq⟩
  clear rS fS zS
  replace oS := oS.below hq
  replace oP := oP.below hq
  replace hA := hA.below hq
  replace hB := hB.below hq
  replace hx := hx.below hq
  replace sa := sa.below hq
  replace sb := sb.below hq
  replace sc := sc.below hq
  replace sd := sd.below hq
  replace hy := below_to hy hq
  clear hq
  rw [← HVV.out]
  go_upto_region 9 with fail
  replace oS := oS.alloc (.cells #[.int .i64 V.n, .int .i64 V.d] 34)
  replace oP := oP.alloc (.cells #[.int .i64 V.n, .int .i64 V.d] 34)
  replace hA := hA.below (ba1 v7 (.cells #[.int .i64 V.n, .int .i64 V.d] 34))
  replace hB := hB.below (ba1 v7 (.cells #[.int .i64 V.n, .int .i64 V.d] 34))
  replace hx := hx.below (ba1 v7 (.cells #[.int .i64 V.n, .int .i64 V.d] 34))
  replace sa := sa.below (ba1 v7 (.cells #[.int .i64 V.n, .int .i64 V.d] 34))
  replace sb := sb.below (ba1 v7 (.cells #[.int .i64 V.n, .int .i64 V.d] 34))
  replace sc := sc.below (ba1 v7 (.cells #[.int .i64 V.n, .int .i64 V.d] 34))
  replace sd := sd.below (ba1 v7 (.cells #[.int .i64 V.n, .int .i64 V.d] 34))
  replace hy := below_to hy (ba1 v7 (.cells #[.int .i64 V.n, .int .i64 V.d] 34))
  have oQ := Own.new v7 34 [.int .i64 V.n, .int .i64 V.d]
  generalize hbk : v7.heap.size = kQ at oQ ⊢
  clear hbk
  generalize v7.alloc (.cells #[.int .i64 V.n, .int .i64 V.d] 34) = y7 at *
  obtain ⟨rS, fS⟩ := oS.rules
  have zS := oS.lt
  go_wp2_with fail
  refine (nopt_any A B x _ _ _ _ hA hB hx IX.out).mono ?_
  rintro e v8 ⟨rfl, hq⟩
  clear rS fS zS
  replace oS := oS.below hq
  replace oP := oP.below hq
  replace oQ := oQ.below hq
  replace hA := hA.below hq
  replace hB := hB.below hq
  replace hx := hx.below hq
  replace sa := sa.below hq
  replace sb := sb.below hq
  replace sc := sc.below hq
  replace sd := sd.below hq
  replace hy := below_to hy hq
  clear hq
  obtain ⟨rS, fS⟩ := oS.rules
  have zS := oS.lt
  go_wp2_with fail
  refine (rnopt_any A B x _ _ _ _ hA hB hx IX.out).mono ?_
  rintro e v9 ⟨rfl, hq⟩
  clear rS fS zS
  replace oS := oS.below hq
  replace oP := oP.below hq
  replace oQ := oQ.below hq
  replace hA := hA.below hq
  replace hB := hB.below hq
  replace hx := hx.below hq
  replace sa := sa.below hq
  replace sb := sb.below hq
  replace sc := sc.below hq
  replace sd := sd.below hq
  replace hy := below_to hy hq
  clear hq
  go_upto_region 11 with fail
  generalize nResidual A B x = ra at *
  generalize nGradient A B x = ga at *
  generalize nOptimal A B x = oa at *
  obtain ⟨rS, fS⟩ := oS.rules
  have zS := oS.lt
  obtain ⟨rP, fP⟩ := oP.rules
  have zP := oP.lt
  obtain ⟨rQ, fQ⟩ := oQ.rules
  have zQ := oQ.lt
  have g1 := fun e => sa.grow e
  have g2 := fun e => sb.grow e
  have g3 := fun e => sc.grow e
  have g4 := fun e => sd.grow e
  have g5 := Lib.hid (fun e => hA.below (below_grow v9 e))
  have g6 := Lib.hid (fun e => hB.below (below_grow v9 e))
  have G1 := Lib.hid g1
  have G2 := Lib.hid g2
  have G3 := Lib.hid g3
  have G4 := Lib.hid g4
  clear g1 g2 g3 g4 sa sb sc sd hA hB hx
  have gl := @grow_lt
  refine wp_region_grow (by kernel_rfl) (by kernel_rfl) ?_
  repeat (go_big_quiet_step (first | (go_at_call 24; exact Calls.grow_of (ncheck_any A B _ _ _ (g5.out _) (g6.out _))) | (go_at_call 25; exact Calls.grow_of (rncheck_any A B _ _ _ (g5.out _) (g6.out _))) | (go_at_call 26; exact Calls.grow_of (rsame_true _ _ _ _ (by first | exact G1.out _ | exact G2.out _ | exact G3.out _ | exact G4.out _) (by first | exact G1.out _ | exact G2.out _ | exact G3.out _ | exact G4.out _)))))
  refine wpQuiet_nil ?_
  rintro _ ⟨ex, rfl⟩
  have hq := below_grow v9 ex
  go_wp2
  go_ret
  exact ⟨by first | rfl | simp, below_to hy hq⟩
end Go.Proofs.Ytfbigmjlppdlhaa
