/- What is proved here: the law SparseTells returns true. Condition: a system and a slice of fractions that can be read. -/
import Derived.Test.YtfbigmjlppdlhaaC33
import Derived.Test.YtfbigmjlppdlhaaC35
import Derived.Test.YtfbigmjlppdlhaaC37
import Derived.Test.YtfbigmjlppdlhaaC17
import Derived.Deep.DeepCutAuto
namespace Go.Proofs.Ytfbigmjlppdlhaa
open Go.RowKit

set_option maxRecDepth 100000 in
set_option maxHeartbeats 16000000 in
theorem sparseTells_any (A : List (List Int)) (B : List Int) (c : Int) (x : List (Int × Int)) (va vb vx : Value) (w : World) (hA : SS w va A) (hB : SI w vb B) (hx : SF w vx x) (ix : FI x) :
    Calls Try.prog 4 #[.agg #[va, vb], .int .i64 c, vx] w fun e w' => e = .returned (.bool true) ∧ Below w.heap.size w w' := by
  have IX := Lib.hid ix
  obtain ⟨adx, capx, rfl, hx1, hx2, _⟩ := hx.open
  clear ix
  go_enter Try.func4, Try.ntmps4
  have oS := Own.new w 25 [va, vb]
  have hy := ba1 w (.cells #[va, vb] 25)
  replace hA := hA.below hy
  replace hB := hB.below hy
  replace hx := hx.below hy
  obtain ⟨rS, fS⟩ := oS.rules
  have zS := oS.lt
  go_wp2_with fail
  refine (rngreat_any A B _ _ _ hA hB).mono ?_
  rintro e y1 ⟨rfl, hq⟩
  clear rS fS zS
  replace oS := oS.below hq
  replace hA := hA.below hq
  replace hB := hB.below hq
  replace hx := hx.below hq
  replace hy := below_to hy hq
  clear hq
  obtain ⟨rS, fS⟩ := oS.rules
  have zS := oS.lt
  by_cases g1 : ngreat A B = true
  · rw [g1]
    clear g1 hA hB hx
    go_wp2
    go_ret
    exact ⟨rfl, hy⟩
  have g1' : ngreat A B = false := by simpa using g1
  rw [g1']
  clear g1 g1'
  by_cases g2 : 20 < (x.length : Int)
  · have q2 : decide (20 < (x.length : Int)) = true := by simpa using g2
    clear hA hB hx
    go_wp2
    go_ret
    exact ⟨rfl, hy⟩
  have q2 : decide (20 < (x.length : Int)) = false := by simpa using g2
  have q3 : x.length ≤ 20 := by omega
  clear rS fS zS
  obtain ⟨rS, fS⟩ := oS.rules
  have zS := oS.lt
  go_wp2_with fail
  refine (scost_any A B c x _ _ _ _ hA hB hx IX.out).mono ?_
  rintro e v2 ⟨rfl, hq⟩
  clear rS fS zS
  replace oS := oS.below hq
  replace hA := hA.below hq
  replace hB := hB.below hq
  replace hx := hx.below hq
  replace hy := below_to hy hq
  clear hq
  obtain ⟨V, hV⟩ : ∃ V, V = sCost A B c x := ⟨_, rfl⟩
  rw [← hV]
  have HV := Lib.hid hV
  clear hV
  go_upto_region 4 with fail
  replace oS := oS.alloc (.cells #[.int .i64 V.n, .int .i64 V.d] 34)
  replace hA := hA.below (ba1 v2 (.cells #[.int .i64 V.n, .int .i64 V.d] 34))
  replace hB := hB.below (ba1 v2 (.cells #[.int .i64 V.n, .int .i64 V.d] 34))
  replace hx := hx.below (ba1 v2 (.cells #[.int .i64 V.n, .int .i64 V.d] 34))
  replace hy := below_to hy (ba1 v2 (.cells #[.int .i64 V.n, .int .i64 V.d] 34))
  have oP := Own.new v2 34 [.int .i64 V.n, .int .i64 V.d]
  generalize hbk : v2.heap.size = kP at oP ⊢
  clear hbk
  generalize v2.alloc (.cells #[.int .i64 V.n, .int .i64 V.d] 34) = y2 at *
  obtain ⟨rS, fS⟩ := oS.rules
  have zS := oS.lt
  go_wp2_with fail
  refine (rscost_any A B c x _ _ _ _ hA hB hx IX.out).mono ?_
  rintro e v3 ⟨rfl, hq⟩
  clear rS fS zS
  replace oS := oS.below hq
  replace oP := oP.below hq
  replace hA := hA.below hq
  replace hB := hB.below hq
  replace hx := hx.below hq
  replace hy := below_to hy hq
  clear hq
  rw [← HV.out]
  go_upto_region 5 with fail
  replace oS := oS.alloc (.cells #[.int .i64 V.n, .int .i64 V.d] 34)
  replace oP := oP.alloc (.cells #[.int .i64 V.n, .int .i64 V.d] 34)
  replace hA := hA.below (ba1 v3 (.cells #[.int .i64 V.n, .int .i64 V.d] 34))
  replace hB := hB.below (ba1 v3 (.cells #[.int .i64 V.n, .int .i64 V.d] 34))
  replace hx := hx.below (ba1 v3 (.cells #[.int .i64 V.n, .int .i64 V.d] 34))
  replace hy := below_to hy (ba1 v3 (.cells #[.int .i64 V.n, .int .i64 V.d] 34))
  have oQ := Own.new v3 34 [.int .i64 V.n, .int .i64 V.d]
  generalize hbk : v3.heap.size = kQ at oQ ⊢
  clear hbk
  generalize v3.alloc (.cells #[.int .i64 V.n, .int .i64 V.d] 34) = y3 at *
  obtain ⟨rS, fS⟩ := oS.rules
  have zS := oS.lt
  go_wp2_with fail
  refine (sslope_any A B c x _ _ _ _ hA hB hx IX.out).mono ?_
  rintro e v4 ⟨ua, rfl, sa, hq⟩
  clear rS fS zS
  replace oS := oS.below hq
  replace oP := oP.below hq
  replace oQ := oQ.below hq
  replace hA := hA.below hq
  replace hB := hB.below hq
  replace hx := hx.below hq
  replace hy := below_to hy hq
  clear hq
  obtain ⟨rS, fS⟩ := oS.rules
  have zS := oS.lt
  go_wp2_with fail
  refine (rsslope_any A B c x _ _ _ _ hA hB hx IX.out).mono ?_
  rintro e v5 ⟨ub, rfl, sb, hq⟩
  clear rS fS zS
  replace oS := oS.below hq
  replace oP := oP.below hq
  replace oQ := oQ.below hq
  replace hA := hA.below hq
  replace hB := hB.below hq
  replace hx := hx.below hq
  replace sa := sa.below hq
  replace hy := below_to hy hq
  clear hq
  obtain ⟨rS, fS⟩ := oS.rules
  have zS := oS.lt
  go_wp2_with fail
  refine (sopt_any A B c x _ _ _ _ hA hB hx IX.out).mono ?_
  rintro e v6 ⟨rfl, hq⟩
  clear rS fS zS
  replace oS := oS.below hq
  replace oP := oP.below hq
  replace oQ := oQ.below hq
  replace hA := hA.below hq
  replace hB := hB.below hq
  replace hx := hx.below hq
  replace sa := sa.below hq
  replace sb := sb.below hq
  replace hy := below_to hy hq
  clear hq
  obtain ⟨rS, fS⟩ := oS.rules
  have zS := oS.lt
  go_wp2_with fail
  refine (rsopt_any A B c x _ _ _ _ hA hB hx IX.out).mono ?_
  rintro e v7 ⟨rfl, hq⟩
  clear rS fS zS
  replace oS := oS.below hq
  replace oP := oP.below hq
  replace oQ := oQ.below hq
  replace hA := hA.below hq
  replace hB := hB.below hq
  replace hx := hx.below hq
  replace sa := sa.below hq
  replace sb := sb.below hq
  replace hy := below_to hy hq
  clear hq
  obtain ⟨rS, fS⟩ := oS.rules
  have zS := oS.lt
  go_wp2_with fail
  refine (sbright_any x _ _ hx IX.out).mono ?_
  rintro e v8 ⟨rfl, hq⟩
  clear rS fS zS
  replace oS := oS.below hq
  replace oP := oP.below hq
  replace oQ := oQ.below hq
  replace hA := hA.below hq
  replace hB := hB.below hq
  replace hx := hx.below hq
  replace sa := sa.below hq
  replace sb := sb.below hq
  replace hy := below_to hy hq
  clear hq
  obtain ⟨U, hU⟩ : ∃ V, V = sBright x := ⟨_, rfl⟩
  rw [← hU]
  have HU := Lib.hid hU
  clear hU
  go_upto_region 10 with fail
  replace oS := oS.alloc (.cells #[.int .i64 U.n, .int .i64 U.d] 34)
  replace oP := oP.alloc (.cells #[.int .i64 U.n, .int .i64 U.d] 34)
  replace oQ := oQ.alloc (.cells #[.int .i64 U.n, .int .i64 U.d] 34)
  replace hA := hA.below (ba1 v8 (.cells #[.int .i64 U.n, .int .i64 U.d] 34))
  replace hB := hB.below (ba1 v8 (.cells #[.int .i64 U.n, .int .i64 U.d] 34))
  replace hx := hx.below (ba1 v8 (.cells #[.int .i64 U.n, .int .i64 U.d] 34))
  replace sa := sa.below (ba1 v8 (.cells #[.int .i64 U.n, .int .i64 U.d] 34))
  replace sb := sb.below (ba1 v8 (.cells #[.int .i64 U.n, .int .i64 U.d] 34))
  replace hy := below_to hy (ba1 v8 (.cells #[.int .i64 U.n, .int .i64 U.d] 34))
  have oI := Own.new v8 34 [.int .i64 U.n, .int .i64 U.d]
  generalize hbk : v8.heap.size = kI at oI ⊢
  clear hbk
  generalize v8.alloc (.cells #[.int .i64 U.n, .int .i64 U.d] 34) = y8 at *
  obtain ⟨rS, fS⟩ := oS.rules
  have zS := oS.lt
  go_wp2_with fail
  refine (rsbright_any x _ _ hx IX.out).mono ?_
  rintro e v9 ⟨rfl, hq⟩
  clear rS fS zS
  replace oS := oS.below hq
  replace oP := oP.below hq
  replace oQ := oQ.below hq
  replace oI := oI.below hq
  replace hA := hA.below hq
  replace hB := hB.below hq
  replace hx := hx.below hq
  replace sa := sa.below hq
  replace sb := sb.below hq
  replace hy := below_to hy hq
  clear hq
  rw [← HU.out]
  go_upto_region 11 with fail
  replace oS := oS.alloc (.cells #[.int .i64 U.n, .int .i64 U.d] 34)
  replace oP := oP.alloc (.cells #[.int .i64 U.n, .int .i64 U.d] 34)
  replace oQ := oQ.alloc (.cells #[.int .i64 U.n, .int .i64 U.d] 34)
  replace oI := oI.alloc (.cells #[.int .i64 U.n, .int .i64 U.d] 34)
  replace hA := hA.below (ba1 v9 (.cells #[.int .i64 U.n, .int .i64 U.d] 34))
  replace hB := hB.below (ba1 v9 (.cells #[.int .i64 U.n, .int .i64 U.d] 34))
  replace hx := hx.below (ba1 v9 (.cells #[.int .i64 U.n, .int .i64 U.d] 34))
  replace sa := sa.below (ba1 v9 (.cells #[.int .i64 U.n, .int .i64 U.d] 34))
  replace sb := sb.below (ba1 v9 (.cells #[.int .i64 U.n, .int .i64 U.d] 34))
  replace hy := below_to hy (ba1 v9 (.cells #[.int .i64 U.n, .int .i64 U.d] 34))
  have oJ := Own.new v9 34 [.int .i64 U.n, .int .i64 U.d]
  generalize hbk : v9.heap.size = kJ at oJ ⊢
  clear hbk
  generalize v9.alloc (.cells #[.int .i64 U.n, .int .i64 U.d] 34) = y9 at *
  generalize sSlope A B c x = ra at *
  generalize sOptimal A B c x = oa at *
  obtain ⟨rP, fP⟩ := oP.rules
  have zP := oP.lt
  obtain ⟨rQ, fQ⟩ := oQ.rules
  have zQ := oQ.lt
  obtain ⟨rI, fI⟩ := oI.rules
  have zI := oI.lt
  obtain ⟨rJ, fJ⟩ := oJ.rules
  have zJ := oJ.lt
  go_wp2_with fail
  refine (rsame_true _ _ _ _ sa sb).mono ?_
  rintro e z1 ⟨rfl, hq⟩
  clear rP fP zP rQ fQ zQ rI fI zI rJ fJ zJ
  replace oP := oP.below hq
  replace oQ := oQ.below hq
  replace oI := oI.below hq
  replace oJ := oJ.below hq
  replace hy := below_to hy hq
  clear hq
  obtain ⟨rP, fP⟩ := oP.rules
  have zP := oP.lt
  obtain ⟨rQ, fQ⟩ := oQ.rules
  have zQ := oQ.lt
  obtain ⟨rI, fI⟩ := oI.rules
  have zI := oI.lt
  obtain ⟨rJ, fJ⟩ := oJ.rules
  have zJ := oJ.lt
  go_wp2
  go_ret
  exact ⟨by first | rfl | simp, hy⟩
end Go.Proofs.Ytfbigmjlppdlhaa
