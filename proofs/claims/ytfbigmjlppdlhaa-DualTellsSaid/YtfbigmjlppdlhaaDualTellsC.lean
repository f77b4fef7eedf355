/- What is proved here: the law DualTells returns true. Condition: a system and slices of fractions that can be read. -/
import Derived.Test.YtfbigmjlppdlhaaC49
import Derived.Test.YtfbigmjlppdlhaaC52
import Derived.Test.YtfbigmjlppdlhaaC26
import Derived.Deep.DeepCutAuto
namespace Go.Proofs.Ytfbigmjlppdlhaa
open Go.RowKit

set_option maxRecDepth 100000 in
set_option maxHeartbeats 16000000 in
theorem dualTells_any (A : List (List Int)) (B : List Int) (c : Int) (x y : List (Int × Int)) (gn gd : Int) (va vb vx vy : Value) (w : World) (hA : SS w va A) (hB : SI w vb B) (hx : SF w vx x) (ix : FI x) (hz : SF w vy y) (iz : FI y) (ig : i64 gn) (ih : i64 gd) :
    Calls Try.prog 6 #[.agg #[va, vb], .int .i64 c, vx, vy, .agg #[.int .i64 gn, .int .i64 gd]] w fun e w' => e = .returned (.bool true) ∧ Below w.heap.size w w' := by
  have IX := Lib.hid ix
  have IZ := Lib.hid iz
  obtain ⟨adx, capx, rfl, hx1, hx2, _⟩ := hx.open
  obtain ⟨ady, capy, rfl, hy1, hy2, _⟩ := hz.open
  clear ix iz
  go_enter Try.func6, Try.ntmps6
  have oS := own_first w 25 [va, vb] (.cells #[.int .i64 gn, .int .i64 gd] 34)
  have oT := own_second w 34 [.int .i64 gn, .int .i64 gd] (.cells #[va, vb] 25)
  have hy := ba2 w (.cells #[va, vb] 25) (.cells #[.int .i64 gn, .int .i64 gd] 34)
  replace hA := hA.below hy
  replace hB := hB.below hy
  replace hx := hx.below hy
  replace hz := hz.below hy
  obtain ⟨rS, fS⟩ := oS.rules
  have zS := oS.lt
  obtain ⟨rT, fT⟩ := oT.rules
  have zT := oT.lt
  go_wp2_with fail
  refine (rngreat_any A B _ _ _ hA hB).mono ?_
  rintro e y1 ⟨rfl, hq⟩
  clear rS fS zS rT fT zT
  replace oS := oS.below hq
  replace oT := oT.below hq
  replace hA := hA.below hq
  replace hB := hB.below hq
  replace hx := hx.below hq
  replace hz := hz.below hq
  replace hy := below_to hy hq
  clear hq
  obtain ⟨rS, fS⟩ := oS.rules
  have zS := oS.lt
  obtain ⟨rT, fT⟩ := oT.rules
  have zT := oT.lt
  by_cases g1 : ngreat A B = true
  · rw [g1]
    clear g1 hA hB hx hz
    go_wp2
    go_ret
    exact ⟨rfl, hy⟩
  have g1' : ngreat A B = false := by simpa using g1
  rw [g1']
  clear g1 g1'
  by_cases g2 : 20 < (x.length : Int)
  · have q2 : decide (20 < (x.length : Int)) = true := by simpa using g2
    clear hA hB hx hz
    go_wp2
    go_ret
    exact ⟨rfl, hy⟩
  have q2 : decide (20 < (x.length : Int)) = false := by simpa using g2
  have q3 : x.length ≤ 20 := by omega
  by_cases g4 : 20 < (y.length : Int)
  · have q4 : decide (20 < (y.length : Int)) = true := by simpa using g4
    clear hA hB hx hz
    go_wp2
    go_ret
    exact ⟨rfl, hy⟩
  have q4 : decide (20 < (y.length : Int)) = false := by simpa using g4
  have q5 : y.length ≤ 20 := by omega
  clear rS fS zS rT fT zT
  obtain ⟨rS, fS⟩ := oS.rules
  have zS := oS.lt
  go_wp2_with fail
  refine (dfeas_any A B c y _ _ _ _ hA hB hz IZ.out).mono ?_
  rintro e v2 ⟨rfl, hq⟩
  clear rS fS zS
  replace oS := oS.below hq
  replace oT := oT.below hq
  replace hA := hA.below hq
  replace hB := hB.below hq
  replace hx := hx.below hq
  replace hz := hz.below hq
  replace hy := below_to hy hq
  clear hq
  obtain ⟨rS, fS⟩ := oS.rules
  have zS := oS.lt
  go_wp2_with fail
  refine (rdfeas_any A B c y _ _ _ _ hA hB hz IZ.out).mono ?_
  rintro e v3 ⟨rfl, hq⟩
  clear rS fS zS
  replace oS := oS.below hq
  replace oT := oT.below hq
  replace hA := hA.below hq
  replace hB := hB.below hq
  replace hx := hx.below hq
  replace hz := hz.below hq
  replace hy := below_to hy hq
  clear hq
  obtain ⟨rS, fS⟩ := oS.rules
  have zS := oS.lt
  go_wp2_with fail
  refine (dworth_any A B y _ _ _ _ hA hB hz IZ.out).mono ?_
  rintro e v4 ⟨rfl, hq⟩
  clear rS fS zS
  replace oS := oS.below hq
  replace oT := oT.below hq
  replace hA := hA.below hq
  replace hB := hB.below hq
  replace hx := hx.below hq
  replace hz := hz.below hq
  replace hy := below_to hy hq
  clear hq
  obtain ⟨V, hV⟩ : ∃ V, V = dworth A B y := ⟨_, rfl⟩
  rw [← hV]
  have HV := Lib.hid hV
  clear hV
  go_upto_region 6 with fail
  replace oS := oS.alloc (.cells #[.int .i64 V.n, .int .i64 V.d] 34)
  replace oT := oT.alloc (.cells #[.int .i64 V.n, .int .i64 V.d] 34)
  replace hA := hA.below (ba1 v4 (.cells #[.int .i64 V.n, .int .i64 V.d] 34))
  replace hB := hB.below (ba1 v4 (.cells #[.int .i64 V.n, .int .i64 V.d] 34))
  replace hx := hx.below (ba1 v4 (.cells #[.int .i64 V.n, .int .i64 V.d] 34))
  replace hz := hz.below (ba1 v4 (.cells #[.int .i64 V.n, .int .i64 V.d] 34))
  replace hy := below_to hy (ba1 v4 (.cells #[.int .i64 V.n, .int .i64 V.d] 34))
  have oP := Own.new v4 34 [.int .i64 V.n, .int .i64 V.d]
  generalize hbk : v4.heap.size = kP at oP ⊢
  clear hbk
  generalize v4.alloc (.cells #[.int .i64 V.n, .int .i64 V.d] 34) = y4 at *
  obtain ⟨rS, fS⟩ := oS.rules
  have zS := oS.lt
  go_wp2_with fail
  refine (rdworth_any A B y _ _ _ _ hA hB hz IZ.out).mono ?_
  rintro e v5 ⟨rfl, hq⟩
  clear rS fS zS
  replace oS := oS.below hq
  replace oT := oT.below hq
  replace oP := oP.below hq
  replace hA := hA.below hq
  replace hB := hB.below hq
  replace hx := hx.below hq
  replace hz := hz.below hq
  replace hy := below_to hy hq
  clear hq
  rw [← HV.out]
  go_upto_region 7 with fail
  replace oS := oS.alloc (.cells #[.int .i64 V.n, .int .i64 V.d] 34)
  replace oT := oT.alloc (.cells #[.int .i64 V.n, .int .i64 V.d] 34)
  replace oP := oP.alloc (.cells #[.int .i64 V.n, .int .i64 V.d] 34)
  replace hA := hA.below (ba1 v5 (.cells #[.int .i64 V.n, .int .i64 V.d] 34))
  replace hB := hB.below (ba1 v5 (.cells #[.int .i64 V.n, .int .i64 V.d] 34))
  replace hx := hx.below (ba1 v5 (.cells #[.int .i64 V.n, .int .i64 V.d] 34))
  replace hz := hz.below (ba1 v5 (.cells #[.int .i64 V.n, .int .i64 V.d] 34))
  replace hy := below_to hy (ba1 v5 (.cells #[.int .i64 V.n, .int .i64 V.d] 34))
  have oQ := Own.new v5 34 [.int .i64 V.n, .int .i64 V.d]
  generalize hbk : v5.heap.size = kQ at oQ ⊢
  clear hbk
  generalize v5.alloc (.cells #[.int .i64 V.n, .int .i64 V.d] 34) = y5 at *
  obtain ⟨rS, fS⟩ := oS.rules
  have zS := oS.lt
  go_wp2_with fail
  refine (dgap_any A B c x y _ _ _ _ _ hA hB hx IX.out hz IZ.out).mono ?_
  rintro e v6 ⟨rfl, hq⟩
  clear rS fS zS
  replace oS := oS.below hq
  replace oT := oT.below hq
  replace oP := oP.below hq
  replace oQ := oQ.below hq
  replace hA := hA.below hq
  replace hB := hB.below hq
  replace hx := hx.below hq
  replace hz := hz.below hq
  replace hy := below_to hy hq
  clear hq
  obtain ⟨U, hU⟩ : ∃ V, V = dgap A B c x y := ⟨_, rfl⟩
  rw [← hU]
  have HU := Lib.hid hU
  clear hU
  go_upto_region 8 with fail
  replace oS := oS.alloc (.cells #[.int .i64 U.n, .int .i64 U.d] 34)
  replace oT := oT.alloc (.cells #[.int .i64 U.n, .int .i64 U.d] 34)
  replace oP := oP.alloc (.cells #[.int .i64 U.n, .int .i64 U.d] 34)
  replace oQ := oQ.alloc (.cells #[.int .i64 U.n, .int .i64 U.d] 34)
  replace hA := hA.below (ba1 v6 (.cells #[.int .i64 U.n, .int .i64 U.d] 34))
  replace hB := hB.below (ba1 v6 (.cells #[.int .i64 U.n, .int .i64 U.d] 34))
  replace hx := hx.below (ba1 v6 (.cells #[.int .i64 U.n, .int .i64 U.d] 34))
  replace hz := hz.below (ba1 v6 (.cells #[.int .i64 U.n, .int .i64 U.d] 34))
  replace hy := below_to hy (ba1 v6 (.cells #[.int .i64 U.n, .int .i64 U.d] 34))
  have oI := Own.new v6 34 [.int .i64 U.n, .int .i64 U.d]
  generalize hbk : v6.heap.size = kI at oI ⊢
  clear hbk
  generalize v6.alloc (.cells #[.int .i64 U.n, .int .i64 U.d] 34) = y6 at *
  obtain ⟨rS, fS⟩ := oS.rules
  have zS := oS.lt
  go_wp2_with fail
  refine (rdgap_any A B c x y _ _ _ _ _ hA hB hx IX.out hz IZ.out).mono ?_
  rintro e v7 ⟨rfl, hq⟩
  clear rS fS zS
  replace oS := oS.below hq
  replace oT := oT.below hq
  replace oP := oP.below hq
  replace oQ := oQ.below hq
  replace oI := oI.below hq
  replace hA := hA.below hq
  replace hB := hB.below hq
  replace hx := hx.below hq
  replace hz := hz.below hq
  replace hy := below_to hy hq
  clear hq
  rw [← HU.out]
  go_upto_region 9 with fail
  replace oS := oS.alloc (.cells #[.int .i64 U.n, .int .i64 U.d] 34)
  replace oT := oT.alloc (.cells #[.int .i64 U.n, .int .i64 U.d] 34)
  replace oP := oP.alloc (.cells #[.int .i64 U.n, .int .i64 U.d] 34)
  replace oQ := oQ.alloc (.cells #[.int .i64 U.n, .int .i64 U.d] 34)
  replace oI := oI.alloc (.cells #[.int .i64 U.n, .int .i64 U.d] 34)
  replace hA := hA.below (ba1 v7 (.cells #[.int .i64 U.n, .int .i64 U.d] 34))
  replace hB := hB.below (ba1 v7 (.cells #[.int .i64 U.n, .int .i64 U.d] 34))
  replace hx := hx.below (ba1 v7 (.cells #[.int .i64 U.n, .int .i64 U.d] 34))
  replace hz := hz.below (ba1 v7 (.cells #[.int .i64 U.n, .int .i64 U.d] 34))
  replace hy := below_to hy (ba1 v7 (.cells #[.int .i64 U.n, .int .i64 U.d] 34))
  have oJ := Own.new v7 34 [.int .i64 U.n, .int .i64 U.d]
  generalize hbk : v7.heap.size = kJ at oJ ⊢
  clear hbk
  generalize v7.alloc (.cells #[.int .i64 U.n, .int .i64 U.d] 34) = y7 at *
  obtain ⟨rS, fS⟩ := oS.rules
  obtain ⟨rT, fT⟩ := oT.rules
  have zS := oS.lt
  have zT := oT.lt
  go_wp2_with fail
  refine (dacc_any A B c x y gn gd _ _ _ _ _ hA hB hx IX.out hz IZ.out ig ih).mono ?_
  rintro e v8 ⟨rfl, hq⟩
  clear rS fS zS rT fT zT
  replace oS := oS.below hq
  replace oT := oT.below hq
  replace oP := oP.below hq
  replace oQ := oQ.below hq
  replace oI := oI.below hq
  replace oJ := oJ.below hq
  replace hA := hA.below hq
  replace hB := hB.below hq
  replace hx := hx.below hq
  replace hz := hz.below hq
  replace hy := below_to hy hq
  clear hq
  obtain ⟨rS, fS⟩ := oS.rules
  obtain ⟨rT, fT⟩ := oT.rules
  have zS := oS.lt
  have zT := oT.lt
  go_wp2_with fail
  refine (rdacc_any A B c x y gn gd _ _ _ _ _ hA hB hx IX.out hz IZ.out ig ih).mono ?_
  rintro e v9 ⟨rfl, hq⟩
  clear rS fS zS rT fT zT
  replace oS := oS.below hq
  replace oT := oT.below hq
  replace oP := oP.below hq
  replace oQ := oQ.below hq
  replace oI := oI.below hq
  replace oJ := oJ.below hq
  replace hA := hA.below hq
  replace hB := hB.below hq
  replace hx := hx.below hq
  replace hz := hz.below hq
  replace hy := below_to hy hq
  clear hq
  generalize dfeas A B c y = fa at *
  generalize daccept A B c x y gn gd = aa at *
  obtain ⟨rP, fP⟩ := oP.rules
  have zP := oP.lt
  obtain ⟨rQ, fQ⟩ := oQ.rules
  have zQ := oQ.lt
  obtain ⟨rI, fI⟩ := oI.rules
  have zI := oI.lt
  obtain ⟨rJ, fJ⟩ := oJ.rules
  have zJ := oJ.lt
  go_wp2
  go_ret
  exact ⟨by first | rfl | simp, hy⟩
end Go.Proofs.Ytfbigmjlppdlhaa
