/- What is proved here: the law DualMakes returns true. Condition: a system and a slice of fractions that can be read. -/
import Derived.Test.YtfbigmjlppdlhaaC42
import Derived.Test.YtfbigmjlppdlhaaC45
import Derived.Test.YtfbigmjlppdlhaaC26
import Derived.Test.YtfbigmjlppdlhaaC17
namespace Go.Proofs.Ytfbigmjlppdlhaa
open Go.RowKit

set_option maxRecDepth 100000 in
set_option maxHeartbeats 16000000 in
theorem dualMakes_any (A : List (List Int)) (B : List Int) (c : Int) (x : List (Int × Int)) (va vb vx : Value) (w : World) (hA : SS w va A) (hB : SI w vb B) (hx : SF w vx x) (ix : FI x) :
    Calls Try.prog 5 #[.agg #[va, vb], .int .i64 c, vx] w fun e w' => e = .returned (.bool true) ∧ Below w.heap.size w w' := by
  have IX := Lib.hid ix
  obtain ⟨adx, capx, rfl, hx1, hx2, _⟩ := hx.open
  clear ix
  go_enter Try.func5, Try.ntmps5
  have oS := Own.new w 25 [va, vb]
  have hy := ba1 w (.cells #[va, vb] 25)
  replace hA := hA.below hy
  replace hB := hB.below hy
  replace hx := hx.below hy
  obtain ⟨rS, fS⟩ := oS.rules
  have zS := oS.lt
  go_wp2_with fail
  refine (rngreat_any A B _ _ _ hA hB).mono ?_
  rintro e y1 ⟨rfl, hq⟩
  clear rS fS zS
  replace oS := oS.below hq
  replace hA := hA.below hq
  replace hB := hB.below hq
  replace hx := hx.below hq
  replace hy := below_to hy hq
  clear hq
  obtain ⟨rS, fS⟩ := oS.rules
  have zS := oS.lt
  by_cases g1 : ngreat A B = true
  · rw [g1]
    clear g1 hA hB hx
    go_wp2
    go_ret
    exact ⟨rfl, hy⟩
  have g1' : ngreat A B = false := by simpa using g1
  rw [g1']
  clear g1 g1'
  by_cases g2 : 20 < (x.length : Int)
  · have q2 : decide (20 < (x.length : Int)) = true := by simpa using g2
    clear hA hB hx
    go_wp2
    go_ret
    exact ⟨rfl, hy⟩
  have q2 : decide (20 < (x.length : Int)) = false := by simpa using g2
  have q3 : x.length ≤ 20 := by omega
  go_wp2_with fail
  refine (dmake_any A B c x _ _ _ _ hA hB hx IX.out).mono ?_
  rintro e y2 ⟨ua, rfl, sa, hq⟩
  clear rS fS zS
  replace oS := oS.below hq
  replace hA := hA.below hq
  replace hB := hB.below hq
  replace hx := hx.below hq
  replace hy := below_to hy hq
  clear hq
  obtain ⟨rS, fS⟩ := oS.rules
  have zS := oS.lt
  go_wp2_with fail
  refine (rdmake_any A B c x _ _ _ _ hA hB hx IX.out).mono ?_
  rintro e y3 ⟨ub, rfl, sb, hq⟩
  clear rS fS zS
  replace oS := oS.below hq
  replace hA := hA.below hq
  replace hB := hB.below hq
  replace hx := hx.below hq
  replace sa := sa.below hq
  replace hy := below_to hy hq
  clear hq
  obtain ⟨rS, fS⟩ := oS.rules
  have zS := oS.lt
  generalize dMake A B c x = ra at *
  go_wp2_with fail
  refine (rsame_true _ _ _ _ sa sb).mono ?_
  rintro e z1 ⟨rfl, hq⟩
  clear rS fS zS
  replace oS := oS.below hq
  replace hy := below_to hy hq
  clear hq
  obtain ⟨rS, fS⟩ := oS.rules
  have zS := oS.lt
  go_wp2
  go_ret
  exact ⟨by first | rfl | simp, hy⟩
end Go.Proofs.Ytfbigmjlppdlhaa
