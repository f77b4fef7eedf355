/- What is proved here: the law SolveAsks returns true. Condition: a system and a slice of fractions that can be read. -/
import Derived.Test.YthlcmlngmcoknaaC17
import Derived.Test.YthlcmlngmcoknaaC29
import Derived.Test.YthlcmlngmcoknaaC32
import Derived.Test.YthlcmlngmcoknaaC33
namespace Go.Proofs.Ythlcmlngmcoknaa
open Go.RowKit

set_option maxRecDepth 100000 in
set_option maxHeartbeats 4000000 in
theorem solveAsks_any (A : List (List Int)) (B : List Int) (x : List (Int × Int)) (va vb vx : Value) (w : World) (hA : SS w va A) (hB : SI w vb B) (hx : SF w vx x) (ix : FI x) :
    Calls Try.prog 6 #[.agg #[va, vb], vx] w fun e w' => e = .returned (.bool true) ∧ Below w.heap.size w w' := by
  have IX := Lib.hid ix
  clear ix
  go_enter Try.func6, Try.ntmps6
  have oS := Own.new w 25 [va, vb]
  have hy := ba1 w (.cells #[va, vb] 25)
  replace hA := hA.below hy
  replace hB := hB.below hy
  replace hx := hx.below hy
  obtain ⟨rS, fS⟩ := oS.rules
  have zS := oS.lt
  go_wp2_with fail
  refine (rogreat_any A B _ _ _ hA hB).mono ?_
  rintro e y1 ⟨rfl, hq⟩
  clear rS fS zS
  replace oS := oS.below hq
  replace hA := hA.below hq
  replace hB := hB.below hq
  replace hx := hx.below hq
  replace hy := below_to hy hq
  clear hq
  obtain ⟨rS, fS⟩ := oS.rules
  have zS := oS.lt
  cases hg : ogreat A B with
  | true =>
    go_wp2
    go_ret
    exact ⟨rfl, hy⟩
  | false =>
  clear hg
  obtain ⟨adx, capx, rfl, _, _, _⟩ := hx.open
  by_cases g1 : 40 < (x.length : Int)
  · have q1 : decide (40 < (x.length : Int)) = true := by simpa using g1
    go_wp2
    go_ret
    exact ⟨rfl, hy⟩
  have q1 : decide (40 < (x.length : Int)) = false := by simpa using g1
  go_wp2_with fail
  refine (oaccept_any A B x _ _ _ _ hA hB hx IX.out).mono ?_
  rintro e y2 ⟨rfl, hq⟩
  clear rS fS zS
  replace oS := oS.below hq
  replace hA := hA.below hq
  replace hB := hB.below hq
  replace hx := hx.below hq
  replace hy := below_to hy hq
  clear hq
  obtain ⟨rS, fS⟩ := oS.rules
  have zS := oS.lt
  go_wp2_with fail
  refine (roaccept_any A B x _ _ _ _ hA hB hx IX.out).mono ?_
  rintro e y3 ⟨rfl, hq⟩
  clear rS fS zS
  replace oS := oS.below hq
  replace hA := hA.below hq
  replace hB := hB.below hq
  replace hx := hx.below hq
  replace hy := below_to hy hq
  clear hq
  obtain ⟨rS, fS⟩ := oS.rules
  have zS := oS.lt
  go_wp2_with fail
  refine (oholds_any A B x _ _ _ _ hA hB hx IX.out).mono ?_
  rintro e y4 ⟨rfl, hq⟩
  clear rS fS zS
  replace oS := oS.below hq
  replace hA := hA.below hq
  replace hB := hB.below hq
  replace hx := hx.below hq
  replace hy := below_to hy hq
  clear hq
  obtain ⟨rS, fS⟩ := oS.rules
  have zS := oS.lt
  go_wp2_with fail
  refine (roholds_any A B x _ _ _ _ hA hB hx IX.out).mono ?_
  rintro e y5 ⟨rfl, hq⟩
  clear rS fS zS
  replace oS := oS.below hq
  replace hA := hA.below hq
  replace hB := hB.below hq
  replace hx := hx.below hq
  replace hy := below_to hy hq
  clear hq
  obtain ⟨rS, fS⟩ := oS.rules
  have zS := oS.lt
  clear hA hB hx
  generalize (oaccept A B x).1 = a1 at *
  generalize (oaccept A B x).2 = a2 at *
  generalize (oholds A B x).1 = b1 at *
  generalize (oholds A B x).2 = b2 at *
  go_wp2
  go_ret
  exact ⟨by simp, hy⟩
end Go.Proofs.Ythlcmlngmcoknaa
