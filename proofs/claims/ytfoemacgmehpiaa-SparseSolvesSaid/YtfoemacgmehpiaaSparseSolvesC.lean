/- What is proved here: the law SparseSolves returns true. Condition: a system that can be read, and a cost. -/
import Derived.Test.YtfoemacgmehpiaaM29
import Derived.Test.YtfoemacgmehpiaaM46
import Derived.Test.YtfoemacgmehpiaaM47
import Derived.Test.YtfoemacgmehpiaaM48
import Derived.Test.YtfoemacgmehpiaaM38
import Derived.Deep.DeepCutAuto
namespace Go.Proofs.Ytfoemacgmehpiaa
open Go.RowKit

theorem rssolve_as (A : List (List Int)) (B : List Int) (c : Int) (r : List (Int × Int) × Nat × Int) (va vb : Value) (w : World) (hA : SS w va A) (hB : SI w vb B) (hr : sSolve A B c = r) :
    Calls Try.prog 49 #[.agg #[va, vb], .int .i64 c] w (solve_post w r) := by
  subst hr; exact rssolve_any A B c va vb w hA hB
theorem spdark2_as (A : List (List Int)) (B : List Int) (r : Int × Int) (va vb : Value) (w : World) (hA : SS w va A) (hB : SI w vb B) (hr : sDark A B = r) :
    Calls Try.prog 25 #[.agg #[va, vb]] w fun e w' => e = .returned (.tuple #[.int .i64 r.1, .int .i64 r.2]) ∧ Below w.heap.size w w' := by
  subst hr; exact spdark_any A B va vb w hA hB
theorem rsdark_as (A : List (List Int)) (B : List Int) (r : Int × Int) (va vb : Value) (w : World) (hA : SS w va A) (hB : SI w vb B) (hr : sDark A B = r) :
    Calls Try.prog 50 #[.agg #[va, vb]] w fun e w' => e = .returned (.tuple #[.int .i64 r.1, .int .i64 r.2]) ∧ Below w.heap.size w w' := by
  subst hr; exact rsdark_any A B va vb w hA hB
set_option maxRecDepth 100000 in
set_option maxHeartbeats 16000000 in
theorem sparseSolves_any (A : List (List Int)) (B : List Int) (c : Int) (va vb : Value) (w : World) (hA : SS w va A) (hB : SI w vb B) :
    Calls Try.prog 12 #[.agg #[va, vb], .int .i64 c] w fun e w' => e = .returned (.bool true) ∧ Below w.heap.size w w' := by
  go_enter Try.func12, Try.ntmps12
  have oS := Own.new w 25 [va, vb]
  have hy := ba1 w (.cells #[va, vb] 25)
  replace hA := hA.below hy
  replace hB := hB.below hy
  obtain ⟨rS, fS⟩ := oS.rules
  have zS := oS.lt
  go_wp2_with fail
  refine (rngreat_any A B _ _ _ hA hB).mono ?_
  rintro e y2 ⟨rfl, hq⟩
  clear rS fS zS
  replace oS := oS.below hq
  replace hA := hA.below hq
  replace hB := hB.below hq
  replace hy := below_to hy hq
  clear hq
  obtain ⟨rS, fS⟩ := oS.rules
  have zS := oS.lt
  by_cases g1 : ngreat A B = true
  · rw [g1]
    clear g1 hA hB
    go_wp2
    go_ret
    exact ⟨by first | rfl | simp, hy⟩
  have g1' : ngreat A B = false := by simpa using g1
  rw [g1']
  clear g1 g1'
  obtain ⟨R, hR⟩ : ∃ R, R = sSolve A B c := ⟨_, rfl⟩
  have HR := Lib.hid hR.symm
  clear hR
  obtain ⟨X, s, e⟩ := R
  obtain ⟨D, hD⟩ : ∃ R, R = sDark A B := ⟨_, rfl⟩
  have HD := Lib.hid hD.symm
  clear hD
  obtain ⟨d, de⟩ := D
  go_wp2_with fail
  refine (spsolve_as A B c _ _ _ _ hA hB HR.out).mono ?_
  rintro e y3 ⟨u, rfl, sx, hq⟩
  clear rS fS zS
  replace oS := oS.below hq
  replace hA := hA.below hq
  replace hB := hB.below hq
  replace hy := below_to hy hq
  clear hq
  obtain ⟨rS, fS⟩ := oS.rules
  have zS := oS.lt
  have sx' : SF y3 u X := sx
  clear sx
  go_wp2_with fail
  refine (rssolve_as A B c _ _ _ _ hA hB HR.out).mono ?_
  rintro e y4 ⟨v, rfl, sy, hq⟩
  clear rS fS zS
  replace oS := oS.below hq
  replace hA := hA.below hq
  replace hB := hB.below hq
  replace sx' := sx'.below hq
  replace hy := below_to hy hq
  clear hq
  obtain ⟨rS, fS⟩ := oS.rules
  have zS := oS.lt
  have sy' : SF y4 v X := sy
  clear sy
  go_wp2_with fail
  refine (spdark2_as A B _ _ _ _ hA hB HD.out).mono ?_
  rintro e y5 ⟨rfl, hq⟩
  clear rS fS zS
  replace oS := oS.below hq
  replace hA := hA.below hq
  replace hB := hB.below hq
  replace sx' := sx'.below hq
  replace sy' := sy'.below hq
  replace hy := below_to hy hq
  clear hq
  obtain ⟨rS, fS⟩ := oS.rules
  have zS := oS.lt
  go_wp2_with fail
  refine (rsdark_as A B _ _ _ _ hA hB HD.out).mono ?_
  rintro e y6 ⟨rfl, hq⟩
  clear rS fS zS
  replace oS := oS.below hq
  replace sx' := sx'.below hq
  replace sy' := sy'.below hq
  replace hy := below_to hy hq
  clear hq
  obtain ⟨rS, fS⟩ := oS.rules
  have zS := oS.lt
  clear hA hB
  have b1 : (((s : Nat) : Int) == (s : Int)) = true := by simp
  have b2 : (e == e) = true := by simp
  have b3 : (d == d) = true := by simp
  have b4 : (de == de) = true := by simp
  go_wp2_with fail
  refine (rsame_true X _ _ _ sx' sy').mono ?_
  rintro e y7 ⟨rfl, hq⟩
  clear rS fS zS
  replace oS := oS.below hq
  replace hy := below_to hy hq
  clear hq
  obtain ⟨rS, fS⟩ := oS.rules
  have zS := oS.lt
  clear sx' sy'
  go_wp2
  go_ret
  exact ⟨by first | rfl | simp, hy⟩
end Go.Proofs.Ytfoemacgmehpiaa
