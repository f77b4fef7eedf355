/- What is proved here: the law NnlsSolves returns true. Condition: a system that can be read. -/
import Derived.Test.YtfoemacgmehpiaaC25
import Derived.Test.YtfoemacgmehpiaaC74
import Derived.Test.YtfoemacgmehpiaaC24
import Derived.Test.YtfoemacgmehpiaaC28
import Derived.Deep.DeepCutAuto
namespace Go.Proofs.Ytfoemacgmehpiaa
open Go.RowKit

theorem rsolve_as (A : List (List Int)) (B : List Int) (r : List (Int × Int) × Nat × Int) (va vb : Value) (w : World) (hA : SS w va A) (hB : SI w vb B) (hr : nSolve A B 0 = r) :
    Calls Try.prog 48 #[.agg #[va, vb]] w (solve_post w r) := by
  subst hr; exact rsolve_any A B va vb w hA hB
set_option maxRecDepth 100000 in
set_option maxHeartbeats 16000000 in
theorem nnlsSolves_any (A : List (List Int)) (B : List Int) (va vb : Value) (w : World) (hA : SS w va A) (hB : SI w vb B) :
    Calls Try.prog 11 #[.agg #[va, vb]] w fun e w' => e = .returned (.bool true) ∧ Below w.heap.size w w' := by
  go_enter Try.func11, Try.ntmps11
  have oS := Own.new w 25 [va, vb]
  have hy := ba1 w (.cells #[va, vb] 25)
  replace hA := hA.below hy
  replace hB := hB.below hy
  obtain ⟨rS, fS⟩ := oS.rules
  have zS := oS.lt
  go_wp2_with fail
  refine (rngreat_any A B _ _ _ hA hB).mono ?_
  rintro e y2 ⟨rfl, hq⟩
  clear rS fS zS
  replace oS := oS.below hq
  replace hA := hA.below hq
  replace hB := hB.below hq
  replace hy := below_to hy hq
  clear hq
  obtain ⟨rS, fS⟩ := oS.rules
  have zS := oS.lt
  by_cases g1 : ngreat A B = true
  · rw [g1]
    clear g1 hA hB
    go_wp2
    go_ret
    exact ⟨by first | rfl | simp, hy⟩
  have g1' : ngreat A B = false := by simpa using g1
  rw [g1']
  clear g1 g1'
  obtain ⟨R, hR⟩ : ∃ R, R = nSolve A B 0 := ⟨_, rfl⟩
  have HR := Lib.hid hR.symm
  clear hR
  obtain ⟨X, s, e⟩ := R
  go_wp2_with fail
  refine (nsolve_as A B _ _ _ _ hA hB HR.out).mono ?_
  rintro e y3 ⟨u, rfl, sx, hq⟩
  clear rS fS zS
  replace oS := oS.below hq
  replace hA := hA.below hq
  replace hB := hB.below hq
  replace hy := below_to hy hq
  clear hq
  obtain ⟨rS, fS⟩ := oS.rules
  have zS := oS.lt
  have sx' : SF y3 u X := sx
  clear sx
  go_wp2_with fail
  refine (rsolve_as A B _ _ _ _ hA hB HR.out).mono ?_
  rintro e y4 ⟨v, rfl, sy, hq⟩
  clear rS fS zS
  replace oS := oS.below hq
  replace sx' := sx'.below hq
  replace hy := below_to hy hq
  clear hq
  obtain ⟨rS, fS⟩ := oS.rules
  have zS := oS.lt
  have sy' : SF y4 v X := sy
  clear sy hA hB
  have b1 : (((s : Nat) : Int) == (s : Int)) = true := by simp
  have b2 : (e == e) = true := by simp
  go_wp2_with fail
  refine (rsame_true X _ _ _ sx' sy').mono ?_
  rintro e y5 ⟨rfl, hq⟩
  clear rS fS zS
  replace oS := oS.below hq
  replace hy := below_to hy hq
  clear hq
  obtain ⟨rS, fS⟩ := oS.rules
  have zS := oS.lt
  clear sx' sy'
  go_wp2
  go_ret
  exact ⟨by first | rfl | simp, hy⟩
end Go.Proofs.Ytfoemacgmehpiaa
