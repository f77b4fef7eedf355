/- What is proved here: contracts of functions and plain facts, several texts in one; each one says ahead what it proves, and its conditions. -/
import Derived.Test.YtfoemacgmehpiaaM14
import Derived.Test.YtfoemacgmehpiaaM18
import Derived.Test.YtfoemacgmehpiaaM28
/- What is proved here: contracts of the sparse layer, with the value named. Condition: as each one says. -/
namespace Go.Proofs.Ytfoemacgmehpiaa
open Go.RowKit

theorem sopt_as (A : List (List Int)) (B : List Int) (c : Int) (x : List (Int × Int)) (r : Bool × Int) (va vb vx : Value) (w : World) (hA : SS w va A) (hB : SI w vb B) (hx : SF w vx x) (ix : FI x) (hr : sOptimal A B c x = r) :
    Calls Try.prog 20 #[.agg #[va, vb], .int .i64 c, vx] w fun e w' => e = .returned (.tuple #[.bool r.1, .int .i64 r.2]) ∧ Below w.heap.size w w' := by
  subst hr; exact sopt_any A B c x va vb vx w hA hB hx ix
theorem scost_as (A : List (List Int)) (B : List Int) (c : Int) (x : List (Int × Int)) (r : FR) (va vb vx : Value) (w : World) (hA : SS w va A) (hB : SI w vb B) (hx : SF w vx x) (ix : FI x) (hr : sCost A B c x = r) :
    Calls Try.prog 22 #[.agg #[va, vb], .int .i64 c, vx] w fun e w' => e = .returned (.tuple #[.agg #[.int .i64 r.n, .int .i64 r.d], .int .i64 r.e]) ∧ Below w.heap.size w w' := by
  subst hr; exact scost_any A B c x va vb vx w hA hB hx ix
theorem sslope_as (A : List (List Int)) (B : List Int) (c : Int) (x : List (Int × Int)) (r : List (Int × Int) × Int) (va vb vx : Value) (w : World) (hA : SS w va A) (hB : SI w vb B) (hx : SF w vx x) (ix : FI x) (hr : sSlope A B c x = r) :
    Calls Try.prog 21 #[.agg #[va, vb], .int .i64 c, vx] w (rows_post w r) := by
  subst hr; exact sslope_any A B c x va vb vx w hA hB hx ix
theorem spsolve_as (A : List (List Int)) (B : List Int) (c : Int) (r : List (Int × Int) × Nat × Int) (va vb : Value) (w : World) (hA : SS w va A) (hB : SI w vb B) (hr : sSolve A B c = r) :
    Calls Try.prog 18 #[.agg #[va, vb], .int .i64 c] w (solve_post w r) := by
  subst hr; exact spsolve_any A B c va vb w hA hB
theorem sbright_as (x : List (Int × Int)) (r : FR) (v : Value) (w : World) (hv : SF w v x) (ix : FI x) (hr : sBright x = r) :
    Calls Try.prog 26 #[v] w fun e w' => e = .returned (.tuple #[.agg #[.int .i64 r.n, .int .i64 r.d], .int .i64 r.e]) ∧ Below w.heap.size w w' := by
  subst hr; exact sbright_any x v w hv ix
end Go.Proofs.Ytfoemacgmehpiaa
