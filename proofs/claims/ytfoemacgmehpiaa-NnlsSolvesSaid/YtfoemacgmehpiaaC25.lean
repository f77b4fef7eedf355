/- What is proved here: contracts of functions and plain facts, several texts in one; each one says ahead what it proves, and its conditions. -/
import Derived.Test.YtfoemacgmehpiaaC14
import Derived.Test.YtfoemacgmehpiaaC22
import Derived.Test.YtfoemacgmehpiaaC24
import Derived.Test.YtfoemacgmehpiaaC23
import Derived.Test.YtfoemacgmehpiaaC10
import Derived.Test.YtfoemacgmehpiaaC13
/- What is proved here: the contracts of layer 37 with the value named, and a cell that is carried along. Condition: as each contract says. -/
namespace Go.Proofs.Ytfoemacgmehpiaa
open Go.RowKit

/-- A cell and what it holds. -/
def CellIs (w : World) (a : Addr) (v : Value) : Prop := w.cell? a = some v
theorem CellIs.below {w w' : World} {a : Addr} {v : Value} (h : CellIs w a v) (hb : Below w.heap.size w w') : CellIs w' a v := below_cell hb h
theorem nsolve_0 {A : List (List Int)} {B : List Int} {c : Int} (h : ncheck A B = 0) : nSolve A B c = (nsol A B c (A.getD 0 []).length, nS A B c, 0) := if_pos h
theorem sol_FI {A : List (List Int)} {B : List Int} {c : Int} {n : Nat} (h : Fit A B n) (h0 : 0 ≤ c) (h1 : c ≤ 1000) : FI (nsol A B c n) := fun p hp => fr_i64 (sol_chk h h0 h1 p hp).1
theorem nopt_as (A : List (List Int)) (B : List Int) (x : List (Int × Int)) (r : Bool × Int) (va vb vx : Value) (w : World) (hA : SS w va A) (hB : SI w vb B) (hx : SF w vx x) (ix : FI x) (hr : nOptimal A B x = r) :
    Calls Try.prog 33 #[.agg #[va, vb], vx] w fun e w' => e = .returned (.tuple #[.bool r.1, .int .i64 r.2]) ∧ Below w.heap.size w w' := by
  subst hr; exact nopt_any A B x va vb vx w hA hB hx ix
theorem nval_as (A : List (List Int)) (B : List Int) (x : List (Int × Int)) (r : FR) (va vb vx : Value) (w : World) (hA : SS w va A) (hB : SI w vb B) (hx : SF w vx x) (ix : FI x) (hr : nValue A B x = r) :
    Calls Try.prog 28 #[.agg #[va, vb], vx] w fun e w' => e = .returned (.tuple #[.agg #[.int .i64 r.n, .int .i64 r.d], .int .i64 r.e]) ∧ Below w.heap.size w w' := by
  subst hr; exact nval_any A B x va vb vx w hA hB hx ix
theorem ngrad_as (A : List (List Int)) (B : List Int) (x : List (Int × Int)) (r : List (Int × Int) × Int) (va vb vx : Value) (w : World) (hA : SS w va A) (hB : SI w vb B) (hx : SF w vx x) (ix : FI x) (hr : nGradient A B x = r) :
    Calls Try.prog 32 #[.agg #[va, vb], vx] w (rows_post w r) := by
  subst hr; exact ngrad_any A B x va vb vx w hA hB hx ix
theorem nresid_as (A : List (List Int)) (B : List Int) (x : List (Int × Int)) (r : List (Int × Int) × Int) (va vb vx : Value) (w : World) (hA : SS w va A) (hB : SI w vb B) (hx : SF w vx x) (ix : FI x) (hr : nResidual A B x = r) :
    Calls Try.prog 44 #[.agg #[va, vb], vx] w (rows_post w r) := by
  subst hr; exact nresid_any A B x va vb vx w hA hB hx ix
theorem nsolve_as (A : List (List Int)) (B : List Int) (r : List (Int × Int) × Nat × Int) (va vb : Value) (w : World) (hA : SS w va A) (hB : SI w vb B) (hr : nSolve A B 0 = r) :
    Calls Try.prog 31 #[.agg #[va, vb]] w (solve_post w r) := by
  subst hr; exact nsolve_any A B va vb w hA hB
theorem rnpt_as (A : List (List Int)) (x : List (Int × Int)) (b : Bool) (va vb vx : Value) (w : World) (hA : SS w va A) (hx : SF w vx x) (ix : FI x) (l1 : 0 < A.length) (hb : pointB (A.getD 0 []).length x = b) :
    Calls Try.prog 19 #[.agg #[va, vb], vx] w fun e w' => e = .returned (.bool b) ∧ Below w.heap.size w w' := by
  subst hb; exact rnpt_any A x va vb vx w hA hx ix l1
theorem rcheck_as (n d e : Int) (w : World) (h1 : i64 n) (h2 : i64 d) (h : fchk n d = e) :
    Calls Try.prog 23 #[.agg #[.int .i64 n, .int .i64 d]] w fun r w' => r = .returned (.int .i64 e) ∧ Below w.heap.size w w' := by
  subst h; exact rcheck_any n d w h1 h2
theorem cmp_as (an ad bn bd : Int) (w : World) (h1 : fchk an ad = 0) (h2 : fchk bn bd = 0) :
    Calls Try.prog 24 #[.agg #[.int .i64 an, .int .i64 ad], .agg #[.int .i64 bn, .int .i64 bd]] w fun e w' => e = .returned (.tuple #[.int .i64 (fcmp an ad bn bd), .int .i64 0]) ∧ Below w.heap.size w w' := by
  have h := cmp_any an ad bn bd w (fr_i64 h1).1 (fr_i64 h1).2 (fr_i64 h2).1 (fr_i64 h2).2
  rw [show fcmpZ an ad bn bd = fcmp an ad bn bd from if_pos (fboth_of h1 h2), fboth_of h1 h2] at h
  exact h
theorem pointB_iff {A : List (List Int)} {B : List Int} {x : List (Int × Int)} (hc : ncheck A B = 0) : (npoint A B x = 0 ↔ pointB (A.getD 0 []).length x = true) := by
  unfold npoint
  rw [if_pos hc]
  by_cases h : pointB (A.getD 0 []).length x = true
  · rw [if_pos h]; exact ⟨fun _ => h, fun _ => rfl⟩
  · rw [if_neg h]; exact ⟨fun h2 => absurd h2 (by decide), fun h2 => absurd h2 h⟩
end Go.Proofs.Ytfoemacgmehpiaa
