/- What is proved here: contracts of functions and plain facts, several texts in one; each one says ahead what it proves, and its conditions. -/
import Derived.Test.YtfoemacgmehpiaaC40
import Derived.Test.YtfoemacgmehpiaaC44
import Derived.Test.YtfoemacgmehpiaaC34
import Derived.Test.YtfoemacgmehpiaaC45
import Derived.Test.YtfoemacgmehpiaaC21
/- What is proved here: contracts of the dual layer with the value named, and of the law's helper that takes no error and ErrRange. Condition: as each one says. -/
namespace Go.Proofs.Ytfoemacgmehpiaa
open Go.RowKit

theorem ranged_ok (e : Int) (h : e = 0 ∨ e = 16) (w : World) : Calls Try.prog 39 #[.int .i64 e] w fun r w' => r = .returned (.bool true) ∧ Below w.heap.size w w' := by
  go_enter Try.func39, Try.ntmps39
  have hy := Below.refl w.heap.size w
  rcases h with rfl | rfl
  · go_wp2
    go_ret
    exact ⟨by first | rfl | simp, hy⟩
  · go_wp2
    go_ret
    exact ⟨by first | rfl | simp, hy⟩
theorem dfeas_as (A : List (List Int)) (B : List Int) (c : Int) (y : List (Int × Int)) (r : Bool × Int) (va vb vy : Value) (w : World) (hA : SS w va A) (hB : SI w vb B) (hx : SF w vy y) (ix : FI y) (hr : dfeas A B c y = r) :
    Calls Try.prog 37 #[.agg #[va, vb], .int .i64 c, vy] w fun e w' => e = .returned (.tuple #[.bool r.1, .int .i64 r.2]) ∧ Below w.heap.size w w' := by
  subst hr; exact dfeas_any A B c y va vb vy w hA hB hx ix
theorem dworth_as (A : List (List Int)) (B : List Int) (y : List (Int × Int)) (r : FR) (va vb vy : Value) (w : World) (hA : SS w va A) (hB : SI w vb B) (hx : SF w vy y) (ix : FI y) (hr : dworth A B y = r) :
    Calls Try.prog 38 #[.agg #[va, vb], vy] w fun e w' => e = .returned (.tuple #[.agg #[.int .i64 r.n, .int .i64 r.d], .int .i64 r.e]) ∧ Below w.heap.size w w' := by
  subst hr; exact dworth_any A B y va vb vy w hA hB hx ix
theorem dgap_as (A : List (List Int)) (B : List Int) (c : Int) (x y : List (Int × Int)) (r : FR) (va vb vx vy : Value) (w : World) (hA : SS w va A) (hB : SI w vb B) (hx : SF w vx x) (ix : FI x) (hz : SF w vy y) (iz : FI y) (hr : dgap A B c x y = r) :
    Calls Try.prog 40 #[.agg #[va, vb], .int .i64 c, vx, vy] w fun e w' => e = .returned (.tuple #[.agg #[.int .i64 r.n, .int .i64 r.d], .int .i64 r.e]) ∧ Below w.heap.size w w' := by
  subst hr; exact dgap_any A B c x y va vb vx vy w hA hB hx ix hz iz
theorem dacc_as (A : List (List Int)) (B : List Int) (c : Int) (x y : List (Int × Int)) (gn gd : Int) (r : Bool × Int) (va vb vx vy : Value) (w : World) (hA : SS w va A) (hB : SI w vb B) (hx : SF w vx x) (ix : FI x) (hz : SF w vy y) (iz : FI y) (ig : i64 gn) (ih : i64 gd) (hr : daccept A B c x y gn gd = r) :
    Calls Try.prog 43 #[.agg #[va, vb], .int .i64 c, vx, vy, .agg #[.int .i64 gn, .int .i64 gd]] w fun e w' => e = .returned (.tuple #[.bool r.1, .int .i64 r.2]) ∧ Below w.heap.size w w' := by
  subst hr; exact dacc_any A B c x y gn gd va vb vx vy w hA hB hx ix hz iz ig ih
theorem rdwt_as (A : List (List Int)) (x : List (Int × Int)) (b : Bool) (va vb vx : Value) (w : World) (hA : SS w va A) (hx : SF w vx x) (ix : FI x) (hb : witB A.length x = b) :
    Calls Try.prog 36 #[.agg #[va, vb], vx] w fun e w' => e = .returned (.bool b) ∧ Below w.heap.size w w' := by
  subst hb; exact rdwit_any A x va vb vx w hA hx ix
theorem fsub_as (an ad bn bd : Int) (r : FR) (w : World) (h1 : fchk an ad = 0) (h2 : fchk bn bd = 0) (hr : fsub an ad bn bd = r) :
    Calls Try.prog 41 #[.agg #[.int .i64 an, .int .i64 ad], .agg #[.int .i64 bn, .int .i64 bd]] w fun e w' => e = .returned (.tuple #[.agg #[.int .i64 r.n, .int .i64 r.d], .int .i64 r.e]) ∧ Below w.heap.size w w' := by
  subst hr; exact fsub_any an ad bn bd w (fr_i64 h1).1 (fr_i64 h1).2 (fr_i64 h2).1 (fr_i64 h2).2
end Go.Proofs.Ytfoemacgmehpiaa
