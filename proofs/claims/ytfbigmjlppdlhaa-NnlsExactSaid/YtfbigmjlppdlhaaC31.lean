/- What is proved here: contracts of functions and plain facts, several texts in one; each one says ahead what it proves, and its conditions. -/
import Derived.Test.YtfbigmjlppdlhaaC05
import Derived.Test.YtfbigmjlppdlhaaProg
import Derived.Test.YtfbigmjlppdlhaaC29
import Derived.Test.YtfbigmjlppdlhaaC30
/- What is proved here: the contract of nnls.det. Condition: numbers within 3000. -/
namespace Go.Proofs.Ytfbigmjlppdlhaa
open Go.RowKit

/-- A number within m. -/
def wi (m x : Int) : Prop := -m ≤ x ∧ x ≤ m
theorem det2_bd {a b c d X Y : Int} (h1 : wi X a) (h2 : wi Y b) (h3 : wi X c) (h4 : wi Y d) : wi (2 * (X * Y)) (det2 a b c d) := by
  have u1 := wr_mulbd h1 h4
  have u2 := wr_mulbd h2 h3
  rw [Int.mul_comm Y X] at u2
  unfold wi det2; omega
theorem det3_bd {a b c d e f g h i X Y Z : Int} (a1 : wi X a) (d1 : wi X d) (g1 : wi X g) (b1 : wi Y b) (e1 : wi Y e) (h1 : wi Y h) (c1 : wi Z c) (f1 : wi Z f) (i1 : wi Z i) : wi (6 * (X * Y * Z)) (det3 a b c d e f g h i) := by
  have u1 := wr_mulbd a1 (det2_bd e1 f1 h1 i1)
  have u2 := wr_mulbd b1 (det2_bd d1 f1 g1 i1)
  have u3 := wr_mulbd c1 (det2_bd d1 e1 g1 h1)
  have e1 : X * (2 * (Y * Z)) = 2 * (X * Y * Z) := by grind
  have e2 : Y * (2 * (X * Z)) = 2 * (X * Y * Z) := by grind
  have e3 : Z * (2 * (X * Y)) = 2 * (X * Y * Z) := by grind
  rw [e1] at u1
  rw [e2] at u2
  rw [e3] at u3
  unfold det2 at u1 u2 u3
  unfold wi det3
  omega
/-- The determinant of the first n rows and columns. -/
def detN (n : Nat) (a b c d e f g h i : Int) : Int := match n with
  | 0 => 1
  | 1 => a
  | 2 => det2 a b d e
  | _ => det3 a b c d e f g h i
set_option maxRecDepth 100000 in
set_option maxHeartbeats 4000000 in
theorem ndet_any (n : Nat) (a b c d e f g h i : Int) (w : World) (hn : n ≤ 3) (hb : i64 (detN n a b c d e f g h i)) :
    Calls Try.prog 118 #[.agg #[.int .i64 a, .int .i64 b, .int .i64 c, .int .i64 d, .int .i64 e, .int .i64 f, .int .i64 g, .int .i64 h, .int .i64 i], .int .i64 n] w fun en w' => en = .returned (.int .i64 (detN n a b c d e f g h i)) ∧ Below w.heap.size w w' := by
  have HB := Lib.hid hb
  clear hb
  rcases (by omega : n = 0 ∨ n = 1 ∨ n = 2 ∨ n = 3) with rfl | rfl | rfl | rfl
  · go_enter Try.func118, Try.ntmps118
    have oM := Own.new w 99 [.int .i64 a, .int .i64 b, .int .i64 c, .int .i64 d, .int .i64 e, .int .i64 f, .int .i64 g, .int .i64 h, .int .i64 i]
    obtain ⟨rM, fM⟩ := oM.rules
    have zM := oM.lt
    go_wp2
    go_ret
    exact ⟨by rfl, ba1 _ _⟩
  · go_enter Try.func118, Try.ntmps118
    have oM := Own.new w 99 [.int .i64 a, .int .i64 b, .int .i64 c, .int .i64 d, .int .i64 e, .int .i64 f, .int .i64 g, .int .i64 h, .int .i64 i]
    obtain ⟨rM, fM⟩ := oM.rules
    have zM := oM.lt
    go_wp2
    go_ret
    exact ⟨by rfl, ba1 _ _⟩
  · have E : Hid (wrap64 (wrap64 (a * e) - wrap64 (b * d)) = det2 a b d e) := by
      show _ = _
      rw [wr_sub_l, wr_sub_r]
      exact Go.IntWalk.wrap64_in _ HB.out
    go_enter Try.func118, Try.ntmps118
    have oM := Own.new w 99 [.int .i64 a, .int .i64 b, .int .i64 c, .int .i64 d, .int .i64 e, .int .i64 f, .int .i64 g, .int .i64 h, .int .i64 i]
    obtain ⟨rM, fM⟩ := oM.rules
    have zM := oM.lt
    go_wp2
    go_ret
    exact ⟨by show Ending.returned (.int .i64 _) = Ending.returned (.int .i64 (det2 a b d e)); rw [← E.out], ba1 _ _⟩
  · have E : Hid (wrap64 (wrap64 (wrap64 (a * wrap64 (wrap64 (e * i) - wrap64 (f * h))) - wrap64 (b * wrap64 (wrap64 (d * i) - wrap64 (f * g)))) + wrap64 (c * wrap64 (wrap64 (d * h) - wrap64 (e * g)))) = det3 a b c d e f g h i) := by
      show _ = _
      simp only [wr_sub_l, wr_sub_r, wr_mul_r, wr_add_l, wr_add_r]
      exact Go.IntWalk.wrap64_in _ HB.out
    go_enter Try.func118, Try.ntmps118
    have oM := Own.new w 99 [.int .i64 a, .int .i64 b, .int .i64 c, .int .i64 d, .int .i64 e, .int .i64 f, .int .i64 g, .int .i64 h, .int .i64 i]
    obtain ⟨rM, fM⟩ := oM.rules
    have zM := oM.lt
    go_wp2
    go_ret
    exact ⟨by show Ending.returned (.int .i64 _) = Ending.returned (.int .i64 (det3 a b c d e f g h i)); rw [← E.out], ba1 _ _⟩
end Go.Proofs.Ytfbigmjlppdlhaa
