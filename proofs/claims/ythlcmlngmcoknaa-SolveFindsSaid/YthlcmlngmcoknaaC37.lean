/- What is proved here: contracts of functions and plain facts, several texts in one; each one says ahead what it proves, and its conditions. -/
import Derived.Test.YthlcmlngmcoknaaC02
import Derived.Test.YthlcmlngmcoknaaProg
import Derived.Laws.StructEq
/- What is proved here: what comparing four digits with zeros gives. No condition. -/
namespace Go.Proofs.Ythlcmlngmcoknaa
open Go.RowKit

theorem run_eq4 (d : Nat) (a b c e : Int) (w : World) :
    (Op.equalIn (d + 1 + 1) 149 (.agg #[.int .u64 a, .int .u64 b, .int .u64 c, .int .u64 e]) (.agg #[.int .u64 0, .int .u64 0, .int .u64 0, .int .u64 0])).run Try.prog w = .ok (a == 0 && b == 0 && c == 0 && e == 0) w := by
  have hu : Try.prog.underlying 149 = some (.array 4 144) := Try.underlying149
  have hv : Try.prog.underlying 144 = some (.int .u64) := Try.underlying144
  rw [Op.equalIn]
  simp [run_underlying hu, go_sem]
  have hia : ∀ W, (isAgg 144).run Try.prog W = .ok false W := fun W => by simp [go_sem]
  have hq : ∀ (x y : Int) (W : World), (Op.equalIn (d + 1) 144 (.int .u64 x) (.int .u64 y)).run Try.prog W = .ok (x == y) W := fun x y W => run_equalIn_int W d _ _ _ x y hv
  rw [show List.range' 0 4 = [0, 1, 2, 3] from rfl]
  cases ha : (a == 0) <;> cases hb : (b == 0) <;> cases hc : (c == 0) <;> cases he : (e == 0) <;> simp [hia, hq, ha, hb, hc, he, Result.andThen]
end Go.Proofs.Ythlcmlngmcoknaa
