/- What is proved here: the law SolveNames returns true. No condition. -/
import Derived.Test.YthlcmlngmcoknaaC25
import Derived.Test.YthlcmlngmcoknaaC19
import Derived.Test.YthlcmlngmcoknaaC43
import Derived.Test.YthlcmlngmcoknaaC44
import Derived.Test.YthlcmlngmcoknaaC17
import Derived.Test.YthlcmlngmcoknaaC02
import Derived.Deep.DeepCutAuto
namespace Go.Proofs.Ythlcmlngmcoknaa
open Go.RowKit

set_option maxRecDepth 100000 in
set_option maxHeartbeats 64000000 in
theorem solveNames_any (w : World) : Calls Try.prog 9 #[] w fun e w' => e = .returned (.bool true) ∧ Below w.heap.size w w' := by
  go_enter Try.func9, Try.ntmps9
  have hy := Below.refl w.heap.size w
  go_upto_region 2 with fail
  obtain ⟨OL, hOL⟩ : ∃ L : List Obj, L = [(.cells #[] 3), (.cells #[.slice (some ⟨w.heap.size, 0, none⟩) 0 0] 23), (.cells #[.int .i64 0] 3), (.cells #[.int .i64 1] 3), (.cells #[.slice (some ⟨w.heap.size + 1 + 1 + 1, 0, none⟩) 1 1] 23), (.cells #[.int .i64 1] 3), (.cells #[.int .i64 1, .int .i64 2] 3), (.cells #[.slice (some ⟨w.heap.size + 1 + 1 + 1 + 1 + 1, 0, none⟩) 1 1, .slice (some ⟨w.heap.size + 1 + 1 + 1 + 1 + 1 + 1, 0, none⟩) 2 2] 23), (.cells #[.int .i64 0, .int .i64 0] 3), (.cells #[.int .i64 10] 3), (.cells #[.slice (some ⟨w.heap.size + 1 + 1 + 1 + 1 + 1 + 1 + 1 + 1 + 1, 0, none⟩) 1 1] 23), (.cells #[.int .i64 0] 3), (.cells #[.int .i64 (-10)] 3), (.cells #[.slice (some ⟨w.heap.size + 1 + 1 + 1 + 1 + 1 + 1 + 1 + 1 + 1 + 1 + 1 + 1, 0, none⟩) 1 1] 23), (.cells #[.int .i64 0] 3), (.cells #[.int .i64 1] 3), (.cells #[.slice (some ⟨w.heap.size + 1 + 1 + 1 + 1 + 1 + 1 + 1 + 1 + 1 + 1 + 1 + 1 + 1 + 1 + 1, 0, none⟩) 1 1] 23), (.cells #[.int .i64 100] 3), (.cells #[.int .i64 1] 3), (.cells #[.slice (some ⟨w.heap.size + 1 + 1 + 1 + 1 + 1 + 1 + 1 + 1 + 1 + 1 + 1 + 1 + 1 + 1 + 1 + 1 + 1 + 1, 0, none⟩) 1 1] 23), (.cells #[.int .i64 (-100)] 3), (.cells #[.slice none 0 0, .slice none 0 0, .slice (some ⟨w.heap.size + 1, 0, none⟩) 1 1, .slice (some ⟨w.heap.size + 1 + 1, 0, none⟩) 1 1, .slice (some ⟨w.heap.size + 1 + 1 + 1 + 1, 0, none⟩) 1 1, .slice none 0 0, .slice (some ⟨w.heap.size + 1 + 1 + 1 + 1 + 1 + 1 + 1, 0, none⟩) 2 2, .slice (some ⟨w.heap.size + 1 + 1 + 1 + 1 + 1 + 1 + 1 + 1, 0, none⟩) 2 2, .slice (some ⟨w.heap.size + 1 + 1 + 1 + 1 + 1 + 1 + 1 + 1 + 1 + 1, 0, none⟩) 1 1, .slice (some ⟨w.heap.size + 1 + 1 + 1 + 1 + 1 + 1 + 1 + 1 + 1 + 1 + 1, 0, none⟩) 1 1, .slice (some ⟨w.heap.size + 1 + 1 + 1 + 1 + 1 + 1 + 1 + 1 + 1 + 1 + 1 + 1 + 1, 0, none⟩) 1 1, .slice (some ⟨w.heap.size + 1 + 1 + 1 + 1 + 1 + 1 + 1 + 1 + 1 + 1 + 1 + 1 + 1 + 1, 0, none⟩) 1 1, .slice (some ⟨w.heap.size + 1 + 1 + 1 + 1 + 1 + 1 + 1 + 1 + 1 + 1 + 1 + 1 + 1 + 1 + 1 + 1, 0, none⟩) 1 1, .slice (some ⟨w.heap.size + 1 + 1 + 1 + 1 + 1 + 1 + 1 + 1 + 1 + 1 + 1 + 1 + 1 + 1 + 1 + 1 + 1, 0, none⟩) 1 1, .slice (some ⟨w.heap.size + 1 + 1 + 1 + 1 + 1 + 1 + 1 + 1 + 1 + 1 + 1 + 1 + 1 + 1 + 1 + 1 + 1 + 1 + 1, 0, none⟩) 1 1, .slice (some ⟨w.heap.size + 1 + 1 + 1 + 1 + 1 + 1 + 1 + 1 + 1 + 1 + 1 + 1 + 1 + 1 + 1 + 1 + 1 + 1 + 1 + 1, 0, none⟩) 1 1] 25)] := ⟨_, rfl⟩
  have hE : ((((((((((((((((((((((w.alloc (.cells #[] 3)).alloc (.cells #[.slice (some ⟨w.heap.size, 0, none⟩) 0 0] 23)).alloc (.cells #[.int .i64 0] 3)).alloc (.cells #[.int .i64 1] 3)).alloc (.cells #[.slice (some ⟨w.heap.size + 1 + 1 + 1, 0, none⟩) 1 1] 23)).alloc (.cells #[.int .i64 1] 3)).alloc (.cells #[.int .i64 1, .int .i64 2] 3)).alloc (.cells #[.slice (some ⟨w.heap.size + 1 + 1 + 1 + 1 + 1, 0, none⟩) 1 1, .slice (some ⟨w.heap.size + 1 + 1 + 1 + 1 + 1 + 1, 0, none⟩) 2 2] 23)).alloc (.cells #[.int .i64 0, .int .i64 0] 3)).alloc (.cells #[.int .i64 10] 3)).alloc (.cells #[.slice (some ⟨w.heap.size + 1 + 1 + 1 + 1 + 1 + 1 + 1 + 1 + 1, 0, none⟩) 1 1] 23)).alloc (.cells #[.int .i64 0] 3)).alloc (.cells #[.int .i64 (-10)] 3)).alloc (.cells #[.slice (some ⟨w.heap.size + 1 + 1 + 1 + 1 + 1 + 1 + 1 + 1 + 1 + 1 + 1 + 1, 0, none⟩) 1 1] 23)).alloc (.cells #[.int .i64 0] 3)).alloc (.cells #[.int .i64 1] 3)).alloc (.cells #[.slice (some ⟨w.heap.size + 1 + 1 + 1 + 1 + 1 + 1 + 1 + 1 + 1 + 1 + 1 + 1 + 1 + 1 + 1, 0, none⟩) 1 1] 23)).alloc (.cells #[.int .i64 100] 3)).alloc (.cells #[.int .i64 1] 3)).alloc (.cells #[.slice (some ⟨w.heap.size + 1 + 1 + 1 + 1 + 1 + 1 + 1 + 1 + 1 + 1 + 1 + 1 + 1 + 1 + 1 + 1 + 1 + 1, 0, none⟩) 1 1] 23)).alloc (.cells #[.int .i64 (-100)] 3)).alloc (.cells #[.slice none 0 0, .slice none 0 0, .slice (some ⟨w.heap.size + 1, 0, none⟩) 1 1, .slice (some ⟨w.heap.size + 1 + 1, 0, none⟩) 1 1, .slice (some ⟨w.heap.size + 1 + 1 + 1 + 1, 0, none⟩) 1 1, .slice none 0 0, .slice (some ⟨w.heap.size + 1 + 1 + 1 + 1 + 1 + 1 + 1, 0, none⟩) 2 2, .slice (some ⟨w.heap.size + 1 + 1 + 1 + 1 + 1 + 1 + 1 + 1, 0, none⟩) 2 2, .slice (some ⟨w.heap.size + 1 + 1 + 1 + 1 + 1 + 1 + 1 + 1 + 1 + 1, 0, none⟩) 1 1, .slice (some ⟨w.heap.size + 1 + 1 + 1 + 1 + 1 + 1 + 1 + 1 + 1 + 1 + 1, 0, none⟩) 1 1, .slice (some ⟨w.heap.size + 1 + 1 + 1 + 1 + 1 + 1 + 1 + 1 + 1 + 1 + 1 + 1 + 1, 0, none⟩) 1 1, .slice (some ⟨w.heap.size + 1 + 1 + 1 + 1 + 1 + 1 + 1 + 1 + 1 + 1 + 1 + 1 + 1 + 1, 0, none⟩) 1 1, .slice (some ⟨w.heap.size + 1 + 1 + 1 + 1 + 1 + 1 + 1 + 1 + 1 + 1 + 1 + 1 + 1 + 1 + 1 + 1, 0, none⟩) 1 1, .slice (some ⟨w.heap.size + 1 + 1 + 1 + 1 + 1 + 1 + 1 + 1 + 1 + 1 + 1 + 1 + 1 + 1 + 1 + 1 + 1, 0, none⟩) 1 1, .slice (some ⟨w.heap.size + 1 + 1 + 1 + 1 + 1 + 1 + 1 + 1 + 1 + 1 + 1 + 1 + 1 + 1 + 1 + 1 + 1 + 1 + 1, 0, none⟩) 1 1, .slice (some ⟨w.heap.size + 1 + 1 + 1 + 1 + 1 + 1 + 1 + 1 + 1 + 1 + 1 + 1 + 1 + 1 + 1 + 1 + 1 + 1 + 1 + 1, 0, none⟩) 1 1] 25)) = allocs w OL := by rw [hOL]; rfl
  rw [hE]
  clear hE
  have q1_0 : Own (allocs w OL) (w.heap.size) 3 [] := own_allocs OL w 0 3 [] (by rw [hOL]; rfl)
  have q1_1 : Own (allocs w OL) (w.heap.size + 1) 23 [.slice (some ⟨w.heap.size, 0, none⟩) 0 0] := own_allocs OL w 1 23 [.slice (some ⟨w.heap.size, 0, none⟩) 0 0] (by rw [hOL]; rfl)
  have q1_2 : Own (allocs w OL) (w.heap.size + 1 + 1) 3 [.int .i64 0] := own_allocs OL w 2 3 [.int .i64 0] (by rw [hOL]; rfl)
  have q1_3 : Own (allocs w OL) (w.heap.size + 1 + 1 + 1) 3 [.int .i64 1] := own_allocs OL w 3 3 [.int .i64 1] (by rw [hOL]; rfl)
  have q1_4 : Own (allocs w OL) (w.heap.size + 1 + 1 + 1 + 1) 23 [.slice (some ⟨w.heap.size + 1 + 1 + 1, 0, none⟩) 1 1] := own_allocs OL w 4 23 [.slice (some ⟨w.heap.size + 1 + 1 + 1, 0, none⟩) 1 1] (by rw [hOL]; rfl)
  have q1_5 : Own (allocs w OL) (w.heap.size + 1 + 1 + 1 + 1 + 1) 3 [.int .i64 1] := own_allocs OL w 5 3 [.int .i64 1] (by rw [hOL]; rfl)
  have q1_6 : Own (allocs w OL) (w.heap.size + 1 + 1 + 1 + 1 + 1 + 1) 3 [.int .i64 1, .int .i64 2] := own_allocs OL w 6 3 [.int .i64 1, .int .i64 2] (by rw [hOL]; rfl)
  have q1_7 : Own (allocs w OL) (w.heap.size + 1 + 1 + 1 + 1 + 1 + 1 + 1) 23 [.slice (some ⟨w.heap.size + 1 + 1 + 1 + 1 + 1, 0, none⟩) 1 1, .slice (some ⟨w.heap.size + 1 + 1 + 1 + 1 + 1 + 1, 0, none⟩) 2 2] := own_allocs OL w 7 23 [.slice (some ⟨w.heap.size + 1 + 1 + 1 + 1 + 1, 0, none⟩) 1 1, .slice (some ⟨w.heap.size + 1 + 1 + 1 + 1 + 1 + 1, 0, none⟩) 2 2] (by rw [hOL]; rfl)
  have q1_8 : Own (allocs w OL) (w.heap.size + 1 + 1 + 1 + 1 + 1 + 1 + 1 + 1) 3 [.int .i64 0, .int .i64 0] := own_allocs OL w 8 3 [.int .i64 0, .int .i64 0] (by rw [hOL]; rfl)
  have q1_9 : Own (allocs w OL) (w.heap.size + 1 + 1 + 1 + 1 + 1 + 1 + 1 + 1 + 1) 3 [.int .i64 10] := own_allocs OL w 9 3 [.int .i64 10] (by rw [hOL]; rfl)
  have q1_10 : Own (allocs w OL) (w.heap.size + 1 + 1 + 1 + 1 + 1 + 1 + 1 + 1 + 1 + 1) 23 [.slice (some ⟨w.heap.size + 1 + 1 + 1 + 1 + 1 + 1 + 1 + 1 + 1, 0, none⟩) 1 1] := own_allocs OL w 10 23 [.slice (some ⟨w.heap.size + 1 + 1 + 1 + 1 + 1 + 1 + 1 + 1 + 1, 0, none⟩) 1 1] (by rw [hOL]; rfl)
  have q1_11 : Own (allocs w OL) (w.heap.size + 1 + 1 + 1 + 1 + 1 + 1 + 1 + 1 + 1 + 1 + 1) 3 [.int .i64 0] := own_allocs OL w 11 3 [.int .i64 0] (by rw [hOL]; rfl)
  have q1_12 : Own (allocs w OL) (w.heap.size + 1 + 1 + 1 + 1 + 1 + 1 + 1 + 1 + 1 + 1 + 1 + 1) 3 [.int .i64 (-10)] := own_allocs OL w 12 3 [.int .i64 (-10)] (by rw [hOL]; rfl)
  have q1_13 : Own (allocs w OL) (w.heap.size + 1 + 1 + 1 + 1 + 1 + 1 + 1 + 1 + 1 + 1 + 1 + 1 + 1) 23 [.slice (some ⟨w.heap.size + 1 + 1 + 1 + 1 + 1 + 1 + 1 + 1 + 1 + 1 + 1 + 1, 0, none⟩) 1 1] := own_allocs OL w 13 23 [.slice (some ⟨w.heap.size + 1 + 1 + 1 + 1 + 1 + 1 + 1 + 1 + 1 + 1 + 1 + 1, 0, none⟩) 1 1] (by rw [hOL]; rfl)
  have q1_14 : Own (allocs w OL) (w.heap.size + 1 + 1 + 1 + 1 + 1 + 1 + 1 + 1 + 1 + 1 + 1 + 1 + 1 + 1) 3 [.int .i64 0] := own_allocs OL w 14 3 [.int .i64 0] (by rw [hOL]; rfl)
  have q1_15 : Own (allocs w OL) (w.heap.size + 1 + 1 + 1 + 1 + 1 + 1 + 1 + 1 + 1 + 1 + 1 + 1 + 1 + 1 + 1) 3 [.int .i64 1] := own_allocs OL w 15 3 [.int .i64 1] (by rw [hOL]; rfl)
  have q1_16 : Own (allocs w OL) (w.heap.size + 1 + 1 + 1 + 1 + 1 + 1 + 1 + 1 + 1 + 1 + 1 + 1 + 1 + 1 + 1 + 1) 23 [.slice (some ⟨w.heap.size + 1 + 1 + 1 + 1 + 1 + 1 + 1 + 1 + 1 + 1 + 1 + 1 + 1 + 1 + 1, 0, none⟩) 1 1] := own_allocs OL w 16 23 [.slice (some ⟨w.heap.size + 1 + 1 + 1 + 1 + 1 + 1 + 1 + 1 + 1 + 1 + 1 + 1 + 1 + 1 + 1, 0, none⟩) 1 1] (by rw [hOL]; rfl)
  have q1_17 : Own (allocs w OL) (w.heap.size + 1 + 1 + 1 + 1 + 1 + 1 + 1 + 1 + 1 + 1 + 1 + 1 + 1 + 1 + 1 + 1 + 1) 3 [.int .i64 100] := own_allocs OL w 17 3 [.int .i64 100] (by rw [hOL]; rfl)
  have q1_18 : Own (allocs w OL) (w.heap.size + 1 + 1 + 1 + 1 + 1 + 1 + 1 + 1 + 1 + 1 + 1 + 1 + 1 + 1 + 1 + 1 + 1 + 1) 3 [.int .i64 1] := own_allocs OL w 18 3 [.int .i64 1] (by rw [hOL]; rfl)
  have q1_19 : Own (allocs w OL) (w.heap.size + 1 + 1 + 1 + 1 + 1 + 1 + 1 + 1 + 1 + 1 + 1 + 1 + 1 + 1 + 1 + 1 + 1 + 1 + 1) 23 [.slice (some ⟨w.heap.size + 1 + 1 + 1 + 1 + 1 + 1 + 1 + 1 + 1 + 1 + 1 + 1 + 1 + 1 + 1 + 1 + 1 + 1, 0, none⟩) 1 1] := own_allocs OL w 19 23 [.slice (some ⟨w.heap.size + 1 + 1 + 1 + 1 + 1 + 1 + 1 + 1 + 1 + 1 + 1 + 1 + 1 + 1 + 1 + 1 + 1 + 1, 0, none⟩) 1 1] (by rw [hOL]; rfl)
  have q1_20 : Own (allocs w OL) (w.heap.size + 1 + 1 + 1 + 1 + 1 + 1 + 1 + 1 + 1 + 1 + 1 + 1 + 1 + 1 + 1 + 1 + 1 + 1 + 1 + 1) 3 [.int .i64 (-100)] := own_allocs OL w 20 3 [.int .i64 (-100)] (by rw [hOL]; rfl)
  have q1_21 : Own (allocs w OL) (w.heap.size + 1 + 1 + 1 + 1 + 1 + 1 + 1 + 1 + 1 + 1 + 1 + 1 + 1 + 1 + 1 + 1 + 1 + 1 + 1 + 1 + 1) 25 [.slice none 0 0, .slice none 0 0, .slice (some ⟨w.heap.size + 1, 0, none⟩) 1 1, .slice (some ⟨w.heap.size + 1 + 1, 0, none⟩) 1 1, .slice (some ⟨w.heap.size + 1 + 1 + 1 + 1, 0, none⟩) 1 1, .slice none 0 0, .slice (some ⟨w.heap.size + 1 + 1 + 1 + 1 + 1 + 1 + 1, 0, none⟩) 2 2, .slice (some ⟨w.heap.size + 1 + 1 + 1 + 1 + 1 + 1 + 1 + 1, 0, none⟩) 2 2, .slice (some ⟨w.heap.size + 1 + 1 + 1 + 1 + 1 + 1 + 1 + 1 + 1 + 1, 0, none⟩) 1 1, .slice (some ⟨w.heap.size + 1 + 1 + 1 + 1 + 1 + 1 + 1 + 1 + 1 + 1 + 1, 0, none⟩) 1 1, .slice (some ⟨w.heap.size + 1 + 1 + 1 + 1 + 1 + 1 + 1 + 1 + 1 + 1 + 1 + 1 + 1, 0, none⟩) 1 1, .slice (some ⟨w.heap.size + 1 + 1 + 1 + 1 + 1 + 1 + 1 + 1 + 1 + 1 + 1 + 1 + 1 + 1, 0, none⟩) 1 1, .slice (some ⟨w.heap.size + 1 + 1 + 1 + 1 + 1 + 1 + 1 + 1 + 1 + 1 + 1 + 1 + 1 + 1 + 1 + 1, 0, none⟩) 1 1, .slice (some ⟨w.heap.size + 1 + 1 + 1 + 1 + 1 + 1 + 1 + 1 + 1 + 1 + 1 + 1 + 1 + 1 + 1 + 1 + 1, 0, none⟩) 1 1, .slice (some ⟨w.heap.size + 1 + 1 + 1 + 1 + 1 + 1 + 1 + 1 + 1 + 1 + 1 + 1 + 1 + 1 + 1 + 1 + 1 + 1 + 1, 0, none⟩) 1 1, .slice (some ⟨w.heap.size + 1 + 1 + 1 + 1 + 1 + 1 + 1 + 1 + 1 + 1 + 1 + 1 + 1 + 1 + 1 + 1 + 1 + 1 + 1 + 1, 0, none⟩) 1 1] := own_allocs OL w 21 25 [.slice none 0 0, .slice none 0 0, .slice (some ⟨w.heap.size + 1, 0, none⟩) 1 1, .slice (some ⟨w.heap.size + 1 + 1, 0, none⟩) 1 1, .slice (some ⟨w.heap.size + 1 + 1 + 1 + 1, 0, none⟩) 1 1, .slice none 0 0, .slice (some ⟨w.heap.size + 1 + 1 + 1 + 1 + 1 + 1 + 1, 0, none⟩) 2 2, .slice (some ⟨w.heap.size + 1 + 1 + 1 + 1 + 1 + 1 + 1 + 1, 0, none⟩) 2 2, .slice (some ⟨w.heap.size + 1 + 1 + 1 + 1 + 1 + 1 + 1 + 1 + 1 + 1, 0, none⟩) 1 1, .slice (some ⟨w.heap.size + 1 + 1 + 1 + 1 + 1 + 1 + 1 + 1 + 1 + 1 + 1, 0, none⟩) 1 1, .slice (some ⟨w.heap.size + 1 + 1 + 1 + 1 + 1 + 1 + 1 + 1 + 1 + 1 + 1 + 1 + 1, 0, none⟩) 1 1, .slice (some ⟨w.heap.size + 1 + 1 + 1 + 1 + 1 + 1 + 1 + 1 + 1 + 1 + 1 + 1 + 1 + 1, 0, none⟩) 1 1, .slice (some ⟨w.heap.size + 1 + 1 + 1 + 1 + 1 + 1 + 1 + 1 + 1 + 1 + 1 + 1 + 1 + 1 + 1 + 1, 0, none⟩) 1 1, .slice (some ⟨w.heap.size + 1 + 1 + 1 + 1 + 1 + 1 + 1 + 1 + 1 + 1 + 1 + 1 + 1 + 1 + 1 + 1 + 1, 0, none⟩) 1 1, .slice (some ⟨w.heap.size + 1 + 1 + 1 + 1 + 1 + 1 + 1 + 1 + 1 + 1 + 1 + 1 + 1 + 1 + 1 + 1 + 1 + 1 + 1, 0, none⟩) 1 1, .slice (some ⟨w.heap.size + 1 + 1 + 1 + 1 + 1 + 1 + 1 + 1 + 1 + 1 + 1 + 1 + 1 + 1 + 1 + 1 + 1 + 1 + 1 + 1, 0, none⟩) 1 1] (by rw [hOL]; rfl)
  have hq := ba_allocs OL w
  replace hy := below_to hy hq
  clear hq
  clear hOL
  generalize allocs w OL = W1 at *
  obtain ⟨B1, hB1⟩ : ∃ B, B = w.heap.size := ⟨_, rfl⟩
  rw [← hB1] at q1_0 q1_1 q1_2 q1_3 q1_4 q1_5 q1_6 q1_7 q1_8 q1_9 q1_10 q1_11 q1_12 q1_13 q1_14 q1_15 q1_16 q1_17 q1_18 q1_19 q1_20 q1_21 ⊢
  clear hB1
  have s1_0 := si_of_own [] 0 rfl (by decide) q1_0
  have s1_1 := ss_of_own [[]] [(.slice (some ⟨B1, 0, none⟩) 0 0)] 1 rfl rfl (by decide) q1_1 (fun i h h' => by
    match i, h with
    | 0, _ => exact s1_0
    )
  have s1_2 := si_of_own [0] 1 rfl (by decide) q1_2
  have s1_3 := si_of_own [1] 1 rfl (by decide) q1_3
  have s1_4 := ss_of_own [[1]] [(.slice (some ⟨B1 + 1 + 1 + 1, 0, none⟩) 1 1)] 1 rfl rfl (by decide) q1_4 (fun i h h' => by
    match i, h with
    | 0, _ => exact s1_3
    )
  have s1_5 := si_of_own [1] 1 rfl (by decide) q1_5
  have s1_6 := si_of_own [1, 2] 2 rfl (by decide) q1_6
  have s1_7 := ss_of_own [[1], [1, 2]] [(.slice (some ⟨B1 + 1 + 1 + 1 + 1 + 1, 0, none⟩) 1 1), (.slice (some ⟨B1 + 1 + 1 + 1 + 1 + 1 + 1, 0, none⟩) 2 2)] 2 rfl rfl (by decide) q1_7 (fun i h h' => by
    match i, h with
    | 0, _ => exact s1_5
    | 1, _ => exact s1_6
    )
  have s1_8 := si_of_own [0, 0] 2 rfl (by decide) q1_8
  have s1_9 := si_of_own [10] 1 rfl (by decide) q1_9
  have s1_10 := ss_of_own [[10]] [(.slice (some ⟨B1 + 1 + 1 + 1 + 1 + 1 + 1 + 1 + 1 + 1, 0, none⟩) 1 1)] 1 rfl rfl (by decide) q1_10 (fun i h h' => by
    match i, h with
    | 0, _ => exact s1_9
    )
  have s1_11 := si_of_own [0] 1 rfl (by decide) q1_11
  have s1_12 := si_of_own [-10] 1 rfl (by decide) q1_12
  have s1_13 := ss_of_own [[-10]] [(.slice (some ⟨B1 + 1 + 1 + 1 + 1 + 1 + 1 + 1 + 1 + 1 + 1 + 1 + 1, 0, none⟩) 1 1)] 1 rfl rfl (by decide) q1_13 (fun i h h' => by
    match i, h with
    | 0, _ => exact s1_12
    )
  have s1_14 := si_of_own [0] 1 rfl (by decide) q1_14
  have s1_15 := si_of_own [1] 1 rfl (by decide) q1_15
  have s1_16 := ss_of_own [[1]] [(.slice (some ⟨B1 + 1 + 1 + 1 + 1 + 1 + 1 + 1 + 1 + 1 + 1 + 1 + 1 + 1 + 1 + 1, 0, none⟩) 1 1)] 1 rfl rfl (by decide) q1_16 (fun i h h' => by
    match i, h with
    | 0, _ => exact s1_15
    )
  have s1_17 := si_of_own [100] 1 rfl (by decide) q1_17
  have s1_18 := si_of_own [1] 1 rfl (by decide) q1_18
  have s1_19 := ss_of_own [[1]] [(.slice (some ⟨B1 + 1 + 1 + 1 + 1 + 1 + 1 + 1 + 1 + 1 + 1 + 1 + 1 + 1 + 1 + 1 + 1 + 1 + 1, 0, none⟩) 1 1)] 1 rfl rfl (by decide) q1_19 (fun i h h' => by
    match i, h with
    | 0, _ => exact s1_18
    )
  have s1_20 := si_of_own [-100] 1 rfl (by decide) q1_20
  have qB : Own W1 (B1 + 1 + 1 + 1 + 1 + 1 + 1 + 1 + 1 + 1 + 1 + 1 + 1 + 1 + 1 + 1 + 1 + 1 + 1 + 1 + 1 + 1) 25 [.slice none 0 0, .slice none 0 0, .slice (some ⟨B1 + 1, 0, none⟩) 1 1, .slice (some ⟨B1 + 1 + 1, 0, none⟩) 1 1, .slice (some ⟨B1 + 1 + 1 + 1 + 1, 0, none⟩) 1 1, .slice none 0 0, .slice (some ⟨B1 + 1 + 1 + 1 + 1 + 1 + 1 + 1, 0, none⟩) 2 2, .slice (some ⟨B1 + 1 + 1 + 1 + 1 + 1 + 1 + 1 + 1, 0, none⟩) 2 2, .slice (some ⟨B1 + 1 + 1 + 1 + 1 + 1 + 1 + 1 + 1 + 1 + 1, 0, none⟩) 1 1, .slice (some ⟨B1 + 1 + 1 + 1 + 1 + 1 + 1 + 1 + 1 + 1 + 1 + 1, 0, none⟩) 1 1, .slice (some ⟨B1 + 1 + 1 + 1 + 1 + 1 + 1 + 1 + 1 + 1 + 1 + 1 + 1 + 1, 0, none⟩) 1 1, .slice (some ⟨B1 + 1 + 1 + 1 + 1 + 1 + 1 + 1 + 1 + 1 + 1 + 1 + 1 + 1 + 1, 0, none⟩) 1 1, .slice (some ⟨B1 + 1 + 1 + 1 + 1 + 1 + 1 + 1 + 1 + 1 + 1 + 1 + 1 + 1 + 1 + 1 + 1, 0, none⟩) 1 1, .slice (some ⟨B1 + 1 + 1 + 1 + 1 + 1 + 1 + 1 + 1 + 1 + 1 + 1 + 1 + 1 + 1 + 1 + 1 + 1, 0, none⟩) 1 1, .slice (some ⟨B1 + 1 + 1 + 1 + 1 + 1 + 1 + 1 + 1 + 1 + 1 + 1 + 1 + 1 + 1 + 1 + 1 + 1 + 1 + 1, 0, none⟩) 1 1, .slice (some ⟨B1 + 1 + 1 + 1 + 1 + 1 + 1 + 1 + 1 + 1 + 1 + 1 + 1 + 1 + 1 + 1 + 1 + 1 + 1 + 1 + 1, 0, none⟩) 1 1] := q1_21
  generalize hCL : ([.slice none 0 0, .slice none 0 0, .slice (some ⟨B1 + 1, 0, none⟩) 1 1, .slice (some ⟨B1 + 1 + 1, 0, none⟩) 1 1, .slice (some ⟨B1 + 1 + 1 + 1 + 1, 0, none⟩) 1 1, .slice none 0 0, .slice (some ⟨B1 + 1 + 1 + 1 + 1 + 1 + 1 + 1, 0, none⟩) 2 2, .slice (some ⟨B1 + 1 + 1 + 1 + 1 + 1 + 1 + 1 + 1, 0, none⟩) 2 2, .slice (some ⟨B1 + 1 + 1 + 1 + 1 + 1 + 1 + 1 + 1 + 1 + 1, 0, none⟩) 1 1, .slice (some ⟨B1 + 1 + 1 + 1 + 1 + 1 + 1 + 1 + 1 + 1 + 1 + 1, 0, none⟩) 1 1, .slice (some ⟨B1 + 1 + 1 + 1 + 1 + 1 + 1 + 1 + 1 + 1 + 1 + 1 + 1 + 1, 0, none⟩) 1 1, .slice (some ⟨B1 + 1 + 1 + 1 + 1 + 1 + 1 + 1 + 1 + 1 + 1 + 1 + 1 + 1 + 1, 0, none⟩) 1 1, .slice (some ⟨B1 + 1 + 1 + 1 + 1 + 1 + 1 + 1 + 1 + 1 + 1 + 1 + 1 + 1 + 1 + 1 + 1, 0, none⟩) 1 1, .slice (some ⟨B1 + 1 + 1 + 1 + 1 + 1 + 1 + 1 + 1 + 1 + 1 + 1 + 1 + 1 + 1 + 1 + 1 + 1, 0, none⟩) 1 1, .slice (some ⟨B1 + 1 + 1 + 1 + 1 + 1 + 1 + 1 + 1 + 1 + 1 + 1 + 1 + 1 + 1 + 1 + 1 + 1 + 1 + 1, 0, none⟩) 1 1, .slice (some ⟨B1 + 1 + 1 + 1 + 1 + 1 + 1 + 1 + 1 + 1 + 1 + 1 + 1 + 1 + 1 + 1 + 1 + 1 + 1 + 1 + 1, 0, none⟩) 1 1] : List Value) = CL at qB
  obtain ⟨GB, hGB⟩ : ∃ G, G = B1 + 1 + 1 + 1 + 1 + 1 + 1 + 1 + 1 + 1 + 1 + 1 + 1 + 1 + 1 + 1 + 1 + 1 + 1 + 1 + 1 + 1 := ⟨_, rfl⟩
  rw [← hGB] at qB ⊢
  clear hGB
  have BD : Hid (∀ i, i < 8 → ∃ va vb A B, CL[2 * i]? = some va ∧ CL[2 * i + 1]? = some vb ∧ SS W1 va A ∧ SI W1 vb B ∧ ocheck A B = 8 ∧ oRank A B = (0, 8)) := fun i hi => by
    rw [← hCL]
    match i, hi with
    | 0, _ => exact ⟨_, _, [], [], rfl, rfl, (ss_nil _), (si_nil _), by decide +kernel, by decide +kernel⟩
    | 1, _ => exact ⟨_, _, [[]], [0], rfl, rfl, s1_1, s1_2, by decide +kernel, by decide +kernel⟩
    | 2, _ => exact ⟨_, _, [[1]], [], rfl, rfl, s1_4, (si_nil _), by decide +kernel, by decide +kernel⟩
    | 3, _ => exact ⟨_, _, [[1], [1, 2]], [0, 0], rfl, rfl, s1_7, s1_8, by decide +kernel, by decide +kernel⟩
    | 4, _ => exact ⟨_, _, [[10]], [0], rfl, rfl, s1_10, s1_11, by decide +kernel, by decide +kernel⟩
    | 5, _ => exact ⟨_, _, [[-10]], [0], rfl, rfl, s1_13, s1_14, by decide +kernel, by decide +kernel⟩
    | 6, _ => exact ⟨_, _, [[1]], [100], rfl, rfl, s1_16, s1_17, by decide +kernel, by decide +kernel⟩
    | 7, _ => exact ⟨_, _, [[1]], [-100], rfl, rfl, s1_19, s1_20, by decide +kernel, by decide +kernel⟩
  clear hCL
  clear s1_0 s1_1 s1_2 s1_3 s1_4 s1_5 s1_6 s1_7 s1_8 s1_9 s1_10 s1_11 s1_12 s1_13 s1_14 s1_15 s1_16 s1_17 s1_18 s1_19 s1_20 q1_21 q1_0 q1_1 q1_2 q1_3 q1_4 q1_5 q1_6 q1_7 q1_8 q1_9 q1_10 q1_11 q1_12 q1_13 q1_14 q1_15 q1_16 q1_17 q1_18 q1_19 q1_20
  have QB := Lib.hid qB
  clear qB
  go_wp2
  go_loopw [2] (fun v wr => ∃ i : Nat, i ≤ 8 ∧ v = .int .i64 i ∧ Below W1.heap.size W1 wr) (fun v _ => 9 - (intOf v).toNat)
  case atStart => exact ⟨0, Nat.zero_le _, rfl, Below.refl _ _⟩
  case round =>
    obtain ⟨i, hi, rfl, hC⟩ := hrel
    rename World => Y
    by_cases hlt : i < 8
    · obtain ⟨va, vb, A, B, g1, g2, sA, sB, k1, k2⟩ := BD.out i hlt
      replace sA := sA.below hC
      replace sB := sB.below hC
      have oB := QB.out.below hC
      have c1 : Y.cell? ⟨GB, i * 2, none⟩ = some va := by rw [oB.rules.1, Nat.mul_comm]; exact g1
      have c2 : Y.cell? ⟨GB, i * 2 + 1, none⟩ = some vb := by rw [oB.rules.1, Nat.mul_comm]; exact g2
      have zB := oB.lt
      have K1 := Lib.hid k1
      have K2 := Lib.hid k2
      clear g1 g2 oB k1 k2
      go_wp2_with fail
      refine (orank_any A B _ _ _ sA sB).mono ?_
      rintro e z1 ⟨rfl, hq⟩
      rw [K2.out]
      replace sA := sA.below hq
      replace sB := sB.below hq
      replace c1 := below_cell hq c1
      replace c2 := below_cell hq c2
      have zB2 := Nat.lt_of_lt_of_le zB hq.size
      replace hC := below_to hC hq
      clear hq zB
      go_wp2_with fail
      refine (ocheck_any A B _ _ _ sA sB).mono ?_
      rintro e z2 ⟨rfl, hq⟩
      rw [K1.out]
      replace hC := below_to hC hq
      clear hq c1 c2 sA sB zB2
      go_wp2
      go_roundw
      case rel => exact ⟨i + 1, hlt, by go_num, hC⟩
      case measure => simp [intOf]; try omega
    · obtain rfl : i = 8 := by omega
      replace hy := below_to hy hC
      clear hC BD QB
      have MK0 : (Instr.makeSlice 22 (.int .i64 7) (.int .i64 7)).run Try.prog Y = .ok (.slice (some ⟨(Y).heap.size, 0, none⟩) 7 7) ((Y).alloc (.cells #[.slice none 0 0, .slice none 0 0, .slice none 0 0, .slice none 0 0, .slice none 0 0, .slice none 0 0, .slice none 0 0] 23)) := mk_rowz 7 (by decide) (Y)
      try simp at MK0
      go_wp2_with fail
      clear MK0
      have q2_0 := Own.new Y 23 [.slice none 0 0, .slice none 0 0, .slice none 0 0, .slice none 0 0, .slice none 0 0, .slice none 0 0, .slice none 0 0]
      have hq := ba1 Y (.cells #[.slice none 0 0, .slice none 0 0, .slice none 0 0, .slice none 0 0, .slice none 0 0, .slice none 0 0, .slice none 0 0] 23)
      replace hy := below_to hy hq
      clear hq
      generalize (Y.alloc (.cells #[.slice none 0 0, .slice none 0 0, .slice none 0 0, .slice none 0 0, .slice none 0 0, .slice none 0 0, .slice none 0 0] 23)) = W2 at *
      obtain ⟨B2, hB2⟩ : ∃ B, B = Y.heap.size := ⟨_, rfl⟩
      rw [← hB2] at q2_0 ⊢
      clear hB2
      have s2_0 := ss_of_own [[], [], [], [], [], [], []] [.slice none 0 0, .slice none 0 0, .slice none 0 0, .slice none 0 0, .slice none 0 0, .slice none 0 0, .slice none 0 0] 7 rfl rfl (by decide) q2_0 (fun i h h' => by
        match i, h with
        | 0, _ => exact si_nil _
        | 1, _ => exact si_nil _
        | 2, _ => exact si_nil _
        | 3, _ => exact si_nil _
        | 4, _ => exact si_nil _
        | 5, _ => exact si_nil _
        | 6, _ => exact si_nil _
        )
      refine (ocheck_any [[], [], [], [], [], [], []] [] _ _ _ s2_0 (si_nil _)).mono ?_
      rintro e W3 ⟨rfl, hq⟩
      replace s2_0 := s2_0.below hq
      replace hy := below_to hy hq
      clear hq
      rw [show ocheck [[], [], [], [], [], [], []] [] = 4 from by decide +kernel]
      clear s2_0
      have MK0 : (Instr.makeSlice 23 (.int .i64 7) (.int .i64 7)).run Try.prog W3 = .ok (.slice (some ⟨(W3).heap.size, 0, none⟩) 7 7) ((W3).alloc (.cells #[.int .i64 0, .int .i64 0, .int .i64 0, .int .i64 0, .int .i64 0, .int .i64 0, .int .i64 0] 3)) := mk_ints 7 (by decide) (W3)
      try simp at MK0
      go_wp2_with fail
      clear MK0
      have q4_0 := ((Own.new W3 3 [.int .i64 0, .int .i64 0, .int .i64 0, .int .i64 0, .int .i64 0, .int .i64 0, .int .i64 0]).alloc (.cells #[.slice (some ⟨W3.heap.size, 0, none⟩) 7 7] 23)).alloc (.cells #[.int .i64 0] 3)
      have q4_1 := (own_second W3 23 [.slice (some ⟨W3.heap.size, 0, none⟩) 7 7] (.cells #[.int .i64 0, .int .i64 0, .int .i64 0, .int .i64 0, .int .i64 0, .int .i64 0, .int .i64 0] 3)).alloc (.cells #[.int .i64 0] 3)
      have q4_2 := own_third W3 3 [.int .i64 0] (.cells #[.int .i64 0, .int .i64 0, .int .i64 0, .int .i64 0, .int .i64 0, .int .i64 0, .int .i64 0] 3) (.cells #[.slice (some ⟨W3.heap.size, 0, none⟩) 7 7] 23)
      have hq := ba3 W3 (.cells #[.int .i64 0, .int .i64 0, .int .i64 0, .int .i64 0, .int .i64 0, .int .i64 0, .int .i64 0] 3) (.cells #[.slice (some ⟨W3.heap.size, 0, none⟩) 7 7] 23) (.cells #[.int .i64 0] 3)
      replace hy := below_to hy hq
      clear hq
      generalize (((W3.alloc (.cells #[.int .i64 0, .int .i64 0, .int .i64 0, .int .i64 0, .int .i64 0, .int .i64 0, .int .i64 0] 3)).alloc (.cells #[.slice (some ⟨W3.heap.size, 0, none⟩) 7 7] 23)).alloc (.cells #[.int .i64 0] 3)) = W4 at *
      obtain ⟨B4, hB4⟩ : ∃ B, B = W3.heap.size := ⟨_, rfl⟩
      rw [← hB4] at q4_0 q4_1 q4_2 ⊢
      clear hB4
      have s4_0 := si_of_own [0, 0, 0, 0, 0, 0, 0] 7 rfl (by decide) q4_0
      have s4_1 := ss_of_own [[0, 0, 0, 0, 0, 0, 0]] [(.slice (some ⟨B4, 0, none⟩) 7 7)] 1 rfl rfl (by decide) q4_1 (fun i h h' => by
        match i, h with
        | 0, _ => exact s4_0
        )
      have s4_2 := si_of_own [0] 1 rfl (by decide) q4_2
      refine (ocheck_any [[0, 0, 0, 0, 0, 0, 0]] [0] _ _ _ s4_1 s4_2).mono ?_
      rintro e W5 ⟨rfl, hq⟩
      replace s4_0 := s4_0.below hq
      replace s4_1 := s4_1.below hq
      replace s4_2 := s4_2.below hq
      replace hy := below_to hy hq
      clear hq
      rw [show ocheck [[0, 0, 0, 0, 0, 0, 0]] [0] = 4 from by decide +kernel]
      clear s4_0 s4_1 s4_2
      go_wp2_with fail
      have q6_0 := (((Own.new W5 3 [.int .i64 0, .int .i64 0]).alloc (.cells #[.slice (some ⟨W5.heap.size, 0, none⟩) 2 2] 23)).alloc (.cells #[.int .i64 0] 3)).alloc (.cells #[.slice (some ⟨W5.heap.size + 1, 0, none⟩) 1 1, .slice (some ⟨W5.heap.size + 1 + 1, 0, none⟩) 1 1] 25)
      have q6_1 := ((own_second W5 23 [.slice (some ⟨W5.heap.size, 0, none⟩) 2 2] (.cells #[.int .i64 0, .int .i64 0] 3)).alloc (.cells #[.int .i64 0] 3)).alloc (.cells #[.slice (some ⟨W5.heap.size + 1, 0, none⟩) 1 1, .slice (some ⟨W5.heap.size + 1 + 1, 0, none⟩) 1 1] 25)
      have q6_2 := (own_third W5 3 [.int .i64 0] (.cells #[.int .i64 0, .int .i64 0] 3) (.cells #[.slice (some ⟨W5.heap.size, 0, none⟩) 2 2] 23)).alloc (.cells #[.slice (some ⟨W5.heap.size + 1, 0, none⟩) 1 1, .slice (some ⟨W5.heap.size + 1 + 1, 0, none⟩) 1 1] 25)
      have q6_3 := own_4th W5 25 [.slice (some ⟨W5.heap.size + 1, 0, none⟩) 1 1, .slice (some ⟨W5.heap.size + 1 + 1, 0, none⟩) 1 1] (.cells #[.int .i64 0, .int .i64 0] 3) (.cells #[.slice (some ⟨W5.heap.size, 0, none⟩) 2 2] 23) (.cells #[.int .i64 0] 3)
      have hq := ba4 W5 (.cells #[.int .i64 0, .int .i64 0] 3) (.cells #[.slice (some ⟨W5.heap.size, 0, none⟩) 2 2] 23) (.cells #[.int .i64 0] 3) (.cells #[.slice (some ⟨W5.heap.size + 1, 0, none⟩) 1 1, .slice (some ⟨W5.heap.size + 1 + 1, 0, none⟩) 1 1] 25)
      replace hy := below_to hy hq
      clear hq
      generalize ((((W5.alloc (.cells #[.int .i64 0, .int .i64 0] 3)).alloc (.cells #[.slice (some ⟨W5.heap.size, 0, none⟩) 2 2] 23)).alloc (.cells #[.int .i64 0] 3)).alloc (.cells #[.slice (some ⟨W5.heap.size + 1, 0, none⟩) 1 1, .slice (some ⟨W5.heap.size + 1 + 1, 0, none⟩) 1 1] 25)) = W6 at *
      obtain ⟨B6, hB6⟩ : ∃ B, B = W5.heap.size := ⟨_, rfl⟩
      rw [← hB6] at q6_0 q6_1 q6_2 q6_3 ⊢
      clear hB6
      have s6_0 := si_of_own [0, 0] 2 rfl (by decide) q6_0
      have s6_1 := ss_of_own [[0, 0]] [(.slice (some ⟨B6, 0, none⟩) 2 2)] 1 rfl rfl (by decide) q6_1 (fun i h h' => by
        match i, h with
        | 0, _ => exact s6_0
        )
      have s6_2 := si_of_own [0] 1 rfl (by decide) q6_2
      have o6_3 := q6_3
      refine (osolve_any [[0, 0]] [0] _ _ _ s6_1 s6_2).mono ?_
      rintro e W7 ⟨u7, v7, rfl, t7, r7, hq⟩
      replace s6_0 := s6_0.below hq
      replace s6_1 := s6_1.below hq
      replace s6_2 := s6_2.below hq
      replace o6_3 := o6_3.below hq
      replace hy := below_to hy hq
      clear hq
      have e7 : oSolve [[0, 0]] [0] = ([(0, 1), (0, 1)], [[(1, 1), (0, 1)], [(0, 1), (1, 1)]], 0) := by decide +kernel
      rw [e7] at t7 r7 ⊢
      clear e7
      obtain ⟨r6_3, f6_3⟩ := o6_3.rules
      have z6_3 := o6_3.lt
      go_wp2_with fail
      clear r6_3 f6_3 z6_3
      refine (orank_any [[0, 0]] [0] _ _ _ s6_1 s6_2).mono ?_
      rintro e W8 ⟨rfl, hq⟩
      replace s6_0 := s6_0.below hq
      replace s6_1 := s6_1.below hq
      replace s6_2 := s6_2.below hq
      replace o6_3 := o6_3.below hq
      replace t7 := t7.below hq
      replace r7 := r7.below hq
      replace hy := below_to hy hq
      clear hq
      rw [show oRank [[0, 0]] [0] = (0, 0) from by decide +kernel]
      obtain ⟨r6_3, f6_3⟩ := o6_3.rules
      have z6_3 := o6_3.lt
      go_wp2_with fail
      clear r6_3 f6_3 z6_3
      refine (orefute_any [[0, 0]] [0] _ _ _ s6_1 s6_2).mono ?_
      rintro e W9 ⟨u9, rfl, t9, hq⟩
      replace s6_0 := s6_0.below hq
      replace s6_1 := s6_1.below hq
      replace s6_2 := s6_2.below hq
      replace o6_3 := o6_3.below hq
      replace t7 := t7.below hq
      replace r7 := r7.below hq
      replace hy := below_to hy hq
      clear hq
      have e9 : oRefute [[0, 0]] [0] = ([], 6) := by decide +kernel
      rw [e9] at t9 ⊢
      clear e9
      obtain ⟨r6_3, f6_3⟩ := o6_3.rules
      have z6_3 := o6_3.lt
      go_wp2_with fail
      clear r6_3 f6_3 z6_3
      have q10_0 := ((Own.new W9 3 [.int .i64 0]).alloc (.cells #[.slice (some ⟨W9.heap.size, 0, none⟩) 1 1] 23)).alloc (.cells #[.int .i64 (-4)] 3)
      have q10_1 := (own_second W9 23 [.slice (some ⟨W9.heap.size, 0, none⟩) 1 1] (.cells #[.int .i64 0] 3)).alloc (.cells #[.int .i64 (-4)] 3)
      have q10_2 := own_third W9 3 [.int .i64 (-4)] (.cells #[.int .i64 0] 3) (.cells #[.slice (some ⟨W9.heap.size, 0, none⟩) 1 1] 23)
      have hq := ba3 W9 (.cells #[.int .i64 0] 3) (.cells #[.slice (some ⟨W9.heap.size, 0, none⟩) 1 1] 23) (.cells #[.int .i64 (-4)] 3)
      replace s6_0 := s6_0.below hq
      replace s6_1 := s6_1.below hq
      replace s6_2 := s6_2.below hq
      replace o6_3 := o6_3.below hq
      replace t7 := t7.below hq
      replace r7 := r7.below hq
      replace t9 := t9.below hq
      replace hy := below_to hy hq
      clear hq
      generalize (((W9.alloc (.cells #[.int .i64 0] 3)).alloc (.cells #[.slice (some ⟨W9.heap.size, 0, none⟩) 1 1] 23)).alloc (.cells #[.int .i64 (-4)] 3)) = W10 at *
      obtain ⟨B10, hB10⟩ : ∃ B, B = W9.heap.size := ⟨_, rfl⟩
      rw [← hB10] at q10_0 q10_1 q10_2 ⊢
      clear hB10
      have s10_0 := si_of_own [0] 1 rfl (by decide) q10_0
      have s10_1 := ss_of_own [[0]] [(.slice (some ⟨B10, 0, none⟩) 1 1)] 1 rfl rfl (by decide) q10_1 (fun i h h' => by
        match i, h with
        | 0, _ => exact s10_0
        )
      have s10_2 := si_of_own [-4] 1 rfl (by decide) q10_2
      refine (orefute_any [[0]] [-4] _ _ _ s10_1 s10_2).mono ?_
      rintro e W11 ⟨u11, rfl, t11, hq⟩
      replace s6_0 := s6_0.below hq
      replace s6_1 := s6_1.below hq
      replace s6_2 := s6_2.below hq
      replace o6_3 := o6_3.below hq
      replace t7 := t7.below hq
      replace r7 := r7.below hq
      replace t9 := t9.below hq
      replace s10_0 := s10_0.below hq
      replace s10_1 := s10_1.below hq
      replace s10_2 := s10_2.below hq
      replace hy := below_to hy hq
      clear hq
      have e11 : oRefute [[0]] [-4] = ([(-1, 4)], 0) := by decide +kernel
      rw [e11] at t11 ⊢
      clear e11
      clear s10_0 s10_1 s10_2
      obtain ⟨r6_3, f6_3⟩ := o6_3.rules
      have z6_3 := o6_3.lt
      go_wp2_with fail
      clear r6_3 f6_3 z6_3
      have q12_0 := ((Own.new W11 3 [.int .i64 (-2)]).alloc (.cells #[.slice (some ⟨W11.heap.size, 0, none⟩) 1 1] 23)).alloc (.cells #[.int .i64 99] 3)
      have q12_1 := (own_second W11 23 [.slice (some ⟨W11.heap.size, 0, none⟩) 1 1] (.cells #[.int .i64 (-2)] 3)).alloc (.cells #[.int .i64 99] 3)
      have q12_2 := own_third W11 3 [.int .i64 99] (.cells #[.int .i64 (-2)] 3) (.cells #[.slice (some ⟨W11.heap.size, 0, none⟩) 1 1] 23)
      have hq := ba3 W11 (.cells #[.int .i64 (-2)] 3) (.cells #[.slice (some ⟨W11.heap.size, 0, none⟩) 1 1] 23) (.cells #[.int .i64 99] 3)
      replace s6_0 := s6_0.below hq
      replace s6_1 := s6_1.below hq
      replace s6_2 := s6_2.below hq
      replace o6_3 := o6_3.below hq
      replace t7 := t7.below hq
      replace r7 := r7.below hq
      replace t9 := t9.below hq
      replace t11 := t11.below hq
      replace hy := below_to hy hq
      clear hq
      generalize (((W11.alloc (.cells #[.int .i64 (-2)] 3)).alloc (.cells #[.slice (some ⟨W11.heap.size, 0, none⟩) 1 1] 23)).alloc (.cells #[.int .i64 99] 3)) = W12 at *
      obtain ⟨B12, hB12⟩ : ∃ B, B = W11.heap.size := ⟨_, rfl⟩
      rw [← hB12] at q12_0 q12_1 q12_2 ⊢
      clear hB12
      have s12_0 := si_of_own [-2] 1 rfl (by decide) q12_0
      have s12_1 := ss_of_own [[-2]] [(.slice (some ⟨B12, 0, none⟩) 1 1)] 1 rfl rfl (by decide) q12_1 (fun i h h' => by
        match i, h with
        | 0, _ => exact s12_0
        )
      have s12_2 := si_of_own [99] 1 rfl (by decide) q12_2
      refine (osolve_any [[-2]] [99] _ _ _ s12_1 s12_2).mono ?_
      rintro e W13 ⟨u13, v13, rfl, t13, r13, hq⟩
      replace s6_0 := s6_0.below hq
      replace s6_1 := s6_1.below hq
      replace s6_2 := s6_2.below hq
      replace o6_3 := o6_3.below hq
      replace t7 := t7.below hq
      replace r7 := r7.below hq
      replace t9 := t9.below hq
      replace t11 := t11.below hq
      replace s12_0 := s12_0.below hq
      replace s12_1 := s12_1.below hq
      replace s12_2 := s12_2.below hq
      replace hy := below_to hy hq
      clear hq
      have e13 : oSolve [[-2]] [99] = ([(-99, 2)], [], 0) := by decide +kernel
      rw [e13] at t13 r13 ⊢
      clear e13
      clear s12_0 s12_1 s12_2
      obtain ⟨r6_3, f6_3⟩ := o6_3.rules
      have z6_3 := o6_3.lt
      go_upto_region 16 with fail
      clear r6_3 f6_3 z6_3
      obtain ⟨r6_3, f6_3⟩ := o6_3.rules
      have z6_3 := o6_3.lt
      have gl := @grow_lt
      refine wp_region_stt [.t [0], .f 1, .f 2, .f 3] [4, 5, 6] [7, 8] (by kernel_rfl) (by kernel_rfl) (fun _ _ _ _ _ h => h) ?_
      have hR : Below W13.heap.size W13 W13.drew := (Below.refl _ _).drew
      replace s6_0 := s6_0.below hR
      replace s6_1 := s6_1.below hR
      replace s6_2 := s6_2.below hR
      replace t7 := t7.below hR
      replace r7 := r7.below hR
      replace t9 := t9.below hR
      replace t11 := t11.below hR
      replace t13 := t13.below hR
      replace r13 := r13.below hR
      generalize W13.drew = W14 at *
      refine wpX_t ?_
      try simp only [opsAt, List.getElem?_toArray, List.getElem?_cons_zero, List.getElem?_cons_succ, Option.getD_some]
      repeat (go_big_quiet_step (fail))
      refine wpQuiet_nil ?_
      refine wpX_f rfl rfl (fun K' hK' => ?_)
      go_simp
      have q15 := Own.new (W14) 2 [.int .i64 1]
      have hq := ba1 (W14) (.cells #[.int .i64 1] 2)
      obtain ⟨B15, hB15⟩ : ∃ B, B = (W14).heap.size := ⟨_, rfl⟩
      rw [← hB15] at q15 ⊢
      clear hB15
      replace s6_0 := s6_0.below hq
      replace s6_1 := s6_1.below hq
      replace s6_2 := s6_2.below hq
      replace t7 := t7.below hq
      replace r7 := r7.below hq
      replace t9 := t9.below hq
      replace t11 := t11.below hq
      replace t13 := t13.below hq
      replace r13 := r13.below hq
      replace hR := below_to hR hq
      clear hq
      refine hK' _ _ (grow_of hR) ?_
      clear hK' K'
      generalize (W14).alloc (.cells #[.int .i64 1] 2) = W15 at *
      have s15_0 := si_of_own [1] 1 rfl (by decide) q15
      refine wpX_f rfl rfl (fun K' hK' => ?_)
      go_simp
      refine (whole29_any [1] _ _ s15_0 (by decide)).mono ?_
      rintro e W16 ⟨u16, rfl, t16, hq⟩
      replace s6_0 := s6_0.below hq
      replace s6_1 := s6_1.below hq
      replace s6_2 := s6_2.below hq
      replace t7 := t7.below hq
      replace r7 := r7.below hq
      replace t9 := t9.below hq
      replace t11 := t11.below hq
      replace t13 := t13.below hq
      replace r13 := r13.below hq
      replace s15_0 := s15_0.below hq
      replace hR := below_to hR hq
      clear hq
      refine hK' _ _ (grow_of hR) ?_
      clear hK' K'
      replace t16 : SF _ _ [(1, 1)] := t16
      obtain ⟨ad16, cp16, eu16⟩ := sf_slice (n := 1) t16 rfl
      subst eu16
      clear s15_0
      refine wpX_f rfl rfl (fun K' hK' => ?_)
      go_simp
      refine (oaccept_any [[0, 0]] [0] [(1, 1)] _ _ _ _ s6_1 s6_2 t16 (fi_of _ (by decide))).mono ?_
      rintro e W17 ⟨rfl, hq⟩
      replace s6_0 := s6_0.below hq
      replace s6_1 := s6_1.below hq
      replace s6_2 := s6_2.below hq
      replace t7 := t7.below hq
      replace r7 := r7.below hq
      replace t9 := t9.below hq
      replace t11 := t11.below hq
      replace t13 := t13.below hq
      replace r13 := r13.below hq
      replace t16 := t16.below hq
      replace hR := below_to hR hq
      clear hq
      refine hK' _ _ (grow_of hR) ?_
      clear hK' K'
      rw [show oaccept [[0, 0]] [0] [(1, 1)] = (false, 0) from by decide +kernel]
      clear t16
      refine wpX_nil ?_
      try simp only [opsAt, List.getElem?_toArray, List.getElem?_cons_zero, List.getElem?_cons_succ, Option.getD_some]
      repeat (go_big_quiet_step (fail))
      refine wpQuiet_nil ?_
      try simp only [opsAt, List.getElem?_toArray, List.getElem?_cons_zero, List.getElem?_cons_succ, Option.getD_some]
      clear gl
      clear r6_3 f6_3 z6_3
      replace o6_3 := o6_3.below hR
      replace hy := below_to hy hR
      clear hR
      obtain ⟨r6_3, f6_3⟩ := o6_3.rules
      have z6_3 := o6_3.lt
      go_upto_region 17 with fail
      clear r6_3 f6_3 z6_3
      obtain ⟨r6_3, f6_3⟩ := o6_3.rules
      have z6_3 := o6_3.lt
      have gl := @grow_lt
      refine wp_region_stt [.t [0], .f 1, .f 2, .f 3] [4, 5, 6] [7, 8] (by kernel_rfl) (by kernel_rfl) (fun _ _ _ _ _ h => h) ?_
      have hR : Below W17.heap.size W17 W17.drew := (Below.refl _ _).drew
      replace s6_0 := s6_0.below hR
      replace s6_1 := s6_1.below hR
      replace s6_2 := s6_2.below hR
      replace t7 := t7.below hR
      replace r7 := r7.below hR
      replace t9 := t9.below hR
      replace t11 := t11.below hR
      replace t13 := t13.below hR
      replace r13 := r13.below hR
      generalize W17.drew = W18 at *
      refine wpX_t ?_
      try simp only [opsAt, List.getElem?_toArray, List.getElem?_cons_zero, List.getElem?_cons_succ, Option.getD_some]
      repeat (go_big_quiet_step (fail))
      refine wpQuiet_nil ?_
      refine wpX_f rfl rfl (fun K' hK' => ?_)
      go_simp
      have q19 := Own.new (W18) 2 [.int .i64 7, .int .i64 (-7)]
      have hq := ba1 (W18) (.cells #[.int .i64 7, .int .i64 (-7)] 2)
      obtain ⟨B19, hB19⟩ : ∃ B, B = (W18).heap.size := ⟨_, rfl⟩
      rw [← hB19] at q19 ⊢
      clear hB19
      replace s6_0 := s6_0.below hq
      replace s6_1 := s6_1.below hq
      replace s6_2 := s6_2.below hq
      replace t7 := t7.below hq
      replace r7 := r7.below hq
      replace t9 := t9.below hq
      replace t11 := t11.below hq
      replace t13 := t13.below hq
      replace r13 := r13.below hq
      replace hR := below_to hR hq
      clear hq
      refine hK' _ _ (grow_of hR) ?_
      clear hK' K'
      generalize (W18).alloc (.cells #[.int .i64 7, .int .i64 (-7)] 2) = W19 at *
      have s19_0 := si_of_own [7, -7] 2 rfl (by decide) q19
      refine wpX_f rfl rfl (fun K' hK' => ?_)
      go_simp
      refine (whole29_any [7, -7] _ _ s19_0 (by decide)).mono ?_
      rintro e W20 ⟨u20, rfl, t20, hq⟩
      replace s6_0 := s6_0.below hq
      replace s6_1 := s6_1.below hq
      replace s6_2 := s6_2.below hq
      replace t7 := t7.below hq
      replace r7 := r7.below hq
      replace t9 := t9.below hq
      replace t11 := t11.below hq
      replace t13 := t13.below hq
      replace r13 := r13.below hq
      replace s19_0 := s19_0.below hq
      replace hR := below_to hR hq
      clear hq
      refine hK' _ _ (grow_of hR) ?_
      clear hK' K'
      replace t20 : SF _ _ [(7, 1), (-7, 1)] := t20
      obtain ⟨ad20, cp20, eu20⟩ := sf_slice (n := 2) t20 rfl
      subst eu20
      clear s19_0
      refine wpX_f rfl rfl (fun K' hK' => ?_)
      go_simp
      refine (oaccept_any [[0, 0]] [0] [(7, 1), (-7, 1)] _ _ _ _ s6_1 s6_2 t20 (fi_of _ (by decide))).mono ?_
      rintro e W21 ⟨rfl, hq⟩
      replace s6_0 := s6_0.below hq
      replace s6_1 := s6_1.below hq
      replace s6_2 := s6_2.below hq
      replace t7 := t7.below hq
      replace r7 := r7.below hq
      replace t9 := t9.below hq
      replace t11 := t11.below hq
      replace t13 := t13.below hq
      replace r13 := r13.below hq
      replace t20 := t20.below hq
      replace hR := below_to hR hq
      clear hq
      refine hK' _ _ (grow_of hR) ?_
      clear hK' K'
      rw [show oaccept [[0, 0]] [0] [(7, 1), (-7, 1)] = (true, 0) from by decide +kernel]
      clear t20
      refine wpX_nil ?_
      try simp only [opsAt, List.getElem?_toArray, List.getElem?_cons_zero, List.getElem?_cons_succ, Option.getD_some]
      repeat (go_big_quiet_step (fail))
      refine wpQuiet_nil ?_
      try simp only [opsAt, List.getElem?_toArray, List.getElem?_cons_zero, List.getElem?_cons_succ, Option.getD_some]
      clear gl
      clear r6_3 f6_3 z6_3
      replace o6_3 := o6_3.below hR
      replace hy := below_to hy hR
      clear hR
      obtain ⟨r6_3, f6_3⟩ := o6_3.rules
      have z6_3 := o6_3.lt
      go_wp2_with fail
      clear r6_3 f6_3 z6_3
      have q22_0 := Own.new W21 78 [.int .i64 2, .int .i64 4, .int .i64 1, .int .i64 1]
      have hq := ba1 W21 (.cells #[.int .i64 2, .int .i64 4, .int .i64 1, .int .i64 1] 78)
      replace s6_0 := s6_0.below hq
      replace s6_1 := s6_1.below hq
      replace s6_2 := s6_2.below hq
      replace o6_3 := o6_3.below hq
      replace t7 := t7.below hq
      replace r7 := r7.below hq
      replace t9 := t9.below hq
      replace t11 := t11.below hq
      replace t13 := t13.below hq
      replace r13 := r13.below hq
      replace hy := below_to hy hq
      clear hq
      generalize (W21.alloc (.cells #[.int .i64 2, .int .i64 4, .int .i64 1, .int .i64 1] 78)) = W22 at *
      obtain ⟨B22, hB22⟩ : ∃ B, B = W21.heap.size := ⟨_, rfl⟩
      rw [← hB22] at q22_0 ⊢
      clear hB22
      have s22_0 := sf_of_own [(2, 4), (1, 1)] 2 rfl (by decide) q22_0
      refine (oaccept_any [[0, 0]] [0] [(2, 4), (1, 1)] _ _ _ _ s6_1 s6_2 s22_0 (fi_of _ (by decide))).mono ?_
      rintro e W23 ⟨rfl, hq⟩
      replace s6_0 := s6_0.below hq
      replace s6_1 := s6_1.below hq
      replace s6_2 := s6_2.below hq
      replace o6_3 := o6_3.below hq
      replace t7 := t7.below hq
      replace r7 := r7.below hq
      replace t9 := t9.below hq
      replace t11 := t11.below hq
      replace t13 := t13.below hq
      replace r13 := r13.below hq
      replace s22_0 := s22_0.below hq
      replace hy := below_to hy hq
      clear hq
      rw [show oaccept [[0, 0]] [0] [(2, 4), (1, 1)] = (false, 0) from by decide +kernel]
      clear s6_0 s6_1 s6_2 o6_3 s22_0
      go_wp2_with fail
      have q24_0 := (((Own.new W23 3 [.int .i64 9]).alloc (.cells #[.slice (some ⟨W23.heap.size, 0, none⟩) 1 1] 23)).alloc (.cells #[.int .i64 0] 3)).alloc (.cells #[.int .i64 1000000000000000000] 2)
      have q24_1 := ((own_second W23 23 [.slice (some ⟨W23.heap.size, 0, none⟩) 1 1] (.cells #[.int .i64 9] 3)).alloc (.cells #[.int .i64 0] 3)).alloc (.cells #[.int .i64 1000000000000000000] 2)
      have q24_2 := (own_third W23 3 [.int .i64 0] (.cells #[.int .i64 9] 3) (.cells #[.slice (some ⟨W23.heap.size, 0, none⟩) 1 1] 23)).alloc (.cells #[.int .i64 1000000000000000000] 2)
      have q24_3 := own_4th W23 2 [.int .i64 1000000000000000000] (.cells #[.int .i64 9] 3) (.cells #[.slice (some ⟨W23.heap.size, 0, none⟩) 1 1] 23) (.cells #[.int .i64 0] 3)
      have hq := ba4 W23 (.cells #[.int .i64 9] 3) (.cells #[.slice (some ⟨W23.heap.size, 0, none⟩) 1 1] 23) (.cells #[.int .i64 0] 3) (.cells #[.int .i64 1000000000000000000] 2)
      replace t7 := t7.below hq
      replace r7 := r7.below hq
      replace t9 := t9.below hq
      replace t11 := t11.below hq
      replace t13 := t13.below hq
      replace r13 := r13.below hq
      replace hy := below_to hy hq
      clear hq
      generalize ((((W23.alloc (.cells #[.int .i64 9] 3)).alloc (.cells #[.slice (some ⟨W23.heap.size, 0, none⟩) 1 1] 23)).alloc (.cells #[.int .i64 0] 3)).alloc (.cells #[.int .i64 1000000000000000000] 2)) = W24 at *
      obtain ⟨B24, hB24⟩ : ∃ B, B = W23.heap.size := ⟨_, rfl⟩
      rw [← hB24] at q24_0 q24_1 q24_2 q24_3 ⊢
      clear hB24
      have s24_0 := si_of_own [9] 1 rfl (by decide) q24_0
      have s24_1 := ss_of_own [[9]] [(.slice (some ⟨B24, 0, none⟩) 1 1)] 1 rfl rfl (by decide) q24_1 (fun i h h' => by
        match i, h with
        | 0, _ => exact s24_0
        )
      have s24_2 := si_of_own [0] 1 rfl (by decide) q24_2
      have s24_3 := si_of_own [1000000000000000000] 1 rfl (by decide) q24_3
      refine (whole29_any [1000000000000000000] _ _ s24_3 (by decide)).mono ?_
      rintro e W25 ⟨u25, rfl, t25, hq⟩
      replace t7 := t7.below hq
      replace r7 := r7.below hq
      replace t9 := t9.below hq
      replace t11 := t11.below hq
      replace t13 := t13.below hq
      replace r13 := r13.below hq
      replace s24_0 := s24_0.below hq
      replace s24_1 := s24_1.below hq
      replace s24_2 := s24_2.below hq
      replace s24_3 := s24_3.below hq
      replace hy := below_to hy hq
      clear hq
      replace t25 : SF _ _ [(1000000000000000000, 1)] := t25
      obtain ⟨ad25, cp25, eu25⟩ := sf_slice (n := 1) t25 rfl
      subst eu25
      clear s24_3
      go_wp2_with fail
      refine (oaccept_any [[9]] [0] [(1000000000000000000, 1)] _ _ _ _ s24_1 s24_2 t25 (fi_of _ (by decide))).mono ?_
      rintro e W26 ⟨rfl, hq⟩
      replace t7 := t7.below hq
      replace r7 := r7.below hq
      replace t9 := t9.below hq
      replace t11 := t11.below hq
      replace t13 := t13.below hq
      replace r13 := r13.below hq
      replace s24_0 := s24_0.below hq
      replace s24_1 := s24_1.below hq
      replace s24_2 := s24_2.below hq
      replace t25 := t25.below hq
      replace hy := below_to hy hq
      clear hq
      rw [show oaccept [[9]] [0] [(1000000000000000000, 1)] = (false, 0) from by decide +kernel]
      clear s24_0 s24_1 s24_2 t25
      go_wp2_with fail
      refine (alive29_any _).mono ?_
      rintro e W27 ⟨rfl, hq⟩
      replace t7 := t7.below hq
      replace r7 := r7.below hq
      replace t9 := t9.below hq
      replace t11 := t11.below hq
      replace t13 := t13.below hq
      replace r13 := r13.below hq
      replace hy := below_to hy hq
      clear hq
      go_wp2_with fail
      have q28_0 := Own.new W27 2 [.int .i64 0, .int .i64 0]
      have hq := ba1 W27 (.cells #[.int .i64 0, .int .i64 0] 2)
      replace t7 := t7.below hq
      replace r7 := r7.below hq
      replace t9 := t9.below hq
      replace t11 := t11.below hq
      replace t13 := t13.below hq
      replace r13 := r13.below hq
      replace hy := below_to hy hq
      clear hq
      generalize (W27.alloc (.cells #[.int .i64 0, .int .i64 0] 2)) = W28 at *
      obtain ⟨B28, hB28⟩ : ∃ B, B = W27.heap.size := ⟨_, rfl⟩
      rw [← hB28] at q28_0 ⊢
      clear hB28
      have s28_0 := si_of_own [0, 0] 2 rfl (by decide) q28_0
      refine (whole29_any [0, 0] _ _ s28_0 (by decide)).mono ?_
      rintro e W29 ⟨u29, rfl, t29, hq⟩
      replace t7 := t7.below hq
      replace r7 := r7.below hq
      replace t9 := t9.below hq
      replace t11 := t11.below hq
      replace t13 := t13.below hq
      replace r13 := r13.below hq
      replace s28_0 := s28_0.below hq
      replace hy := below_to hy hq
      clear hq
      replace t29 : SF _ _ [(0, 1), (0, 1)] := t29
      obtain ⟨ad29, cp29, eu29⟩ := sf_slice (n := 2) t29 rfl
      subst eu29
      clear s28_0
      go_wp2_with fail
      refine (same29_true [(0, 1), (0, 1)] _ _ _ t7 t29).mono ?_
      rintro e W30 ⟨rfl, hq⟩
      replace t7 := t7.below hq
      replace r7 := r7.below hq
      replace t9 := t9.below hq
      replace t11 := t11.below hq
      replace t13 := t13.below hq
      replace r13 := r13.below hq
      replace t29 := t29.below hq
      replace hy := below_to hy hq
      clear hq
      clear t29
      go_wp2_with fail
      have q31_0 := Own.new W30 2 [.int .i64 1, .int .i64 0]
      have hq := ba1 W30 (.cells #[.int .i64 1, .int .i64 0] 2)
      replace t7 := t7.below hq
      replace r7 := r7.below hq
      replace t9 := t9.below hq
      replace t11 := t11.below hq
      replace t13 := t13.below hq
      replace r13 := r13.below hq
      replace hy := below_to hy hq
      clear hq
      generalize (W30.alloc (.cells #[.int .i64 1, .int .i64 0] 2)) = W31 at *
      obtain ⟨B31, hB31⟩ : ∃ B, B = W30.heap.size := ⟨_, rfl⟩
      rw [← hB31] at q31_0 ⊢
      clear hB31
      have s31_0 := si_of_own [1, 0] 2 rfl (by decide) q31_0
      refine (whole29_any [1, 0] _ _ s31_0 (by decide)).mono ?_
      rintro e W32 ⟨u32, rfl, t32, hq⟩
      replace t7 := t7.below hq
      replace r7 := r7.below hq
      replace t9 := t9.below hq
      replace t11 := t11.below hq
      replace t13 := t13.below hq
      replace r13 := r13.below hq
      replace s31_0 := s31_0.below hq
      replace hy := below_to hy hq
      clear hq
      replace t32 : SF _ _ [(1, 1), (0, 1)] := t32
      obtain ⟨ad32, cp32, eu32⟩ := sf_slice (n := 2) t32 rfl
      subst eu32
      clear s31_0
      go_wp2_with fail
      have q33_0 := Own.new W32 2 [.int .i64 0, .int .i64 1]
      have hq := ba1 W32 (.cells #[.int .i64 0, .int .i64 1] 2)
      replace t7 := t7.below hq
      replace r7 := r7.below hq
      replace t9 := t9.below hq
      replace t11 := t11.below hq
      replace t13 := t13.below hq
      replace r13 := r13.below hq
      replace t32 := t32.below hq
      replace hy := below_to hy hq
      clear hq
      generalize (W32.alloc (.cells #[.int .i64 0, .int .i64 1] 2)) = W33 at *
      obtain ⟨B33, hB33⟩ : ∃ B, B = W32.heap.size := ⟨_, rfl⟩
      rw [← hB33] at q33_0 ⊢
      clear hB33
      have s33_0 := si_of_own [0, 1] 2 rfl (by decide) q33_0
      refine (whole29_any [0, 1] _ _ s33_0 (by decide)).mono ?_
      rintro e W34 ⟨u34, rfl, t34, hq⟩
      replace t7 := t7.below hq
      replace r7 := r7.below hq
      replace t9 := t9.below hq
      replace t11 := t11.below hq
      replace t13 := t13.below hq
      replace r13 := r13.below hq
      replace t32 := t32.below hq
      replace s33_0 := s33_0.below hq
      replace hy := below_to hy hq
      clear hq
      replace t34 : SF _ _ [(0, 1), (1, 1)] := t34
      obtain ⟨ad34, cp34, eu34⟩ := sf_slice (n := 2) t34 rfl
      subst eu34
      clear s33_0
      go_wp2_with fail
      have q35_0 := Own.new W34 28 [.slice ad32 2 cp32, .slice ad34 2 cp34]
      have hq := ba1 W34 (.cells #[.slice ad32 2 cp32, .slice ad34 2 cp34] 28)
      replace t7 := t7.below hq
      replace r7 := r7.below hq
      replace t9 := t9.below hq
      replace t11 := t11.below hq
      replace t13 := t13.below hq
      replace r13 := r13.below hq
      replace t32 := t32.below hq
      replace t34 := t34.below hq
      replace hy := below_to hy hq
      clear hq
      generalize (W34.alloc (.cells #[.slice ad32 2 cp32, .slice ad34 2 cp34] 28)) = W35 at *
      obtain ⟨B35, hB35⟩ : ∃ B, B = W34.heap.size := ⟨_, rfl⟩
      rw [← hB35] at q35_0 ⊢
      clear hB35
      have s35_0 := sff_of_own [[(1, 1), (0, 1)], [(0, 1), (1, 1)]] [(.slice ad32 2 cp32), (.slice ad34 2 cp34)] 2 rfl rfl (by decide) q35_0 (fun i h h' => by
        match i, h with
        | 0, _ => exact t32
        | 1, _ => exact t34
        )
      refine (sameall_true [[(1, 1), (0, 1)], [(0, 1), (1, 1)]] _ _ _ r7 s35_0).mono ?_
      rintro e W36 ⟨rfl, hq⟩
      replace t7 := t7.below hq
      replace r7 := r7.below hq
      replace t9 := t9.below hq
      replace t11 := t11.below hq
      replace t13 := t13.below hq
      replace r13 := r13.below hq
      replace t32 := t32.below hq
      replace t34 := t34.below hq
      replace s35_0 := s35_0.below hq
      replace hy := below_to hy hq
      clear hq
      clear t7 r7 t32 t34 s35_0
      go_wp2_with fail
      have q37_0 := Own.new W36 78 [.int .i64 (-1), .int .i64 4]
      have hq := ba1 W36 (.cells #[.int .i64 (-1), .int .i64 4] 78)
      replace t9 := t9.below hq
      replace t11 := t11.below hq
      replace t13 := t13.below hq
      replace r13 := r13.below hq
      replace hy := below_to hy hq
      clear hq
      generalize (W36.alloc (.cells #[.int .i64 (-1), .int .i64 4] 78)) = W37 at *
      obtain ⟨B37, hB37⟩ : ∃ B, B = W36.heap.size := ⟨_, rfl⟩
      rw [← hB37] at q37_0 ⊢
      clear hB37
      have s37_0 := sf_of_own [(-1, 4)] 1 rfl (by decide) q37_0
      refine (same29_true [(-1, 4)] _ _ _ t11 s37_0).mono ?_
      rintro e W38 ⟨rfl, hq⟩
      replace t9 := t9.below hq
      replace t11 := t11.below hq
      replace t13 := t13.below hq
      replace r13 := r13.below hq
      replace s37_0 := s37_0.below hq
      replace hy := below_to hy hq
      clear hq
      clear t9 t11 s37_0
      go_wp2_with fail
      have q39_0 := Own.new W38 78 [.int .i64 (-99), .int .i64 2]
      have hq := ba1 W38 (.cells #[.int .i64 (-99), .int .i64 2] 78)
      replace t13 := t13.below hq
      replace r13 := r13.below hq
      replace hy := below_to hy hq
      clear hq
      generalize (W38.alloc (.cells #[.int .i64 (-99), .int .i64 2] 78)) = W39 at *
      obtain ⟨B39, hB39⟩ : ∃ B, B = W38.heap.size := ⟨_, rfl⟩
      rw [← hB39] at q39_0 ⊢
      clear hB39
      have s39_0 := sf_of_own [(-99, 2)] 1 rfl (by decide) q39_0
      refine (same29_true [(-99, 2)] _ _ _ t13 s39_0).mono ?_
      rintro e W40 ⟨rfl, hq⟩
      replace t13 := t13.below hq
      replace r13 := r13.below hq
      replace s39_0 := s39_0.below hq
      replace hy := below_to hy hq
      clear hq
      clear t13 r13 s39_0
      go_wp2
      go_ret
      exact ⟨by first | rfl | simp, hy⟩
end Go.Proofs.Ythlcmlngmcoknaa

