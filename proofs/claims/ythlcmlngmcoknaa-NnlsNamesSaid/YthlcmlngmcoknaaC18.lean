/- What is proved here: contracts of functions and plain facts, several texts in one; each one says ahead what it proves, and its conditions. -/
import Derived.Shelf.Spec.BitsCarry
import Derived.Test.YthlcmlngmcoknaaProg
/- What is proved here: math/bits.Add64 and Sub64 in this program, by the library's laws. No condition. -/
namespace Go.Proofs
open Go.Shelf
def Try.carry25_ren : Go.Shelf.Ren := ⟨fun | 25 => 162 | n => n, fun | 22 => 144 | n => n, fun | n => n⟩
def Try.carry26_ren : Go.Shelf.Ren := ⟨fun | 26 => 164 | n => n, fun | 22 => 144 | n => n, fun | n => n⟩
theorem Try.carry25 : Go.Proofs.Lays7.n25 Try.prog Try.carry25_ren := {
  mixed := by kernel_rfl
  f25 := Try.func162.trans (congrArg some (by kernel_rfl))
  t22 := Try.underlying144
  a22 := Try.isAgg144
  z22 := Try.sizeOf144
  v22 := Try.zeroValue144
  i22 := by kernel_rfl }
theorem Try.carry26 : Go.Proofs.Lays7.n26 Try.prog Try.carry26_ren := {
  mixed := by kernel_rfl
  f26 := Try.func164.trans (congrArg some (by kernel_rfl))
  t22 := Try.underlying144
  a22 := Try.isAgg144
  z22 := Try.sizeOf144
  v22 := Try.zeroValue144
  i22 := by kernel_rfl }
theorem Try.run_Add64 (x y c : Nat) (hc : c ≤ 1) (w : World) :
    (callFunc 162 #[.int .u64 x, .int .u64 y, .int .u64 c]).run Try.prog w =
      .ok (.value (.tuple #[.int .u64 (((x + y + c) % 18446744073709551616 : Nat) : Int), .int .u64 (((x + y + c) / 18446744073709551616 : Nat) : Int)])) w := Any7.bits_Add64 Try.carry25 x y c hc w
theorem Try.run_Sub64 (x y b : Nat) (hb : b ≤ 1) (w : World) :
    (callFunc 164 #[.int .u64 x, .int .u64 y, .int .u64 b]).run Try.prog w =
      .ok (.value (.tuple #[.int .u64 (((x + 18446744073709551616 - y - b) % 18446744073709551616 : Nat) : Int), .int .u64 ((if x < y + b then 1 else 0 : Nat) : Int)])) w := Any7.bits_Sub64 Try.carry26 x y b hb w
end Go.Proofs
