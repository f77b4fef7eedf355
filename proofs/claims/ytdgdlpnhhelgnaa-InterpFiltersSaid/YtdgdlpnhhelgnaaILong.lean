/- What is proved here: the contract of the reference's Long of layer 15. Condition: a slice of fractions. -/
import Derived.Test.YtdgdlpnhhelgnaaFS
namespace Go.Proofs.Ytdgdlpnhhelgnaa
open Go.RowKit

/-- Whether a list is longer than the statements consider. -/
def flong (n : Nat) : Bool := (decide (40 < (n : Int)) && decide ((n : Int) ≤ 256)) || decide (300 < (n : Int))
theorem ilong_any (n cap : Nat) (ad : Option Addr) (w : World) (h : n ≤ 9223372036854775807) :
    Calls Try.prog 10 #[.slice ad n cap] w fun e w' => e = .returned (.bool (flong n)) ∧ w = w' := by
  unfold flong
  by_cases h1 : 40 < (n : Int)
  · by_cases h2 : (n : Int) ≤ 256
    · have b1 := decide_eq_true h1
      have b2 := decide_eq_true h2
      rw [b1, b2]
      go_enter Try.func10, Try.ntmps10
      go_wp2
      go_ret
      exact ⟨rfl, rfl⟩
    · have b1 := decide_eq_true h1
      have b2 := decide_eq_false h2
      rw [b1, b2]
      go_enter Try.func10, Try.ntmps10
      go_wp2
      go_ret
      exact ⟨rfl, rfl⟩
  · have b1 := decide_eq_false h1
    have b3 : decide (300 < (n : Int)) = false := by simp; omega
    rw [b1, b3]
    go_enter Try.func10, Try.ntmps10
    go_wp2
    go_ret
    exact ⟨rfl, rfl⟩
end Go.Proofs.Ytdgdlpnhhelgnaa
