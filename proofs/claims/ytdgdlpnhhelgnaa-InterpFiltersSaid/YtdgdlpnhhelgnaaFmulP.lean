/- What is proved here: the product of two fractions, as numbers. No program in sight. -/
import Derived.Test.YtdgdlpnhhelgnaaFracP
namespace Go.Proofs.Ytdgdlpnhhelgnaa
open Go.RowKit

/-- The product of two fractions. -/
def fmulV (an ad bn bd : Int) : FR :=
  bld (decide (an < 0) != decide (bn < 0)) ((an.natAbs / Nat.gcd an.natAbs bd.natAbs * (bn.natAbs / Nat.gcd bn.natAbs ad.natAbs) : Nat) : Int) ((ad.natAbs / Nat.gcd bn.natAbs ad.natAbs * (bd.natAbs / Nat.gcd an.natAbs bd.natAbs) : Nat) : Int)
end Go.Proofs.Ytdgdlpnhhelgnaa
