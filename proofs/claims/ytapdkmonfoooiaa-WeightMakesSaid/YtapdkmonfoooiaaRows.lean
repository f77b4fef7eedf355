/-
  No cell of these rows narrows 'for every input' (looked for: loops, veiled, ifaces, maps, wideKeys, modest, calm, conditions, laid).
  DERIVED. THE GIVEN ROWS OF THIS SEAT. 6 by the template 'for every input the law returns true; each argument reads behind the call as it read before'; 0 by the template 'total and deterministic' (their statements: YtapdkmonfoooiaaTotals.lean).
  GIVEN WITH THE SEED: the statements are not yours to turn. If you find one false, say at which input.
  Laid BY PROGRAM, IN A SANDBOX (cutbox-rows.mjs): the forced cells as the released guide's own fill.sh prints them over the translation bbb0864b69ce5807… (all of the seat's roots in one cut). By AI agents, Wed Nov 11 2026. No macro, syntax, notation, axiom, sorry.
-/
import Derived.Test.YtapdkmonfoooiaaChecked
import GoSem.Claim
import GoSem.ClaimJoined
import GoSem.ClaimMapViews
import Derived.JoinedTies
import Derived.KernelRfl
namespace Go.Proofs.Ytapdkmonfoooiaa
/- THE CELL 'sum', in the pinned program and in every row, IS THE sha256 OF THE DUMP (.gsa) THAT YtapdkmonfoooiaaProg.lean LOADS. Nothing in Lean hashes anything: it is a label: what it is worth is what the hold of that sum in a sandbox is worth. -/
noncomputable def Try.pinned : Pinned := { name := "ytapdkmonfoooiaa", sum := "bbb0864b69ce580703cdfc7c14afaaf76a36646fe21fcac4d299cfc0f9a1cf00", checked := Try.checked }
namespace Rows
def none {H : Type} : Left H := { results := [], args := [] }

/-- 'fringelaw22.WeightMakes': WHATEVER THE INPUT: true; the input reads as it did. -/
def weightMakesSpec : ChangeSpec := { name := "weightMakes", fn := fun _ => fun
  | [d1, d2, d3, d4, d5, d6, d7] => { results := [.lit (.bool true)], args := [d1, d2, d3, d4, d5, d6, d7] }
  | _ => none }
def weightMakesRow : OpenClaim := { program := "ytapdkmonfoooiaa", sum := "bbb0864b69ce580703cdfc7c14afaaf76a36646fe21fcac4d299cfc0f9a1cf00", func := "fringe/fringelaw22.WeightMakes", spec := "weightMakes", recurses := true, apart := false }
def WeightMakesSaid : Prop := weightMakesRow.holds Try.pinned (OpenSpec.ofChange weightMakesSpec)

/-- ITS FALSE NEIGHBOUR: 'it returns false'. Refute it at one input. -/
def weightMakesWrong : ChangeSpec := { name := "weightMakes", fn := fun _ => fun
  | [d1, d2, d3, d4, d5, d6, d7] => { results := [.lit (.bool false)], args := [d1, d2, d3, d4, d5, d6, d7] }
  | _ => none }
def WeightMakesWrongFalsely : Prop := weightMakesRow.holds Try.pinned (OpenSpec.ofChange weightMakesWrong)

/-- 'fringelaw22.WeightTwice': WHATEVER THE INPUT: true; the input reads as it did. -/
def weightTwiceSpec : ChangeSpec := { name := "weightTwice", fn := fun _ => fun
  | [d1, d2] => { results := [.lit (.bool true)], args := [d1, d2] }
  | _ => none }
def weightTwiceRow : OpenClaim := { program := "ytapdkmonfoooiaa", sum := "bbb0864b69ce580703cdfc7c14afaaf76a36646fe21fcac4d299cfc0f9a1cf00", func := "fringe/fringelaw22.WeightTwice", spec := "weightTwice", inPlace := ["math/bits.Add64", "math/bits.Sub64"], unfollowed := true, recurses := true, named := ["math/bits.divideError", "math/bits.overflowError"], apart := false }
def WeightTwiceSaid : Prop := weightTwiceRow.holds Try.pinned (OpenSpec.ofChange weightTwiceSpec)

/-- ITS FALSE NEIGHBOUR: 'it returns false'. Refute it at one input. -/
def weightTwiceWrong : ChangeSpec := { name := "weightTwice", fn := fun _ => fun
  | [d1, d2] => { results := [.lit (.bool false)], args := [d1, d2] }
  | _ => none }
def WeightTwiceWrongFalsely : Prop := weightTwiceRow.holds Try.pinned (OpenSpec.ofChange weightTwiceWrong)

/-- 'fringelaw22.WeightMeans': WHATEVER THE INPUT: true; the input reads as it did. -/
def weightMeansSpec : ChangeSpec := { name := "weightMeans", fn := fun _ => fun
  | [d] => { results := [.lit (.bool true)], args := [d] }
  | _ => none }
def weightMeansRow : OpenClaim := { program := "ytapdkmonfoooiaa", sum := "bbb0864b69ce580703cdfc7c14afaaf76a36646fe21fcac4d299cfc0f9a1cf00", func := "fringe/fringelaw22.WeightMeans", spec := "weightMeans", inPlace := ["math/bits.Add64", "math/bits.Sub64"], unfollowed := true, recurses := true, named := ["math/bits.divideError", "math/bits.overflowError"], apart := false }
def WeightMeansSaid : Prop := weightMeansRow.holds Try.pinned (OpenSpec.ofChange weightMeansSpec)

/-- ITS FALSE NEIGHBOUR: 'it returns false'. Refute it at one input. -/
def weightMeansWrong : ChangeSpec := { name := "weightMeans", fn := fun _ => fun
  | [d] => { results := [.lit (.bool false)], args := [d] }
  | _ => none }
def WeightMeansWrongFalsely : Prop := weightMeansRow.holds Try.pinned (OpenSpec.ofChange weightMeansWrong)

/-- 'fringelaw22.WeightBounds': WHATEVER THE INPUT: true; the input reads as it did. -/
def weightBoundsSpec : ChangeSpec := { name := "weightBounds", fn := fun _ => fun
  | [d] => { results := [.lit (.bool true)], args := [d] }
  | _ => none }
def weightBoundsRow : OpenClaim := { program := "ytapdkmonfoooiaa", sum := "bbb0864b69ce580703cdfc7c14afaaf76a36646fe21fcac4d299cfc0f9a1cf00", func := "fringe/fringelaw22.WeightBounds", spec := "weightBounds", inPlace := ["math/bits.Add64", "math/bits.Sub64"], unfollowed := true, recurses := true, named := ["math/bits.divideError", "math/bits.overflowError"], apart := false }
def WeightBoundsSaid : Prop := weightBoundsRow.holds Try.pinned (OpenSpec.ofChange weightBoundsSpec)

/-- ITS FALSE NEIGHBOUR: 'it returns false'. Refute it at one input. -/
def weightBoundsWrong : ChangeSpec := { name := "weightBounds", fn := fun _ => fun
  | [d] => { results := [.lit (.bool false)], args := [d] }
  | _ => none }
def WeightBoundsWrongFalsely : Prop := weightBoundsRow.holds Try.pinned (OpenSpec.ofChange weightBoundsWrong)

/-- 'fringelaw22.WeightOrder': WHATEVER THE INPUT: true; the input reads as it did. -/
def weightOrderSpec : ChangeSpec := { name := "weightOrder", fn := fun _ => fun
  | [d1, d2] => { results := [.lit (.bool true)], args := [d1, d2] }
  | _ => none }
def weightOrderRow : OpenClaim := { program := "ytapdkmonfoooiaa", sum := "bbb0864b69ce580703cdfc7c14afaaf76a36646fe21fcac4d299cfc0f9a1cf00", func := "fringe/fringelaw22.WeightOrder", spec := "weightOrder", inPlace := ["math/bits.Add64", "math/bits.Sub64"], unfollowed := true, recurses := true, named := ["math/bits.divideError", "math/bits.overflowError"], apart := false }
def WeightOrderSaid : Prop := weightOrderRow.holds Try.pinned (OpenSpec.ofChange weightOrderSpec)

/-- ITS FALSE NEIGHBOUR: 'it returns false'. Refute it at one input. -/
def weightOrderWrong : ChangeSpec := { name := "weightOrder", fn := fun _ => fun
  | [d1, d2] => { results := [.lit (.bool false)], args := [d1, d2] }
  | _ => none }
def WeightOrderWrongFalsely : Prop := weightOrderRow.holds Try.pinned (OpenSpec.ofChange weightOrderWrong)

/-- 'fringelaw22.WeightNames': WHATEVER THE INPUT: true; the input reads as it did. -/
def weightNamesSpec : ChangeSpec := { name := "weightNames", fn := fun _ => fun
  | [] => { results := [.lit (.bool true)], args := [] }
  | _ => none }
def weightNamesRow : OpenClaim := { program := "ytapdkmonfoooiaa", sum := "bbb0864b69ce580703cdfc7c14afaaf76a36646fe21fcac4d299cfc0f9a1cf00", func := "fringe/fringelaw22.WeightNames", spec := "weightNames", inPlace := ["math/bits.Add64", "math/bits.Sub64"], unfollowed := true, recurses := true, named := ["math/bits.divideError", "math/bits.overflowError"], apart := false }
def WeightNamesSaid : Prop := weightNamesRow.holds Try.pinned (OpenSpec.ofChange weightNamesSpec)

/-- ITS FALSE NEIGHBOUR: 'it returns false'. Refute it at one input. -/
def weightNamesWrong : ChangeSpec := { name := "weightNames", fn := fun _ => fun
  | [] => { results := [.lit (.bool false)], args := [] }
  | _ => none }
def WeightNamesWrongFalsely : Prop := weightNamesRow.holds Try.pinned (OpenSpec.ofChange weightNamesWrong)

/- THE SECOND FORM. 'bulk': how many values and letters a reading holds, each counted each time it is reached (what is shared counts as often as it is met; a slice's spare places count too). A statement '..UptoSaid' is the law's where the arguments, and the package variables that the reading takes, are together of bulk at most 1048576: NARROWER than '..Said'. Prove '..Said' where nothing that the law and all that it calls make is longer than what came in: it says more and counts as full. Else prove '..UptoSaid'. A law counts once. -/
mutual
def uptoBulk {H : Type} : DataW H → Nat
  | .lit (.string bytes) => bytes.length + 1
  | .lit _ => 1
  | .nil => 1
  | .ptr d => uptoBulk d + 1
  | .slice elems spare => uptoBulkAll elems + uptoBulkAll spare + 1
  | .agg parts => uptoBulkAll parts + 1
  | .iface _ d => uptoBulk d + 1
  | .map entries => uptoBulkEntries entries + 1
  | .held _ => 1
def uptoBulkAll {H : Type} : List (DataW H) → Nat
  | [] => 0
  | d :: r => uptoBulk d + uptoBulkAll r
def uptoBulkEntries {H : Type} : List (Lit × DataW H) → Nat
  | [] => 0
  | x :: r => uptoBulkEntry x + uptoBulkEntries r
def uptoBulkEntry {H : Type} : Lit × DataW H → Nat
  | (.string bytes, d) => bytes.length + uptoBulk d + 1
  | (_, d) => uptoBulk d + 1
 end
def uptoSmall : (H : Type) → List (DataW H) → Bool := fun _ ds => decide (uptoBulkAll ds ≤ 1048576)
def OpenSpec.upto (s : _root_.Go.ChangeSpec) : _root_.Go.OpenSpec := { _root_.Go.OpenSpec.ofChange s with cond := some uptoSmall }

/-- 'fringelaw22.WeightMakes', WHERE WHAT IT READS IS OF BULK AT MOST 1048576: true; the input reads as it did. -/
def weightMakesUptoRow : OpenClaim := { program := "ytapdkmonfoooiaa", sum := "bbb0864b69ce580703cdfc7c14afaaf76a36646fe21fcac4d299cfc0f9a1cf00", func := "fringe/fringelaw22.WeightMakes", spec := "weightMakes", recurses := true, apart := false, narrowed := true }
def WeightMakesUptoSaid : Prop := weightMakesUptoRow.holds Try.pinned (OpenSpec.upto weightMakesSpec)

/-- 'fringelaw22.WeightTwice', WHERE WHAT IT READS IS OF BULK AT MOST 1048576: true; the input reads as it did. -/
def weightTwiceUptoRow : OpenClaim := { program := "ytapdkmonfoooiaa", sum := "bbb0864b69ce580703cdfc7c14afaaf76a36646fe21fcac4d299cfc0f9a1cf00", func := "fringe/fringelaw22.WeightTwice", spec := "weightTwice", inPlace := ["math/bits.Add64", "math/bits.Sub64"], unfollowed := true, recurses := true, named := ["math/bits.divideError", "math/bits.overflowError"], apart := false, narrowed := true }
def WeightTwiceUptoSaid : Prop := weightTwiceUptoRow.holds Try.pinned (OpenSpec.upto weightTwiceSpec)

/-- 'fringelaw22.WeightMeans', WHERE WHAT IT READS IS OF BULK AT MOST 1048576: true; the input reads as it did. -/
def weightMeansUptoRow : OpenClaim := { program := "ytapdkmonfoooiaa", sum := "bbb0864b69ce580703cdfc7c14afaaf76a36646fe21fcac4d299cfc0f9a1cf00", func := "fringe/fringelaw22.WeightMeans", spec := "weightMeans", inPlace := ["math/bits.Add64", "math/bits.Sub64"], unfollowed := true, recurses := true, named := ["math/bits.divideError", "math/bits.overflowError"], apart := false, narrowed := true }
def WeightMeansUptoSaid : Prop := weightMeansUptoRow.holds Try.pinned (OpenSpec.upto weightMeansSpec)

/-- 'fringelaw22.WeightBounds', WHERE WHAT IT READS IS OF BULK AT MOST 1048576: true; the input reads as it did. -/
def weightBoundsUptoRow : OpenClaim := { program := "ytapdkmonfoooiaa", sum := "bbb0864b69ce580703cdfc7c14afaaf76a36646fe21fcac4d299cfc0f9a1cf00", func := "fringe/fringelaw22.WeightBounds", spec := "weightBounds", inPlace := ["math/bits.Add64", "math/bits.Sub64"], unfollowed := true, recurses := true, named := ["math/bits.divideError", "math/bits.overflowError"], apart := false, narrowed := true }
def WeightBoundsUptoSaid : Prop := weightBoundsUptoRow.holds Try.pinned (OpenSpec.upto weightBoundsSpec)

/-- 'fringelaw22.WeightOrder', WHERE WHAT IT READS IS OF BULK AT MOST 1048576: true; the input reads as it did. -/
def weightOrderUptoRow : OpenClaim := { program := "ytapdkmonfoooiaa", sum := "bbb0864b69ce580703cdfc7c14afaaf76a36646fe21fcac4d299cfc0f9a1cf00", func := "fringe/fringelaw22.WeightOrder", spec := "weightOrder", inPlace := ["math/bits.Add64", "math/bits.Sub64"], unfollowed := true, recurses := true, named := ["math/bits.divideError", "math/bits.overflowError"], apart := false, narrowed := true }
def WeightOrderUptoSaid : Prop := weightOrderUptoRow.holds Try.pinned (OpenSpec.upto weightOrderSpec)

/-- 'fringelaw22.WeightNames', WHERE WHAT IT READS IS OF BULK AT MOST 1048576: true; the input reads as it did. -/
def weightNamesUptoRow : OpenClaim := { program := "ytapdkmonfoooiaa", sum := "bbb0864b69ce580703cdfc7c14afaaf76a36646fe21fcac4d299cfc0f9a1cf00", func := "fringe/fringelaw22.WeightNames", spec := "weightNames", inPlace := ["math/bits.Add64", "math/bits.Sub64"], unfollowed := true, recurses := true, named := ["math/bits.divideError", "math/bits.overflowError"], apart := false, narrowed := true }
def WeightNamesUptoSaid : Prop := weightNamesUptoRow.holds Try.pinned (OpenSpec.upto weightNamesSpec)

end Rows
end Go.Proofs.Ytapdkmonfoooiaa
