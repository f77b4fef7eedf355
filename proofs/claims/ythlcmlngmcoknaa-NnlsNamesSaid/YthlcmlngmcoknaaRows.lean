/-
  No cell of these rows narrows 'for every input' (looked for: loops, veiled, ifaces, maps, wideKeys, modest, calm, conditions, laid).
  DERIVED. THE GIVEN ROWS OF THIS SEAT. 9 by the template 'for every input the law returns true; each argument reads behind the call as it read before'; 0 by the template 'total and deterministic' (their statements: YthlcmlngmcoknaaTotals.lean).
  GIVEN WITH THE SEED: the statements are not yours to turn. If you find one false, say at which input.
  Laid BY PROGRAM, IN A SANDBOX (cutbox-rows.mjs): the forced cells as the released guide's own fill.sh prints them over the translation 69ebf1920b6b9b32… (all of the seat's roots in one cut). By AI agents, Wed Nov 11 2026. No macro, syntax, notation, axiom, sorry.
-/
import Derived.Test.YthlcmlngmcoknaaChecked
import GoSem.Claim
import GoSem.ClaimJoined
import GoSem.ClaimMapViews
import Derived.JoinedTies
import Derived.KernelRfl
namespace Go.Proofs.Ythlcmlngmcoknaa
/- THE CELL 'sum', in the pinned program and in every row, IS THE sha256 OF THE DUMP (.gsa) THAT YthlcmlngmcoknaaProg.lean LOADS. Nothing in Lean hashes anything: it is a label: what it is worth is what the hold of that sum in a sandbox is worth. -/
noncomputable def Try.pinned : Pinned := { name := "ythlcmlngmcoknaa", sum := "69ebf1920b6b9b3230ca3df1c95606c33517d9aa87fcb8ff21bd4e0bec942525", checked := Try.checked }
namespace Rows
def none {H : Type} : Left H := { results := [], args := [] }

/-- 'fringelaw29.SolveRows': WHATEVER THE INPUT: true; the input reads as it did. -/
def solveRowsSpec : ChangeSpec := { name := "solveRows", fn := fun _ => fun
  | [d1, d2, d3] => { results := [.lit (.bool true)], args := [d1, d2, d3] }
  | _ => none }
def solveRowsRow : OpenClaim := { program := "ythlcmlngmcoknaa", sum := "69ebf1920b6b9b3230ca3df1c95606c33517d9aa87fcb8ff21bd4e0bec942525", func := "fringe/fringelaw29.SolveRows", spec := "solveRows", apart := false }
def SolveRowsSaid : Prop := solveRowsRow.holds Try.pinned (OpenSpec.ofChange solveRowsSpec)

/-- ITS FALSE NEIGHBOUR: 'it returns false'. Refute it at one input. -/
def solveRowsWrong : ChangeSpec := { name := "solveRows", fn := fun _ => fun
  | [d1, d2, d3] => { results := [.lit (.bool false)], args := [d1, d2, d3] }
  | _ => none }
def SolveRowsWrongFalsely : Prop := solveRowsRow.holds Try.pinned (OpenSpec.ofChange solveRowsWrong)

/-- 'fringelaw29.SolveFinds': WHATEVER THE INPUT: true; the input reads as it did. -/
def solveFindsSpec : ChangeSpec := { name := "solveFinds", fn := fun _ => fun
  | [d] => { results := [.lit (.bool true)], args := [d] }
  | _ => none }
def solveFindsRow : OpenClaim := { program := "ythlcmlngmcoknaa", sum := "69ebf1920b6b9b3230ca3df1c95606c33517d9aa87fcb8ff21bd4e0bec942525", func := "fringe/fringelaw29.SolveFinds", spec := "solveFinds", apart := false }
def SolveFindsSaid : Prop := solveFindsRow.holds Try.pinned (OpenSpec.ofChange solveFindsSpec)

/-- ITS FALSE NEIGHBOUR: 'it returns false'. Refute it at one input. -/
def solveFindsWrong : ChangeSpec := { name := "solveFinds", fn := fun _ => fun
  | [d] => { results := [.lit (.bool false)], args := [d] }
  | _ => none }
def SolveFindsWrongFalsely : Prop := solveFindsRow.holds Try.pinned (OpenSpec.ofChange solveFindsWrong)

/-- 'fringelaw29.SolveRanks': WHATEVER THE INPUT: true; the input reads as it did. -/
def solveRanksSpec : ChangeSpec := { name := "solveRanks", fn := fun _ => fun
  | [d] => { results := [.lit (.bool true)], args := [d] }
  | _ => none }
def solveRanksRow : OpenClaim := { program := "ythlcmlngmcoknaa", sum := "69ebf1920b6b9b3230ca3df1c95606c33517d9aa87fcb8ff21bd4e0bec942525", func := "fringe/fringelaw29.SolveRanks", spec := "solveRanks", apart := false }
def SolveRanksSaid : Prop := solveRanksRow.holds Try.pinned (OpenSpec.ofChange solveRanksSpec)

/-- ITS FALSE NEIGHBOUR: 'it returns false'. Refute it at one input. -/
def solveRanksWrong : ChangeSpec := { name := "solveRanks", fn := fun _ => fun
  | [d] => { results := [.lit (.bool false)], args := [d] }
  | _ => none }
def SolveRanksWrongFalsely : Prop := solveRanksRow.holds Try.pinned (OpenSpec.ofChange solveRanksWrong)

/-- 'fringelaw29.SolveAsks': WHATEVER THE INPUT: true; the input reads as it did. -/
def solveAsksSpec : ChangeSpec := { name := "solveAsks", fn := fun _ => fun
  | [d1, d2] => { results := [.lit (.bool true)], args := [d1, d2] }
  | _ => none }
def solveAsksRow : OpenClaim := { program := "ythlcmlngmcoknaa", sum := "69ebf1920b6b9b3230ca3df1c95606c33517d9aa87fcb8ff21bd4e0bec942525", func := "fringe/fringelaw29.SolveAsks", spec := "solveAsks", inPlace := ["math/bits.Add64", "math/bits.Sub64"], named := ["math/bits.divideError", "math/bits.overflowError"], apart := false }
def SolveAsksSaid : Prop := solveAsksRow.holds Try.pinned (OpenSpec.ofChange solveAsksSpec)

/-- ITS FALSE NEIGHBOUR: 'it returns false'. Refute it at one input. -/
def solveAsksWrong : ChangeSpec := { name := "solveAsks", fn := fun _ => fun
  | [d1, d2] => { results := [.lit (.bool false)], args := [d1, d2] }
  | _ => none }
def SolveAsksWrongFalsely : Prop := solveAsksRow.holds Try.pinned (OpenSpec.ofChange solveAsksWrong)

/-- 'fringetop.TopImage': WHATEVER THE INPUT: true; the input reads as it did. -/
def topImageSpec : ChangeSpec := { name := "topImage", fn := fun _ => fun
  | [d1, d2, d3, d4, d5, d6, d7] => { results := [.lit (.bool true)], args := [d1, d2, d3, d4, d5, d6, d7] }
  | _ => none }
def topImageRow : OpenClaim := { program := "ythlcmlngmcoknaa", sum := "69ebf1920b6b9b3230ca3df1c95606c33517d9aa87fcb8ff21bd4e0bec942525", func := "fringe/fringetop.TopImage", spec := "topImage", inPlace := ["math/bits.Add64", "math/bits.Sub64"], unfollowed := true, recurses := true, named := ["math/bits.divideError", "math/bits.overflowError"], apart := false }
def TopImageSaid : Prop := topImageRow.holds Try.pinned (OpenSpec.ofChange topImageSpec)

/-- ITS FALSE NEIGHBOUR: 'it returns false'. Refute it at one input. -/
def topImageWrong : ChangeSpec := { name := "topImage", fn := fun _ => fun
  | [d1, d2, d3, d4, d5, d6, d7] => { results := [.lit (.bool false)], args := [d1, d2, d3, d4, d5, d6, d7] }
  | _ => none }
def TopImageWrongFalsely : Prop := topImageRow.holds Try.pinned (OpenSpec.ofChange topImageWrong)

/-- 'fringelaw29.SolveWhole': WHATEVER THE INPUT: true; the input reads as it did. -/
def solveWholeSpec : ChangeSpec := { name := "solveWhole", fn := fun _ => fun
  | [d1, d2] => { results := [.lit (.bool true)], args := [d1, d2] }
  | _ => none }
def solveWholeRow : OpenClaim := { program := "ythlcmlngmcoknaa", sum := "69ebf1920b6b9b3230ca3df1c95606c33517d9aa87fcb8ff21bd4e0bec942525", func := "fringe/fringelaw29.SolveWhole", spec := "solveWhole", inPlace := ["math/bits.Add64", "math/bits.Sub64"], named := ["math/bits.divideError", "math/bits.overflowError"], apart := false }
def SolveWholeSaid : Prop := solveWholeRow.holds Try.pinned (OpenSpec.ofChange solveWholeSpec)

/-- ITS FALSE NEIGHBOUR: 'it returns false'. Refute it at one input. -/
def solveWholeWrong : ChangeSpec := { name := "solveWhole", fn := fun _ => fun
  | [d1, d2] => { results := [.lit (.bool false)], args := [d1, d2] }
  | _ => none }
def SolveWholeWrongFalsely : Prop := solveWholeRow.holds Try.pinned (OpenSpec.ofChange solveWholeWrong)

/-- 'fringelaw29.SolveNames': WHATEVER THE INPUT: true; the input reads as it did. -/
def solveNamesSpec : ChangeSpec := { name := "solveNames", fn := fun _ => fun
  | [] => { results := [.lit (.bool true)], args := [] }
  | _ => none }
def solveNamesRow : OpenClaim := { program := "ythlcmlngmcoknaa", sum := "69ebf1920b6b9b3230ca3df1c95606c33517d9aa87fcb8ff21bd4e0bec942525", func := "fringe/fringelaw29.SolveNames", spec := "solveNames", inPlace := ["math/bits.Add64", "math/bits.Sub64"], named := ["math/bits.divideError", "math/bits.overflowError"], apart := false }
def SolveNamesSaid : Prop := solveNamesRow.holds Try.pinned (OpenSpec.ofChange solveNamesSpec)

/-- ITS FALSE NEIGHBOUR: 'it returns false'. Refute it at one input. -/
def solveNamesWrong : ChangeSpec := { name := "solveNames", fn := fun _ => fun
  | [] => { results := [.lit (.bool false)], args := [] }
  | _ => none }
def SolveNamesWrongFalsely : Prop := solveNamesRow.holds Try.pinned (OpenSpec.ofChange solveNamesWrong)

/-- 'fringelaw29.SolveEither': WHATEVER THE INPUT: true; the input reads as it did. -/
def solveEitherSpec : ChangeSpec := { name := "solveEither", fn := fun _ => fun
  | [d] => { results := [.lit (.bool true)], args := [d] }
  | _ => none }
def solveEitherRow : OpenClaim := { program := "ythlcmlngmcoknaa", sum := "69ebf1920b6b9b3230ca3df1c95606c33517d9aa87fcb8ff21bd4e0bec942525", func := "fringe/fringelaw29.SolveEither", spec := "solveEither", inPlace := ["math/bits.Add64", "math/bits.Sub64"], named := ["math/bits.divideError", "math/bits.overflowError"], apart := false }
def SolveEitherSaid : Prop := solveEitherRow.holds Try.pinned (OpenSpec.ofChange solveEitherSpec)

/-- ITS FALSE NEIGHBOUR: 'it returns false'. Refute it at one input. -/
def solveEitherWrong : ChangeSpec := { name := "solveEither", fn := fun _ => fun
  | [d] => { results := [.lit (.bool false)], args := [d] }
  | _ => none }
def SolveEitherWrongFalsely : Prop := solveEitherRow.holds Try.pinned (OpenSpec.ofChange solveEitherWrong)

/-- 'fringelaw37.NnlsNames': WHATEVER THE INPUT: true; the input reads as it did. -/
def nnlsNamesSpec : ChangeSpec := { name := "nnlsNames", fn := fun _ => fun
  | [] => { results := [.lit (.bool true)], args := [] }
  | _ => none }
def nnlsNamesRow : OpenClaim := { program := "ythlcmlngmcoknaa", sum := "69ebf1920b6b9b3230ca3df1c95606c33517d9aa87fcb8ff21bd4e0bec942525", func := "fringe/fringelaw37.NnlsNames", spec := "nnlsNames", inPlace := ["math/bits.Add64", "math/bits.Sub64"], named := ["math/bits.divideError", "math/bits.overflowError"], apart := false }
def NnlsNamesSaid : Prop := nnlsNamesRow.holds Try.pinned (OpenSpec.ofChange nnlsNamesSpec)

/-- ITS FALSE NEIGHBOUR: 'it returns false'. Refute it at one input. -/
def nnlsNamesWrong : ChangeSpec := { name := "nnlsNames", fn := fun _ => fun
  | [] => { results := [.lit (.bool false)], args := [] }
  | _ => none }
def NnlsNamesWrongFalsely : Prop := nnlsNamesRow.holds Try.pinned (OpenSpec.ofChange nnlsNamesWrong)

/- THE SECOND FORM. 'bulk': how many values and letters a reading holds, each counted each time it is reached (what is shared counts as often as it is met; a slice's spare places count too). A statement '..UptoSaid' is the law's where the arguments, and the package variables that the reading takes, are together of bulk at most 1048576: NARROWER than '..Said'. Prove '..Said' where nothing that the law and all that it calls make is longer than what came in: it says more and counts as full. Else prove '..UptoSaid'. A law counts once. -/
mutual
def uptoBulk {H : Type} : DataW H → Nat
  | .lit (.string bytes) => bytes.length + 1
  | .lit _ => 1
  | .nil => 1
  | .ptr d => uptoBulk d + 1
  | .slice elems spare => uptoBulkAll elems + uptoBulkAll spare + 1
  | .agg parts => uptoBulkAll parts + 1
  | .iface _ d => uptoBulk d + 1
  | .map entries => uptoBulkEntries entries + 1
  | .held _ => 1
def uptoBulkAll {H : Type} : List (DataW H) → Nat
  | [] => 0
  | d :: r => uptoBulk d + uptoBulkAll r
def uptoBulkEntries {H : Type} : List (Lit × DataW H) → Nat
  | [] => 0
  | x :: r => uptoBulkEntry x + uptoBulkEntries r
def uptoBulkEntry {H : Type} : Lit × DataW H → Nat
  | (.string bytes, d) => bytes.length + uptoBulk d + 1
  | (_, d) => uptoBulk d + 1
 end
def uptoSmall : (H : Type) → List (DataW H) → Bool := fun _ ds => decide (uptoBulkAll ds ≤ 1048576)
def OpenSpec.upto (s : _root_.Go.ChangeSpec) : _root_.Go.OpenSpec := { _root_.Go.OpenSpec.ofChange s with cond := some uptoSmall }

/-- 'fringelaw29.SolveRows', WHERE WHAT IT READS IS OF BULK AT MOST 1048576: true; the input reads as it did. -/
def solveRowsUptoRow : OpenClaim := { program := "ythlcmlngmcoknaa", sum := "69ebf1920b6b9b3230ca3df1c95606c33517d9aa87fcb8ff21bd4e0bec942525", func := "fringe/fringelaw29.SolveRows", spec := "solveRows", apart := false, narrowed := true }
def SolveRowsUptoSaid : Prop := solveRowsUptoRow.holds Try.pinned (OpenSpec.upto solveRowsSpec)

/-- 'fringelaw29.SolveFinds', WHERE WHAT IT READS IS OF BULK AT MOST 1048576: true; the input reads as it did. -/
def solveFindsUptoRow : OpenClaim := { program := "ythlcmlngmcoknaa", sum := "69ebf1920b6b9b3230ca3df1c95606c33517d9aa87fcb8ff21bd4e0bec942525", func := "fringe/fringelaw29.SolveFinds", spec := "solveFinds", apart := false, narrowed := true }
def SolveFindsUptoSaid : Prop := solveFindsUptoRow.holds Try.pinned (OpenSpec.upto solveFindsSpec)

/-- 'fringelaw29.SolveRanks', WHERE WHAT IT READS IS OF BULK AT MOST 1048576: true; the input reads as it did. -/
def solveRanksUptoRow : OpenClaim := { program := "ythlcmlngmcoknaa", sum := "69ebf1920b6b9b3230ca3df1c95606c33517d9aa87fcb8ff21bd4e0bec942525", func := "fringe/fringelaw29.SolveRanks", spec := "solveRanks", apart := false, narrowed := true }
def SolveRanksUptoSaid : Prop := solveRanksUptoRow.holds Try.pinned (OpenSpec.upto solveRanksSpec)

/-- 'fringelaw29.SolveAsks', WHERE WHAT IT READS IS OF BULK AT MOST 1048576: true; the input reads as it did. -/
def solveAsksUptoRow : OpenClaim := { program := "ythlcmlngmcoknaa", sum := "69ebf1920b6b9b3230ca3df1c95606c33517d9aa87fcb8ff21bd4e0bec942525", func := "fringe/fringelaw29.SolveAsks", spec := "solveAsks", inPlace := ["math/bits.Add64", "math/bits.Sub64"], named := ["math/bits.divideError", "math/bits.overflowError"], apart := false, narrowed := true }
def SolveAsksUptoSaid : Prop := solveAsksUptoRow.holds Try.pinned (OpenSpec.upto solveAsksSpec)

/-- 'fringetop.TopImage', WHERE WHAT IT READS IS OF BULK AT MOST 1048576: true; the input reads as it did. -/
def topImageUptoRow : OpenClaim := { program := "ythlcmlngmcoknaa", sum := "69ebf1920b6b9b3230ca3df1c95606c33517d9aa87fcb8ff21bd4e0bec942525", func := "fringe/fringetop.TopImage", spec := "topImage", inPlace := ["math/bits.Add64", "math/bits.Sub64"], unfollowed := true, recurses := true, named := ["math/bits.divideError", "math/bits.overflowError"], apart := false, narrowed := true }
def TopImageUptoSaid : Prop := topImageUptoRow.holds Try.pinned (OpenSpec.upto topImageSpec)

/-- 'fringelaw29.SolveWhole', WHERE WHAT IT READS IS OF BULK AT MOST 1048576: true; the input reads as it did. -/
def solveWholeUptoRow : OpenClaim := { program := "ythlcmlngmcoknaa", sum := "69ebf1920b6b9b3230ca3df1c95606c33517d9aa87fcb8ff21bd4e0bec942525", func := "fringe/fringelaw29.SolveWhole", spec := "solveWhole", inPlace := ["math/bits.Add64", "math/bits.Sub64"], named := ["math/bits.divideError", "math/bits.overflowError"], apart := false, narrowed := true }
def SolveWholeUptoSaid : Prop := solveWholeUptoRow.holds Try.pinned (OpenSpec.upto solveWholeSpec)

/-- 'fringelaw29.SolveNames', WHERE WHAT IT READS IS OF BULK AT MOST 1048576: true; the input reads as it did. -/
def solveNamesUptoRow : OpenClaim := { program := "ythlcmlngmcoknaa", sum := "69ebf1920b6b9b3230ca3df1c95606c33517d9aa87fcb8ff21bd4e0bec942525", func := "fringe/fringelaw29.SolveNames", spec := "solveNames", inPlace := ["math/bits.Add64", "math/bits.Sub64"], named := ["math/bits.divideError", "math/bits.overflowError"], apart := false, narrowed := true }
def SolveNamesUptoSaid : Prop := solveNamesUptoRow.holds Try.pinned (OpenSpec.upto solveNamesSpec)

/-- 'fringelaw29.SolveEither', WHERE WHAT IT READS IS OF BULK AT MOST 1048576: true; the input reads as it did. -/
def solveEitherUptoRow : OpenClaim := { program := "ythlcmlngmcoknaa", sum := "69ebf1920b6b9b3230ca3df1c95606c33517d9aa87fcb8ff21bd4e0bec942525", func := "fringe/fringelaw29.SolveEither", spec := "solveEither", inPlace := ["math/bits.Add64", "math/bits.Sub64"], named := ["math/bits.divideError", "math/bits.overflowError"], apart := false, narrowed := true }
def SolveEitherUptoSaid : Prop := solveEitherUptoRow.holds Try.pinned (OpenSpec.upto solveEitherSpec)

/-- 'fringelaw37.NnlsNames', WHERE WHAT IT READS IS OF BULK AT MOST 1048576: true; the input reads as it did. -/
def nnlsNamesUptoRow : OpenClaim := { program := "ythlcmlngmcoknaa", sum := "69ebf1920b6b9b3230ca3df1c95606c33517d9aa87fcb8ff21bd4e0bec942525", func := "fringe/fringelaw37.NnlsNames", spec := "nnlsNames", inPlace := ["math/bits.Add64", "math/bits.Sub64"], named := ["math/bits.divideError", "math/bits.overflowError"], apart := false, narrowed := true }
def NnlsNamesUptoSaid : Prop := nnlsNamesUptoRow.holds Try.pinned (OpenSpec.upto nnlsNamesSpec)

end Rows
end Go.Proofs.Ythlcmlngmcoknaa
