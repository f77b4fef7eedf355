/-
  No cell of these rows narrows 'for every input' (looked for: loops, veiled, ifaces, maps, wideKeys, modest, calm, conditions, laid).
  DERIVED. THE GIVEN ROWS OF THIS SEAT. 12 by the template 'for every input the law returns true; each argument reads behind the call as it read before'; 0 by the template 'total and deterministic' (their statements: YtfoemacgmehpiaaTotals.lean).
  GIVEN WITH THE SEED: the statements are not yours to turn. If you find one false, say at which input.
  Laid BY PROGRAM, IN A SANDBOX (cutbox-rows.mjs): the forced cells as the released guide's own fill.sh prints them over the translation 56e5b971df3c9e38… (all of the seat's roots in one cut). By AI agents, Wed Nov 11 2026. No macro, syntax, notation, axiom, sorry.
-/
import Derived.Test.YtfoemacgmehpiaaChecked
import GoSem.Claim
import GoSem.ClaimJoined
import GoSem.ClaimMapViews
import Derived.JoinedTies
import Derived.KernelRfl
namespace Go.Proofs.Ytfoemacgmehpiaa
/- THE CELL 'sum', in the pinned program and in every row, IS THE sha256 OF THE DUMP (.gsa) THAT YtfoemacgmehpiaaProg.lean LOADS. Nothing in Lean hashes anything: it is a label: what it is worth is what the hold of that sum in a sandbox is worth. -/
noncomputable def Try.pinned : Pinned := { name := "ytfoemacgmehpiaa", sum := "56e5b971df3c9e387587dc822974d886cb3dd8ecdde5a57b543cab540dd43336", checked := Try.checked }
namespace Rows
def none {H : Type} : Left H := { results := [], args := [] }

/-- 'fringelaw38.SparseBest': WHATEVER THE INPUT: true; the input reads as it did. -/
def sparseBestSpec : ChangeSpec := { name := "sparseBest", fn := fun _ => fun
  | [d1, d2, d3] => { results := [.lit (.bool true)], args := [d1, d2, d3] }
  | _ => none }
def sparseBestRow : OpenClaim := { program := "ytfoemacgmehpiaa", sum := "56e5b971df3c9e387587dc822974d886cb3dd8ecdde5a57b543cab540dd43336", func := "fringe/fringelaw38.SparseBest", spec := "sparseBest", inPlace := ["math/bits.Add64", "math/bits.Sub64"], unfollowed := true, recurses := true, named := ["math/bits.divideError", "math/bits.overflowError"], apart := false }
def SparseBestSaid : Prop := sparseBestRow.holds Try.pinned (OpenSpec.ofChange sparseBestSpec)

/-- ITS FALSE NEIGHBOUR: 'it returns false'. Refute it at one input. -/
def sparseBestWrong : ChangeSpec := { name := "sparseBest", fn := fun _ => fun
  | [d1, d2, d3] => { results := [.lit (.bool false)], args := [d1, d2, d3] }
  | _ => none }
def SparseBestWrongFalsely : Prop := sparseBestRow.holds Try.pinned (OpenSpec.ofChange sparseBestWrong)

/-- 'fringelaw38.SparseDark': WHATEVER THE INPUT: true; the input reads as it did. -/
def sparseDarkSpec : ChangeSpec := { name := "sparseDark", fn := fun _ => fun
  | [d1, d2] => { results := [.lit (.bool true)], args := [d1, d2] }
  | _ => none }
def sparseDarkRow : OpenClaim := { program := "ytfoemacgmehpiaa", sum := "56e5b971df3c9e387587dc822974d886cb3dd8ecdde5a57b543cab540dd43336", func := "fringe/fringelaw38.SparseDark", spec := "sparseDark", inPlace := ["math/bits.Add64", "math/bits.Sub64"], unfollowed := true, recurses := true, named := ["math/bits.divideError", "math/bits.overflowError"], apart := false }
def SparseDarkSaid : Prop := sparseDarkRow.holds Try.pinned (OpenSpec.ofChange sparseDarkSpec)

/-- ITS FALSE NEIGHBOUR: 'it returns false'. Refute it at one input. -/
def sparseDarkWrong : ChangeSpec := { name := "sparseDark", fn := fun _ => fun
  | [d1, d2] => { results := [.lit (.bool false)], args := [d1, d2] }
  | _ => none }
def SparseDarkWrongFalsely : Prop := sparseDarkRow.holds Try.pinned (OpenSpec.ofChange sparseDarkWrong)

/-- 'fringelaw38.SparseLess': WHATEVER THE INPUT: true; the input reads as it did. -/
def sparseLessSpec : ChangeSpec := { name := "sparseLess", fn := fun _ => fun
  | [d1, d2, d3] => { results := [.lit (.bool true)], args := [d1, d2, d3] }
  | _ => none }
def sparseLessRow : OpenClaim := { program := "ytfoemacgmehpiaa", sum := "56e5b971df3c9e387587dc822974d886cb3dd8ecdde5a57b543cab540dd43336", func := "fringe/fringelaw38.SparseLess", spec := "sparseLess", inPlace := ["math/bits.Add64", "math/bits.Sub64"], unfollowed := true, recurses := true, named := ["math/bits.divideError", "math/bits.overflowError"], apart := false }
def SparseLessSaid : Prop := sparseLessRow.holds Try.pinned (OpenSpec.ofChange sparseLessSpec)

/-- ITS FALSE NEIGHBOUR: 'it returns false'. Refute it at one input. -/
def sparseLessWrong : ChangeSpec := { name := "sparseLess", fn := fun _ => fun
  | [d1, d2, d3] => { results := [.lit (.bool false)], args := [d1, d2, d3] }
  | _ => none }
def SparseLessWrongFalsely : Prop := sparseLessRow.holds Try.pinned (OpenSpec.ofChange sparseLessWrong)

/-- 'fringelaw38.SparsePlain': WHATEVER THE INPUT: true; the input reads as it did. -/
def sparsePlainSpec : ChangeSpec := { name := "sparsePlain", fn := fun _ => fun
  | [d1, d2] => { results := [.lit (.bool true)], args := [d1, d2] }
  | _ => none }
def sparsePlainRow : OpenClaim := { program := "ytfoemacgmehpiaa", sum := "56e5b971df3c9e387587dc822974d886cb3dd8ecdde5a57b543cab540dd43336", func := "fringe/fringelaw38.SparsePlain", spec := "sparsePlain", inPlace := ["math/bits.Add64", "math/bits.Sub64"], unfollowed := true, recurses := true, named := ["math/bits.divideError", "math/bits.overflowError"], apart := false }
def SparsePlainSaid : Prop := sparsePlainRow.holds Try.pinned (OpenSpec.ofChange sparsePlainSpec)

/-- ITS FALSE NEIGHBOUR: 'it returns false'. Refute it at one input. -/
def sparsePlainWrong : ChangeSpec := { name := "sparsePlain", fn := fun _ => fun
  | [d1, d2] => { results := [.lit (.bool false)], args := [d1, d2] }
  | _ => none }
def SparsePlainWrongFalsely : Prop := sparsePlainRow.holds Try.pinned (OpenSpec.ofChange sparsePlainWrong)

/-- 'fringelaw39.DualBounds': WHATEVER THE INPUT: true; the input reads as it did. -/
def dualBoundsSpec : ChangeSpec := { name := "dualBounds", fn := fun _ => fun
  | [d1, d2, d3, d4] => { results := [.lit (.bool true)], args := [d1, d2, d3, d4] }
  | _ => none }
def dualBoundsRow : OpenClaim := { program := "ytfoemacgmehpiaa", sum := "56e5b971df3c9e387587dc822974d886cb3dd8ecdde5a57b543cab540dd43336", func := "fringe/fringelaw39.DualBounds", spec := "dualBounds", inPlace := ["math/bits.Add64", "math/bits.Sub64"], unfollowed := true, recurses := true, named := ["math/bits.divideError", "math/bits.overflowError"], apart := false }
def DualBoundsSaid : Prop := dualBoundsRow.holds Try.pinned (OpenSpec.ofChange dualBoundsSpec)

/-- ITS FALSE NEIGHBOUR: 'it returns false'. Refute it at one input. -/
def dualBoundsWrong : ChangeSpec := { name := "dualBounds", fn := fun _ => fun
  | [d1, d2, d3, d4] => { results := [.lit (.bool false)], args := [d1, d2, d3, d4] }
  | _ => none }
def DualBoundsWrongFalsely : Prop := dualBoundsRow.holds Try.pinned (OpenSpec.ofChange dualBoundsWrong)

/-- 'fringelaw39.DualMade': WHATEVER THE INPUT: true; the input reads as it did. -/
def dualMadeSpec : ChangeSpec := { name := "dualMade", fn := fun _ => fun
  | [d1, d2, d3, d4] => { results := [.lit (.bool true)], args := [d1, d2, d3, d4] }
  | _ => none }
def dualMadeRow : OpenClaim := { program := "ytfoemacgmehpiaa", sum := "56e5b971df3c9e387587dc822974d886cb3dd8ecdde5a57b543cab540dd43336", func := "fringe/fringelaw39.DualMade", spec := "dualMade", inPlace := ["math/bits.Add64", "math/bits.Sub64"], unfollowed := true, recurses := true, named := ["math/bits.divideError", "math/bits.overflowError"], apart := false }
def DualMadeSaid : Prop := dualMadeRow.holds Try.pinned (OpenSpec.ofChange dualMadeSpec)

/-- ITS FALSE NEIGHBOUR: 'it returns false'. Refute it at one input. -/
def dualMadeWrong : ChangeSpec := { name := "dualMade", fn := fun _ => fun
  | [d1, d2, d3, d4] => { results := [.lit (.bool false)], args := [d1, d2, d3, d4] }
  | _ => none }
def DualMadeWrongFalsely : Prop := dualMadeRow.holds Try.pinned (OpenSpec.ofChange dualMadeWrong)

/-- 'fringelaw39.DualTight': WHATEVER THE INPUT: true; the input reads as it did. -/
def dualTightSpec : ChangeSpec := { name := "dualTight", fn := fun _ => fun
  | [d1, d2, d3, d4] => { results := [.lit (.bool true)], args := [d1, d2, d3, d4] }
  | _ => none }
def dualTightRow : OpenClaim := { program := "ytfoemacgmehpiaa", sum := "56e5b971df3c9e387587dc822974d886cb3dd8ecdde5a57b543cab540dd43336", func := "fringe/fringelaw39.DualTight", spec := "dualTight", inPlace := ["math/bits.Add64", "math/bits.Sub64"], unfollowed := true, recurses := true, named := ["math/bits.divideError", "math/bits.overflowError"], apart := false }
def DualTightSaid : Prop := dualTightRow.holds Try.pinned (OpenSpec.ofChange dualTightSpec)

/-- ITS FALSE NEIGHBOUR: 'it returns false'. Refute it at one input. -/
def dualTightWrong : ChangeSpec := { name := "dualTight", fn := fun _ => fun
  | [d1, d2, d3, d4] => { results := [.lit (.bool false)], args := [d1, d2, d3, d4] }
  | _ => none }
def DualTightWrongFalsely : Prop := dualTightRow.holds Try.pinned (OpenSpec.ofChange dualTightWrong)

/-- 'fringelaw37.NnlsScales': WHATEVER THE INPUT: true; the input reads as it did. -/
def nnlsScalesSpec : ChangeSpec := { name := "nnlsScales", fn := fun _ => fun
  | [d1, d2, d3] => { results := [.lit (.bool true)], args := [d1, d2, d3] }
  | _ => none }
def nnlsScalesRow : OpenClaim := { program := "ytfoemacgmehpiaa", sum := "56e5b971df3c9e387587dc822974d886cb3dd8ecdde5a57b543cab540dd43336", func := "fringe/fringelaw37.NnlsScales", spec := "nnlsScales", inPlace := ["math/bits.Add64", "math/bits.Sub64"], named := ["math/bits.divideError", "math/bits.overflowError"], apart := false }
def NnlsScalesSaid : Prop := nnlsScalesRow.holds Try.pinned (OpenSpec.ofChange nnlsScalesSpec)

/-- ITS FALSE NEIGHBOUR: 'it returns false'. Refute it at one input. -/
def nnlsScalesWrong : ChangeSpec := { name := "nnlsScales", fn := fun _ => fun
  | [d1, d2, d3] => { results := [.lit (.bool false)], args := [d1, d2, d3] }
  | _ => none }
def NnlsScalesWrongFalsely : Prop := nnlsScalesRow.holds Try.pinned (OpenSpec.ofChange nnlsScalesWrong)

/-- 'fringelaw37.NnlsSolves': WHATEVER THE INPUT: true; the input reads as it did. -/
def nnlsSolvesSpec : ChangeSpec := { name := "nnlsSolves", fn := fun _ => fun
  | [d] => { results := [.lit (.bool true)], args := [d] }
  | _ => none }
def nnlsSolvesRow : OpenClaim := { program := "ytfoemacgmehpiaa", sum := "56e5b971df3c9e387587dc822974d886cb3dd8ecdde5a57b543cab540dd43336", func := "fringe/fringelaw37.NnlsSolves", spec := "nnlsSolves", recurses := true, apart := false }
def NnlsSolvesSaid : Prop := nnlsSolvesRow.holds Try.pinned (OpenSpec.ofChange nnlsSolvesSpec)

/-- ITS FALSE NEIGHBOUR: 'it returns false'. Refute it at one input. -/
def nnlsSolvesWrong : ChangeSpec := { name := "nnlsSolves", fn := fun _ => fun
  | [d] => { results := [.lit (.bool false)], args := [d] }
  | _ => none }
def NnlsSolvesWrongFalsely : Prop := nnlsSolvesRow.holds Try.pinned (OpenSpec.ofChange nnlsSolvesWrong)

/-- 'fringelaw38.SparseSolves': WHATEVER THE INPUT: true; the input reads as it did. -/
def sparseSolvesSpec : ChangeSpec := { name := "sparseSolves", fn := fun _ => fun
  | [d1, d2] => { results := [.lit (.bool true)], args := [d1, d2] }
  | _ => none }
def sparseSolvesRow : OpenClaim := { program := "ytfoemacgmehpiaa", sum := "56e5b971df3c9e387587dc822974d886cb3dd8ecdde5a57b543cab540dd43336", func := "fringe/fringelaw38.SparseSolves", spec := "sparseSolves", unfollowed := true, recurses := true, apart := false }
def SparseSolvesSaid : Prop := sparseSolvesRow.holds Try.pinned (OpenSpec.ofChange sparseSolvesSpec)

/-- ITS FALSE NEIGHBOUR: 'it returns false'. Refute it at one input. -/
def sparseSolvesWrong : ChangeSpec := { name := "sparseSolves", fn := fun _ => fun
  | [d1, d2] => { results := [.lit (.bool false)], args := [d1, d2] }
  | _ => none }
def SparseSolvesWrongFalsely : Prop := sparseSolvesRow.holds Try.pinned (OpenSpec.ofChange sparseSolvesWrong)

/-- 'fringelaw38.SparseNames': WHATEVER THE INPUT: true; the input reads as it did. -/
def sparseNamesSpec : ChangeSpec := { name := "sparseNames", fn := fun _ => fun
  | [] => { results := [.lit (.bool true)], args := [] }
  | _ => none }
def sparseNamesRow : OpenClaim := { program := "ytfoemacgmehpiaa", sum := "56e5b971df3c9e387587dc822974d886cb3dd8ecdde5a57b543cab540dd43336", func := "fringe/fringelaw38.SparseNames", spec := "sparseNames", inPlace := ["math/bits.Add64", "math/bits.Sub64"], unfollowed := true, recurses := true, named := ["math/bits.divideError", "math/bits.overflowError"], apart := false }
def SparseNamesSaid : Prop := sparseNamesRow.holds Try.pinned (OpenSpec.ofChange sparseNamesSpec)

/-- ITS FALSE NEIGHBOUR: 'it returns false'. Refute it at one input. -/
def sparseNamesWrong : ChangeSpec := { name := "sparseNames", fn := fun _ => fun
  | [] => { results := [.lit (.bool false)], args := [] }
  | _ => none }
def SparseNamesWrongFalsely : Prop := sparseNamesRow.holds Try.pinned (OpenSpec.ofChange sparseNamesWrong)

/-- 'fringelaw37.NnlsNames': WHATEVER THE INPUT: true; the input reads as it did. -/
def nnlsNamesSpec : ChangeSpec := { name := "nnlsNames", fn := fun _ => fun
  | [] => { results := [.lit (.bool true)], args := [] }
  | _ => none }
def nnlsNamesRow : OpenClaim := { program := "ytfoemacgmehpiaa", sum := "56e5b971df3c9e387587dc822974d886cb3dd8ecdde5a57b543cab540dd43336", func := "fringe/fringelaw37.NnlsNames", spec := "nnlsNames", inPlace := ["math/bits.Add64", "math/bits.Sub64"], named := ["math/bits.divideError", "math/bits.overflowError"], apart := false }
def NnlsNamesSaid : Prop := nnlsNamesRow.holds Try.pinned (OpenSpec.ofChange nnlsNamesSpec)

/-- ITS FALSE NEIGHBOUR: 'it returns false'. Refute it at one input. -/
def nnlsNamesWrong : ChangeSpec := { name := "nnlsNames", fn := fun _ => fun
  | [] => { results := [.lit (.bool false)], args := [] }
  | _ => none }
def NnlsNamesWrongFalsely : Prop := nnlsNamesRow.holds Try.pinned (OpenSpec.ofChange nnlsNamesWrong)

/- THE SECOND FORM. 'bulk': how many values and letters a reading holds, each counted each time it is reached (what is shared counts as often as it is met; a slice's spare places count too). A statement '..UptoSaid' is the law's where the arguments, and the package variables that the reading takes, are together of bulk at most 1048576: NARROWER than '..Said'. Prove '..Said' where nothing that the law and all that it calls make is longer than what came in: it says more and counts as full. Else prove '..UptoSaid'. A law counts once. -/
mutual
def uptoBulk {H : Type} : DataW H → Nat
  | .lit (.string bytes) => bytes.length + 1
  | .lit _ => 1
  | .nil => 1
  | .ptr d => uptoBulk d + 1
  | .slice elems spare => uptoBulkAll elems + uptoBulkAll spare + 1
  | .agg parts => uptoBulkAll parts + 1
  | .iface _ d => uptoBulk d + 1
  | .map entries => uptoBulkEntries entries + 1
  | .held _ => 1
def uptoBulkAll {H : Type} : List (DataW H) → Nat
  | [] => 0
  | d :: r => uptoBulk d + uptoBulkAll r
def uptoBulkEntries {H : Type} : List (Lit × DataW H) → Nat
  | [] => 0
  | x :: r => uptoBulkEntry x + uptoBulkEntries r
def uptoBulkEntry {H : Type} : Lit × DataW H → Nat
  | (.string bytes, d) => bytes.length + uptoBulk d + 1
  | (_, d) => uptoBulk d + 1
 end
def uptoSmall : (H : Type) → List (DataW H) → Bool := fun _ ds => decide (uptoBulkAll ds ≤ 1048576)
def OpenSpec.upto (s : _root_.Go.ChangeSpec) : _root_.Go.OpenSpec := { _root_.Go.OpenSpec.ofChange s with cond := some uptoSmall }

/-- 'fringelaw38.SparseBest', WHERE WHAT IT READS IS OF BULK AT MOST 1048576: true; the input reads as it did. -/
def sparseBestUptoRow : OpenClaim := { program := "ytfoemacgmehpiaa", sum := "56e5b971df3c9e387587dc822974d886cb3dd8ecdde5a57b543cab540dd43336", func := "fringe/fringelaw38.SparseBest", spec := "sparseBest", inPlace := ["math/bits.Add64", "math/bits.Sub64"], unfollowed := true, recurses := true, named := ["math/bits.divideError", "math/bits.overflowError"], apart := false, narrowed := true }
def SparseBestUptoSaid : Prop := sparseBestUptoRow.holds Try.pinned (OpenSpec.upto sparseBestSpec)

/-- 'fringelaw38.SparseDark', WHERE WHAT IT READS IS OF BULK AT MOST 1048576: true; the input reads as it did. -/
def sparseDarkUptoRow : OpenClaim := { program := "ytfoemacgmehpiaa", sum := "56e5b971df3c9e387587dc822974d886cb3dd8ecdde5a57b543cab540dd43336", func := "fringe/fringelaw38.SparseDark", spec := "sparseDark", inPlace := ["math/bits.Add64", "math/bits.Sub64"], unfollowed := true, recurses := true, named := ["math/bits.divideError", "math/bits.overflowError"], apart := false, narrowed := true }
def SparseDarkUptoSaid : Prop := sparseDarkUptoRow.holds Try.pinned (OpenSpec.upto sparseDarkSpec)

/-- 'fringelaw38.SparseLess', WHERE WHAT IT READS IS OF BULK AT MOST 1048576: true; the input reads as it did. -/
def sparseLessUptoRow : OpenClaim := { program := "ytfoemacgmehpiaa", sum := "56e5b971df3c9e387587dc822974d886cb3dd8ecdde5a57b543cab540dd43336", func := "fringe/fringelaw38.SparseLess", spec := "sparseLess", inPlace := ["math/bits.Add64", "math/bits.Sub64"], unfollowed := true, recurses := true, named := ["math/bits.divideError", "math/bits.overflowError"], apart := false, narrowed := true }
def SparseLessUptoSaid : Prop := sparseLessUptoRow.holds Try.pinned (OpenSpec.upto sparseLessSpec)

/-- 'fringelaw38.SparsePlain', WHERE WHAT IT READS IS OF BULK AT MOST 1048576: true; the input reads as it did. -/
def sparsePlainUptoRow : OpenClaim := { program := "ytfoemacgmehpiaa", sum := "56e5b971df3c9e387587dc822974d886cb3dd8ecdde5a57b543cab540dd43336", func := "fringe/fringelaw38.SparsePlain", spec := "sparsePlain", inPlace := ["math/bits.Add64", "math/bits.Sub64"], unfollowed := true, recurses := true, named := ["math/bits.divideError", "math/bits.overflowError"], apart := false, narrowed := true }
def SparsePlainUptoSaid : Prop := sparsePlainUptoRow.holds Try.pinned (OpenSpec.upto sparsePlainSpec)

/-- 'fringelaw39.DualBounds', WHERE WHAT IT READS IS OF BULK AT MOST 1048576: true; the input reads as it did. -/
def dualBoundsUptoRow : OpenClaim := { program := "ytfoemacgmehpiaa", sum := "56e5b971df3c9e387587dc822974d886cb3dd8ecdde5a57b543cab540dd43336", func := "fringe/fringelaw39.DualBounds", spec := "dualBounds", inPlace := ["math/bits.Add64", "math/bits.Sub64"], unfollowed := true, recurses := true, named := ["math/bits.divideError", "math/bits.overflowError"], apart := false, narrowed := true }
def DualBoundsUptoSaid : Prop := dualBoundsUptoRow.holds Try.pinned (OpenSpec.upto dualBoundsSpec)

/-- 'fringelaw39.DualMade', WHERE WHAT IT READS IS OF BULK AT MOST 1048576: true; the input reads as it did. -/
def dualMadeUptoRow : OpenClaim := { program := "ytfoemacgmehpiaa", sum := "56e5b971df3c9e387587dc822974d886cb3dd8ecdde5a57b543cab540dd43336", func := "fringe/fringelaw39.DualMade", spec := "dualMade", inPlace := ["math/bits.Add64", "math/bits.Sub64"], unfollowed := true, recurses := true, named := ["math/bits.divideError", "math/bits.overflowError"], apart := false, narrowed := true }
def DualMadeUptoSaid : Prop := dualMadeUptoRow.holds Try.pinned (OpenSpec.upto dualMadeSpec)

/-- 'fringelaw39.DualTight', WHERE WHAT IT READS IS OF BULK AT MOST 1048576: true; the input reads as it did. -/
def dualTightUptoRow : OpenClaim := { program := "ytfoemacgmehpiaa", sum := "56e5b971df3c9e387587dc822974d886cb3dd8ecdde5a57b543cab540dd43336", func := "fringe/fringelaw39.DualTight", spec := "dualTight", inPlace := ["math/bits.Add64", "math/bits.Sub64"], unfollowed := true, recurses := true, named := ["math/bits.divideError", "math/bits.overflowError"], apart := false, narrowed := true }
def DualTightUptoSaid : Prop := dualTightUptoRow.holds Try.pinned (OpenSpec.upto dualTightSpec)

/-- 'fringelaw37.NnlsScales', WHERE WHAT IT READS IS OF BULK AT MOST 1048576: true; the input reads as it did. -/
def nnlsScalesUptoRow : OpenClaim := { program := "ytfoemacgmehpiaa", sum := "56e5b971df3c9e387587dc822974d886cb3dd8ecdde5a57b543cab540dd43336", func := "fringe/fringelaw37.NnlsScales", spec := "nnlsScales", inPlace := ["math/bits.Add64", "math/bits.Sub64"], named := ["math/bits.divideError", "math/bits.overflowError"], apart := false, narrowed := true }
def NnlsScalesUptoSaid : Prop := nnlsScalesUptoRow.holds Try.pinned (OpenSpec.upto nnlsScalesSpec)

/-- 'fringelaw37.NnlsSolves', WHERE WHAT IT READS IS OF BULK AT MOST 1048576: true; the input reads as it did. -/
def nnlsSolvesUptoRow : OpenClaim := { program := "ytfoemacgmehpiaa", sum := "56e5b971df3c9e387587dc822974d886cb3dd8ecdde5a57b543cab540dd43336", func := "fringe/fringelaw37.NnlsSolves", spec := "nnlsSolves", recurses := true, apart := false, narrowed := true }
def NnlsSolvesUptoSaid : Prop := nnlsSolvesUptoRow.holds Try.pinned (OpenSpec.upto nnlsSolvesSpec)

/-- 'fringelaw38.SparseSolves', WHERE WHAT IT READS IS OF BULK AT MOST 1048576: true; the input reads as it did. -/
def sparseSolvesUptoRow : OpenClaim := { program := "ytfoemacgmehpiaa", sum := "56e5b971df3c9e387587dc822974d886cb3dd8ecdde5a57b543cab540dd43336", func := "fringe/fringelaw38.SparseSolves", spec := "sparseSolves", unfollowed := true, recurses := true, apart := false, narrowed := true }
def SparseSolvesUptoSaid : Prop := sparseSolvesUptoRow.holds Try.pinned (OpenSpec.upto sparseSolvesSpec)

/-- 'fringelaw38.SparseNames', WHERE WHAT IT READS IS OF BULK AT MOST 1048576: true; the input reads as it did. -/
def sparseNamesUptoRow : OpenClaim := { program := "ytfoemacgmehpiaa", sum := "56e5b971df3c9e387587dc822974d886cb3dd8ecdde5a57b543cab540dd43336", func := "fringe/fringelaw38.SparseNames", spec := "sparseNames", inPlace := ["math/bits.Add64", "math/bits.Sub64"], unfollowed := true, recurses := true, named := ["math/bits.divideError", "math/bits.overflowError"], apart := false, narrowed := true }
def SparseNamesUptoSaid : Prop := sparseNamesUptoRow.holds Try.pinned (OpenSpec.upto sparseNamesSpec)

/-- 'fringelaw37.NnlsNames', WHERE WHAT IT READS IS OF BULK AT MOST 1048576: true; the input reads as it did. -/
def nnlsNamesUptoRow : OpenClaim := { program := "ytfoemacgmehpiaa", sum := "56e5b971df3c9e387587dc822974d886cb3dd8ecdde5a57b543cab540dd43336", func := "fringe/fringelaw37.NnlsNames", spec := "nnlsNames", inPlace := ["math/bits.Add64", "math/bits.Sub64"], named := ["math/bits.divideError", "math/bits.overflowError"], apart := false, narrowed := true }
def NnlsNamesUptoSaid : Prop := nnlsNamesUptoRow.holds Try.pinned (OpenSpec.upto nnlsNamesSpec)

end Rows
end Go.Proofs.Ytfoemacgmehpiaa
