/-
  No cell of these rows narrows 'for every input' (looked for: loops, veiled, ifaces, maps, wideKeys, modest, calm, conditions, laid).
  DERIVED. THE GIVEN ROWS OF THIS SEAT. 12 by the template 'for every input the law returns true; each argument reads behind the call as it read before'; 0 by the template 'total and deterministic' (their statements: YtfbigmjlppdlhaaTotals.lean).
  GIVEN WITH THE SEED: the statements are not yours to turn. If you find one false, say at which input.
  Laid BY PROGRAM, IN A SANDBOX (cutbox-rows.mjs): the forced cells as the released guide's own fill.sh prints them over the translation 0df56c55192b1b54… (all of the seat's roots in one cut). By AI agents, Wed Nov 11 2026. No macro, syntax, notation, axiom, sorry.
-/
import Derived.Test.YtfbigmjlppdlhaaChecked
import GoSem.Claim
import GoSem.ClaimJoined
import GoSem.ClaimMapViews
import Derived.JoinedTies
import Derived.KernelRfl
namespace Go.Proofs.Ytfbigmjlppdlhaa
/- THE CELL 'sum', in the pinned program and in every row, IS THE sha256 OF THE DUMP (.gsa) THAT YtfbigmjlppdlhaaProg.lean LOADS. Nothing in Lean hashes anything: it is a label: what it is worth is what the hold of that sum in a sandbox is worth. -/
noncomputable def Try.pinned : Pinned := { name := "ytfbigmjlppdlhaa", sum := "0df56c55192b1b5435c34e2656bf4daa797609271200dde934da9ea2b4e0f8ab", checked := Try.checked }
namespace Rows
def none {H : Type} : Left H := { results := [], args := [] }

/-- 'fringelaw37.NnlsTells': WHATEVER THE INPUT: true; the input reads as it did. -/
def nnlsTellsSpec : ChangeSpec := { name := "nnlsTells", fn := fun _ => fun
  | [d1, d2] => { results := [.lit (.bool true)], args := [d1, d2] }
  | _ => none }
def nnlsTellsRow : OpenClaim := { program := "ytfbigmjlppdlhaa", sum := "0df56c55192b1b5435c34e2656bf4daa797609271200dde934da9ea2b4e0f8ab", func := "fringe/fringelaw37.NnlsTells", spec := "nnlsTells", inPlace := ["math/bits.Add64", "math/bits.Sub64"], named := ["math/bits.divideError", "math/bits.overflowError"], apart := false }
def NnlsTellsSaid : Prop := nnlsTellsRow.holds Try.pinned (OpenSpec.ofChange nnlsTellsSpec)

/-- ITS FALSE NEIGHBOUR: 'it returns false'. Refute it at one input. -/
def nnlsTellsWrong : ChangeSpec := { name := "nnlsTells", fn := fun _ => fun
  | [d1, d2] => { results := [.lit (.bool false)], args := [d1, d2] }
  | _ => none }
def NnlsTellsWrongFalsely : Prop := nnlsTellsRow.holds Try.pinned (OpenSpec.ofChange nnlsTellsWrong)

/-- 'fringelaw38.SparseTells': WHATEVER THE INPUT: true; the input reads as it did. -/
def sparseTellsSpec : ChangeSpec := { name := "sparseTells", fn := fun _ => fun
  | [d1, d2, d3] => { results := [.lit (.bool true)], args := [d1, d2, d3] }
  | _ => none }
def sparseTellsRow : OpenClaim := { program := "ytfbigmjlppdlhaa", sum := "0df56c55192b1b5435c34e2656bf4daa797609271200dde934da9ea2b4e0f8ab", func := "fringe/fringelaw38.SparseTells", spec := "sparseTells", inPlace := ["math/bits.Add64", "math/bits.Sub64"], named := ["math/bits.divideError", "math/bits.overflowError"], apart := false }
def SparseTellsSaid : Prop := sparseTellsRow.holds Try.pinned (OpenSpec.ofChange sparseTellsSpec)

/-- ITS FALSE NEIGHBOUR: 'it returns false'. Refute it at one input. -/
def sparseTellsWrong : ChangeSpec := { name := "sparseTells", fn := fun _ => fun
  | [d1, d2, d3] => { results := [.lit (.bool false)], args := [d1, d2, d3] }
  | _ => none }
def SparseTellsWrongFalsely : Prop := sparseTellsRow.holds Try.pinned (OpenSpec.ofChange sparseTellsWrong)

/-- 'fringelaw39.DualMakes': WHATEVER THE INPUT: true; the input reads as it did. -/
def dualMakesSpec : ChangeSpec := { name := "dualMakes", fn := fun _ => fun
  | [d1, d2, d3] => { results := [.lit (.bool true)], args := [d1, d2, d3] }
  | _ => none }
def dualMakesRow : OpenClaim := { program := "ytfbigmjlppdlhaa", sum := "0df56c55192b1b5435c34e2656bf4daa797609271200dde934da9ea2b4e0f8ab", func := "fringe/fringelaw39.DualMakes", spec := "dualMakes", inPlace := ["math/bits.Add64", "math/bits.Sub64"], named := ["math/bits.divideError", "math/bits.overflowError"], apart := false }
def DualMakesSaid : Prop := dualMakesRow.holds Try.pinned (OpenSpec.ofChange dualMakesSpec)

/-- ITS FALSE NEIGHBOUR: 'it returns false'. Refute it at one input. -/
def dualMakesWrong : ChangeSpec := { name := "dualMakes", fn := fun _ => fun
  | [d1, d2, d3] => { results := [.lit (.bool false)], args := [d1, d2, d3] }
  | _ => none }
def DualMakesWrongFalsely : Prop := dualMakesRow.holds Try.pinned (OpenSpec.ofChange dualMakesWrong)

/-- 'fringelaw39.DualTells': WHATEVER THE INPUT: true; the input reads as it did. -/
def dualTellsSpec : ChangeSpec := { name := "dualTells", fn := fun _ => fun
  | [d1, d2, d3, d4, d5] => { results := [.lit (.bool true)], args := [d1, d2, d3, d4, d5] }
  | _ => none }
def dualTellsRow : OpenClaim := { program := "ytfbigmjlppdlhaa", sum := "0df56c55192b1b5435c34e2656bf4daa797609271200dde934da9ea2b4e0f8ab", func := "fringe/fringelaw39.DualTells", spec := "dualTells", inPlace := ["math/bits.Add64", "math/bits.Sub64"], named := ["math/bits.divideError", "math/bits.overflowError"], apart := false }
def DualTellsSaid : Prop := dualTellsRow.holds Try.pinned (OpenSpec.ofChange dualTellsSpec)

/-- ITS FALSE NEIGHBOUR: 'it returns false'. Refute it at one input. -/
def dualTellsWrong : ChangeSpec := { name := "dualTells", fn := fun _ => fun
  | [d1, d2, d3, d4, d5] => { results := [.lit (.bool false)], args := [d1, d2, d3, d4, d5] }
  | _ => none }
def DualTellsWrongFalsely : Prop := dualTellsRow.holds Try.pinned (OpenSpec.ofChange dualTellsWrong)

/-- 'fringelaw37.NnlsSolves': WHATEVER THE INPUT: true; the input reads as it did. -/
def nnlsSolvesSpec : ChangeSpec := { name := "nnlsSolves", fn := fun _ => fun
  | [d] => { results := [.lit (.bool true)], args := [d] }
  | _ => none }
def nnlsSolvesRow : OpenClaim := { program := "ytfbigmjlppdlhaa", sum := "0df56c55192b1b5435c34e2656bf4daa797609271200dde934da9ea2b4e0f8ab", func := "fringe/fringelaw37.NnlsSolves", spec := "nnlsSolves", recurses := true, apart := false }
def NnlsSolvesSaid : Prop := nnlsSolvesRow.holds Try.pinned (OpenSpec.ofChange nnlsSolvesSpec)

/-- ITS FALSE NEIGHBOUR: 'it returns false'. Refute it at one input. -/
def nnlsSolvesWrong : ChangeSpec := { name := "nnlsSolves", fn := fun _ => fun
  | [d] => { results := [.lit (.bool false)], args := [d] }
  | _ => none }
def NnlsSolvesWrongFalsely : Prop := nnlsSolvesRow.holds Try.pinned (OpenSpec.ofChange nnlsSolvesWrong)

/-- 'fringelaw38.SparseSolves': WHATEVER THE INPUT: true; the input reads as it did. -/
def sparseSolvesSpec : ChangeSpec := { name := "sparseSolves", fn := fun _ => fun
  | [d1, d2] => { results := [.lit (.bool true)], args := [d1, d2] }
  | _ => none }
def sparseSolvesRow : OpenClaim := { program := "ytfbigmjlppdlhaa", sum := "0df56c55192b1b5435c34e2656bf4daa797609271200dde934da9ea2b4e0f8ab", func := "fringe/fringelaw38.SparseSolves", spec := "sparseSolves", unfollowed := true, recurses := true, apart := false }
def SparseSolvesSaid : Prop := sparseSolvesRow.holds Try.pinned (OpenSpec.ofChange sparseSolvesSpec)

/-- ITS FALSE NEIGHBOUR: 'it returns false'. Refute it at one input. -/
def sparseSolvesWrong : ChangeSpec := { name := "sparseSolves", fn := fun _ => fun
  | [d1, d2] => { results := [.lit (.bool false)], args := [d1, d2] }
  | _ => none }
def SparseSolvesWrongFalsely : Prop := sparseSolvesRow.holds Try.pinned (OpenSpec.ofChange sparseSolvesWrong)

/-- 'fringelaw37.NnlsNames': WHATEVER THE INPUT: true; the input reads as it did. -/
def nnlsNamesSpec : ChangeSpec := { name := "nnlsNames", fn := fun _ => fun
  | [] => { results := [.lit (.bool true)], args := [] }
  | _ => none }
def nnlsNamesRow : OpenClaim := { program := "ytfbigmjlppdlhaa", sum := "0df56c55192b1b5435c34e2656bf4daa797609271200dde934da9ea2b4e0f8ab", func := "fringe/fringelaw37.NnlsNames", spec := "nnlsNames", inPlace := ["math/bits.Add64", "math/bits.Sub64"], named := ["math/bits.divideError", "math/bits.overflowError"], apart := false }
def NnlsNamesSaid : Prop := nnlsNamesRow.holds Try.pinned (OpenSpec.ofChange nnlsNamesSpec)

/-- ITS FALSE NEIGHBOUR: 'it returns false'. Refute it at one input. -/
def nnlsNamesWrong : ChangeSpec := { name := "nnlsNames", fn := fun _ => fun
  | [] => { results := [.lit (.bool false)], args := [] }
  | _ => none }
def NnlsNamesWrongFalsely : Prop := nnlsNamesRow.holds Try.pinned (OpenSpec.ofChange nnlsNamesWrong)

/-- 'fringelaw38.SparseNames': WHATEVER THE INPUT: true; the input reads as it did. -/
def sparseNamesSpec : ChangeSpec := { name := "sparseNames", fn := fun _ => fun
  | [] => { results := [.lit (.bool true)], args := [] }
  | _ => none }
def sparseNamesRow : OpenClaim := { program := "ytfbigmjlppdlhaa", sum := "0df56c55192b1b5435c34e2656bf4daa797609271200dde934da9ea2b4e0f8ab", func := "fringe/fringelaw38.SparseNames", spec := "sparseNames", inPlace := ["math/bits.Add64", "math/bits.Sub64"], unfollowed := true, recurses := true, named := ["math/bits.divideError", "math/bits.overflowError"], apart := false }
def SparseNamesSaid : Prop := sparseNamesRow.holds Try.pinned (OpenSpec.ofChange sparseNamesSpec)

/-- ITS FALSE NEIGHBOUR: 'it returns false'. Refute it at one input. -/
def sparseNamesWrong : ChangeSpec := { name := "sparseNames", fn := fun _ => fun
  | [] => { results := [.lit (.bool false)], args := [] }
  | _ => none }
def SparseNamesWrongFalsely : Prop := sparseNamesRow.holds Try.pinned (OpenSpec.ofChange sparseNamesWrong)

/-- 'fringelaw39.DualNames': WHATEVER THE INPUT: true; the input reads as it did. -/
def dualNamesSpec : ChangeSpec := { name := "dualNames", fn := fun _ => fun
  | [] => { results := [.lit (.bool true)], args := [] }
  | _ => none }
def dualNamesRow : OpenClaim := { program := "ytfbigmjlppdlhaa", sum := "0df56c55192b1b5435c34e2656bf4daa797609271200dde934da9ea2b4e0f8ab", func := "fringe/fringelaw39.DualNames", spec := "dualNames", inPlace := ["math/bits.Add64", "math/bits.Sub64"], named := ["math/bits.divideError", "math/bits.overflowError"], apart := false }
def DualNamesSaid : Prop := dualNamesRow.holds Try.pinned (OpenSpec.ofChange dualNamesSpec)

/-- ITS FALSE NEIGHBOUR: 'it returns false'. Refute it at one input. -/
def dualNamesWrong : ChangeSpec := { name := "dualNames", fn := fun _ => fun
  | [] => { results := [.lit (.bool false)], args := [] }
  | _ => none }
def DualNamesWrongFalsely : Prop := dualNamesRow.holds Try.pinned (OpenSpec.ofChange dualNamesWrong)

/-- 'fringelaw37.NnlsBest': WHATEVER THE INPUT: true; the input reads as it did. -/
def nnlsBestSpec : ChangeSpec := { name := "nnlsBest", fn := fun _ => fun
  | [d1, d2] => { results := [.lit (.bool true)], args := [d1, d2] }
  | _ => none }
def nnlsBestRow : OpenClaim := { program := "ytfbigmjlppdlhaa", sum := "0df56c55192b1b5435c34e2656bf4daa797609271200dde934da9ea2b4e0f8ab", func := "fringe/fringelaw37.NnlsBest", spec := "nnlsBest", inPlace := ["math/bits.Add64", "math/bits.Sub64"], named := ["math/bits.divideError", "math/bits.overflowError"], apart := false }
def NnlsBestSaid : Prop := nnlsBestRow.holds Try.pinned (OpenSpec.ofChange nnlsBestSpec)

/-- ITS FALSE NEIGHBOUR: 'it returns false'. Refute it at one input. -/
def nnlsBestWrong : ChangeSpec := { name := "nnlsBest", fn := fun _ => fun
  | [d1, d2] => { results := [.lit (.bool false)], args := [d1, d2] }
  | _ => none }
def NnlsBestWrongFalsely : Prop := nnlsBestRow.holds Try.pinned (OpenSpec.ofChange nnlsBestWrong)

/-- 'fringelaw37.NnlsUnique': WHATEVER THE INPUT: true; the input reads as it did. -/
def nnlsUniqueSpec : ChangeSpec := { name := "nnlsUnique", fn := fun _ => fun
  | [d1, d2] => { results := [.lit (.bool true)], args := [d1, d2] }
  | _ => none }
def nnlsUniqueRow : OpenClaim := { program := "ytfbigmjlppdlhaa", sum := "0df56c55192b1b5435c34e2656bf4daa797609271200dde934da9ea2b4e0f8ab", func := "fringe/fringelaw37.NnlsUnique", spec := "nnlsUnique", inPlace := ["math/bits.Add64", "math/bits.Sub64"], named := ["math/bits.divideError", "math/bits.overflowError"], apart := false }
def NnlsUniqueSaid : Prop := nnlsUniqueRow.holds Try.pinned (OpenSpec.ofChange nnlsUniqueSpec)

/-- ITS FALSE NEIGHBOUR: 'it returns false'. Refute it at one input. -/
def nnlsUniqueWrong : ChangeSpec := { name := "nnlsUnique", fn := fun _ => fun
  | [d1, d2] => { results := [.lit (.bool false)], args := [d1, d2] }
  | _ => none }
def NnlsUniqueWrongFalsely : Prop := nnlsUniqueRow.holds Try.pinned (OpenSpec.ofChange nnlsUniqueWrong)

/-- 'fringelaw37.NnlsExact': WHATEVER THE INPUT: true; the input reads as it did. -/
def nnlsExactSpec : ChangeSpec := { name := "nnlsExact", fn := fun _ => fun
  | [d1, d2] => { results := [.lit (.bool true)], args := [d1, d2] }
  | _ => none }
def nnlsExactRow : OpenClaim := { program := "ytfbigmjlppdlhaa", sum := "0df56c55192b1b5435c34e2656bf4daa797609271200dde934da9ea2b4e0f8ab", func := "fringe/fringelaw37.NnlsExact", spec := "nnlsExact", inPlace := ["math/bits.Add64", "math/bits.Sub64"], named := ["math/bits.divideError", "math/bits.overflowError"], apart := false }
def NnlsExactSaid : Prop := nnlsExactRow.holds Try.pinned (OpenSpec.ofChange nnlsExactSpec)

/-- ITS FALSE NEIGHBOUR: 'it returns false'. Refute it at one input. -/
def nnlsExactWrong : ChangeSpec := { name := "nnlsExact", fn := fun _ => fun
  | [d1, d2] => { results := [.lit (.bool false)], args := [d1, d2] }
  | _ => none }
def NnlsExactWrongFalsely : Prop := nnlsExactRow.holds Try.pinned (OpenSpec.ofChange nnlsExactWrong)

/- THE SECOND FORM. 'bulk': how many values and letters a reading holds, each counted each time it is reached (what is shared counts as often as it is met; a slice's spare places count too). A statement '..UptoSaid' is the law's where the arguments, and the package variables that the reading takes, are together of bulk at most 1048576: NARROWER than '..Said'. Prove '..Said' where nothing that the law and all that it calls make is longer than what came in: it says more and counts as full. Else prove '..UptoSaid'. A law counts once. -/
mutual
def uptoBulk {H : Type} : DataW H → Nat
  | .lit (.string bytes) => bytes.length + 1
  | .lit _ => 1
  | .nil => 1
  | .ptr d => uptoBulk d + 1
  | .slice elems spare => uptoBulkAll elems + uptoBulkAll spare + 1
  | .agg parts => uptoBulkAll parts + 1
  | .iface _ d => uptoBulk d + 1
  | .map entries => uptoBulkEntries entries + 1
  | .held _ => 1
def uptoBulkAll {H : Type} : List (DataW H) → Nat
  | [] => 0
  | d :: r => uptoBulk d + uptoBulkAll r
def uptoBulkEntries {H : Type} : List (Lit × DataW H) → Nat
  | [] => 0
  | x :: r => uptoBulkEntry x + uptoBulkEntries r
def uptoBulkEntry {H : Type} : Lit × DataW H → Nat
  | (.string bytes, d) => bytes.length + uptoBulk d + 1
  | (_, d) => uptoBulk d + 1
 end
def uptoSmall : (H : Type) → List (DataW H) → Bool := fun _ ds => decide (uptoBulkAll ds ≤ 1048576)
def OpenSpec.upto (s : _root_.Go.ChangeSpec) : _root_.Go.OpenSpec := { _root_.Go.OpenSpec.ofChange s with cond := some uptoSmall }

/-- 'fringelaw37.NnlsTells', WHERE WHAT IT READS IS OF BULK AT MOST 1048576: true; the input reads as it did. -/
def nnlsTellsUptoRow : OpenClaim := { program := "ytfbigmjlppdlhaa", sum := "0df56c55192b1b5435c34e2656bf4daa797609271200dde934da9ea2b4e0f8ab", func := "fringe/fringelaw37.NnlsTells", spec := "nnlsTells", inPlace := ["math/bits.Add64", "math/bits.Sub64"], named := ["math/bits.divideError", "math/bits.overflowError"], apart := false, narrowed := true }
def NnlsTellsUptoSaid : Prop := nnlsTellsUptoRow.holds Try.pinned (OpenSpec.upto nnlsTellsSpec)

/-- 'fringelaw38.SparseTells', WHERE WHAT IT READS IS OF BULK AT MOST 1048576: true; the input reads as it did. -/
def sparseTellsUptoRow : OpenClaim := { program := "ytfbigmjlppdlhaa", sum := "0df56c55192b1b5435c34e2656bf4daa797609271200dde934da9ea2b4e0f8ab", func := "fringe/fringelaw38.SparseTells", spec := "sparseTells", inPlace := ["math/bits.Add64", "math/bits.Sub64"], named := ["math/bits.divideError", "math/bits.overflowError"], apart := false, narrowed := true }
def SparseTellsUptoSaid : Prop := sparseTellsUptoRow.holds Try.pinned (OpenSpec.upto sparseTellsSpec)

/-- 'fringelaw39.DualMakes', WHERE WHAT IT READS IS OF BULK AT MOST 1048576: true; the input reads as it did. -/
def dualMakesUptoRow : OpenClaim := { program := "ytfbigmjlppdlhaa", sum := "0df56c55192b1b5435c34e2656bf4daa797609271200dde934da9ea2b4e0f8ab", func := "fringe/fringelaw39.DualMakes", spec := "dualMakes", inPlace := ["math/bits.Add64", "math/bits.Sub64"], named := ["math/bits.divideError", "math/bits.overflowError"], apart := false, narrowed := true }
def DualMakesUptoSaid : Prop := dualMakesUptoRow.holds Try.pinned (OpenSpec.upto dualMakesSpec)

/-- 'fringelaw39.DualTells', WHERE WHAT IT READS IS OF BULK AT MOST 1048576: true; the input reads as it did. -/
def dualTellsUptoRow : OpenClaim := { program := "ytfbigmjlppdlhaa", sum := "0df56c55192b1b5435c34e2656bf4daa797609271200dde934da9ea2b4e0f8ab", func := "fringe/fringelaw39.DualTells", spec := "dualTells", inPlace := ["math/bits.Add64", "math/bits.Sub64"], named := ["math/bits.divideError", "math/bits.overflowError"], apart := false, narrowed := true }
def DualTellsUptoSaid : Prop := dualTellsUptoRow.holds Try.pinned (OpenSpec.upto dualTellsSpec)

/-- 'fringelaw37.NnlsSolves', WHERE WHAT IT READS IS OF BULK AT MOST 1048576: true; the input reads as it did. -/
def nnlsSolvesUptoRow : OpenClaim := { program := "ytfbigmjlppdlhaa", sum := "0df56c55192b1b5435c34e2656bf4daa797609271200dde934da9ea2b4e0f8ab", func := "fringe/fringelaw37.NnlsSolves", spec := "nnlsSolves", recurses := true, apart := false, narrowed := true }
def NnlsSolvesUptoSaid : Prop := nnlsSolvesUptoRow.holds Try.pinned (OpenSpec.upto nnlsSolvesSpec)

/-- 'fringelaw38.SparseSolves', WHERE WHAT IT READS IS OF BULK AT MOST 1048576: true; the input reads as it did. -/
def sparseSolvesUptoRow : OpenClaim := { program := "ytfbigmjlppdlhaa", sum := "0df56c55192b1b5435c34e2656bf4daa797609271200dde934da9ea2b4e0f8ab", func := "fringe/fringelaw38.SparseSolves", spec := "sparseSolves", unfollowed := true, recurses := true, apart := false, narrowed := true }
def SparseSolvesUptoSaid : Prop := sparseSolvesUptoRow.holds Try.pinned (OpenSpec.upto sparseSolvesSpec)

/-- 'fringelaw37.NnlsNames', WHERE WHAT IT READS IS OF BULK AT MOST 1048576: true; the input reads as it did. -/
def nnlsNamesUptoRow : OpenClaim := { program := "ytfbigmjlppdlhaa", sum := "0df56c55192b1b5435c34e2656bf4daa797609271200dde934da9ea2b4e0f8ab", func := "fringe/fringelaw37.NnlsNames", spec := "nnlsNames", inPlace := ["math/bits.Add64", "math/bits.Sub64"], named := ["math/bits.divideError", "math/bits.overflowError"], apart := false, narrowed := true }
def NnlsNamesUptoSaid : Prop := nnlsNamesUptoRow.holds Try.pinned (OpenSpec.upto nnlsNamesSpec)

/-- 'fringelaw38.SparseNames', WHERE WHAT IT READS IS OF BULK AT MOST 1048576: true; the input reads as it did. -/
def sparseNamesUptoRow : OpenClaim := { program := "ytfbigmjlppdlhaa", sum := "0df56c55192b1b5435c34e2656bf4daa797609271200dde934da9ea2b4e0f8ab", func := "fringe/fringelaw38.SparseNames", spec := "sparseNames", inPlace := ["math/bits.Add64", "math/bits.Sub64"], unfollowed := true, recurses := true, named := ["math/bits.divideError", "math/bits.overflowError"], apart := false, narrowed := true }
def SparseNamesUptoSaid : Prop := sparseNamesUptoRow.holds Try.pinned (OpenSpec.upto sparseNamesSpec)

/-- 'fringelaw39.DualNames', WHERE WHAT IT READS IS OF BULK AT MOST 1048576: true; the input reads as it did. -/
def dualNamesUptoRow : OpenClaim := { program := "ytfbigmjlppdlhaa", sum := "0df56c55192b1b5435c34e2656bf4daa797609271200dde934da9ea2b4e0f8ab", func := "fringe/fringelaw39.DualNames", spec := "dualNames", inPlace := ["math/bits.Add64", "math/bits.Sub64"], named := ["math/bits.divideError", "math/bits.overflowError"], apart := false, narrowed := true }
def DualNamesUptoSaid : Prop := dualNamesUptoRow.holds Try.pinned (OpenSpec.upto dualNamesSpec)

/-- 'fringelaw37.NnlsBest', WHERE WHAT IT READS IS OF BULK AT MOST 1048576: true; the input reads as it did. -/
def nnlsBestUptoRow : OpenClaim := { program := "ytfbigmjlppdlhaa", sum := "0df56c55192b1b5435c34e2656bf4daa797609271200dde934da9ea2b4e0f8ab", func := "fringe/fringelaw37.NnlsBest", spec := "nnlsBest", inPlace := ["math/bits.Add64", "math/bits.Sub64"], named := ["math/bits.divideError", "math/bits.overflowError"], apart := false, narrowed := true }
def NnlsBestUptoSaid : Prop := nnlsBestUptoRow.holds Try.pinned (OpenSpec.upto nnlsBestSpec)

/-- 'fringelaw37.NnlsUnique', WHERE WHAT IT READS IS OF BULK AT MOST 1048576: true; the input reads as it did. -/
def nnlsUniqueUptoRow : OpenClaim := { program := "ytfbigmjlppdlhaa", sum := "0df56c55192b1b5435c34e2656bf4daa797609271200dde934da9ea2b4e0f8ab", func := "fringe/fringelaw37.NnlsUnique", spec := "nnlsUnique", inPlace := ["math/bits.Add64", "math/bits.Sub64"], named := ["math/bits.divideError", "math/bits.overflowError"], apart := false, narrowed := true }
def NnlsUniqueUptoSaid : Prop := nnlsUniqueUptoRow.holds Try.pinned (OpenSpec.upto nnlsUniqueSpec)

/-- 'fringelaw37.NnlsExact', WHERE WHAT IT READS IS OF BULK AT MOST 1048576: true; the input reads as it did. -/
def nnlsExactUptoRow : OpenClaim := { program := "ytfbigmjlppdlhaa", sum := "0df56c55192b1b5435c34e2656bf4daa797609271200dde934da9ea2b4e0f8ab", func := "fringe/fringelaw37.NnlsExact", spec := "nnlsExact", inPlace := ["math/bits.Add64", "math/bits.Sub64"], named := ["math/bits.divideError", "math/bits.overflowError"], apart := false, narrowed := true }
def NnlsExactUptoSaid : Prop := nnlsExactUptoRow.holds Try.pinned (OpenSpec.upto nnlsExactSpec)

end Rows
end Go.Proofs.Ytfbigmjlppdlhaa
