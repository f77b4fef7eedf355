/-
  No cell of these rows narrows 'for every input' (looked for: loops, veiled, ifaces, maps, wideKeys, modest, calm, conditions, laid).
  DERIVED. THE GIVEN ROWS OF THIS SEAT. 7 by the template 'for every input the law returns true; each argument reads behind the call as it read before'; 0 by the template 'total and deterministic' (their statements: YtpkggglifahioaaTotals.lean).
  GIVEN WITH THE SEED: the statements are not yours to turn. If you find one false, say at which input.
  Laid BY PROGRAM, IN A SANDBOX (cutbox-rows.mjs): the forced cells as the released guide's own fill.sh prints them over the translation f70aec3ee4693c87… (all of the seat's roots in one cut). By AI agents, Wed Nov 11 2026. No macro, syntax, notation, axiom, sorry.
-/
import Derived.Test.YtpkggglifahioaaChecked
import GoSem.Claim
import GoSem.ClaimJoined
import GoSem.ClaimMapViews
import Derived.JoinedTies
import Derived.KernelRfl
namespace Go.Proofs.Ytpkggglifahioaa
/- THE CELL 'sum', in the pinned program and in every row, IS THE sha256 OF THE DUMP (.gsa) THAT YtpkggglifahioaaProg.lean LOADS. Nothing in Lean hashes anything: it is a label: what it is worth is what the hold of that sum in a sandbox is worth. -/
noncomputable def Try.pinned : Pinned := { name := "ytpkggglifahioaa", sum := "f70aec3ee4693c87bfeae76e5486e727970a55d0cd2cf135663deb8999feff9b", checked := Try.checked }
namespace Rows
def none {H : Type} : Left H := { results := [], args := [] }

/-- 'fringelaw21.FlagMasks': WHATEVER THE INPUT: true; the input reads as it did. -/
def flagMasksSpec : ChangeSpec := { name := "flagMasks", fn := fun _ => fun
  | [d1, d2, d3, d4] => { results := [.lit (.bool true)], args := [d1, d2, d3, d4] }
  | _ => none }
def flagMasksRow : OpenClaim := { program := "ytpkggglifahioaa", sum := "f70aec3ee4693c87bfeae76e5486e727970a55d0cd2cf135663deb8999feff9b", func := "fringe/fringelaw21.FlagMasks", spec := "flagMasks", unfollowed := true, recurses := true, apart := false }
def FlagMasksSaid : Prop := flagMasksRow.holds Try.pinned (OpenSpec.ofChange flagMasksSpec)

/-- ITS FALSE NEIGHBOUR: 'it returns false'. Refute it at one input. -/
def flagMasksWrong : ChangeSpec := { name := "flagMasks", fn := fun _ => fun
  | [d1, d2, d3, d4] => { results := [.lit (.bool false)], args := [d1, d2, d3, d4] }
  | _ => none }
def FlagMasksWrongFalsely : Prop := flagMasksRow.holds Try.pinned (OpenSpec.ofChange flagMasksWrong)

/-- 'fringelaw21.FlagStrings': WHATEVER THE INPUT: true; the input reads as it did. -/
def flagStringsSpec : ChangeSpec := { name := "flagStrings", fn := fun _ => fun
  | [d1, d2] => { results := [.lit (.bool true)], args := [d1, d2] }
  | _ => none }
def flagStringsRow : OpenClaim := { program := "ytpkggglifahioaa", sum := "f70aec3ee4693c87bfeae76e5486e727970a55d0cd2cf135663deb8999feff9b", func := "fringe/fringelaw21.FlagStrings", spec := "flagStrings", inPlace := ["internal/abi.NoEscape", "internal/bytealg.IndexByteString"], apart := false }
def FlagStringsSaid : Prop := flagStringsRow.holds Try.pinned (OpenSpec.ofChange flagStringsSpec)

/-- ITS FALSE NEIGHBOUR: 'it returns false'. Refute it at one input. -/
def flagStringsWrong : ChangeSpec := { name := "flagStrings", fn := fun _ => fun
  | [d1, d2] => { results := [.lit (.bool false)], args := [d1, d2] }
  | _ => none }
def FlagStringsWrongFalsely : Prop := flagStringsRow.holds Try.pinned (OpenSpec.ofChange flagStringsWrong)

/-- 'fringelaw21.FlagFills': WHATEVER THE INPUT: true; the input reads as it did. -/
def flagFillsSpec : ChangeSpec := { name := "flagFills", fn := fun _ => fun
  | [d1, d2, d3] => { results := [.lit (.bool true)], args := [d1, d2, d3] }
  | _ => none }
def flagFillsRow : OpenClaim := { program := "ytpkggglifahioaa", sum := "f70aec3ee4693c87bfeae76e5486e727970a55d0cd2cf135663deb8999feff9b", func := "fringe/fringelaw21.FlagFills", spec := "flagFills", apart := false }
def FlagFillsSaid : Prop := flagFillsRow.holds Try.pinned (OpenSpec.ofChange flagFillsSpec)

/-- ITS FALSE NEIGHBOUR: 'it returns false'. Refute it at one input. -/
def flagFillsWrong : ChangeSpec := { name := "flagFills", fn := fun _ => fun
  | [d1, d2, d3] => { results := [.lit (.bool false)], args := [d1, d2, d3] }
  | _ => none }
def FlagFillsWrongFalsely : Prop := flagFillsRow.holds Try.pinned (OpenSpec.ofChange flagFillsWrong)

/-- 'fringelaw21.FlagCloses': WHATEVER THE INPUT: true; the input reads as it did. -/
def flagClosesSpec : ChangeSpec := { name := "flagCloses", fn := fun _ => fun
  | [d1, d2] => { results := [.lit (.bool true)], args := [d1, d2] }
  | _ => none }
def flagClosesRow : OpenClaim := { program := "ytpkggglifahioaa", sum := "f70aec3ee4693c87bfeae76e5486e727970a55d0cd2cf135663deb8999feff9b", func := "fringe/fringelaw21.FlagCloses", spec := "flagCloses", inPlace := ["internal/bytealg.IndexByteString", "internal/abi.NoEscape"], apart := false }
def FlagClosesSaid : Prop := flagClosesRow.holds Try.pinned (OpenSpec.ofChange flagClosesSpec)

/-- ITS FALSE NEIGHBOUR: 'it returns false'. Refute it at one input. -/
def flagClosesWrong : ChangeSpec := { name := "flagCloses", fn := fun _ => fun
  | [d1, d2] => { results := [.lit (.bool false)], args := [d1, d2] }
  | _ => none }
def FlagClosesWrongFalsely : Prop := flagClosesRow.holds Try.pinned (OpenSpec.ofChange flagClosesWrong)

/-- 'fringelaw21.FlagMore': WHATEVER THE INPUT: true; the input reads as it did. -/
def flagMoreSpec : ChangeSpec := { name := "flagMore", fn := fun _ => fun
  | [d1, d2, d3, d4, d5, d6] => { results := [.lit (.bool true)], args := [d1, d2, d3, d4, d5, d6] }
  | _ => none }
def flagMoreRow : OpenClaim := { program := "ytpkggglifahioaa", sum := "f70aec3ee4693c87bfeae76e5486e727970a55d0cd2cf135663deb8999feff9b", func := "fringe/fringelaw21.FlagMore", spec := "flagMore", inPlace := ["internal/bytealg.IndexByteString", "internal/abi.NoEscape"], unfollowed := true, recurses := true, apart := false }
def FlagMoreSaid : Prop := flagMoreRow.holds Try.pinned (OpenSpec.ofChange flagMoreSpec)

/-- ITS FALSE NEIGHBOUR: 'it returns false'. Refute it at one input. -/
def flagMoreWrong : ChangeSpec := { name := "flagMore", fn := fun _ => fun
  | [d1, d2, d3, d4, d5, d6] => { results := [.lit (.bool false)], args := [d1, d2, d3, d4, d5, d6] }
  | _ => none }
def FlagMoreWrongFalsely : Prop := flagMoreRow.holds Try.pinned (OpenSpec.ofChange flagMoreWrong)

/-- 'fringelaw21.FlagGrows': WHATEVER THE INPUT: true; the input reads as it did. -/
def flagGrowsSpec : ChangeSpec := { name := "flagGrows", fn := fun _ => fun
  | [d1, d2, d3, d4, d5, d6] => { results := [.lit (.bool true)], args := [d1, d2, d3, d4, d5, d6] }
  | _ => none }
def flagGrowsRow : OpenClaim := { program := "ytpkggglifahioaa", sum := "f70aec3ee4693c87bfeae76e5486e727970a55d0cd2cf135663deb8999feff9b", func := "fringe/fringelaw21.FlagGrows", spec := "flagGrows", inPlace := ["internal/bytealg.IndexByteString", "internal/abi.NoEscape"], unfollowed := true, recurses := true, apart := false }
def FlagGrowsSaid : Prop := flagGrowsRow.holds Try.pinned (OpenSpec.ofChange flagGrowsSpec)

/-- ITS FALSE NEIGHBOUR: 'it returns false'. Refute it at one input. -/
def flagGrowsWrong : ChangeSpec := { name := "flagGrows", fn := fun _ => fun
  | [d1, d2, d3, d4, d5, d6] => { results := [.lit (.bool false)], args := [d1, d2, d3, d4, d5, d6] }
  | _ => none }
def FlagGrowsWrongFalsely : Prop := flagGrowsRow.holds Try.pinned (OpenSpec.ofChange flagGrowsWrong)

/-- 'fringelaw21.FlagNames': WHATEVER THE INPUT: true; the input reads as it did. -/
def flagNamesSpec : ChangeSpec := { name := "flagNames", fn := fun _ => fun
  | [] => { results := [.lit (.bool true)], args := [] }
  | _ => none }
def flagNamesRow : OpenClaim := { program := "ytpkggglifahioaa", sum := "f70aec3ee4693c87bfeae76e5486e727970a55d0cd2cf135663deb8999feff9b", func := "fringe/fringelaw21.FlagNames", spec := "flagNames", inPlace := ["internal/bytealg.IndexByteString", "internal/abi.NoEscape"], unfollowed := true, recurses := true, apart := false }
def FlagNamesSaid : Prop := flagNamesRow.holds Try.pinned (OpenSpec.ofChange flagNamesSpec)

/-- ITS FALSE NEIGHBOUR: 'it returns false'. Refute it at one input. -/
def flagNamesWrong : ChangeSpec := { name := "flagNames", fn := fun _ => fun
  | [] => { results := [.lit (.bool false)], args := [] }
  | _ => none }
def FlagNamesWrongFalsely : Prop := flagNamesRow.holds Try.pinned (OpenSpec.ofChange flagNamesWrong)

/- THE SECOND FORM. 'bulk': how many values and letters a reading holds, each counted each time it is reached (what is shared counts as often as it is met; a slice's spare places count too). A statement '..UptoSaid' is the law's where the arguments, and the package variables that the reading takes, are together of bulk at most 1048576: NARROWER than '..Said'. Prove '..Said' where nothing that the law and all that it calls make is longer than what came in: it says more and counts as full. Else prove '..UptoSaid'. A law counts once. -/
mutual
def uptoBulk {H : Type} : DataW H → Nat
  | .lit (.string bytes) => bytes.length + 1
  | .lit _ => 1
  | .nil => 1
  | .ptr d => uptoBulk d + 1
  | .slice elems spare => uptoBulkAll elems + uptoBulkAll spare + 1
  | .agg parts => uptoBulkAll parts + 1
  | .iface _ d => uptoBulk d + 1
  | .map entries => uptoBulkEntries entries + 1
  | .held _ => 1
def uptoBulkAll {H : Type} : List (DataW H) → Nat
  | [] => 0
  | d :: r => uptoBulk d + uptoBulkAll r
def uptoBulkEntries {H : Type} : List (Lit × DataW H) → Nat
  | [] => 0
  | x :: r => uptoBulkEntry x + uptoBulkEntries r
def uptoBulkEntry {H : Type} : Lit × DataW H → Nat
  | (.string bytes, d) => bytes.length + uptoBulk d + 1
  | (_, d) => uptoBulk d + 1
 end
def uptoSmall : (H : Type) → List (DataW H) → Bool := fun _ ds => decide (uptoBulkAll ds ≤ 1048576)
def OpenSpec.upto (s : _root_.Go.ChangeSpec) : _root_.Go.OpenSpec := { _root_.Go.OpenSpec.ofChange s with cond := some uptoSmall }

/-- 'fringelaw21.FlagMasks', WHERE WHAT IT READS IS OF BULK AT MOST 1048576: true; the input reads as it did. -/
def flagMasksUptoRow : OpenClaim := { program := "ytpkggglifahioaa", sum := "f70aec3ee4693c87bfeae76e5486e727970a55d0cd2cf135663deb8999feff9b", func := "fringe/fringelaw21.FlagMasks", spec := "flagMasks", unfollowed := true, recurses := true, apart := false, narrowed := true }
def FlagMasksUptoSaid : Prop := flagMasksUptoRow.holds Try.pinned (OpenSpec.upto flagMasksSpec)

/-- 'fringelaw21.FlagStrings', WHERE WHAT IT READS IS OF BULK AT MOST 1048576: true; the input reads as it did. -/
def flagStringsUptoRow : OpenClaim := { program := "ytpkggglifahioaa", sum := "f70aec3ee4693c87bfeae76e5486e727970a55d0cd2cf135663deb8999feff9b", func := "fringe/fringelaw21.FlagStrings", spec := "flagStrings", inPlace := ["internal/abi.NoEscape", "internal/bytealg.IndexByteString"], apart := false, narrowed := true }
def FlagStringsUptoSaid : Prop := flagStringsUptoRow.holds Try.pinned (OpenSpec.upto flagStringsSpec)

/-- 'fringelaw21.FlagFills', WHERE WHAT IT READS IS OF BULK AT MOST 1048576: true; the input reads as it did. -/
def flagFillsUptoRow : OpenClaim := { program := "ytpkggglifahioaa", sum := "f70aec3ee4693c87bfeae76e5486e727970a55d0cd2cf135663deb8999feff9b", func := "fringe/fringelaw21.FlagFills", spec := "flagFills", apart := false, narrowed := true }
def FlagFillsUptoSaid : Prop := flagFillsUptoRow.holds Try.pinned (OpenSpec.upto flagFillsSpec)

/-- 'fringelaw21.FlagCloses', WHERE WHAT IT READS IS OF BULK AT MOST 1048576: true; the input reads as it did. -/
def flagClosesUptoRow : OpenClaim := { program := "ytpkggglifahioaa", sum := "f70aec3ee4693c87bfeae76e5486e727970a55d0cd2cf135663deb8999feff9b", func := "fringe/fringelaw21.FlagCloses", spec := "flagCloses", inPlace := ["internal/bytealg.IndexByteString", "internal/abi.NoEscape"], apart := false, narrowed := true }
def FlagClosesUptoSaid : Prop := flagClosesUptoRow.holds Try.pinned (OpenSpec.upto flagClosesSpec)

/-- 'fringelaw21.FlagMore', WHERE WHAT IT READS IS OF BULK AT MOST 1048576: true; the input reads as it did. -/
def flagMoreUptoRow : OpenClaim := { program := "ytpkggglifahioaa", sum := "f70aec3ee4693c87bfeae76e5486e727970a55d0cd2cf135663deb8999feff9b", func := "fringe/fringelaw21.FlagMore", spec := "flagMore", inPlace := ["internal/bytealg.IndexByteString", "internal/abi.NoEscape"], unfollowed := true, recurses := true, apart := false, narrowed := true }
def FlagMoreUptoSaid : Prop := flagMoreUptoRow.holds Try.pinned (OpenSpec.upto flagMoreSpec)

/-- 'fringelaw21.FlagGrows', WHERE WHAT IT READS IS OF BULK AT MOST 1048576: true; the input reads as it did. -/
def flagGrowsUptoRow : OpenClaim := { program := "ytpkggglifahioaa", sum := "f70aec3ee4693c87bfeae76e5486e727970a55d0cd2cf135663deb8999feff9b", func := "fringe/fringelaw21.FlagGrows", spec := "flagGrows", inPlace := ["internal/bytealg.IndexByteString", "internal/abi.NoEscape"], unfollowed := true, recurses := true, apart := false, narrowed := true }
def FlagGrowsUptoSaid : Prop := flagGrowsUptoRow.holds Try.pinned (OpenSpec.upto flagGrowsSpec)

/-- 'fringelaw21.FlagNames', WHERE WHAT IT READS IS OF BULK AT MOST 1048576: true; the input reads as it did. -/
def flagNamesUptoRow : OpenClaim := { program := "ytpkggglifahioaa", sum := "f70aec3ee4693c87bfeae76e5486e727970a55d0cd2cf135663deb8999feff9b", func := "fringe/fringelaw21.FlagNames", spec := "flagNames", inPlace := ["internal/bytealg.IndexByteString", "internal/abi.NoEscape"], unfollowed := true, recurses := true, apart := false, narrowed := true }
def FlagNamesUptoSaid : Prop := flagNamesUptoRow.holds Try.pinned (OpenSpec.upto flagNamesSpec)

end Rows
end Go.Proofs.Ytpkggglifahioaa
