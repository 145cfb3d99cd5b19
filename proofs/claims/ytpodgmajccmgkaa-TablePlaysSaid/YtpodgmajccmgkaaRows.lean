/-
  No cell of these rows narrows 'for every input' (looked for: loops, veiled, ifaces, maps, wideKeys, modest, calm, conditions, laid).
  DERIVED. THE GIVEN ROWS OF THIS SEAT. 7 by the template 'for every input the law returns true; each argument reads behind the call as it read before'; 0 by the template 'total and deterministic' (their statements: YtpodgmajccmgkaaTotals.lean).
  GIVEN WITH THE SEED: the statements are not yours to turn. If you find one false, say at which input.
  Laid BY PROGRAM, IN A SANDBOX (cutbox-rows.mjs): the forced cells as the released guide's own fill.sh prints them over the translation 805c8315f79dfd4a… (all of the seat's roots in one cut). By AI agents, Wed Nov 11 2026. No macro, syntax, notation, axiom, sorry.
-/
import Derived.Test.YtpodgmajccmgkaaChecked
import GoSem.Claim
import GoSem.ClaimJoined
import GoSem.ClaimMapViews
import Derived.JoinedTies
import Derived.KernelRfl
namespace Go.Proofs.Ytpodgmajccmgkaa
/- THE CELL 'sum', in the pinned program and in every row, IS THE sha256 OF THE DUMP (.gsa) THAT YtpodgmajccmgkaaProg.lean LOADS. Nothing in Lean hashes anything: it is a label: what it is worth is what the hold of that sum in a sandbox is worth. -/
noncomputable def Try.pinned : Pinned := { name := "ytpodgmajccmgkaa", sum := "805c8315f79dfd4a4bf0a37e5a1a8c7b8bab2888ff7ddcfc03120e14aa0e96fa", checked := Try.checked }
namespace Rows
def none {H : Type} : Left H := { results := [], args := [] }

/-- 'heirloomlaw06.TableNext': WHATEVER THE INPUT: true; the input reads as it did. -/
def tableNextSpec : ChangeSpec := { name := "tableNext", fn := fun _ => fun
  | [d] => { results := [.lit (.bool true)], args := [d] }
  | _ => none }
def tableNextRow : OpenClaim := { program := "ytpodgmajccmgkaa", sum := "805c8315f79dfd4a4bf0a37e5a1a8c7b8bab2888ff7ddcfc03120e14aa0e96fa", func := "heirloom/heirloomlaw06.TableNext", spec := "tableNext", inPlace := ["math.Float64frombits", "math.Float64bits"], unfollowed := true, recurses := true, apart := false }
def TableNextSaid : Prop := tableNextRow.holds Try.pinned (OpenSpec.ofChange tableNextSpec)

/-- ITS FALSE NEIGHBOUR: 'it returns false'. Refute it at one input. -/
def tableNextWrong : ChangeSpec := { name := "tableNext", fn := fun _ => fun
  | [d] => { results := [.lit (.bool false)], args := [d] }
  | _ => none }
def TableNextWrongFalsely : Prop := tableNextRow.holds Try.pinned (OpenSpec.ofChange tableNextWrong)

/-- 'heirloomlaw06.TableEmptied': WHATEVER THE INPUT: true; the input reads as it did. -/
def tableEmptiedSpec : ChangeSpec := { name := "tableEmptied", fn := fun _ => fun
  | [d] => { results := [.lit (.bool true)], args := [d] }
  | _ => none }
def tableEmptiedRow : OpenClaim := { program := "ytpodgmajccmgkaa", sum := "805c8315f79dfd4a4bf0a37e5a1a8c7b8bab2888ff7ddcfc03120e14aa0e96fa", func := "heirloom/heirloomlaw06.TableEmptied", spec := "tableEmptied", inPlace := ["math.Float64frombits", "math.Float64bits"], unfollowed := true, recurses := true, apart := false }
def TableEmptiedSaid : Prop := tableEmptiedRow.holds Try.pinned (OpenSpec.ofChange tableEmptiedSpec)

/-- ITS FALSE NEIGHBOUR: 'it returns false'. Refute it at one input. -/
def tableEmptiedWrong : ChangeSpec := { name := "tableEmptied", fn := fun _ => fun
  | [d] => { results := [.lit (.bool false)], args := [d] }
  | _ => none }
def TableEmptiedWrongFalsely : Prop := tableEmptiedRow.holds Try.pinned (OpenSpec.ofChange tableEmptiedWrong)

/-- 'heirloomlaw06.TableLen': WHATEVER THE INPUT: true; the input reads as it did. -/
def tableLenSpec : ChangeSpec := { name := "tableLen", fn := fun _ => fun
  | [d] => { results := [.lit (.bool true)], args := [d] }
  | _ => none }
def tableLenRow : OpenClaim := { program := "ytpodgmajccmgkaa", sum := "805c8315f79dfd4a4bf0a37e5a1a8c7b8bab2888ff7ddcfc03120e14aa0e96fa", func := "heirloom/heirloomlaw06.TableLen", spec := "tableLen", inPlace := ["math.Float64frombits", "math.Float64bits"], unfollowed := true, recurses := true, apart := false }
def TableLenSaid : Prop := tableLenRow.holds Try.pinned (OpenSpec.ofChange tableLenSpec)

/-- ITS FALSE NEIGHBOUR: 'it returns false'. Refute it at one input. -/
def tableLenWrong : ChangeSpec := { name := "tableLen", fn := fun _ => fun
  | [d] => { results := [.lit (.bool false)], args := [d] }
  | _ => none }
def TableLenWrongFalsely : Prop := tableLenRow.holds Try.pinned (OpenSpec.ofChange tableLenWrong)

/-- 'heirloomlaw06.TableSizes': WHATEVER THE INPUT: true; the input reads as it did. -/
def tableSizesSpec : ChangeSpec := { name := "tableSizes", fn := fun _ => fun
  | [d] => { results := [.lit (.bool true)], args := [d] }
  | _ => none }
def tableSizesRow : OpenClaim := { program := "ytpodgmajccmgkaa", sum := "805c8315f79dfd4a4bf0a37e5a1a8c7b8bab2888ff7ddcfc03120e14aa0e96fa", func := "heirloom/heirloomlaw06.TableSizes", spec := "tableSizes", inPlace := ["math.Float64frombits", "math.Float64bits"], unfollowed := true, recurses := true, apart := false }
def TableSizesSaid : Prop := tableSizesRow.holds Try.pinned (OpenSpec.ofChange tableSizesSpec)

/-- ITS FALSE NEIGHBOUR: 'it returns false'. Refute it at one input. -/
def tableSizesWrong : ChangeSpec := { name := "tableSizes", fn := fun _ => fun
  | [d] => { results := [.lit (.bool false)], args := [d] }
  | _ => none }
def TableSizesWrongFalsely : Prop := tableSizesRow.holds Try.pinned (OpenSpec.ofChange tableSizesWrong)

/-- 'heirloomlaw06.TableFull': WHATEVER THE INPUT: true; the input reads as it did. -/
def tableFullSpec : ChangeSpec := { name := "tableFull", fn := fun _ => fun
  | [d1, d2] => { results := [.lit (.bool true)], args := [d1, d2] }
  | _ => none }
def tableFullRow : OpenClaim := { program := "ytpodgmajccmgkaa", sum := "805c8315f79dfd4a4bf0a37e5a1a8c7b8bab2888ff7ddcfc03120e14aa0e96fa", func := "heirloom/heirloomlaw06.TableFull", spec := "tableFull", inPlace := ["math.Float64frombits", "math.Float64bits"], unfollowed := true, recurses := true, apart := false }
def TableFullSaid : Prop := tableFullRow.holds Try.pinned (OpenSpec.ofChange tableFullSpec)

/-- ITS FALSE NEIGHBOUR: 'it returns false'. Refute it at one input. -/
def tableFullWrong : ChangeSpec := { name := "tableFull", fn := fun _ => fun
  | [d1, d2] => { results := [.lit (.bool false)], args := [d1, d2] }
  | _ => none }
def TableFullWrongFalsely : Prop := tableFullRow.holds Try.pinned (OpenSpec.ofChange tableFullWrong)

/-- 'heirloomlaw06.TablePlays': WHATEVER THE INPUT: true; the input reads as it did. -/
def tablePlaysSpec : ChangeSpec := { name := "tablePlays", fn := fun _ => fun
  | [d1, d2] => { results := [.lit (.bool true)], args := [d1, d2] }
  | _ => none }
def tablePlaysRow : OpenClaim := { program := "ytpodgmajccmgkaa", sum := "805c8315f79dfd4a4bf0a37e5a1a8c7b8bab2888ff7ddcfc03120e14aa0e96fa", func := "heirloom/heirloomlaw06.TablePlays", spec := "tablePlays", inPlace := ["math.Float64frombits", "math.Float64bits"], unfollowed := true, recurses := true, apart := false }
def TablePlaysSaid : Prop := tablePlaysRow.holds Try.pinned (OpenSpec.ofChange tablePlaysSpec)

/-- ITS FALSE NEIGHBOUR: 'it returns false'. Refute it at one input. -/
def tablePlaysWrong : ChangeSpec := { name := "tablePlays", fn := fun _ => fun
  | [d1, d2] => { results := [.lit (.bool false)], args := [d1, d2] }
  | _ => none }
def TablePlaysWrongFalsely : Prop := tablePlaysRow.holds Try.pinned (OpenSpec.ofChange tablePlaysWrong)

/-- 'heirloomlaw06.TableNil': WHATEVER THE INPUT: true; the input reads as it did. -/
def tableNilSpec : ChangeSpec := { name := "tableNil", fn := fun _ => fun
  | [d1, d2, d3] => { results := [.lit (.bool true)], args := [d1, d2, d3] }
  | _ => none }
def tableNilRow : OpenClaim := { program := "ytpodgmajccmgkaa", sum := "805c8315f79dfd4a4bf0a37e5a1a8c7b8bab2888ff7ddcfc03120e14aa0e96fa", func := "heirloom/heirloomlaw06.TableNil", spec := "tableNil", inPlace := ["math.Float64frombits", "math.Float64bits"], unfollowed := true, recurses := true, apart := false }
def TableNilSaid : Prop := tableNilRow.holds Try.pinned (OpenSpec.ofChange tableNilSpec)

/-- ITS FALSE NEIGHBOUR: 'it returns false'. Refute it at one input. -/
def tableNilWrong : ChangeSpec := { name := "tableNil", fn := fun _ => fun
  | [d1, d2, d3] => { results := [.lit (.bool false)], args := [d1, d2, d3] }
  | _ => none }
def TableNilWrongFalsely : Prop := tableNilRow.holds Try.pinned (OpenSpec.ofChange tableNilWrong)

/- THE SECOND FORM. 'bulk': how many values and letters a reading holds, each counted each time it is reached (what is shared counts as often as it is met; a slice's spare places count too). A statement '..UptoSaid' is the law's where the arguments, and the package variables that the reading takes, are together of bulk at most 1048576: NARROWER than '..Said'. Prove '..Said' where nothing that the law and all that it calls make is longer than what came in: it says more and counts as full. Else prove '..UptoSaid'. A law counts once. -/
mutual
def uptoBulk {H : Type} : DataW H → Nat
  | .lit (.string bytes) => bytes.length + 1
  | .lit _ => 1
  | .nil => 1
  | .ptr d => uptoBulk d + 1
  | .slice elems spare => uptoBulkAll elems + uptoBulkAll spare + 1
  | .agg parts => uptoBulkAll parts + 1
  | .iface _ d => uptoBulk d + 1
  | .map entries => uptoBulkEntries entries + 1
  | .held _ => 1
def uptoBulkAll {H : Type} : List (DataW H) → Nat
  | [] => 0
  | d :: r => uptoBulk d + uptoBulkAll r
def uptoBulkEntries {H : Type} : List (Lit × DataW H) → Nat
  | [] => 0
  | x :: r => uptoBulkEntry x + uptoBulkEntries r
def uptoBulkEntry {H : Type} : Lit × DataW H → Nat
  | (.string bytes, d) => bytes.length + uptoBulk d + 1
  | (_, d) => uptoBulk d + 1
 end
def uptoSmall : (H : Type) → List (DataW H) → Bool := fun _ ds => decide (uptoBulkAll ds ≤ 1048576)
def OpenSpec.upto (s : _root_.Go.ChangeSpec) : _root_.Go.OpenSpec := { _root_.Go.OpenSpec.ofChange s with cond := some uptoSmall }

/-- 'heirloomlaw06.TableNext', WHERE WHAT IT READS IS OF BULK AT MOST 1048576: true; the input reads as it did. -/
def tableNextUptoRow : OpenClaim := { program := "ytpodgmajccmgkaa", sum := "805c8315f79dfd4a4bf0a37e5a1a8c7b8bab2888ff7ddcfc03120e14aa0e96fa", func := "heirloom/heirloomlaw06.TableNext", spec := "tableNext", inPlace := ["math.Float64frombits", "math.Float64bits"], unfollowed := true, recurses := true, apart := false, narrowed := true }
def TableNextUptoSaid : Prop := tableNextUptoRow.holds Try.pinned (OpenSpec.upto tableNextSpec)

/-- 'heirloomlaw06.TableEmptied', WHERE WHAT IT READS IS OF BULK AT MOST 1048576: true; the input reads as it did. -/
def tableEmptiedUptoRow : OpenClaim := { program := "ytpodgmajccmgkaa", sum := "805c8315f79dfd4a4bf0a37e5a1a8c7b8bab2888ff7ddcfc03120e14aa0e96fa", func := "heirloom/heirloomlaw06.TableEmptied", spec := "tableEmptied", inPlace := ["math.Float64frombits", "math.Float64bits"], unfollowed := true, recurses := true, apart := false, narrowed := true }
def TableEmptiedUptoSaid : Prop := tableEmptiedUptoRow.holds Try.pinned (OpenSpec.upto tableEmptiedSpec)

/-- 'heirloomlaw06.TableLen', WHERE WHAT IT READS IS OF BULK AT MOST 1048576: true; the input reads as it did. -/
def tableLenUptoRow : OpenClaim := { program := "ytpodgmajccmgkaa", sum := "805c8315f79dfd4a4bf0a37e5a1a8c7b8bab2888ff7ddcfc03120e14aa0e96fa", func := "heirloom/heirloomlaw06.TableLen", spec := "tableLen", inPlace := ["math.Float64frombits", "math.Float64bits"], unfollowed := true, recurses := true, apart := false, narrowed := true }
def TableLenUptoSaid : Prop := tableLenUptoRow.holds Try.pinned (OpenSpec.upto tableLenSpec)

/-- 'heirloomlaw06.TableSizes', WHERE WHAT IT READS IS OF BULK AT MOST 1048576: true; the input reads as it did. -/
def tableSizesUptoRow : OpenClaim := { program := "ytpodgmajccmgkaa", sum := "805c8315f79dfd4a4bf0a37e5a1a8c7b8bab2888ff7ddcfc03120e14aa0e96fa", func := "heirloom/heirloomlaw06.TableSizes", spec := "tableSizes", inPlace := ["math.Float64frombits", "math.Float64bits"], unfollowed := true, recurses := true, apart := false, narrowed := true }
def TableSizesUptoSaid : Prop := tableSizesUptoRow.holds Try.pinned (OpenSpec.upto tableSizesSpec)

/-- 'heirloomlaw06.TableFull', WHERE WHAT IT READS IS OF BULK AT MOST 1048576: true; the input reads as it did. -/
def tableFullUptoRow : OpenClaim := { program := "ytpodgmajccmgkaa", sum := "805c8315f79dfd4a4bf0a37e5a1a8c7b8bab2888ff7ddcfc03120e14aa0e96fa", func := "heirloom/heirloomlaw06.TableFull", spec := "tableFull", inPlace := ["math.Float64frombits", "math.Float64bits"], unfollowed := true, recurses := true, apart := false, narrowed := true }
def TableFullUptoSaid : Prop := tableFullUptoRow.holds Try.pinned (OpenSpec.upto tableFullSpec)

/-- 'heirloomlaw06.TablePlays', WHERE WHAT IT READS IS OF BULK AT MOST 1048576: true; the input reads as it did. -/
def tablePlaysUptoRow : OpenClaim := { program := "ytpodgmajccmgkaa", sum := "805c8315f79dfd4a4bf0a37e5a1a8c7b8bab2888ff7ddcfc03120e14aa0e96fa", func := "heirloom/heirloomlaw06.TablePlays", spec := "tablePlays", inPlace := ["math.Float64frombits", "math.Float64bits"], unfollowed := true, recurses := true, apart := false, narrowed := true }
def TablePlaysUptoSaid : Prop := tablePlaysUptoRow.holds Try.pinned (OpenSpec.upto tablePlaysSpec)

/-- 'heirloomlaw06.TableNil', WHERE WHAT IT READS IS OF BULK AT MOST 1048576: true; the input reads as it did. -/
def tableNilUptoRow : OpenClaim := { program := "ytpodgmajccmgkaa", sum := "805c8315f79dfd4a4bf0a37e5a1a8c7b8bab2888ff7ddcfc03120e14aa0e96fa", func := "heirloom/heirloomlaw06.TableNil", spec := "tableNil", inPlace := ["math.Float64frombits", "math.Float64bits"], unfollowed := true, recurses := true, apart := false, narrowed := true }
def TableNilUptoSaid : Prop := tableNilUptoRow.holds Try.pinned (OpenSpec.upto tableNilSpec)

end Rows
end Go.Proofs.Ytpodgmajccmgkaa
