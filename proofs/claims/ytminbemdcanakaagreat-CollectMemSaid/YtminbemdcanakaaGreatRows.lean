/-
  No cell of these rows narrows 'for every input' (looked for: loops, veiled, ifaces, maps, wideKeys, modest, calm, conditions, laid).
  DERIVED. THE GIVEN ROWS OF THIS SEAT. 12 by the template 'for every input the law returns true; each argument reads behind the call as it read before'; 0 by the template 'total and deterministic' (their statements: YtminbemdcanakaaGreatTotals.lean).
  GIVEN WITH THE SEED: the statements are not yours to turn. If you find one false, say at which input.
  Laid BY PROGRAM, IN A SANDBOX (cutbox-rows.mjs): the forced cells as the released guide's own fill.sh prints them over the translation 177597caf9df9fb9… (all of the seat's roots in one cut). By AI agents, Wed Nov 11 2026. No macro, syntax, notation, axiom, sorry.
-/
import Derived.Test.YtminbemdcanakaaGreatChecked
import GoSem.Claim
import GoSem.ClaimJoined
import GoSem.ClaimMapViews
import Derived.JoinedTies
import Derived.KernelRfl
namespace Go.Proofs.YtminbemdcanakaaGreat
/- THE CELL 'sum', in the pinned program and in every row, IS THE sha256 OF THE DUMP (.gsa) THAT YtminbemdcanakaaGreatProg.lean LOADS. Nothing in Lean hashes anything: it is a label: what it is worth is what the hold of that sum in a sandbox is worth. -/
noncomputable def Tryz.pinned : Pinned := { name := "ytminbemdcanakaagreat", sum := "177597caf9df9fb90ff37b351ac3032542e4d3745ed77f1263c5ea2d49d4374f", checked := Tryz.checked }
namespace Rows
def none {H : Type} : Left H := { results := [], args := [] }

/-- 'heirloomlaw13.CollectMem': WHATEVER THE INPUT: true; the input reads as it did. -/
def collectMemSpec : ChangeSpec := { name := "collectMem", fn := fun _ => fun
  | [d1, d2] => { results := [.lit (.bool true)], args := [d1, d2] }
  | _ => none }
def collectMemRow : OpenClaim := { program := "ytminbemdcanakaagreat", sum := "177597caf9df9fb90ff37b351ac3032542e4d3745ed77f1263c5ea2d49d4374f", func := "heirloom/heirloomlaw13.CollectMem", spec := "collectMem", unfollowed := true, recurses := true, plainKeys := false, apart := false }
def CollectMemSaid : Prop := collectMemRow.holds Tryz.pinned (OpenSpec.ofChange collectMemSpec)

/-- ITS FALSE NEIGHBOUR: 'it returns false'. Refute it at one input. -/
def collectMemWrong : ChangeSpec := { name := "collectMem", fn := fun _ => fun
  | [d1, d2] => { results := [.lit (.bool false)], args := [d1, d2] }
  | _ => none }
def CollectMemWrongFalsely : Prop := collectMemRow.holds Tryz.pinned (OpenSpec.ofChange collectMemWrong)

/-- 'heirloomlaw13.CollectFull': WHATEVER THE INPUT: true; the input reads as it did. -/
def collectFullSpec : ChangeSpec := { name := "collectFull", fn := fun _ => fun
  | [d1, d2] => { results := [.lit (.bool true)], args := [d1, d2] }
  | _ => none }
def collectFullRow : OpenClaim := { program := "ytminbemdcanakaagreat", sum := "177597caf9df9fb90ff37b351ac3032542e4d3745ed77f1263c5ea2d49d4374f", func := "heirloom/heirloomlaw13.CollectFull", spec := "collectFull", unfollowed := true, recurses := true, plainKeys := false, apart := false }
def CollectFullSaid : Prop := collectFullRow.holds Tryz.pinned (OpenSpec.ofChange collectFullSpec)

/-- ITS FALSE NEIGHBOUR: 'it returns false'. Refute it at one input. -/
def collectFullWrong : ChangeSpec := { name := "collectFull", fn := fun _ => fun
  | [d1, d2] => { results := [.lit (.bool false)], args := [d1, d2] }
  | _ => none }
def CollectFullWrongFalsely : Prop := collectFullRow.holds Tryz.pinned (OpenSpec.ofChange collectFullWrong)

/-- 'heirloomlaw13.CollectPlays': WHATEVER THE INPUT: true; the input reads as it did. -/
def collectPlaysSpec : ChangeSpec := { name := "collectPlays", fn := fun _ => fun
  | [d1, d2] => { results := [.lit (.bool true)], args := [d1, d2] }
  | _ => none }
def collectPlaysRow : OpenClaim := { program := "ytminbemdcanakaagreat", sum := "177597caf9df9fb90ff37b351ac3032542e4d3745ed77f1263c5ea2d49d4374f", func := "heirloom/heirloomlaw13.CollectPlays", spec := "collectPlays", unfollowed := true, recurses := true, plainKeys := false, apart := false }
def CollectPlaysSaid : Prop := collectPlaysRow.holds Tryz.pinned (OpenSpec.ofChange collectPlaysSpec)

/-- ITS FALSE NEIGHBOUR: 'it returns false'. Refute it at one input. -/
def collectPlaysWrong : ChangeSpec := { name := "collectPlays", fn := fun _ => fun
  | [d1, d2] => { results := [.lit (.bool false)], args := [d1, d2] }
  | _ => none }
def CollectPlaysWrongFalsely : Prop := collectPlaysRow.holds Tryz.pinned (OpenSpec.ofChange collectPlaysWrong)

/-- 'heirloomlaw13.CollectKeeps': WHATEVER THE INPUT: true; the input reads as it did. -/
def collectKeepsSpec : ChangeSpec := { name := "collectKeeps", fn := fun _ => fun
  | [d1, d2] => { results := [.lit (.bool true)], args := [d1, d2] }
  | _ => none }
def collectKeepsRow : OpenClaim := { program := "ytminbemdcanakaagreat", sum := "177597caf9df9fb90ff37b351ac3032542e4d3745ed77f1263c5ea2d49d4374f", func := "heirloom/heirloomlaw13.CollectKeeps", spec := "collectKeeps", unfollowed := true, recurses := true, plainKeys := false, apart := false }
def CollectKeepsSaid : Prop := collectKeepsRow.holds Tryz.pinned (OpenSpec.ofChange collectKeepsSpec)

/-- ITS FALSE NEIGHBOUR: 'it returns false'. Refute it at one input. -/
def collectKeepsWrong : ChangeSpec := { name := "collectKeeps", fn := fun _ => fun
  | [d1, d2] => { results := [.lit (.bool false)], args := [d1, d2] }
  | _ => none }
def CollectKeepsWrongFalsely : Prop := collectKeepsRow.holds Tryz.pinned (OpenSpec.ofChange collectKeepsWrong)

/-- 'heirloomlaw13.CollectCycle': WHATEVER THE INPUT: true; the input reads as it did. -/
def collectCycleSpec : ChangeSpec := { name := "collectCycle", fn := fun _ => fun
  | [d1, d2, d3] => { results := [.lit (.bool true)], args := [d1, d2, d3] }
  | _ => none }
def collectCycleRow : OpenClaim := { program := "ytminbemdcanakaagreat", sum := "177597caf9df9fb90ff37b351ac3032542e4d3745ed77f1263c5ea2d49d4374f", func := "heirloom/heirloomlaw13.CollectCycle", spec := "collectCycle", unfollowed := true, recurses := true, plainKeys := false, apart := false }
def CollectCycleSaid : Prop := collectCycleRow.holds Tryz.pinned (OpenSpec.ofChange collectCycleSpec)

/-- ITS FALSE NEIGHBOUR: 'it returns false'. Refute it at one input. -/
def collectCycleWrong : ChangeSpec := { name := "collectCycle", fn := fun _ => fun
  | [d1, d2, d3] => { results := [.lit (.bool false)], args := [d1, d2, d3] }
  | _ => none }
def CollectCycleWrongFalsely : Prop := collectCycleRow.holds Tryz.pinned (OpenSpec.ofChange collectCycleWrong)

/-- 'heirloomlaw13.CollectYoung': WHATEVER THE INPUT: true; the input reads as it did. -/
def collectYoungSpec : ChangeSpec := { name := "collectYoung", fn := fun _ => fun
  | [d1, d2] => { results := [.lit (.bool true)], args := [d1, d2] }
  | _ => none }
def collectYoungRow : OpenClaim := { program := "ytminbemdcanakaagreat", sum := "177597caf9df9fb90ff37b351ac3032542e4d3745ed77f1263c5ea2d49d4374f", func := "heirloom/heirloomlaw13.CollectYoung", spec := "collectYoung", unfollowed := true, recurses := true, plainKeys := false, apart := false }
def CollectYoungSaid : Prop := collectYoungRow.holds Tryz.pinned (OpenSpec.ofChange collectYoungSpec)

/-- ITS FALSE NEIGHBOUR: 'it returns false'. Refute it at one input. -/
def collectYoungWrong : ChangeSpec := { name := "collectYoung", fn := fun _ => fun
  | [d1, d2] => { results := [.lit (.bool false)], args := [d1, d2] }
  | _ => none }
def CollectYoungWrongFalsely : Prop := collectYoungRow.holds Tryz.pinned (OpenSpec.ofChange collectYoungWrong)

/-- 'heirloomlaw13.CollectTwice': WHATEVER THE INPUT: true; the input reads as it did. -/
def collectTwiceSpec : ChangeSpec := { name := "collectTwice", fn := fun _ => fun
  | [d1, d2] => { results := [.lit (.bool true)], args := [d1, d2] }
  | _ => none }
def collectTwiceRow : OpenClaim := { program := "ytminbemdcanakaagreat", sum := "177597caf9df9fb90ff37b351ac3032542e4d3745ed77f1263c5ea2d49d4374f", func := "heirloom/heirloomlaw13.CollectTwice", spec := "collectTwice", unfollowed := true, recurses := true, plainKeys := false, apart := false }
def CollectTwiceSaid : Prop := collectTwiceRow.holds Tryz.pinned (OpenSpec.ofChange collectTwiceSpec)

/-- ITS FALSE NEIGHBOUR: 'it returns false'. Refute it at one input. -/
def collectTwiceWrong : ChangeSpec := { name := "collectTwice", fn := fun _ => fun
  | [d1, d2] => { results := [.lit (.bool false)], args := [d1, d2] }
  | _ => none }
def CollectTwiceWrongFalsely : Prop := collectTwiceRow.holds Tryz.pinned (OpenSpec.ofChange collectTwiceWrong)

/-- 'heirloomlaw13.CollectFins': WHATEVER THE INPUT: true; the input reads as it did. -/
def collectFinsSpec : ChangeSpec := { name := "collectFins", fn := fun _ => fun
  | [d1, d2] => { results := [.lit (.bool true)], args := [d1, d2] }
  | _ => none }
def collectFinsRow : OpenClaim := { program := "ytminbemdcanakaagreat", sum := "177597caf9df9fb90ff37b351ac3032542e4d3745ed77f1263c5ea2d49d4374f", func := "heirloom/heirloomlaw13.CollectFins", spec := "collectFins", unfollowed := true, recurses := true, plainKeys := false, apart := false }
def CollectFinsSaid : Prop := collectFinsRow.holds Tryz.pinned (OpenSpec.ofChange collectFinsSpec)

/-- ITS FALSE NEIGHBOUR: 'it returns false'. Refute it at one input. -/
def collectFinsWrong : ChangeSpec := { name := "collectFins", fn := fun _ => fun
  | [d1, d2] => { results := [.lit (.bool false)], args := [d1, d2] }
  | _ => none }
def CollectFinsWrongFalsely : Prop := collectFinsRow.holds Tryz.pinned (OpenSpec.ofChange collectFinsWrong)

/-- 'heirloomlaw13.CollectPieces': WHATEVER THE INPUT: true; the input reads as it did. -/
def collectPiecesSpec : ChangeSpec := { name := "collectPieces", fn := fun _ => fun
  | [d1, d2, d3] => { results := [.lit (.bool true)], args := [d1, d2, d3] }
  | _ => none }
def collectPiecesRow : OpenClaim := { program := "ytminbemdcanakaagreat", sum := "177597caf9df9fb90ff37b351ac3032542e4d3745ed77f1263c5ea2d49d4374f", func := "heirloom/heirloomlaw13.CollectPieces", spec := "collectPieces", unfollowed := true, recurses := true, plainKeys := false, apart := false }
def CollectPiecesSaid : Prop := collectPiecesRow.holds Tryz.pinned (OpenSpec.ofChange collectPiecesSpec)

/-- ITS FALSE NEIGHBOUR: 'it returns false'. Refute it at one input. -/
def collectPiecesWrong : ChangeSpec := { name := "collectPieces", fn := fun _ => fun
  | [d1, d2, d3] => { results := [.lit (.bool false)], args := [d1, d2, d3] }
  | _ => none }
def CollectPiecesWrongFalsely : Prop := collectPiecesRow.holds Tryz.pinned (OpenSpec.ofChange collectPiecesWrong)

/-- 'heirloomlaw13.CollectModes': WHATEVER THE INPUT: true; the input reads as it did. -/
def collectModesSpec : ChangeSpec := { name := "collectModes", fn := fun _ => fun
  | [d1, d2] => { results := [.lit (.bool true)], args := [d1, d2] }
  | _ => none }
def collectModesRow : OpenClaim := { program := "ytminbemdcanakaagreat", sum := "177597caf9df9fb90ff37b351ac3032542e4d3745ed77f1263c5ea2d49d4374f", func := "heirloom/heirloomlaw13.CollectModes", spec := "collectModes", unfollowed := true, recurses := true, plainKeys := false, apart := false }
def CollectModesSaid : Prop := collectModesRow.holds Tryz.pinned (OpenSpec.ofChange collectModesSpec)

/-- ITS FALSE NEIGHBOUR: 'it returns false'. Refute it at one input. -/
def collectModesWrong : ChangeSpec := { name := "collectModes", fn := fun _ => fun
  | [d1, d2] => { results := [.lit (.bool false)], args := [d1, d2] }
  | _ => none }
def CollectModesWrongFalsely : Prop := collectModesRow.holds Tryz.pinned (OpenSpec.ofChange collectModesWrong)

/-- 'heirloomlaw13.CollectNil': WHATEVER THE INPUT: true; the input reads as it did. -/
def collectNilSpec : ChangeSpec := { name := "collectNil", fn := fun _ => fun
  | [d1, d2, d3] => { results := [.lit (.bool true)], args := [d1, d2, d3] }
  | _ => none }
def collectNilRow : OpenClaim := { program := "ytminbemdcanakaagreat", sum := "177597caf9df9fb90ff37b351ac3032542e4d3745ed77f1263c5ea2d49d4374f", func := "heirloom/heirloomlaw13.CollectNil", spec := "collectNil", unfollowed := true, recurses := true, plainKeys := false, apart := false }
def CollectNilSaid : Prop := collectNilRow.holds Tryz.pinned (OpenSpec.ofChange collectNilSpec)

/-- ITS FALSE NEIGHBOUR: 'it returns false'. Refute it at one input. -/
def collectNilWrong : ChangeSpec := { name := "collectNil", fn := fun _ => fun
  | [d1, d2, d3] => { results := [.lit (.bool false)], args := [d1, d2, d3] }
  | _ => none }
def CollectNilWrongFalsely : Prop := collectNilRow.holds Tryz.pinned (OpenSpec.ofChange collectNilWrong)

/-- 'heirloomlaw13.CollectRules': WHATEVER THE INPUT: true; the input reads as it did. -/
def collectRulesSpec : ChangeSpec := { name := "collectRules", fn := fun _ => fun
  | [d1, d2] => { results := [.lit (.bool true)], args := [d1, d2] }
  | _ => none }
def collectRulesRow : OpenClaim := { program := "ytminbemdcanakaagreat", sum := "177597caf9df9fb90ff37b351ac3032542e4d3745ed77f1263c5ea2d49d4374f", func := "heirloom/heirloomlaw13.CollectRules", spec := "collectRules", unfollowed := true, recurses := true, plainKeys := false, apart := false }
def CollectRulesSaid : Prop := collectRulesRow.holds Tryz.pinned (OpenSpec.ofChange collectRulesSpec)

/-- ITS FALSE NEIGHBOUR: 'it returns false'. Refute it at one input. -/
def collectRulesWrong : ChangeSpec := { name := "collectRules", fn := fun _ => fun
  | [d1, d2] => { results := [.lit (.bool false)], args := [d1, d2] }
  | _ => none }
def CollectRulesWrongFalsely : Prop := collectRulesRow.holds Tryz.pinned (OpenSpec.ofChange collectRulesWrong)

/- THE SECOND FORM. 'bulk': how many values and letters a reading holds, each counted each time it is reached (what is shared counts as often as it is met; a slice's spare places count too). A statement '..UptoSaid' is the law's where the arguments, and the package variables that the reading takes, are together of bulk at most 1048576: NARROWER than '..Said'. Prove '..Said' where nothing that the law and all that it calls make is longer than what came in: it says more and counts as full. Else prove '..UptoSaid'. A law counts once. -/
mutual
def uptoBulk {H : Type} : DataW H → Nat
  | .lit (.string bytes) => bytes.length + 1
  | .lit _ => 1
  | .nil => 1
  | .ptr d => uptoBulk d + 1
  | .slice elems spare => uptoBulkAll elems + uptoBulkAll spare + 1
  | .agg parts => uptoBulkAll parts + 1
  | .iface _ d => uptoBulk d + 1
  | .map entries => uptoBulkEntries entries + 1
  | .held _ => 1
def uptoBulkAll {H : Type} : List (DataW H) → Nat
  | [] => 0
  | d :: r => uptoBulk d + uptoBulkAll r
def uptoBulkEntries {H : Type} : List (Lit × DataW H) → Nat
  | [] => 0
  | x :: r => uptoBulkEntry x + uptoBulkEntries r
def uptoBulkEntry {H : Type} : Lit × DataW H → Nat
  | (.string bytes, d) => bytes.length + uptoBulk d + 1
  | (_, d) => uptoBulk d + 1
 end
def uptoSmall : (H : Type) → List (DataW H) → Bool := fun _ ds => decide (uptoBulkAll ds ≤ 1048576)
def OpenSpec.upto (s : _root_.Go.ChangeSpec) : _root_.Go.OpenSpec := { _root_.Go.OpenSpec.ofChange s with cond := some uptoSmall }

/-- 'heirloomlaw13.CollectMem', WHERE WHAT IT READS IS OF BULK AT MOST 1048576: true; the input reads as it did. -/
def collectMemUptoRow : OpenClaim := { program := "ytminbemdcanakaagreat", sum := "177597caf9df9fb90ff37b351ac3032542e4d3745ed77f1263c5ea2d49d4374f", func := "heirloom/heirloomlaw13.CollectMem", spec := "collectMem", unfollowed := true, recurses := true, plainKeys := false, apart := false, narrowed := true }
def CollectMemUptoSaid : Prop := collectMemUptoRow.holds Tryz.pinned (OpenSpec.upto collectMemSpec)

/-- 'heirloomlaw13.CollectFull', WHERE WHAT IT READS IS OF BULK AT MOST 1048576: true; the input reads as it did. -/
def collectFullUptoRow : OpenClaim := { program := "ytminbemdcanakaagreat", sum := "177597caf9df9fb90ff37b351ac3032542e4d3745ed77f1263c5ea2d49d4374f", func := "heirloom/heirloomlaw13.CollectFull", spec := "collectFull", unfollowed := true, recurses := true, plainKeys := false, apart := false, narrowed := true }
def CollectFullUptoSaid : Prop := collectFullUptoRow.holds Tryz.pinned (OpenSpec.upto collectFullSpec)

/-- 'heirloomlaw13.CollectPlays', WHERE WHAT IT READS IS OF BULK AT MOST 1048576: true; the input reads as it did. -/
def collectPlaysUptoRow : OpenClaim := { program := "ytminbemdcanakaagreat", sum := "177597caf9df9fb90ff37b351ac3032542e4d3745ed77f1263c5ea2d49d4374f", func := "heirloom/heirloomlaw13.CollectPlays", spec := "collectPlays", unfollowed := true, recurses := true, plainKeys := false, apart := false, narrowed := true }
def CollectPlaysUptoSaid : Prop := collectPlaysUptoRow.holds Tryz.pinned (OpenSpec.upto collectPlaysSpec)

/-- 'heirloomlaw13.CollectKeeps', WHERE WHAT IT READS IS OF BULK AT MOST 1048576: true; the input reads as it did. -/
def collectKeepsUptoRow : OpenClaim := { program := "ytminbemdcanakaagreat", sum := "177597caf9df9fb90ff37b351ac3032542e4d3745ed77f1263c5ea2d49d4374f", func := "heirloom/heirloomlaw13.CollectKeeps", spec := "collectKeeps", unfollowed := true, recurses := true, plainKeys := false, apart := false, narrowed := true }
def CollectKeepsUptoSaid : Prop := collectKeepsUptoRow.holds Tryz.pinned (OpenSpec.upto collectKeepsSpec)

/-- 'heirloomlaw13.CollectCycle', WHERE WHAT IT READS IS OF BULK AT MOST 1048576: true; the input reads as it did. -/
def collectCycleUptoRow : OpenClaim := { program := "ytminbemdcanakaagreat", sum := "177597caf9df9fb90ff37b351ac3032542e4d3745ed77f1263c5ea2d49d4374f", func := "heirloom/heirloomlaw13.CollectCycle", spec := "collectCycle", unfollowed := true, recurses := true, plainKeys := false, apart := false, narrowed := true }
def CollectCycleUptoSaid : Prop := collectCycleUptoRow.holds Tryz.pinned (OpenSpec.upto collectCycleSpec)

/-- 'heirloomlaw13.CollectYoung', WHERE WHAT IT READS IS OF BULK AT MOST 1048576: true; the input reads as it did. -/
def collectYoungUptoRow : OpenClaim := { program := "ytminbemdcanakaagreat", sum := "177597caf9df9fb90ff37b351ac3032542e4d3745ed77f1263c5ea2d49d4374f", func := "heirloom/heirloomlaw13.CollectYoung", spec := "collectYoung", unfollowed := true, recurses := true, plainKeys := false, apart := false, narrowed := true }
def CollectYoungUptoSaid : Prop := collectYoungUptoRow.holds Tryz.pinned (OpenSpec.upto collectYoungSpec)

/-- 'heirloomlaw13.CollectTwice', WHERE WHAT IT READS IS OF BULK AT MOST 1048576: true; the input reads as it did. -/
def collectTwiceUptoRow : OpenClaim := { program := "ytminbemdcanakaagreat", sum := "177597caf9df9fb90ff37b351ac3032542e4d3745ed77f1263c5ea2d49d4374f", func := "heirloom/heirloomlaw13.CollectTwice", spec := "collectTwice", unfollowed := true, recurses := true, plainKeys := false, apart := false, narrowed := true }
def CollectTwiceUptoSaid : Prop := collectTwiceUptoRow.holds Tryz.pinned (OpenSpec.upto collectTwiceSpec)

/-- 'heirloomlaw13.CollectFins', WHERE WHAT IT READS IS OF BULK AT MOST 1048576: true; the input reads as it did. -/
def collectFinsUptoRow : OpenClaim := { program := "ytminbemdcanakaagreat", sum := "177597caf9df9fb90ff37b351ac3032542e4d3745ed77f1263c5ea2d49d4374f", func := "heirloom/heirloomlaw13.CollectFins", spec := "collectFins", unfollowed := true, recurses := true, plainKeys := false, apart := false, narrowed := true }
def CollectFinsUptoSaid : Prop := collectFinsUptoRow.holds Tryz.pinned (OpenSpec.upto collectFinsSpec)

/-- 'heirloomlaw13.CollectPieces', WHERE WHAT IT READS IS OF BULK AT MOST 1048576: true; the input reads as it did. -/
def collectPiecesUptoRow : OpenClaim := { program := "ytminbemdcanakaagreat", sum := "177597caf9df9fb90ff37b351ac3032542e4d3745ed77f1263c5ea2d49d4374f", func := "heirloom/heirloomlaw13.CollectPieces", spec := "collectPieces", unfollowed := true, recurses := true, plainKeys := false, apart := false, narrowed := true }
def CollectPiecesUptoSaid : Prop := collectPiecesUptoRow.holds Tryz.pinned (OpenSpec.upto collectPiecesSpec)

/-- 'heirloomlaw13.CollectModes', WHERE WHAT IT READS IS OF BULK AT MOST 1048576: true; the input reads as it did. -/
def collectModesUptoRow : OpenClaim := { program := "ytminbemdcanakaagreat", sum := "177597caf9df9fb90ff37b351ac3032542e4d3745ed77f1263c5ea2d49d4374f", func := "heirloom/heirloomlaw13.CollectModes", spec := "collectModes", unfollowed := true, recurses := true, plainKeys := false, apart := false, narrowed := true }
def CollectModesUptoSaid : Prop := collectModesUptoRow.holds Tryz.pinned (OpenSpec.upto collectModesSpec)

/-- 'heirloomlaw13.CollectNil', WHERE WHAT IT READS IS OF BULK AT MOST 1048576: true; the input reads as it did. -/
def collectNilUptoRow : OpenClaim := { program := "ytminbemdcanakaagreat", sum := "177597caf9df9fb90ff37b351ac3032542e4d3745ed77f1263c5ea2d49d4374f", func := "heirloom/heirloomlaw13.CollectNil", spec := "collectNil", unfollowed := true, recurses := true, plainKeys := false, apart := false, narrowed := true }
def CollectNilUptoSaid : Prop := collectNilUptoRow.holds Tryz.pinned (OpenSpec.upto collectNilSpec)

/-- 'heirloomlaw13.CollectRules', WHERE WHAT IT READS IS OF BULK AT MOST 1048576: true; the input reads as it did. -/
def collectRulesUptoRow : OpenClaim := { program := "ytminbemdcanakaagreat", sum := "177597caf9df9fb90ff37b351ac3032542e4d3745ed77f1263c5ea2d49d4374f", func := "heirloom/heirloomlaw13.CollectRules", spec := "collectRules", unfollowed := true, recurses := true, plainKeys := false, apart := false, narrowed := true }
def CollectRulesUptoSaid : Prop := collectRulesUptoRow.holds Tryz.pinned (OpenSpec.upto collectRulesSpec)

end Rows
end Go.Proofs.YtminbemdcanakaaGreat
