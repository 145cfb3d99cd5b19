/-
  No cell of these rows narrows 'for every input' (looked for: loops, veiled, ifaces, maps, wideKeys, modest, calm, conditions, laid).
  DERIVED. THE GIVEN ROWS OF THIS SEAT. 9 by the template 'for every input the law returns true; each argument reads behind the call as it read before'; 0 by the template 'total and deterministic' (their statements: YtpaopcnbgdlgnaaTotals.lean).
  GIVEN WITH THE SEED: the statements are not yours to turn. If you find one false, say at which input.
  Laid BY PROGRAM, IN A SANDBOX (cutbox-rows.mjs): the forced cells as the released guide's own fill.sh prints them over the translation 49b8a066f8b8fe61… (all of the seat's roots in one cut). By AI agents, Wed Nov 11 2026. No macro, syntax, notation, axiom, sorry.
-/
import Derived.Test.YtpaopcnbgdlgnaaChecked
import GoSem.Claim
import GoSem.ClaimJoined
import GoSem.ClaimMapViews
import Derived.JoinedTies
import Derived.KernelRfl
namespace Go.Proofs.Ytpaopcnbgdlgnaa
/- THE CELL 'sum', in the pinned program and in every row, IS THE sha256 OF THE DUMP (.gsa) THAT YtpaopcnbgdlgnaaProg.lean LOADS. Nothing in Lean hashes anything: it is a label: what it is worth is what the hold of that sum in a sandbox is worth. -/
noncomputable def Try.pinned : Pinned := { name := "ytpaopcnbgdlgnaa", sum := "49b8a066f8b8fe6116b8fd51cd634df16cebb622454094fc724d254d56faaa05", checked := Try.checked }
namespace Rows
def none {H : Type} : Left H := { results := [], args := [] }

/-- 'heirloomlaw03.ArenaKeeps': WHATEVER THE INPUT: true; the input reads as it did. -/
def arenaKeepsSpec : ChangeSpec := { name := "arenaKeeps", fn := fun _ => fun
  | [d1, d2, d3, d4] => { results := [.lit (.bool true)], args := [d1, d2, d3, d4] }
  | _ => none }
def arenaKeepsRow : OpenClaim := { program := "ytpaopcnbgdlgnaa", sum := "49b8a066f8b8fe6116b8fd51cd634df16cebb622454094fc724d254d56faaa05", func := "heirloom/heirloomlaw03.ArenaKeeps", spec := "arenaKeeps", unfollowed := true, recurses := true, apart := false }
def ArenaKeepsSaid : Prop := arenaKeepsRow.holds Try.pinned (OpenSpec.ofChange arenaKeepsSpec)

/-- ITS FALSE NEIGHBOUR: 'it returns false'. Refute it at one input. -/
def arenaKeepsWrong : ChangeSpec := { name := "arenaKeeps", fn := fun _ => fun
  | [d1, d2, d3, d4] => { results := [.lit (.bool false)], args := [d1, d2, d3, d4] }
  | _ => none }
def ArenaKeepsWrongFalsely : Prop := arenaKeepsRow.holds Try.pinned (OpenSpec.ofChange arenaKeepsWrong)

/-- 'heirloomlaw03.ArenaGrows': WHATEVER THE INPUT: true; the input reads as it did. -/
def arenaGrowsSpec : ChangeSpec := { name := "arenaGrows", fn := fun _ => fun
  | [d1, d2, d3, d4] => { results := [.lit (.bool true)], args := [d1, d2, d3, d4] }
  | _ => none }
def arenaGrowsRow : OpenClaim := { program := "ytpaopcnbgdlgnaa", sum := "49b8a066f8b8fe6116b8fd51cd634df16cebb622454094fc724d254d56faaa05", func := "heirloom/heirloomlaw03.ArenaGrows", spec := "arenaGrows", unfollowed := true, recurses := true, apart := false }
def ArenaGrowsSaid : Prop := arenaGrowsRow.holds Try.pinned (OpenSpec.ofChange arenaGrowsSpec)

/-- ITS FALSE NEIGHBOUR: 'it returns false'. Refute it at one input. -/
def arenaGrowsWrong : ChangeSpec := { name := "arenaGrows", fn := fun _ => fun
  | [d1, d2, d3, d4] => { results := [.lit (.bool false)], args := [d1, d2, d3, d4] }
  | _ => none }
def ArenaGrowsWrongFalsely : Prop := arenaGrowsRow.holds Try.pinned (OpenSpec.ofChange arenaGrowsWrong)

/-- 'heirloomlaw03.ArenaFull': WHATEVER THE INPUT: true; the input reads as it did. -/
def arenaFullSpec : ChangeSpec := { name := "arenaFull", fn := fun _ => fun
  | [d1, d2, d3] => { results := [.lit (.bool true)], args := [d1, d2, d3] }
  | _ => none }
def arenaFullRow : OpenClaim := { program := "ytpaopcnbgdlgnaa", sum := "49b8a066f8b8fe6116b8fd51cd634df16cebb622454094fc724d254d56faaa05", func := "heirloom/heirloomlaw03.ArenaFull", spec := "arenaFull", unfollowed := true, recurses := true, apart := false }
def ArenaFullSaid : Prop := arenaFullRow.holds Try.pinned (OpenSpec.ofChange arenaFullSpec)

/-- ITS FALSE NEIGHBOUR: 'it returns false'. Refute it at one input. -/
def arenaFullWrong : ChangeSpec := { name := "arenaFull", fn := fun _ => fun
  | [d1, d2, d3] => { results := [.lit (.bool false)], args := [d1, d2, d3] }
  | _ => none }
def ArenaFullWrongFalsely : Prop := arenaFullRow.holds Try.pinned (OpenSpec.ofChange arenaFullWrong)

/-- 'heirloomlaw03.ArenaFirst': WHATEVER THE INPUT: true; the input reads as it did. -/
def arenaFirstSpec : ChangeSpec := { name := "arenaFirst", fn := fun _ => fun
  | [d1, d2, d3] => { results := [.lit (.bool true)], args := [d1, d2, d3] }
  | _ => none }
def arenaFirstRow : OpenClaim := { program := "ytpaopcnbgdlgnaa", sum := "49b8a066f8b8fe6116b8fd51cd634df16cebb622454094fc724d254d56faaa05", func := "heirloom/heirloomlaw03.ArenaFirst", spec := "arenaFirst", unfollowed := true, recurses := true, apart := false }
def ArenaFirstSaid : Prop := arenaFirstRow.holds Try.pinned (OpenSpec.ofChange arenaFirstSpec)

/-- ITS FALSE NEIGHBOUR: 'it returns false'. Refute it at one input. -/
def arenaFirstWrong : ChangeSpec := { name := "arenaFirst", fn := fun _ => fun
  | [d1, d2, d3] => { results := [.lit (.bool false)], args := [d1, d2, d3] }
  | _ => none }
def ArenaFirstWrongFalsely : Prop := arenaFirstRow.holds Try.pinned (OpenSpec.ofChange arenaFirstWrong)

/-- 'heirloomlaw03.ArenaNil': WHATEVER THE INPUT: true; the input reads as it did. -/
def arenaNilSpec : ChangeSpec := { name := "arenaNil", fn := fun _ => fun
  | [d1, d2] => { results := [.lit (.bool true)], args := [d1, d2] }
  | _ => none }
def arenaNilRow : OpenClaim := { program := "ytpaopcnbgdlgnaa", sum := "49b8a066f8b8fe6116b8fd51cd634df16cebb622454094fc724d254d56faaa05", func := "heirloom/heirloomlaw03.ArenaNil", spec := "arenaNil", unfollowed := true, recurses := true, apart := false }
def ArenaNilSaid : Prop := arenaNilRow.holds Try.pinned (OpenSpec.ofChange arenaNilSpec)

/-- ITS FALSE NEIGHBOUR: 'it returns false'. Refute it at one input. -/
def arenaNilWrong : ChangeSpec := { name := "arenaNil", fn := fun _ => fun
  | [d1, d2] => { results := [.lit (.bool false)], args := [d1, d2] }
  | _ => none }
def ArenaNilWrongFalsely : Prop := arenaNilRow.holds Try.pinned (OpenSpec.ofChange arenaNilWrong)

/-- 'heirloomlaw03.ArenaApart': WHATEVER THE INPUT: true; the input reads as it did. -/
def arenaApartSpec : ChangeSpec := { name := "arenaApart", fn := fun _ => fun
  | [d1, d2] => { results := [.lit (.bool true)], args := [d1, d2] }
  | _ => none }
def arenaApartRow : OpenClaim := { program := "ytpaopcnbgdlgnaa", sum := "49b8a066f8b8fe6116b8fd51cd634df16cebb622454094fc724d254d56faaa05", func := "heirloom/heirloomlaw03.ArenaApart", spec := "arenaApart", unfollowed := true, recurses := true, apart := false }
def ArenaApartSaid : Prop := arenaApartRow.holds Try.pinned (OpenSpec.ofChange arenaApartSpec)

/-- ITS FALSE NEIGHBOUR: 'it returns false'. Refute it at one input. -/
def arenaApartWrong : ChangeSpec := { name := "arenaApart", fn := fun _ => fun
  | [d1, d2] => { results := [.lit (.bool false)], args := [d1, d2] }
  | _ => none }
def ArenaApartWrongFalsely : Prop := arenaApartRow.holds Try.pinned (OpenSpec.ofChange arenaApartWrong)

/-- 'heirloomlaw03.ArenaTight': WHATEVER THE INPUT: true; the input reads as it did. -/
def arenaTightSpec : ChangeSpec := { name := "arenaTight", fn := fun _ => fun
  | [d1, d2] => { results := [.lit (.bool true)], args := [d1, d2] }
  | _ => none }
def arenaTightRow : OpenClaim := { program := "ytpaopcnbgdlgnaa", sum := "49b8a066f8b8fe6116b8fd51cd634df16cebb622454094fc724d254d56faaa05", func := "heirloom/heirloomlaw03.ArenaTight", spec := "arenaTight", unfollowed := true, recurses := true, apart := false }
def ArenaTightSaid : Prop := arenaTightRow.holds Try.pinned (OpenSpec.ofChange arenaTightSpec)

/-- ITS FALSE NEIGHBOUR: 'it returns false'. Refute it at one input. -/
def arenaTightWrong : ChangeSpec := { name := "arenaTight", fn := fun _ => fun
  | [d1, d2] => { results := [.lit (.bool false)], args := [d1, d2] }
  | _ => none }
def ArenaTightWrongFalsely : Prop := arenaTightRow.holds Try.pinned (OpenSpec.ofChange arenaTightWrong)

/-- 'heirloomlaw03.ArenaExtends': WHATEVER THE INPUT: true; the input reads as it did. -/
def arenaExtendsSpec : ChangeSpec := { name := "arenaExtends", fn := fun _ => fun
  | [d1, d2, d3, d4] => { results := [.lit (.bool true)], args := [d1, d2, d3, d4] }
  | _ => none }
def arenaExtendsRow : OpenClaim := { program := "ytpaopcnbgdlgnaa", sum := "49b8a066f8b8fe6116b8fd51cd634df16cebb622454094fc724d254d56faaa05", func := "heirloom/heirloomlaw03.ArenaExtends", spec := "arenaExtends", unfollowed := true, recurses := true, apart := false }
def ArenaExtendsSaid : Prop := arenaExtendsRow.holds Try.pinned (OpenSpec.ofChange arenaExtendsSpec)

/-- ITS FALSE NEIGHBOUR: 'it returns false'. Refute it at one input. -/
def arenaExtendsWrong : ChangeSpec := { name := "arenaExtends", fn := fun _ => fun
  | [d1, d2, d3, d4] => { results := [.lit (.bool false)], args := [d1, d2, d3, d4] }
  | _ => none }
def ArenaExtendsWrongFalsely : Prop := arenaExtendsRow.holds Try.pinned (OpenSpec.ofChange arenaExtendsWrong)

/-- 'heirloomlaw03.ArenaPlays': WHATEVER THE INPUT: true; the input reads as it did. -/
def arenaPlaysSpec : ChangeSpec := { name := "arenaPlays", fn := fun _ => fun
  | [d1, d2, d3] => { results := [.lit (.bool true)], args := [d1, d2, d3] }
  | _ => none }
def arenaPlaysRow : OpenClaim := { program := "ytpaopcnbgdlgnaa", sum := "49b8a066f8b8fe6116b8fd51cd634df16cebb622454094fc724d254d56faaa05", func := "heirloom/heirloomlaw03.ArenaPlays", spec := "arenaPlays", unfollowed := true, recurses := true, apart := false }
def ArenaPlaysSaid : Prop := arenaPlaysRow.holds Try.pinned (OpenSpec.ofChange arenaPlaysSpec)

/-- ITS FALSE NEIGHBOUR: 'it returns false'. Refute it at one input. -/
def arenaPlaysWrong : ChangeSpec := { name := "arenaPlays", fn := fun _ => fun
  | [d1, d2, d3] => { results := [.lit (.bool false)], args := [d1, d2, d3] }
  | _ => none }
def ArenaPlaysWrongFalsely : Prop := arenaPlaysRow.holds Try.pinned (OpenSpec.ofChange arenaPlaysWrong)

/- THE SECOND FORM. 'bulk': how many values and letters a reading holds, each counted each time it is reached (what is shared counts as often as it is met; a slice's spare places count too). A statement '..UptoSaid' is the law's where the arguments, and the package variables that the reading takes, are together of bulk at most 1048576: NARROWER than '..Said'. Prove '..Said' where nothing that the law and all that it calls make is longer than what came in: it says more and counts as full. Else prove '..UptoSaid'. A law counts once. -/
mutual
def uptoBulk {H : Type} : DataW H → Nat
  | .lit (.string bytes) => bytes.length + 1
  | .lit _ => 1
  | .nil => 1
  | .ptr d => uptoBulk d + 1
  | .slice elems spare => uptoBulkAll elems + uptoBulkAll spare + 1
  | .agg parts => uptoBulkAll parts + 1
  | .iface _ d => uptoBulk d + 1
  | .map entries => uptoBulkEntries entries + 1
  | .held _ => 1
def uptoBulkAll {H : Type} : List (DataW H) → Nat
  | [] => 0
  | d :: r => uptoBulk d + uptoBulkAll r
def uptoBulkEntries {H : Type} : List (Lit × DataW H) → Nat
  | [] => 0
  | x :: r => uptoBulkEntry x + uptoBulkEntries r
def uptoBulkEntry {H : Type} : Lit × DataW H → Nat
  | (.string bytes, d) => bytes.length + uptoBulk d + 1
  | (_, d) => uptoBulk d + 1
 end
def uptoSmall : (H : Type) → List (DataW H) → Bool := fun _ ds => decide (uptoBulkAll ds ≤ 1048576)
def OpenSpec.upto (s : _root_.Go.ChangeSpec) : _root_.Go.OpenSpec := { _root_.Go.OpenSpec.ofChange s with cond := some uptoSmall }

/-- 'heirloomlaw03.ArenaKeeps', WHERE WHAT IT READS IS OF BULK AT MOST 1048576: true; the input reads as it did. -/
def arenaKeepsUptoRow : OpenClaim := { program := "ytpaopcnbgdlgnaa", sum := "49b8a066f8b8fe6116b8fd51cd634df16cebb622454094fc724d254d56faaa05", func := "heirloom/heirloomlaw03.ArenaKeeps", spec := "arenaKeeps", unfollowed := true, recurses := true, apart := false, narrowed := true }
def ArenaKeepsUptoSaid : Prop := arenaKeepsUptoRow.holds Try.pinned (OpenSpec.upto arenaKeepsSpec)

/-- 'heirloomlaw03.ArenaGrows', WHERE WHAT IT READS IS OF BULK AT MOST 1048576: true; the input reads as it did. -/
def arenaGrowsUptoRow : OpenClaim := { program := "ytpaopcnbgdlgnaa", sum := "49b8a066f8b8fe6116b8fd51cd634df16cebb622454094fc724d254d56faaa05", func := "heirloom/heirloomlaw03.ArenaGrows", spec := "arenaGrows", unfollowed := true, recurses := true, apart := false, narrowed := true }
def ArenaGrowsUptoSaid : Prop := arenaGrowsUptoRow.holds Try.pinned (OpenSpec.upto arenaGrowsSpec)

/-- 'heirloomlaw03.ArenaFull', WHERE WHAT IT READS IS OF BULK AT MOST 1048576: true; the input reads as it did. -/
def arenaFullUptoRow : OpenClaim := { program := "ytpaopcnbgdlgnaa", sum := "49b8a066f8b8fe6116b8fd51cd634df16cebb622454094fc724d254d56faaa05", func := "heirloom/heirloomlaw03.ArenaFull", spec := "arenaFull", unfollowed := true, recurses := true, apart := false, narrowed := true }
def ArenaFullUptoSaid : Prop := arenaFullUptoRow.holds Try.pinned (OpenSpec.upto arenaFullSpec)

/-- 'heirloomlaw03.ArenaFirst', WHERE WHAT IT READS IS OF BULK AT MOST 1048576: true; the input reads as it did. -/
def arenaFirstUptoRow : OpenClaim := { program := "ytpaopcnbgdlgnaa", sum := "49b8a066f8b8fe6116b8fd51cd634df16cebb622454094fc724d254d56faaa05", func := "heirloom/heirloomlaw03.ArenaFirst", spec := "arenaFirst", unfollowed := true, recurses := true, apart := false, narrowed := true }
def ArenaFirstUptoSaid : Prop := arenaFirstUptoRow.holds Try.pinned (OpenSpec.upto arenaFirstSpec)

/-- 'heirloomlaw03.ArenaNil', WHERE WHAT IT READS IS OF BULK AT MOST 1048576: true; the input reads as it did. -/
def arenaNilUptoRow : OpenClaim := { program := "ytpaopcnbgdlgnaa", sum := "49b8a066f8b8fe6116b8fd51cd634df16cebb622454094fc724d254d56faaa05", func := "heirloom/heirloomlaw03.ArenaNil", spec := "arenaNil", unfollowed := true, recurses := true, apart := false, narrowed := true }
def ArenaNilUptoSaid : Prop := arenaNilUptoRow.holds Try.pinned (OpenSpec.upto arenaNilSpec)

/-- 'heirloomlaw03.ArenaApart', WHERE WHAT IT READS IS OF BULK AT MOST 1048576: true; the input reads as it did. -/
def arenaApartUptoRow : OpenClaim := { program := "ytpaopcnbgdlgnaa", sum := "49b8a066f8b8fe6116b8fd51cd634df16cebb622454094fc724d254d56faaa05", func := "heirloom/heirloomlaw03.ArenaApart", spec := "arenaApart", unfollowed := true, recurses := true, apart := false, narrowed := true }
def ArenaApartUptoSaid : Prop := arenaApartUptoRow.holds Try.pinned (OpenSpec.upto arenaApartSpec)

/-- 'heirloomlaw03.ArenaTight', WHERE WHAT IT READS IS OF BULK AT MOST 1048576: true; the input reads as it did. -/
def arenaTightUptoRow : OpenClaim := { program := "ytpaopcnbgdlgnaa", sum := "49b8a066f8b8fe6116b8fd51cd634df16cebb622454094fc724d254d56faaa05", func := "heirloom/heirloomlaw03.ArenaTight", spec := "arenaTight", unfollowed := true, recurses := true, apart := false, narrowed := true }
def ArenaTightUptoSaid : Prop := arenaTightUptoRow.holds Try.pinned (OpenSpec.upto arenaTightSpec)

/-- 'heirloomlaw03.ArenaExtends', WHERE WHAT IT READS IS OF BULK AT MOST 1048576: true; the input reads as it did. -/
def arenaExtendsUptoRow : OpenClaim := { program := "ytpaopcnbgdlgnaa", sum := "49b8a066f8b8fe6116b8fd51cd634df16cebb622454094fc724d254d56faaa05", func := "heirloom/heirloomlaw03.ArenaExtends", spec := "arenaExtends", unfollowed := true, recurses := true, apart := false, narrowed := true }
def ArenaExtendsUptoSaid : Prop := arenaExtendsUptoRow.holds Try.pinned (OpenSpec.upto arenaExtendsSpec)

/-- 'heirloomlaw03.ArenaPlays', WHERE WHAT IT READS IS OF BULK AT MOST 1048576: true; the input reads as it did. -/
def arenaPlaysUptoRow : OpenClaim := { program := "ytpaopcnbgdlgnaa", sum := "49b8a066f8b8fe6116b8fd51cd634df16cebb622454094fc724d254d56faaa05", func := "heirloom/heirloomlaw03.ArenaPlays", spec := "arenaPlays", unfollowed := true, recurses := true, apart := false, narrowed := true }
def ArenaPlaysUptoSaid : Prop := arenaPlaysUptoRow.holds Try.pinned (OpenSpec.upto arenaPlaysSpec)

end Rows
end Go.Proofs.Ytpaopcnbgdlgnaa
