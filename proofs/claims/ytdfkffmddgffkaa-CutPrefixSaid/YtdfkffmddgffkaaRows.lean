/-
  No cell of these rows narrows 'for every input' (looked for: loops, veiled, ifaces, maps, wideKeys, modest, calm, conditions, laid).
  DERIVED. THE GIVEN ROWS OF THIS SEAT. 11 by the template 'for every input the law returns true; each argument reads behind the call as it read before'; 0 by the template 'total and deterministic' (their statements: YtdfkffmddgffkaaTotals.lean).
  GIVEN WITH THE SEED: the statements are not yours to turn. If you find one false, say at which input.
  Laid BY PROGRAM, IN A SANDBOX (cutbox-rows.mjs): the forced cells as the released guide's own fill.sh prints them over the translation 3555749511bcd88b… (all of the seat's roots in one cut). By AI agents, Wed Nov 11 2026. No macro, syntax, notation, axiom, sorry.
-/
import Derived.Test.YtdfkffmddgffkaaChecked
import GoSem.Claim
import GoSem.ClaimJoined
import GoSem.ClaimMapViews
import Derived.JoinedTies
import Derived.KernelRfl
namespace Go.Proofs.Ytdfkffmddgffkaa
/- THE CELL 'sum', in the pinned program and in every row, IS THE sha256 OF THE DUMP (.gsa) THAT YtdfkffmddgffkaaProg.lean LOADS. Nothing in Lean hashes anything: it is a label: what it is worth is what the hold of that sum in a sandbox is worth. -/
noncomputable def Try.pinned : Pinned := { name := "ytdfkffmddgffkaa", sum := "3555749511bcd88bba2bb5550d535d1aeeb0c12400ee1bb174fd553ffd32f2cf", checked := Try.checked }
namespace Rows
def none {H : Type} : Left H := { results := [], args := [] }

/-- 'palimpsestlaw05.RabinPushes': WHATEVER THE INPUT: true; the input reads as it did. -/
def rabinPushesSpec : ChangeSpec := { name := "rabinPushes", fn := fun _ => fun
  | [d1, d2] => { results := [.lit (.bool true)], args := [d1, d2] }
  | _ => none }
def rabinPushesRow : OpenClaim := { program := "ytdfkffmddgffkaa", sum := "3555749511bcd88bba2bb5550d535d1aeeb0c12400ee1bb174fd553ffd32f2cf", func := "palimpsest/palimpsestlaw05.RabinPushes", spec := "rabinPushes", apart := false }
def RabinPushesSaid : Prop := rabinPushesRow.holds Try.pinned (OpenSpec.ofChange rabinPushesSpec)

/-- ITS FALSE NEIGHBOUR: 'it returns false'. Refute it at one input. -/
def rabinPushesWrong : ChangeSpec := { name := "rabinPushes", fn := fun _ => fun
  | [d1, d2] => { results := [.lit (.bool false)], args := [d1, d2] }
  | _ => none }
def RabinPushesWrongFalsely : Prop := rabinPushesRow.holds Try.pinned (OpenSpec.ofChange rabinPushesWrong)

/-- 'palimpsestlaw05.RabinReckons': WHATEVER THE INPUT: true; the input reads as it did. -/
def rabinReckonsSpec : ChangeSpec := { name := "rabinReckons", fn := fun _ => fun
  | [d1, d2, d3, d4] => { results := [.lit (.bool true)], args := [d1, d2, d3, d4] }
  | _ => none }
def rabinReckonsRow : OpenClaim := { program := "ytdfkffmddgffkaa", sum := "3555749511bcd88bba2bb5550d535d1aeeb0c12400ee1bb174fd553ffd32f2cf", func := "palimpsest/palimpsestlaw05.RabinReckons", spec := "rabinReckons", apart := false }
def RabinReckonsSaid : Prop := rabinReckonsRow.holds Try.pinned (OpenSpec.ofChange rabinReckonsSpec)

/-- ITS FALSE NEIGHBOUR: 'it returns false'. Refute it at one input. -/
def rabinReckonsWrong : ChangeSpec := { name := "rabinReckons", fn := fun _ => fun
  | [d1, d2, d3, d4] => { results := [.lit (.bool false)], args := [d1, d2, d3, d4] }
  | _ => none }
def RabinReckonsWrongFalsely : Prop := rabinReckonsRow.holds Try.pinned (OpenSpec.ofChange rabinReckonsWrong)

/-- 'palimpsestlaw05.RabinRolls': WHATEVER THE INPUT: true; the input reads as it did. -/
def rabinRollsSpec : ChangeSpec := { name := "rabinRolls", fn := fun _ => fun
  | [d] => { results := [.lit (.bool true)], args := [d] }
  | _ => none }
def rabinRollsRow : OpenClaim := { program := "ytdfkffmddgffkaa", sum := "3555749511bcd88bba2bb5550d535d1aeeb0c12400ee1bb174fd553ffd32f2cf", func := "palimpsest/palimpsestlaw05.RabinRolls", spec := "rabinRolls", apart := false }
def RabinRollsSaid : Prop := rabinRollsRow.holds Try.pinned (OpenSpec.ofChange rabinRollsSpec)

/-- ITS FALSE NEIGHBOUR: 'it returns false'. Refute it at one input. -/
def rabinRollsWrong : ChangeSpec := { name := "rabinRolls", fn := fun _ => fun
  | [d] => { results := [.lit (.bool false)], args := [d] }
  | _ => none }
def RabinRollsWrongFalsely : Prop := rabinRollsRow.holds Try.pinned (OpenSpec.ofChange rabinRollsWrong)

/-- 'palimpsestlaw05.RabinLinear': WHATEVER THE INPUT: true; the input reads as it did. -/
def rabinLinearSpec : ChangeSpec := { name := "rabinLinear", fn := fun _ => fun
  | [d1, d2] => { results := [.lit (.bool true)], args := [d1, d2] }
  | _ => none }
def rabinLinearRow : OpenClaim := { program := "ytdfkffmddgffkaa", sum := "3555749511bcd88bba2bb5550d535d1aeeb0c12400ee1bb174fd553ffd32f2cf", func := "palimpsest/palimpsestlaw05.RabinLinear", spec := "rabinLinear", apart := false }
def RabinLinearSaid : Prop := rabinLinearRow.holds Try.pinned (OpenSpec.ofChange rabinLinearSpec)

/-- ITS FALSE NEIGHBOUR: 'it returns false'. Refute it at one input. -/
def rabinLinearWrong : ChangeSpec := { name := "rabinLinear", fn := fun _ => fun
  | [d1, d2] => { results := [.lit (.bool false)], args := [d1, d2] }
  | _ => none }
def RabinLinearWrongFalsely : Prop := rabinLinearRow.holds Try.pinned (OpenSpec.ofChange rabinLinearWrong)

/-- 'palimpsestlaw05.RabinMod': WHATEVER THE INPUT: true; the input reads as it did. -/
def rabinModSpec : ChangeSpec := { name := "rabinMod", fn := fun _ => fun
  | [d1, d2, d3] => { results := [.lit (.bool true)], args := [d1, d2, d3] }
  | _ => none }
def rabinModRow : OpenClaim := { program := "ytdfkffmddgffkaa", sum := "3555749511bcd88bba2bb5550d535d1aeeb0c12400ee1bb174fd553ffd32f2cf", func := "palimpsest/palimpsestlaw05.RabinMod", spec := "rabinMod", apart := false }
def RabinModSaid : Prop := rabinModRow.holds Try.pinned (OpenSpec.ofChange rabinModSpec)

/-- ITS FALSE NEIGHBOUR: 'it returns false'. Refute it at one input. -/
def rabinModWrong : ChangeSpec := { name := "rabinMod", fn := fun _ => fun
  | [d1, d2, d3] => { results := [.lit (.bool false)], args := [d1, d2, d3] }
  | _ => none }
def RabinModWrongFalsely : Prop := rabinModRow.holds Try.pinned (OpenSpec.ofChange rabinModWrong)

/-- 'palimpsestlaw06.CutNoughts': WHATEVER THE INPUT: true; the input reads as it did. -/
def cutNoughtsSpec : ChangeSpec := { name := "cutNoughts", fn := fun _ => fun
  | [d] => { results := [.lit (.bool true)], args := [d] }
  | _ => none }
def cutNoughtsRow : OpenClaim := { program := "ytdfkffmddgffkaa", sum := "3555749511bcd88bba2bb5550d535d1aeeb0c12400ee1bb174fd553ffd32f2cf", func := "palimpsest/palimpsestlaw06.CutNoughts", spec := "cutNoughts", inPlace := ["internal/bytealg.MakeNoZero"], apart := false }
def CutNoughtsSaid : Prop := cutNoughtsRow.holds Try.pinned (OpenSpec.ofChange cutNoughtsSpec)

/-- ITS FALSE NEIGHBOUR: 'it returns false'. Refute it at one input. -/
def cutNoughtsWrong : ChangeSpec := { name := "cutNoughts", fn := fun _ => fun
  | [d] => { results := [.lit (.bool false)], args := [d] }
  | _ => none }
def CutNoughtsWrongFalsely : Prop := cutNoughtsRow.holds Try.pinned (OpenSpec.ofChange cutNoughtsWrong)

/-- 'palimpsestlaw06.CutLocal': WHATEVER THE INPUT: true; the input reads as it did. -/
def cutLocalSpec : ChangeSpec := { name := "cutLocal", fn := fun _ => fun
  | [d1, d2, d3] => { results := [.lit (.bool true)], args := [d1, d2, d3] }
  | _ => none }
def cutLocalRow : OpenClaim := { program := "ytdfkffmddgffkaa", sum := "3555749511bcd88bba2bb5550d535d1aeeb0c12400ee1bb174fd553ffd32f2cf", func := "palimpsest/palimpsestlaw06.CutLocal", spec := "cutLocal", inPlace := ["internal/bytealg.MakeNoZero"], apart := false }
def CutLocalSaid : Prop := cutLocalRow.holds Try.pinned (OpenSpec.ofChange cutLocalSpec)

/-- ITS FALSE NEIGHBOUR: 'it returns false'. Refute it at one input. -/
def cutLocalWrong : ChangeSpec := { name := "cutLocal", fn := fun _ => fun
  | [d1, d2, d3] => { results := [.lit (.bool false)], args := [d1, d2, d3] }
  | _ => none }
def CutLocalWrongFalsely : Prop := cutLocalRow.holds Try.pinned (OpenSpec.ofChange cutLocalWrong)

/-- 'palimpsestlaw06.CutFinds': WHATEVER THE INPUT: true; the input reads as it did. -/
def cutFindsSpec : ChangeSpec := { name := "cutFinds", fn := fun _ => fun
  | [d] => { results := [.lit (.bool true)], args := [d] }
  | _ => none }
def cutFindsRow : OpenClaim := { program := "ytdfkffmddgffkaa", sum := "3555749511bcd88bba2bb5550d535d1aeeb0c12400ee1bb174fd553ffd32f2cf", func := "palimpsest/palimpsestlaw06.CutFinds", spec := "cutFinds", inPlace := ["internal/bytealg.MakeNoZero"], apart := false }
def CutFindsSaid : Prop := cutFindsRow.holds Try.pinned (OpenSpec.ofChange cutFindsSpec)

/-- ITS FALSE NEIGHBOUR: 'it returns false'. Refute it at one input. -/
def cutFindsWrong : ChangeSpec := { name := "cutFinds", fn := fun _ => fun
  | [d] => { results := [.lit (.bool false)], args := [d] }
  | _ => none }
def CutFindsWrongFalsely : Prop := cutFindsRow.holds Try.pinned (OpenSpec.ofChange cutFindsWrong)

/-- 'palimpsestlaw06.CutJoins': WHATEVER THE INPUT: true; the input reads as it did. -/
def cutJoinsSpec : ChangeSpec := { name := "cutJoins", fn := fun _ => fun
  | [d] => { results := [.lit (.bool true)], args := [d] }
  | _ => none }
def cutJoinsRow : OpenClaim := { program := "ytdfkffmddgffkaa", sum := "3555749511bcd88bba2bb5550d535d1aeeb0c12400ee1bb174fd553ffd32f2cf", func := "palimpsest/palimpsestlaw06.CutJoins", spec := "cutJoins", inPlace := ["internal/bytealg.MakeNoZero"], apart := false }
def CutJoinsSaid : Prop := cutJoinsRow.holds Try.pinned (OpenSpec.ofChange cutJoinsSpec)

/-- ITS FALSE NEIGHBOUR: 'it returns false'. Refute it at one input. -/
def cutJoinsWrong : ChangeSpec := { name := "cutJoins", fn := fun _ => fun
  | [d] => { results := [.lit (.bool false)], args := [d] }
  | _ => none }
def CutJoinsWrongFalsely : Prop := cutJoinsRow.holds Try.pinned (OpenSpec.ofChange cutJoinsWrong)

/-- 'palimpsestlaw06.CutAgain': WHATEVER THE INPUT: true; the input reads as it did. -/
def cutAgainSpec : ChangeSpec := { name := "cutAgain", fn := fun _ => fun
  | [d1, d2, d3] => { results := [.lit (.bool true)], args := [d1, d2, d3] }
  | _ => none }
def cutAgainRow : OpenClaim := { program := "ytdfkffmddgffkaa", sum := "3555749511bcd88bba2bb5550d535d1aeeb0c12400ee1bb174fd553ffd32f2cf", func := "palimpsest/palimpsestlaw06.CutAgain", spec := "cutAgain", inPlace := ["internal/bytealg.MakeNoZero"], apart := false }
def CutAgainSaid : Prop := cutAgainRow.holds Try.pinned (OpenSpec.ofChange cutAgainSpec)

/-- ITS FALSE NEIGHBOUR: 'it returns false'. Refute it at one input. -/
def cutAgainWrong : ChangeSpec := { name := "cutAgain", fn := fun _ => fun
  | [d1, d2, d3] => { results := [.lit (.bool false)], args := [d1, d2, d3] }
  | _ => none }
def CutAgainWrongFalsely : Prop := cutAgainRow.holds Try.pinned (OpenSpec.ofChange cutAgainWrong)

/-- 'palimpsestlaw06.CutPrefix': WHATEVER THE INPUT: true; the input reads as it did. -/
def cutPrefixSpec : ChangeSpec := { name := "cutPrefix", fn := fun _ => fun
  | [d1, d2] => { results := [.lit (.bool true)], args := [d1, d2] }
  | _ => none }
def cutPrefixRow : OpenClaim := { program := "ytdfkffmddgffkaa", sum := "3555749511bcd88bba2bb5550d535d1aeeb0c12400ee1bb174fd553ffd32f2cf", func := "palimpsest/palimpsestlaw06.CutPrefix", spec := "cutPrefix", inPlace := ["internal/bytealg.MakeNoZero"], apart := false }
def CutPrefixSaid : Prop := cutPrefixRow.holds Try.pinned (OpenSpec.ofChange cutPrefixSpec)

/-- ITS FALSE NEIGHBOUR: 'it returns false'. Refute it at one input. -/
def cutPrefixWrong : ChangeSpec := { name := "cutPrefix", fn := fun _ => fun
  | [d1, d2] => { results := [.lit (.bool false)], args := [d1, d2] }
  | _ => none }
def CutPrefixWrongFalsely : Prop := cutPrefixRow.holds Try.pinned (OpenSpec.ofChange cutPrefixWrong)

/- THE SECOND FORM. 'bulk': how many values and letters a reading holds, each counted each time it is reached (what is shared counts as often as it is met; a slice's spare places count too). A statement '..UptoSaid' is the law's where the arguments, and the package variables that the reading takes, are together of bulk at most 1048576: NARROWER than '..Said'. Prove '..Said' where nothing that the law and all that it calls make is longer than what came in: it says more and counts as full. Else prove '..UptoSaid'. A law counts once. -/
mutual
def uptoBulk {H : Type} : DataW H → Nat
  | .lit (.string bytes) => bytes.length + 1
  | .lit _ => 1
  | .nil => 1
  | .ptr d => uptoBulk d + 1
  | .slice elems spare => uptoBulkAll elems + uptoBulkAll spare + 1
  | .agg parts => uptoBulkAll parts + 1
  | .iface _ d => uptoBulk d + 1
  | .map entries => uptoBulkEntries entries + 1
  | .held _ => 1
def uptoBulkAll {H : Type} : List (DataW H) → Nat
  | [] => 0
  | d :: r => uptoBulk d + uptoBulkAll r
def uptoBulkEntries {H : Type} : List (Lit × DataW H) → Nat
  | [] => 0
  | x :: r => uptoBulkEntry x + uptoBulkEntries r
def uptoBulkEntry {H : Type} : Lit × DataW H → Nat
  | (.string bytes, d) => bytes.length + uptoBulk d + 1
  | (_, d) => uptoBulk d + 1
 end
def uptoSmall : (H : Type) → List (DataW H) → Bool := fun _ ds => decide (uptoBulkAll ds ≤ 1048576)
def OpenSpec.upto (s : _root_.Go.ChangeSpec) : _root_.Go.OpenSpec := { _root_.Go.OpenSpec.ofChange s with cond := some uptoSmall }

/-- 'palimpsestlaw05.RabinPushes', WHERE WHAT IT READS IS OF BULK AT MOST 1048576: true; the input reads as it did. -/
def rabinPushesUptoRow : OpenClaim := { program := "ytdfkffmddgffkaa", sum := "3555749511bcd88bba2bb5550d535d1aeeb0c12400ee1bb174fd553ffd32f2cf", func := "palimpsest/palimpsestlaw05.RabinPushes", spec := "rabinPushes", apart := false, narrowed := true }
def RabinPushesUptoSaid : Prop := rabinPushesUptoRow.holds Try.pinned (OpenSpec.upto rabinPushesSpec)

/-- 'palimpsestlaw05.RabinReckons', WHERE WHAT IT READS IS OF BULK AT MOST 1048576: true; the input reads as it did. -/
def rabinReckonsUptoRow : OpenClaim := { program := "ytdfkffmddgffkaa", sum := "3555749511bcd88bba2bb5550d535d1aeeb0c12400ee1bb174fd553ffd32f2cf", func := "palimpsest/palimpsestlaw05.RabinReckons", spec := "rabinReckons", apart := false, narrowed := true }
def RabinReckonsUptoSaid : Prop := rabinReckonsUptoRow.holds Try.pinned (OpenSpec.upto rabinReckonsSpec)

/-- 'palimpsestlaw05.RabinRolls', WHERE WHAT IT READS IS OF BULK AT MOST 1048576: true; the input reads as it did. -/
def rabinRollsUptoRow : OpenClaim := { program := "ytdfkffmddgffkaa", sum := "3555749511bcd88bba2bb5550d535d1aeeb0c12400ee1bb174fd553ffd32f2cf", func := "palimpsest/palimpsestlaw05.RabinRolls", spec := "rabinRolls", apart := false, narrowed := true }
def RabinRollsUptoSaid : Prop := rabinRollsUptoRow.holds Try.pinned (OpenSpec.upto rabinRollsSpec)

/-- 'palimpsestlaw05.RabinLinear', WHERE WHAT IT READS IS OF BULK AT MOST 1048576: true; the input reads as it did. -/
def rabinLinearUptoRow : OpenClaim := { program := "ytdfkffmddgffkaa", sum := "3555749511bcd88bba2bb5550d535d1aeeb0c12400ee1bb174fd553ffd32f2cf", func := "palimpsest/palimpsestlaw05.RabinLinear", spec := "rabinLinear", apart := false, narrowed := true }
def RabinLinearUptoSaid : Prop := rabinLinearUptoRow.holds Try.pinned (OpenSpec.upto rabinLinearSpec)

/-- 'palimpsestlaw05.RabinMod', WHERE WHAT IT READS IS OF BULK AT MOST 1048576: true; the input reads as it did. -/
def rabinModUptoRow : OpenClaim := { program := "ytdfkffmddgffkaa", sum := "3555749511bcd88bba2bb5550d535d1aeeb0c12400ee1bb174fd553ffd32f2cf", func := "palimpsest/palimpsestlaw05.RabinMod", spec := "rabinMod", apart := false, narrowed := true }
def RabinModUptoSaid : Prop := rabinModUptoRow.holds Try.pinned (OpenSpec.upto rabinModSpec)

/-- 'palimpsestlaw06.CutNoughts', WHERE WHAT IT READS IS OF BULK AT MOST 1048576: true; the input reads as it did. -/
def cutNoughtsUptoRow : OpenClaim := { program := "ytdfkffmddgffkaa", sum := "3555749511bcd88bba2bb5550d535d1aeeb0c12400ee1bb174fd553ffd32f2cf", func := "palimpsest/palimpsestlaw06.CutNoughts", spec := "cutNoughts", inPlace := ["internal/bytealg.MakeNoZero"], apart := false, narrowed := true }
def CutNoughtsUptoSaid : Prop := cutNoughtsUptoRow.holds Try.pinned (OpenSpec.upto cutNoughtsSpec)

/-- 'palimpsestlaw06.CutLocal', WHERE WHAT IT READS IS OF BULK AT MOST 1048576: true; the input reads as it did. -/
def cutLocalUptoRow : OpenClaim := { program := "ytdfkffmddgffkaa", sum := "3555749511bcd88bba2bb5550d535d1aeeb0c12400ee1bb174fd553ffd32f2cf", func := "palimpsest/palimpsestlaw06.CutLocal", spec := "cutLocal", inPlace := ["internal/bytealg.MakeNoZero"], apart := false, narrowed := true }
def CutLocalUptoSaid : Prop := cutLocalUptoRow.holds Try.pinned (OpenSpec.upto cutLocalSpec)

/-- 'palimpsestlaw06.CutFinds', WHERE WHAT IT READS IS OF BULK AT MOST 1048576: true; the input reads as it did. -/
def cutFindsUptoRow : OpenClaim := { program := "ytdfkffmddgffkaa", sum := "3555749511bcd88bba2bb5550d535d1aeeb0c12400ee1bb174fd553ffd32f2cf", func := "palimpsest/palimpsestlaw06.CutFinds", spec := "cutFinds", inPlace := ["internal/bytealg.MakeNoZero"], apart := false, narrowed := true }
def CutFindsUptoSaid : Prop := cutFindsUptoRow.holds Try.pinned (OpenSpec.upto cutFindsSpec)

/-- 'palimpsestlaw06.CutJoins', WHERE WHAT IT READS IS OF BULK AT MOST 1048576: true; the input reads as it did. -/
def cutJoinsUptoRow : OpenClaim := { program := "ytdfkffmddgffkaa", sum := "3555749511bcd88bba2bb5550d535d1aeeb0c12400ee1bb174fd553ffd32f2cf", func := "palimpsest/palimpsestlaw06.CutJoins", spec := "cutJoins", inPlace := ["internal/bytealg.MakeNoZero"], apart := false, narrowed := true }
def CutJoinsUptoSaid : Prop := cutJoinsUptoRow.holds Try.pinned (OpenSpec.upto cutJoinsSpec)

/-- 'palimpsestlaw06.CutAgain', WHERE WHAT IT READS IS OF BULK AT MOST 1048576: true; the input reads as it did. -/
def cutAgainUptoRow : OpenClaim := { program := "ytdfkffmddgffkaa", sum := "3555749511bcd88bba2bb5550d535d1aeeb0c12400ee1bb174fd553ffd32f2cf", func := "palimpsest/palimpsestlaw06.CutAgain", spec := "cutAgain", inPlace := ["internal/bytealg.MakeNoZero"], apart := false, narrowed := true }
def CutAgainUptoSaid : Prop := cutAgainUptoRow.holds Try.pinned (OpenSpec.upto cutAgainSpec)

/-- 'palimpsestlaw06.CutPrefix', WHERE WHAT IT READS IS OF BULK AT MOST 1048576: true; the input reads as it did. -/
def cutPrefixUptoRow : OpenClaim := { program := "ytdfkffmddgffkaa", sum := "3555749511bcd88bba2bb5550d535d1aeeb0c12400ee1bb174fd553ffd32f2cf", func := "palimpsest/palimpsestlaw06.CutPrefix", spec := "cutPrefix", inPlace := ["internal/bytealg.MakeNoZero"], apart := false, narrowed := true }
def CutPrefixUptoSaid : Prop := cutPrefixUptoRow.holds Try.pinned (OpenSpec.upto cutPrefixSpec)

end Rows
end Go.Proofs.Ytdfkffmddgffkaa
