/-
  DERIVED. GIVEN WITH THE SEED: THE CARDS: each row of YtjaopinmnpekiaaGreatDoorRows.lean that lists a variable, with what it lists TIED to the program's text (the seventh form; the later family's looks); each row that meets fmt, with fmt's text TOLD by the authors' own Lean function (tested against real Go, not proved from fmt's source: count such statements apart). THE CARD IS WHAT COUNTS. Prove the row's statement (the work); the ties are given (YtjaopinmnpekiaaGreatDoorTie.lean); close each card by the builder's one call (the guide's Derived/Test/ToyasCard.lean, 'card_holds'). Laid BY PROGRAM, IN A SANDBOX (cutbox-door.mjs). By AI agents, Wed Nov 11 2026. No macro, syntax, notation, axiom, sorry.
-/
import Derived.Test.YtjaopinmnpekiaaGreatDoorRows
import GoSem.ClaimSeven
namespace Go.Proofs.YtjaopinmnpekiaaGreatDoor
namespace Rows

/-- THE TIED CARD OF 'palimpsestlaw18.WalkUp'. -/
def walkUpCard : Claim7 := { stood := { row := walkUpRow, standIns := [], harness := (true, "6b9fd88bbf264e9218a6ea8520b294747dcc4af1afb5e9442ebb451e7b84dfe7"), looks := true }, kinds := [], alts := [], laidByText := true, laidKinds := [.data, .handle, .pinned], laidTests := true, laidLooks := .later }
def WalkUpCardSaid : Prop := Claim7.holds Tryz.pinned (.plain (OpenSpec.ofChange walkUpSpec)) walkUpCard

/-- THE TIED CARD OF 'palimpsestlaw18.WalkLeads'. -/
def walkLeadsCard : Claim7 := { stood := { row := walkLeadsRow, standIns := [], harness := (true, "6b9fd88bbf264e9218a6ea8520b294747dcc4af1afb5e9442ebb451e7b84dfe7"), looks := true }, kinds := [], alts := [], laidByText := true, laidKinds := [.data, .handle, .pinned], laidTests := true, laidLooks := .later }
def WalkLeadsCardSaid : Prop := Claim7.holds Tryz.pinned (.plain (OpenSpec.ofChange walkLeadsSpec)) walkLeadsCard

/-- THE TIED CARD OF 'palimpsestlaw18.WalkBack'. -/
def walkBackCard : Claim7 := { stood := { row := walkBackRow, standIns := [], harness := (true, "6b9fd88bbf264e9218a6ea8520b294747dcc4af1afb5e9442ebb451e7b84dfe7"), looks := true }, kinds := [], alts := [], laidByText := true, laidKinds := [.data, .handle, .pinned], laidTests := true, laidLooks := .later }
def WalkBackCardSaid : Prop := Claim7.holds Tryz.pinned (.plain (OpenSpec.ofChange walkBackSpec)) walkBackCard

/-- THE TIED CARD OF 'palimpsestlaw18.WalkTrue'. -/
def walkTrueCard : Claim7 := { stood := { row := walkTrueRow, standIns := [], harness := (true, "6b9fd88bbf264e9218a6ea8520b294747dcc4af1afb5e9442ebb451e7b84dfe7"), looks := true }, kinds := [], alts := [], laidByText := true, laidKinds := [.data, .handle, .pinned], laidTests := true, laidLooks := .later }
def WalkTrueCardSaid : Prop := Claim7.holds Tryz.pinned (.plain (OpenSpec.ofChange walkTrueSpec)) walkTrueCard

/-- THE TIED CARD OF 'palimpsestlaw18.WalkStrokes'. -/
def walkStrokesCard : Claim7 := { stood := { row := walkStrokesRow, standIns := [], harness := (true, "6b9fd88bbf264e9218a6ea8520b294747dcc4af1afb5e9442ebb451e7b84dfe7"), looks := true }, kinds := [], alts := [], laidByText := true, laidKinds := [.data, .handle, .pinned], laidTests := true, laidLooks := .later }
def WalkStrokesCardSaid : Prop := Claim7.holds Tryz.pinned (.plain (OpenSpec.ofChange walkStrokesSpec)) walkStrokesCard

/-- THE SECOND FORM's CARD OF 'palimpsestlaw18.WalkUp'. -/
def walkUpUptoCard : Claim7 := { stood := { row := walkUpUptoRow, standIns := [], harness := (true, "6b9fd88bbf264e9218a6ea8520b294747dcc4af1afb5e9442ebb451e7b84dfe7"), looks := true }, kinds := [], alts := [], laidByText := true, laidKinds := [.data, .handle, .pinned], laidTests := true, laidLooks := .later }
def WalkUpUptoCardSaid : Prop := Claim7.holds Tryz.pinned (.plain (OpenSpec.upto walkUpSpec)) walkUpUptoCard

/-- THE SECOND FORM's CARD OF 'palimpsestlaw18.WalkLeads'. -/
def walkLeadsUptoCard : Claim7 := { stood := { row := walkLeadsUptoRow, standIns := [], harness := (true, "6b9fd88bbf264e9218a6ea8520b294747dcc4af1afb5e9442ebb451e7b84dfe7"), looks := true }, kinds := [], alts := [], laidByText := true, laidKinds := [.data, .handle, .pinned], laidTests := true, laidLooks := .later }
def WalkLeadsUptoCardSaid : Prop := Claim7.holds Tryz.pinned (.plain (OpenSpec.upto walkLeadsSpec)) walkLeadsUptoCard

/-- THE SECOND FORM's CARD OF 'palimpsestlaw18.WalkBack'. -/
def walkBackUptoCard : Claim7 := { stood := { row := walkBackUptoRow, standIns := [], harness := (true, "6b9fd88bbf264e9218a6ea8520b294747dcc4af1afb5e9442ebb451e7b84dfe7"), looks := true }, kinds := [], alts := [], laidByText := true, laidKinds := [.data, .handle, .pinned], laidTests := true, laidLooks := .later }
def WalkBackUptoCardSaid : Prop := Claim7.holds Tryz.pinned (.plain (OpenSpec.upto walkBackSpec)) walkBackUptoCard

/-- THE SECOND FORM's CARD OF 'palimpsestlaw18.WalkTrue'. -/
def walkTrueUptoCard : Claim7 := { stood := { row := walkTrueUptoRow, standIns := [], harness := (true, "6b9fd88bbf264e9218a6ea8520b294747dcc4af1afb5e9442ebb451e7b84dfe7"), looks := true }, kinds := [], alts := [], laidByText := true, laidKinds := [.data, .handle, .pinned], laidTests := true, laidLooks := .later }
def WalkTrueUptoCardSaid : Prop := Claim7.holds Tryz.pinned (.plain (OpenSpec.upto walkTrueSpec)) walkTrueUptoCard

/-- THE SECOND FORM's CARD OF 'palimpsestlaw18.WalkStrokes'. -/
def walkStrokesUptoCard : Claim7 := { stood := { row := walkStrokesUptoRow, standIns := [], harness := (true, "6b9fd88bbf264e9218a6ea8520b294747dcc4af1afb5e9442ebb451e7b84dfe7"), looks := true }, kinds := [], alts := [], laidByText := true, laidKinds := [.data, .handle, .pinned], laidTests := true, laidLooks := .later }
def WalkStrokesUptoCardSaid : Prop := Claim7.holds Tryz.pinned (.plain (OpenSpec.upto walkStrokesSpec)) walkStrokesUptoCard
end Rows
end Go.Proofs.YtjaopinmnpekiaaGreatDoor
