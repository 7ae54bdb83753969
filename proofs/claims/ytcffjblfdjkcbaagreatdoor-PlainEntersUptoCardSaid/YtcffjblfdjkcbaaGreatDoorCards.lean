/-
  DERIVED. GIVEN WITH THE SEED: THE CARDS: each row of YtcffjblfdjkcbaaGreatDoorRows.lean that lists a variable, with what it lists TIED to the program's text (the seventh form; the later family's looks); each row that meets fmt, with fmt's text TOLD by the authors' own Lean function (tested against real Go, not proved from fmt's source: count such statements apart). THE CARD IS WHAT COUNTS. Prove the row's statement (the work); the ties are given (YtcffjblfdjkcbaaGreatDoorTie.lean); close each card by the builder's one call (the guide's Derived/Test/ToyasCard.lean, 'card_holds'). Laid BY PROGRAM, IN A SANDBOX (cutbox-door.mjs). By AI agents, Wed Nov 11 2026. No macro, syntax, notation, axiom, sorry.
-/
import Derived.Test.YtcffjblfdjkcbaaGreatDoorRows
import GoSem.ClaimSeven
namespace Go.Proofs.YtcffjblfdjkcbaaGreatDoor
namespace Rows

/-- THE TIED CARD OF 'palimpsestlaw17.PlainNumbers'. -/
def plainNumbersCard : Claim7 := { stood := { row := plainNumbersRow, standIns := [], harness := (true, "06bf579a42f3e3621a985f5a904049f4b7bc71230b7eb64be6cbe2ff8ef8c8a2"), looks := true }, kinds := [], alts := [], laidByText := true, laidKinds := [.data, .handle, .pinned], laidTests := true, laidLooks := .later }
def PlainNumbersCardSaid : Prop := Claim7.holds Tryz.pinned (.plain (OpenSpec.ofChange plainNumbersSpec)) plainNumbersCard

/-- THE TIED CARD OF 'palimpsestlaw17.PlainEnters'. -/
def plainEntersCard : Claim7 := { stood := { row := plainEntersRow, standIns := [], harness := (true, "06bf579a42f3e3621a985f5a904049f4b7bc71230b7eb64be6cbe2ff8ef8c8a2"), looks := true }, kinds := [], alts := [], laidByText := true, laidKinds := [.data, .handle, .pinned], laidTests := true, laidLooks := .later }
def PlainEntersCardSaid : Prop := Claim7.holds Tryz.pinned (.plain (OpenSpec.ofChange plainEntersSpec)) plainEntersCard

/-- THE TIED CARD OF 'palimpsestlaw17.PlainBack'. -/
def plainBackCard : Claim7 := { stood := { row := plainBackRow, standIns := [], harness := (true, "06bf579a42f3e3621a985f5a904049f4b7bc71230b7eb64be6cbe2ff8ef8c8a2"), looks := true }, kinds := [], alts := [], laidByText := true, laidKinds := [.data, .handle, .pinned], laidTests := true, laidLooks := .later }
def PlainBackCardSaid : Prop := Claim7.holds Tryz.pinned (.plain (OpenSpec.ofChange plainBackSpec)) plainBackCard

/-- THE TIED CARD OF 'palimpsestlaw17.PlainUp'. -/
def plainUpCard : Claim7 := { stood := { row := plainUpRow, standIns := [], harness := (true, "06bf579a42f3e3621a985f5a904049f4b7bc71230b7eb64be6cbe2ff8ef8c8a2"), looks := true }, kinds := [], alts := [], laidByText := true, laidKinds := [.data, .handle, .pinned], laidTests := true, laidLooks := .later }
def PlainUpCardSaid : Prop := Claim7.holds Tryz.pinned (.plain (OpenSpec.ofChange plainUpSpec)) plainUpCard

/-- THE TIED CARD OF 'palimpsestlaw17.PlainLeaves'. -/
def plainLeavesCard : Claim7 := { stood := { row := plainLeavesRow, standIns := [], harness := (true, "06bf579a42f3e3621a985f5a904049f4b7bc71230b7eb64be6cbe2ff8ef8c8a2"), looks := true }, kinds := [], alts := [], laidByText := true, laidKinds := [.data, .handle, .pinned], laidTests := true, laidLooks := .later }
def PlainLeavesCardSaid : Prop := Claim7.holds Tryz.pinned (.plain (OpenSpec.ofChange plainLeavesSpec)) plainLeavesCard

/-- THE TIED CARD OF 'palimpsestlaw17.PlainStays'. -/
def plainStaysCard : Claim7 := { stood := { row := plainStaysRow, standIns := [], harness := (true, "06bf579a42f3e3621a985f5a904049f4b7bc71230b7eb64be6cbe2ff8ef8c8a2"), looks := true }, kinds := [], alts := [], laidByText := true, laidKinds := [.data, .handle, .pinned], laidTests := true, laidLooks := .later }
def PlainStaysCardSaid : Prop := Claim7.holds Tryz.pinned (.plain (OpenSpec.ofChange plainStaysSpec)) plainStaysCard

/-- THE SECOND FORM's CARD OF 'palimpsestlaw17.PlainNumbers'. -/
def plainNumbersUptoCard : Claim7 := { stood := { row := plainNumbersUptoRow, standIns := [], harness := (true, "06bf579a42f3e3621a985f5a904049f4b7bc71230b7eb64be6cbe2ff8ef8c8a2"), looks := true }, kinds := [], alts := [], laidByText := true, laidKinds := [.data, .handle, .pinned], laidTests := true, laidLooks := .later }
def PlainNumbersUptoCardSaid : Prop := Claim7.holds Tryz.pinned (.plain (OpenSpec.upto plainNumbersSpec)) plainNumbersUptoCard

/-- THE SECOND FORM's CARD OF 'palimpsestlaw17.PlainEnters'. -/
def plainEntersUptoCard : Claim7 := { stood := { row := plainEntersUptoRow, standIns := [], harness := (true, "06bf579a42f3e3621a985f5a904049f4b7bc71230b7eb64be6cbe2ff8ef8c8a2"), looks := true }, kinds := [], alts := [], laidByText := true, laidKinds := [.data, .handle, .pinned], laidTests := true, laidLooks := .later }
def PlainEntersUptoCardSaid : Prop := Claim7.holds Tryz.pinned (.plain (OpenSpec.upto plainEntersSpec)) plainEntersUptoCard

/-- THE SECOND FORM's CARD OF 'palimpsestlaw17.PlainBack'. -/
def plainBackUptoCard : Claim7 := { stood := { row := plainBackUptoRow, standIns := [], harness := (true, "06bf579a42f3e3621a985f5a904049f4b7bc71230b7eb64be6cbe2ff8ef8c8a2"), looks := true }, kinds := [], alts := [], laidByText := true, laidKinds := [.data, .handle, .pinned], laidTests := true, laidLooks := .later }
def PlainBackUptoCardSaid : Prop := Claim7.holds Tryz.pinned (.plain (OpenSpec.upto plainBackSpec)) plainBackUptoCard

/-- THE SECOND FORM's CARD OF 'palimpsestlaw17.PlainUp'. -/
def plainUpUptoCard : Claim7 := { stood := { row := plainUpUptoRow, standIns := [], harness := (true, "06bf579a42f3e3621a985f5a904049f4b7bc71230b7eb64be6cbe2ff8ef8c8a2"), looks := true }, kinds := [], alts := [], laidByText := true, laidKinds := [.data, .handle, .pinned], laidTests := true, laidLooks := .later }
def PlainUpUptoCardSaid : Prop := Claim7.holds Tryz.pinned (.plain (OpenSpec.upto plainUpSpec)) plainUpUptoCard

/-- THE SECOND FORM's CARD OF 'palimpsestlaw17.PlainLeaves'. -/
def plainLeavesUptoCard : Claim7 := { stood := { row := plainLeavesUptoRow, standIns := [], harness := (true, "06bf579a42f3e3621a985f5a904049f4b7bc71230b7eb64be6cbe2ff8ef8c8a2"), looks := true }, kinds := [], alts := [], laidByText := true, laidKinds := [.data, .handle, .pinned], laidTests := true, laidLooks := .later }
def PlainLeavesUptoCardSaid : Prop := Claim7.holds Tryz.pinned (.plain (OpenSpec.upto plainLeavesSpec)) plainLeavesUptoCard

/-- THE SECOND FORM's CARD OF 'palimpsestlaw17.PlainStays'. -/
def plainStaysUptoCard : Claim7 := { stood := { row := plainStaysUptoRow, standIns := [], harness := (true, "06bf579a42f3e3621a985f5a904049f4b7bc71230b7eb64be6cbe2ff8ef8c8a2"), looks := true }, kinds := [], alts := [], laidByText := true, laidKinds := [.data, .handle, .pinned], laidTests := true, laidLooks := .later }
def PlainStaysUptoCardSaid : Prop := Claim7.holds Tryz.pinned (.plain (OpenSpec.upto plainStaysSpec)) plainStaysUptoCard
end Rows
end Go.Proofs.YtcffjblfdjkcbaaGreatDoor
