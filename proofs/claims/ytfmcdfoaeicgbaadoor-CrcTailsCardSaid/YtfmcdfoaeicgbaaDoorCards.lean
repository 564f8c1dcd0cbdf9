/-
  DERIVED. GIVEN WITH THE SEED: THE CARDS: each row of YtfmcdfoaeicgbaaDoorRows.lean that lists a variable, with what it lists TIED to the program's text (the seventh form; the later family's looks); each row that meets fmt, with fmt's text TOLD by the authors' own Lean function (tested against real Go, not proved from fmt's source: count such statements apart). THE CARD IS WHAT COUNTS. Prove the row's statement (the work); the ties are given (YtfmcdfoaeicgbaaDoorTie.lean); close each card by the builder's one call (the guide's Derived/Test/ToyasCard.lean, 'card_holds'). Laid BY PROGRAM, IN A SANDBOX (cutbox-door.mjs). By AI agents, Wed Nov 11 2026. No macro, syntax, notation, axiom, sorry.
-/
import Derived.Test.YtfmcdfoaeicgbaaDoorRows
import GoSem.ClaimSeven
namespace Go.Proofs.YtfmcdfoaeicgbaaDoor
namespace Rows

/-- THE TIED CARD OF 'lockkeeperlaw02.CrcTells'. -/
def crcTellsCard : Claim7 := { stood := { row := crcTellsRow, standIns := [], harness := (true, "b47f571223032f061f855aa967148e377616cc19da3e7970c93b38ebefcab532"), looks := false }, kinds := [], alts := [], laidByText := true, laidKinds := [.data], laidTests := true, laidLooks := .later }
def CrcTellsCardSaid : Prop := Claim7.holds Tryd.pinned (.plain (OpenSpec.ofChange crcTellsSpec)) crcTellsCard

/-- THE TIED CARD OF 'lockkeeperlaw02.CrcOdd'. -/
def crcOddCard : Claim7 := { stood := { row := crcOddRow, standIns := [], harness := (true, "b47f571223032f061f855aa967148e377616cc19da3e7970c93b38ebefcab532"), looks := false }, kinds := [], alts := [], laidByText := true, laidKinds := [.data], laidTests := true, laidLooks := .later }
def CrcOddCardSaid : Prop := Claim7.holds Tryd.pinned (.plain (OpenSpec.ofChange crcOddSpec)) crcOddCard

/-- THE TIED CARD OF 'lockkeeperlaw02.CrcTwo'. -/
def crcTwoCard : Claim7 := { stood := { row := crcTwoRow, standIns := [], harness := (true, "b47f571223032f061f855aa967148e377616cc19da3e7970c93b38ebefcab532"), looks := false }, kinds := [], alts := [], laidByText := true, laidKinds := [.data], laidTests := true, laidLooks := .later }
def CrcTwoCardSaid : Prop := Claim7.holds Tryd.pinned (.plain (OpenSpec.ofChange crcTwoSpec)) crcTwoCard

/-- THE TIED CARD OF 'lockkeeperlaw02.CrcTails'. -/
def crcTailsCard : Claim7 := { stood := { row := crcTailsRow, standIns := [], harness := (true, "b47f571223032f061f855aa967148e377616cc19da3e7970c93b38ebefcab532"), looks := false }, kinds := [], alts := [], laidByText := true, laidKinds := [.data], laidTests := true, laidLooks := .later }
def CrcTailsCardSaid : Prop := Claim7.holds Tryd.pinned (.plain (OpenSpec.ofChange crcTailsSpec)) crcTailsCard

/-- THE SECOND FORM's CARD OF 'lockkeeperlaw02.CrcTells'. -/
def crcTellsUptoCard : Claim7 := { stood := { row := crcTellsUptoRow, standIns := [], harness := (true, "b47f571223032f061f855aa967148e377616cc19da3e7970c93b38ebefcab532"), looks := false }, kinds := [], alts := [], laidByText := true, laidKinds := [.data], laidTests := true, laidLooks := .later }
def CrcTellsUptoCardSaid : Prop := Claim7.holds Tryd.pinned (.plain (OpenSpec.upto crcTellsSpec)) crcTellsUptoCard

/-- THE SECOND FORM's CARD OF 'lockkeeperlaw02.CrcOdd'. -/
def crcOddUptoCard : Claim7 := { stood := { row := crcOddUptoRow, standIns := [], harness := (true, "b47f571223032f061f855aa967148e377616cc19da3e7970c93b38ebefcab532"), looks := false }, kinds := [], alts := [], laidByText := true, laidKinds := [.data], laidTests := true, laidLooks := .later }
def CrcOddUptoCardSaid : Prop := Claim7.holds Tryd.pinned (.plain (OpenSpec.upto crcOddSpec)) crcOddUptoCard

/-- THE SECOND FORM's CARD OF 'lockkeeperlaw02.CrcTwo'. -/
def crcTwoUptoCard : Claim7 := { stood := { row := crcTwoUptoRow, standIns := [], harness := (true, "b47f571223032f061f855aa967148e377616cc19da3e7970c93b38ebefcab532"), looks := false }, kinds := [], alts := [], laidByText := true, laidKinds := [.data], laidTests := true, laidLooks := .later }
def CrcTwoUptoCardSaid : Prop := Claim7.holds Tryd.pinned (.plain (OpenSpec.upto crcTwoSpec)) crcTwoUptoCard

/-- THE SECOND FORM's CARD OF 'lockkeeperlaw02.CrcTails'. -/
def crcTailsUptoCard : Claim7 := { stood := { row := crcTailsUptoRow, standIns := [], harness := (true, "b47f571223032f061f855aa967148e377616cc19da3e7970c93b38ebefcab532"), looks := false }, kinds := [], alts := [], laidByText := true, laidKinds := [.data], laidTests := true, laidLooks := .later }
def CrcTailsUptoCardSaid : Prop := Claim7.holds Tryd.pinned (.plain (OpenSpec.upto crcTailsSpec)) crcTailsUptoCard
end Rows
end Go.Proofs.YtfmcdfoaeicgbaaDoor
