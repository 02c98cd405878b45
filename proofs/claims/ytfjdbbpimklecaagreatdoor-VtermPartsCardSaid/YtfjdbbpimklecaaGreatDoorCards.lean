/-
  DERIVED. GIVEN WITH THE SEED: THE CARDS: each row of YtfjdbbpimklecaaGreatDoorRows.lean that lists a variable, with what it lists TIED to the program's text (the seventh form; the later family's looks); each row that meets fmt, with fmt's text TOLD by the authors' own Lean function (tested against real Go, not proved from fmt's source: count such statements apart). THE CARD IS WHAT COUNTS. Prove the row's statement (the work); the ties are given (YtfjdbbpimklecaaGreatDoorTie.lean); close each card by the builder's one call (the guide's Derived/Test/ToyasCard.lean, 'card_holds'). Laid BY PROGRAM, IN A SANDBOX (cutbox-door.mjs). By AI agents, Wed Nov 11 2026. No macro, syntax, notation, axiom, sorry.
-/
import Derived.Test.YtfjdbbpimklecaaGreatDoorRows
import GoSem.ClaimSeven
namespace Go.Proofs.YtfjdbbpimklecaaGreatDoor
namespace Rows

/-- THE TIED CARD OF 'typebarlaw33.PaintSends'. -/
def paintSendsCard : Claim7 := { stood := { row := paintSendsRow, standIns := [], harness := (true, "a0ba6ccefe3d652b6033df4bb13756994f7e3b0f21fef5600767a907aa101a35"), looks := true }, kinds := [], alts := [], laidByText := true, laidKinds := [.data, .data, .data], laidTests := true, laidLooks := .later }
def PaintSendsCardSaid : Prop := Claim7.holds Tryz.pinned (.plain (OpenSpec.ofChange paintSendsSpec)) paintSendsCard

/-- THE TIED CARD OF 'typebarlaw33.PaintLittle'. -/
def paintLittleCard : Claim7 := { stood := { row := paintLittleRow, standIns := [], harness := (true, "a0ba6ccefe3d652b6033df4bb13756994f7e3b0f21fef5600767a907aa101a35"), looks := true }, kinds := [], alts := [], laidByText := true, laidKinds := [.data, .data, .data], laidTests := true, laidLooks := .later }
def PaintLittleCardSaid : Prop := Claim7.holds Tryz.pinned (.plain (OpenSpec.ofChange paintLittleSpec)) paintLittleCard

/-- THE TIED CARD OF 'typebarlaw36.TallyBounds'. -/
def tallyBoundsCard : Claim7 := { stood := { row := tallyBoundsRow, standIns := [], harness := (true, "a0ba6ccefe3d652b6033df4bb13756994f7e3b0f21fef5600767a907aa101a35"), looks := true }, kinds := [], alts := [], laidByText := true, laidKinds := [.data, .data, .data], laidTests := true, laidLooks := .later }
def TallyBoundsCardSaid : Prop := Claim7.holds Tryz.pinned (.plain (OpenSpec.ofChange tallyBoundsSpec)) tallyBoundsCard

/-- THE TIED CARD OF 'typebarlaw31.VtermShows'. -/
def vtermShowsCard : Claim7 := { stood := { row := vtermShowsRow, standIns := [], harness := (true, "a0ba6ccefe3d652b6033df4bb13756994f7e3b0f21fef5600767a907aa101a35"), looks := true }, kinds := [], alts := [], laidByText := true, laidKinds := [.data, .data, .data, .sentinel, .sentinel], laidTests := true, laidLooks := .later }
def VtermShowsCardSaid : Prop := Claim7.holds Tryz.pinned (.plain (OpenSpec.ofChange vtermShowsSpec)) vtermShowsCard

/-- THE TIED CARD OF 'typebarlaw31.VtermWithin'. -/
def vtermWithinCard : Claim7 := { stood := { row := vtermWithinRow, standIns := [], harness := (true, "a0ba6ccefe3d652b6033df4bb13756994f7e3b0f21fef5600767a907aa101a35"), looks := true }, kinds := [], alts := [], laidByText := true, laidKinds := [.data, .data, .data, .sentinel, .sentinel], laidTests := true, laidLooks := .later }
def VtermWithinCardSaid : Prop := Claim7.holds Tryz.pinned (.plain (OpenSpec.ofChange vtermWithinSpec)) vtermWithinCard

/-- THE TIED CARD OF 'typebarlaw31.VtermParts'. -/
def vtermPartsCard : Claim7 := { stood := { row := vtermPartsRow, standIns := [], harness := (true, "a0ba6ccefe3d652b6033df4bb13756994f7e3b0f21fef5600767a907aa101a35"), looks := true }, kinds := [], alts := [], laidByText := true, laidKinds := [.data, .data, .data, .sentinel, .sentinel], laidTests := true, laidLooks := .later }
def VtermPartsCardSaid : Prop := Claim7.holds Tryz.pinned (.plain (OpenSpec.ofChange vtermPartsSpec)) vtermPartsCard

/-- THE TIED CARD OF 'typebarlaw32.DiffShows'. -/
def diffShowsCard : Claim7 := { stood := { row := diffShowsRow, standIns := [], harness := (true, "a0ba6ccefe3d652b6033df4bb13756994f7e3b0f21fef5600767a907aa101a35"), looks := true }, kinds := [], alts := [], laidByText := true, laidKinds := [.data, .data, .data, .sentinel, .sentinel], laidTests := true, laidLooks := .later }
def DiffShowsCardSaid : Prop := Claim7.holds Tryz.pinned (.plain (OpenSpec.ofChange diffShowsSpec)) diffShowsCard

/-- THE TIED CARD OF 'typebarlaw33.PaintShows'. -/
def paintShowsCard : Claim7 := { stood := { row := paintShowsRow, standIns := [], harness := (true, "a0ba6ccefe3d652b6033df4bb13756994f7e3b0f21fef5600767a907aa101a35"), looks := true }, kinds := [], alts := [], laidByText := true, laidKinds := [.data, .data, .data, .sentinel, .sentinel], laidTests := true, laidLooks := .later }
def PaintShowsCardSaid : Prop := Claim7.holds Tryz.pinned (.plain (OpenSpec.ofChange paintShowsSpec)) paintShowsCard

/-- THE SECOND FORM's CARD OF 'typebarlaw33.PaintSends'. -/
def paintSendsUptoCard : Claim7 := { stood := { row := paintSendsUptoRow, standIns := [], harness := (true, "a0ba6ccefe3d652b6033df4bb13756994f7e3b0f21fef5600767a907aa101a35"), looks := true }, kinds := [], alts := [], laidByText := true, laidKinds := [.data, .data, .data], laidTests := true, laidLooks := .later }
def PaintSendsUptoCardSaid : Prop := Claim7.holds Tryz.pinned (.plain (OpenSpec.upto paintSendsSpec)) paintSendsUptoCard

/-- THE SECOND FORM's CARD OF 'typebarlaw33.PaintLittle'. -/
def paintLittleUptoCard : Claim7 := { stood := { row := paintLittleUptoRow, standIns := [], harness := (true, "a0ba6ccefe3d652b6033df4bb13756994f7e3b0f21fef5600767a907aa101a35"), looks := true }, kinds := [], alts := [], laidByText := true, laidKinds := [.data, .data, .data], laidTests := true, laidLooks := .later }
def PaintLittleUptoCardSaid : Prop := Claim7.holds Tryz.pinned (.plain (OpenSpec.upto paintLittleSpec)) paintLittleUptoCard

/-- THE SECOND FORM's CARD OF 'typebarlaw36.TallyBounds'. -/
def tallyBoundsUptoCard : Claim7 := { stood := { row := tallyBoundsUptoRow, standIns := [], harness := (true, "a0ba6ccefe3d652b6033df4bb13756994f7e3b0f21fef5600767a907aa101a35"), looks := true }, kinds := [], alts := [], laidByText := true, laidKinds := [.data, .data, .data], laidTests := true, laidLooks := .later }
def TallyBoundsUptoCardSaid : Prop := Claim7.holds Tryz.pinned (.plain (OpenSpec.upto tallyBoundsSpec)) tallyBoundsUptoCard

/-- THE SECOND FORM's CARD OF 'typebarlaw31.VtermShows'. -/
def vtermShowsUptoCard : Claim7 := { stood := { row := vtermShowsUptoRow, standIns := [], harness := (true, "a0ba6ccefe3d652b6033df4bb13756994f7e3b0f21fef5600767a907aa101a35"), looks := true }, kinds := [], alts := [], laidByText := true, laidKinds := [.data, .data, .data, .sentinel, .sentinel], laidTests := true, laidLooks := .later }
def VtermShowsUptoCardSaid : Prop := Claim7.holds Tryz.pinned (.plain (OpenSpec.upto vtermShowsSpec)) vtermShowsUptoCard

/-- THE SECOND FORM's CARD OF 'typebarlaw31.VtermWithin'. -/
def vtermWithinUptoCard : Claim7 := { stood := { row := vtermWithinUptoRow, standIns := [], harness := (true, "a0ba6ccefe3d652b6033df4bb13756994f7e3b0f21fef5600767a907aa101a35"), looks := true }, kinds := [], alts := [], laidByText := true, laidKinds := [.data, .data, .data, .sentinel, .sentinel], laidTests := true, laidLooks := .later }
def VtermWithinUptoCardSaid : Prop := Claim7.holds Tryz.pinned (.plain (OpenSpec.upto vtermWithinSpec)) vtermWithinUptoCard

/-- THE SECOND FORM's CARD OF 'typebarlaw31.VtermParts'. -/
def vtermPartsUptoCard : Claim7 := { stood := { row := vtermPartsUptoRow, standIns := [], harness := (true, "a0ba6ccefe3d652b6033df4bb13756994f7e3b0f21fef5600767a907aa101a35"), looks := true }, kinds := [], alts := [], laidByText := true, laidKinds := [.data, .data, .data, .sentinel, .sentinel], laidTests := true, laidLooks := .later }
def VtermPartsUptoCardSaid : Prop := Claim7.holds Tryz.pinned (.plain (OpenSpec.upto vtermPartsSpec)) vtermPartsUptoCard

/-- THE SECOND FORM's CARD OF 'typebarlaw32.DiffShows'. -/
def diffShowsUptoCard : Claim7 := { stood := { row := diffShowsUptoRow, standIns := [], harness := (true, "a0ba6ccefe3d652b6033df4bb13756994f7e3b0f21fef5600767a907aa101a35"), looks := true }, kinds := [], alts := [], laidByText := true, laidKinds := [.data, .data, .data, .sentinel, .sentinel], laidTests := true, laidLooks := .later }
def DiffShowsUptoCardSaid : Prop := Claim7.holds Tryz.pinned (.plain (OpenSpec.upto diffShowsSpec)) diffShowsUptoCard

/-- THE SECOND FORM's CARD OF 'typebarlaw33.PaintShows'. -/
def paintShowsUptoCard : Claim7 := { stood := { row := paintShowsUptoRow, standIns := [], harness := (true, "a0ba6ccefe3d652b6033df4bb13756994f7e3b0f21fef5600767a907aa101a35"), looks := true }, kinds := [], alts := [], laidByText := true, laidKinds := [.data, .data, .data, .sentinel, .sentinel], laidTests := true, laidLooks := .later }
def PaintShowsUptoCardSaid : Prop := Claim7.holds Tryz.pinned (.plain (OpenSpec.upto paintShowsSpec)) paintShowsUptoCard
end Rows
end Go.Proofs.YtfjdbbpimklecaaGreatDoor
