/-
  DERIVED. GIVEN WITH THE SEED: THE CARDS: each row of YtjgfmanahimpoaaDoorRows.lean that lists a variable, with what it lists TIED to the program's text (the seventh form; the later family's looks); each row that meets fmt, with fmt's text TOLD by the authors' own Lean function (tested against real Go, not proved from fmt's source: count such statements apart). THE CARD IS WHAT COUNTS. Prove the row's statement (the work); the ties are given (YtjgfmanahimpoaaDoorTie.lean); close each card by the builder's one call (the guide's Derived/Test/ToyasCard.lean, 'card_holds'). Laid BY PROGRAM, IN A SANDBOX (cutbox-door.mjs). By AI agents, Wed Nov 11 2026. No macro, syntax, notation, axiom, sorry.
-/
import Derived.Test.YtjgfmanahimpoaaDoorRows
import GoSem.ClaimSeven
namespace Go.Proofs.YtjgfmanahimpoaaDoor
namespace Rows

/-- THE TIED CARD OF 'typebarlaw30.AnsiPuts'. -/
def ansiPutsCard : Claim7 := { stood := { row := ansiPutsRow, standIns := [], harness := (true, "2972f24e63be11ff40e2bccc972430b859bc690050b236464687c53368ed9346"), looks := false }, kinds := [], alts := [], laidByText := true, laidKinds := [.data, .data, .data], laidTests := true, laidLooks := .later }
def AnsiPutsCardSaid : Prop := Claim7.holds Tryd.pinned (.plain (OpenSpec.ofChange ansiPutsSpec)) ansiPutsCard

/-- THE TIED CARD OF 'typebarlaw30.AnsiWays'. -/
def ansiWaysCard : Claim7 := { stood := { row := ansiWaysRow, standIns := [], harness := (true, "2972f24e63be11ff40e2bccc972430b859bc690050b236464687c53368ed9346"), looks := false }, kinds := [], alts := [], laidByText := true, laidKinds := [.data, .data, .data], laidTests := true, laidLooks := .later }
def AnsiWaysCardSaid : Prop := Claim7.holds Tryd.pinned (.plain (OpenSpec.ofChange ansiWaysSpec)) ansiWaysCard

/-- THE TIED CARD OF 'typebarlaw32.DiffRows'. -/
def diffRowsCard : Claim7 := { stood := { row := diffRowsRow, standIns := [], harness := (true, "2972f24e63be11ff40e2bccc972430b859bc690050b236464687c53368ed9346"), looks := false }, kinds := [], alts := [], laidByText := true, laidKinds := [.data, .data, .data], laidTests := true, laidLooks := .later }
def DiffRowsCardSaid : Prop := Claim7.holds Tryd.pinned (.plain (OpenSpec.ofChange diffRowsSpec)) diffRowsCard

/-- THE SECOND FORM's CARD OF 'typebarlaw30.AnsiPuts'. -/
def ansiPutsUptoCard : Claim7 := { stood := { row := ansiPutsUptoRow, standIns := [], harness := (true, "2972f24e63be11ff40e2bccc972430b859bc690050b236464687c53368ed9346"), looks := false }, kinds := [], alts := [], laidByText := true, laidKinds := [.data, .data, .data], laidTests := true, laidLooks := .later }
def AnsiPutsUptoCardSaid : Prop := Claim7.holds Tryd.pinned (.plain (OpenSpec.upto ansiPutsSpec)) ansiPutsUptoCard

/-- THE SECOND FORM's CARD OF 'typebarlaw30.AnsiWays'. -/
def ansiWaysUptoCard : Claim7 := { stood := { row := ansiWaysUptoRow, standIns := [], harness := (true, "2972f24e63be11ff40e2bccc972430b859bc690050b236464687c53368ed9346"), looks := false }, kinds := [], alts := [], laidByText := true, laidKinds := [.data, .data, .data], laidTests := true, laidLooks := .later }
def AnsiWaysUptoCardSaid : Prop := Claim7.holds Tryd.pinned (.plain (OpenSpec.upto ansiWaysSpec)) ansiWaysUptoCard

/-- THE SECOND FORM's CARD OF 'typebarlaw32.DiffRows'. -/
def diffRowsUptoCard : Claim7 := { stood := { row := diffRowsUptoRow, standIns := [], harness := (true, "2972f24e63be11ff40e2bccc972430b859bc690050b236464687c53368ed9346"), looks := false }, kinds := [], alts := [], laidByText := true, laidKinds := [.data, .data, .data], laidTests := true, laidLooks := .later }
def DiffRowsUptoCardSaid : Prop := Claim7.holds Tryd.pinned (.plain (OpenSpec.upto diffRowsSpec)) diffRowsUptoCard
end Rows
end Go.Proofs.YtjgfmanahimpoaaDoor
