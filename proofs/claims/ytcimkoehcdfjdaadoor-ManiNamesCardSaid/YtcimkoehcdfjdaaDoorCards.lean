/-
  DERIVED. GIVEN WITH THE SEED: THE CARDS: each row of YtcimkoehcdfjdaaDoorRows.lean that lists a variable, with what it lists TIED to the program's text (the seventh form; the later family's looks); each row that meets fmt, with fmt's text TOLD by the authors' own Lean function (tested against real Go, not proved from fmt's source: count such statements apart). THE CARD IS WHAT COUNTS. Prove the row's statement (the work); the ties are given (YtcimkoehcdfjdaaDoorTie.lean); close each card by the builder's one call (the guide's Derived/Test/ToyasCard.lean, 'card_holds'). Laid BY PROGRAM, IN A SANDBOX (cutbox-door.mjs). By AI agents, Wed Nov 11 2026. No macro, syntax, notation, axiom, sorry.
-/
import Derived.Test.YtcimkoehcdfjdaaDoorRows
import GoSem.ClaimSeven
namespace Go.Proofs.YtcimkoehcdfjdaaDoor
namespace Rows

/-- THE TIED CARD OF 'mudlarklaw25.ManiNames'. -/
def maniNamesCard : Claim7 := { stood := { row := maniNamesRow, standIns := [], harness := (true, "5d7a89dbfdb8496cbd444ede741728e598187247016f48acd2f3f6ad6df41238"), looks := true }, kinds := [], alts := [], laidByText := true, laidKinds := [.data, .data, .data, .sentinel, .sentinel], laidTests := true, laidLooks := .later }
def ManiNamesCardSaid : Prop := Claim7.holds Tryd.pinned (.plain (OpenSpec.ofChange maniNamesSpec)) maniNamesCard

/-- THE TIED CARD OF 'mudlarklaw25.ManiOnce'. -/
def maniOnceCard : Claim7 := { stood := { row := maniOnceRow, standIns := [], harness := (true, "5d7a89dbfdb8496cbd444ede741728e598187247016f48acd2f3f6ad6df41238"), looks := true }, kinds := [], alts := [], laidByText := true, laidKinds := [.data, .data, .data, .sentinel, .sentinel], laidTests := true, laidLooks := .later }
def ManiOnceCardSaid : Prop := Claim7.holds Tryd.pinned (.plain (OpenSpec.ofChange maniOnceSpec)) maniOnceCard

/-- THE TIED CARD OF 'mudlarklaw25.ManiNum'. -/
def maniNumCard : Claim7 := { stood := { row := maniNumRow, standIns := [], harness := (true, "5d7a89dbfdb8496cbd444ede741728e598187247016f48acd2f3f6ad6df41238"), looks := true }, kinds := [], alts := [], laidByText := true, laidKinds := [.data, .data, .data, .sentinel, .sentinel], laidTests := true, laidLooks := .later }
def ManiNumCardSaid : Prop := Claim7.holds Tryd.pinned (.plain (OpenSpec.ofChange maniNumSpec)) maniNumCard

/-- THE TIED CARD OF 'mudlarklaw25.ManiBack'. -/
def maniBackCard : Claim7 := { stood := { row := maniBackRow, standIns := [], harness := (true, "5d7a89dbfdb8496cbd444ede741728e598187247016f48acd2f3f6ad6df41238"), looks := true }, kinds := [], alts := [], laidByText := true, laidKinds := [.data, .data, .data, .sentinel, .sentinel], laidTests := true, laidLooks := .later }
def ManiBackCardSaid : Prop := Claim7.holds Tryd.pinned (.plain (OpenSpec.ofChange maniBackSpec)) maniBackCard

/-- THE SECOND FORM's CARD OF 'mudlarklaw25.ManiNames'. -/
def maniNamesUptoCard : Claim7 := { stood := { row := maniNamesUptoRow, standIns := [], harness := (true, "5d7a89dbfdb8496cbd444ede741728e598187247016f48acd2f3f6ad6df41238"), looks := true }, kinds := [], alts := [], laidByText := true, laidKinds := [.data, .data, .data, .sentinel, .sentinel], laidTests := true, laidLooks := .later }
def ManiNamesUptoCardSaid : Prop := Claim7.holds Tryd.pinned (.plain (OpenSpec.upto maniNamesSpec)) maniNamesUptoCard

/-- THE SECOND FORM's CARD OF 'mudlarklaw25.ManiOnce'. -/
def maniOnceUptoCard : Claim7 := { stood := { row := maniOnceUptoRow, standIns := [], harness := (true, "5d7a89dbfdb8496cbd444ede741728e598187247016f48acd2f3f6ad6df41238"), looks := true }, kinds := [], alts := [], laidByText := true, laidKinds := [.data, .data, .data, .sentinel, .sentinel], laidTests := true, laidLooks := .later }
def ManiOnceUptoCardSaid : Prop := Claim7.holds Tryd.pinned (.plain (OpenSpec.upto maniOnceSpec)) maniOnceUptoCard

/-- THE SECOND FORM's CARD OF 'mudlarklaw25.ManiNum'. -/
def maniNumUptoCard : Claim7 := { stood := { row := maniNumUptoRow, standIns := [], harness := (true, "5d7a89dbfdb8496cbd444ede741728e598187247016f48acd2f3f6ad6df41238"), looks := true }, kinds := [], alts := [], laidByText := true, laidKinds := [.data, .data, .data, .sentinel, .sentinel], laidTests := true, laidLooks := .later }
def ManiNumUptoCardSaid : Prop := Claim7.holds Tryd.pinned (.plain (OpenSpec.upto maniNumSpec)) maniNumUptoCard

/-- THE SECOND FORM's CARD OF 'mudlarklaw25.ManiBack'. -/
def maniBackUptoCard : Claim7 := { stood := { row := maniBackUptoRow, standIns := [], harness := (true, "5d7a89dbfdb8496cbd444ede741728e598187247016f48acd2f3f6ad6df41238"), looks := true }, kinds := [], alts := [], laidByText := true, laidKinds := [.data, .data, .data, .sentinel, .sentinel], laidTests := true, laidLooks := .later }
def ManiBackUptoCardSaid : Prop := Claim7.holds Tryd.pinned (.plain (OpenSpec.upto maniBackSpec)) maniBackUptoCard
end Rows
end Go.Proofs.YtcimkoehcdfjdaaDoor
