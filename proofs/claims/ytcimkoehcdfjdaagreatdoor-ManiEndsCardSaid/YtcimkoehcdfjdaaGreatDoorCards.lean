/-
  DERIVED. GIVEN WITH THE SEED: THE CARDS: each row of YtcimkoehcdfjdaaGreatDoorRows.lean that lists a variable, with what it lists TIED to the program's text (the seventh form; the later family's looks); each row that meets fmt, with fmt's text TOLD by the authors' own Lean function (tested against real Go, not proved from fmt's source: count such statements apart). THE CARD IS WHAT COUNTS. Prove the row's statement (the work); the ties are given (YtcimkoehcdfjdaaGreatDoorTie.lean); close each card by the builder's one call (the guide's Derived/Test/ToyasCard.lean, 'card_holds'). Laid BY PROGRAM, IN A SANDBOX (cutbox-door.mjs). By AI agents, Wed Nov 11 2026. No macro, syntax, notation, axiom, sorry.
-/
import Derived.Test.YtcimkoehcdfjdaaGreatDoorRows
import GoSem.ClaimSeven
namespace Go.Proofs.YtcimkoehcdfjdaaGreatDoor
namespace Rows

/-- THE TIED CARD OF 'mudlarklaw25.ManiPuts'. -/
def maniPutsCard : Claim7 := { stood := { row := maniPutsRow, standIns := [], harness := (true, "63bb8d75b89c792dc8698b97f2bffcf38fc0abaa29e0dcd5b45efe712ef291de"), looks := true }, kinds := [], alts := [], laidByText := true, laidKinds := [.data, .data, .data, .sentinel, .sentinel], laidTests := true, laidLooks := .later }
def ManiPutsCardSaid : Prop := Claim7.holds Tryz.pinned (.plain (OpenSpec.ofChange maniPutsSpec)) maniPutsCard

/-- THE TIED CARD OF 'mudlarklaw25.ManiGets'. -/
def maniGetsCard : Claim7 := { stood := { row := maniGetsRow, standIns := [], harness := (true, "63bb8d75b89c792dc8698b97f2bffcf38fc0abaa29e0dcd5b45efe712ef291de"), looks := true }, kinds := [], alts := [], laidByText := true, laidKinds := [.data, .data, .data, .sentinel, .sentinel], laidTests := true, laidLooks := .later }
def ManiGetsCardSaid : Prop := Claim7.holds Tryz.pinned (.plain (OpenSpec.ofChange maniGetsSpec)) maniGetsCard

/-- THE TIED CARD OF 'mudlarklaw25.ManiEnds'. -/
def maniEndsCard : Claim7 := { stood := { row := maniEndsRow, standIns := [], harness := (true, "63bb8d75b89c792dc8698b97f2bffcf38fc0abaa29e0dcd5b45efe712ef291de"), looks := true }, kinds := [], alts := [], laidByText := true, laidKinds := [.data, .data, .data, .sentinel, .sentinel], laidTests := true, laidLooks := .later }
def ManiEndsCardSaid : Prop := Claim7.holds Tryz.pinned (.plain (OpenSpec.ofChange maniEndsSpec)) maniEndsCard

/-- THE SECOND FORM's CARD OF 'mudlarklaw25.ManiPuts'. -/
def maniPutsUptoCard : Claim7 := { stood := { row := maniPutsUptoRow, standIns := [], harness := (true, "63bb8d75b89c792dc8698b97f2bffcf38fc0abaa29e0dcd5b45efe712ef291de"), looks := true }, kinds := [], alts := [], laidByText := true, laidKinds := [.data, .data, .data, .sentinel, .sentinel], laidTests := true, laidLooks := .later }
def ManiPutsUptoCardSaid : Prop := Claim7.holds Tryz.pinned (.plain (OpenSpec.upto maniPutsSpec)) maniPutsUptoCard

/-- THE SECOND FORM's CARD OF 'mudlarklaw25.ManiGets'. -/
def maniGetsUptoCard : Claim7 := { stood := { row := maniGetsUptoRow, standIns := [], harness := (true, "63bb8d75b89c792dc8698b97f2bffcf38fc0abaa29e0dcd5b45efe712ef291de"), looks := true }, kinds := [], alts := [], laidByText := true, laidKinds := [.data, .data, .data, .sentinel, .sentinel], laidTests := true, laidLooks := .later }
def ManiGetsUptoCardSaid : Prop := Claim7.holds Tryz.pinned (.plain (OpenSpec.upto maniGetsSpec)) maniGetsUptoCard

/-- THE SECOND FORM's CARD OF 'mudlarklaw25.ManiEnds'. -/
def maniEndsUptoCard : Claim7 := { stood := { row := maniEndsUptoRow, standIns := [], harness := (true, "63bb8d75b89c792dc8698b97f2bffcf38fc0abaa29e0dcd5b45efe712ef291de"), looks := true }, kinds := [], alts := [], laidByText := true, laidKinds := [.data, .data, .data, .sentinel, .sentinel], laidTests := true, laidLooks := .later }
def ManiEndsUptoCardSaid : Prop := Claim7.holds Tryz.pinned (.plain (OpenSpec.upto maniEndsSpec)) maniEndsUptoCard
end Rows
end Go.Proofs.YtcimkoehcdfjdaaGreatDoor
