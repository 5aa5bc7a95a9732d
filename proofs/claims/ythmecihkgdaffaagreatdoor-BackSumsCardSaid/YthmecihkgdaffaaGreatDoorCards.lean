/-
  DERIVED. GIVEN WITH THE SEED: THE CARDS: each row of YthmecihkgdaffaaGreatDoorRows.lean that lists a variable, with what it lists TIED to the program's text (the seventh form; the later family's looks); each row that meets fmt, with fmt's text TOLD by the authors' own Lean function (tested against real Go, not proved from fmt's source: count such statements apart). THE CARD IS WHAT COUNTS. Prove the row's statement (the work); the ties are given (YthmecihkgdaffaaGreatDoorTie.lean); close each card by the builder's one call (the guide's Derived/Test/ToyasCard.lean, 'card_holds'). Laid BY PROGRAM, IN A SANDBOX (cutbox-door.mjs). By AI agents, Wed Nov 11 2026. No macro, syntax, notation, axiom, sorry.
-/
import Derived.Test.YthmecihkgdaffaaGreatDoorRows
import GoSem.ClaimSeven
namespace Go.Proofs.YthmecihkgdaffaaGreatDoor
namespace Rows

/-- THE TIED CARD OF 'retrospectlaw35.BackCarries'. -/
def backCarriesCard : Claim7 := { stood := { row := backCarriesRow, standIns := [], harness := (true, "aaa51f8804ba105dc97b3d41d886acf880bf690e92a6134d3e44e03b22d7f048"), looks := false }, kinds := [], alts := [], laidByText := true, laidKinds := [.data, .pinned], laidTests := true, laidLooks := .later }
def BackCarriesCardSaid : Prop := Claim7.holds Tryz.pinned (.plain (OpenSpec.ofChange backCarriesSpec)) backCarriesCard

/-- THE TIED CARD OF 'retrospectlaw35.BackLinear'. -/
def backLinearCard : Claim7 := { stood := { row := backLinearRow, standIns := [], harness := (true, "aaa51f8804ba105dc97b3d41d886acf880bf690e92a6134d3e44e03b22d7f048"), looks := false }, kinds := [], alts := [], laidByText := true, laidKinds := [.data, .pinned], laidTests := true, laidLooks := .later }
def BackLinearCardSaid : Prop := Claim7.holds Tryz.pinned (.plain (OpenSpec.ofChange backLinearSpec)) backLinearCard

/-- THE TIED CARD OF 'retrospectlaw35.BackSums'. -/
def backSumsCard : Claim7 := { stood := { row := backSumsRow, standIns := [], harness := (true, "aaa51f8804ba105dc97b3d41d886acf880bf690e92a6134d3e44e03b22d7f048"), looks := false }, kinds := [], alts := [], laidByText := true, laidKinds := [.data, .pinned], laidTests := true, laidLooks := .later }
def BackSumsCardSaid : Prop := Claim7.holds Tryz.pinned (.plain (OpenSpec.ofChange backSumsSpec)) backSumsCard

/-- THE TIED CARD OF 'retrospectlaw35.BackTilt'. -/
def backTiltCard : Claim7 := { stood := { row := backTiltRow, standIns := [], harness := (true, "aaa51f8804ba105dc97b3d41d886acf880bf690e92a6134d3e44e03b22d7f048"), looks := false }, kinds := [], alts := [], laidByText := true, laidKinds := [.data, .pinned], laidTests := true, laidLooks := .later }
def BackTiltCardSaid : Prop := Claim7.holds Tryz.pinned (.plain (OpenSpec.ofChange backTiltSpec)) backTiltCard

/-- THE SECOND FORM's CARD OF 'retrospectlaw35.BackCarries'. -/
def backCarriesUptoCard : Claim7 := { stood := { row := backCarriesUptoRow, standIns := [], harness := (true, "aaa51f8804ba105dc97b3d41d886acf880bf690e92a6134d3e44e03b22d7f048"), looks := false }, kinds := [], alts := [], laidByText := true, laidKinds := [.data, .pinned], laidTests := true, laidLooks := .later }
def BackCarriesUptoCardSaid : Prop := Claim7.holds Tryz.pinned (.plain (OpenSpec.upto backCarriesSpec)) backCarriesUptoCard

/-- THE SECOND FORM's CARD OF 'retrospectlaw35.BackLinear'. -/
def backLinearUptoCard : Claim7 := { stood := { row := backLinearUptoRow, standIns := [], harness := (true, "aaa51f8804ba105dc97b3d41d886acf880bf690e92a6134d3e44e03b22d7f048"), looks := false }, kinds := [], alts := [], laidByText := true, laidKinds := [.data, .pinned], laidTests := true, laidLooks := .later }
def BackLinearUptoCardSaid : Prop := Claim7.holds Tryz.pinned (.plain (OpenSpec.upto backLinearSpec)) backLinearUptoCard

/-- THE SECOND FORM's CARD OF 'retrospectlaw35.BackSums'. -/
def backSumsUptoCard : Claim7 := { stood := { row := backSumsUptoRow, standIns := [], harness := (true, "aaa51f8804ba105dc97b3d41d886acf880bf690e92a6134d3e44e03b22d7f048"), looks := false }, kinds := [], alts := [], laidByText := true, laidKinds := [.data, .pinned], laidTests := true, laidLooks := .later }
def BackSumsUptoCardSaid : Prop := Claim7.holds Tryz.pinned (.plain (OpenSpec.upto backSumsSpec)) backSumsUptoCard

/-- THE SECOND FORM's CARD OF 'retrospectlaw35.BackTilt'. -/
def backTiltUptoCard : Claim7 := { stood := { row := backTiltUptoRow, standIns := [], harness := (true, "aaa51f8804ba105dc97b3d41d886acf880bf690e92a6134d3e44e03b22d7f048"), looks := false }, kinds := [], alts := [], laidByText := true, laidKinds := [.data, .pinned], laidTests := true, laidLooks := .later }
def BackTiltUptoCardSaid : Prop := Claim7.holds Tryz.pinned (.plain (OpenSpec.upto backTiltSpec)) backTiltUptoCard
end Rows
end Go.Proofs.YthmecihkgdaffaaGreatDoor
