/-
  DERIVED. GIVEN WITH THE SEED: THE CARDS: each row of YtgabpbnndikheaaGreatDoorRows.lean that lists a variable, with what it lists TIED to the program's text (the seventh form; the later family's looks); each row that meets fmt, with fmt's text TOLD by the authors' own Lean function (tested against real Go, not proved from fmt's source: count such statements apart). THE CARD IS WHAT COUNTS. Prove the row's statement (the work); the ties are given (YtgabpbnndikheaaGreatDoorTie.lean); close each card by the builder's one call (the guide's Derived/Test/ToyasCard.lean, 'card_holds'). Laid BY PROGRAM, IN A SANDBOX (cutbox-door.mjs). By AI agents, Wed Nov 11 2026. No macro, syntax, notation, axiom, sorry.
-/
import Derived.Test.YtgabpbnndikheaaGreatDoorRows
import GoSem.ClaimSeven
namespace Go.Proofs.YtgabpbnndikheaaGreatDoor
namespace Rows

/-- THE TIED CARD OF 'terrlaw2.SurveyWrites'. -/
def surveyWritesCard : Claim7 := { stood := { row := surveyWritesRow, standIns := [], harness := (true, "193f0ae2a0aa88e31883bf185549bd051284455a792a42be4f0e51aa3d71257b"), looks := false }, kinds := [], alts := [], laidByText := true, laidKinds := [.data, .data, .data, .data, .pinned], laidTests := true, laidLooks := .later }
def SurveyWritesCardSaid : Prop := Claim7.holds Tryz.pinned (.plain (OpenSpec.ofChange surveyWritesSpec)) surveyWritesCard

/-- THE TIED CARD OF 'terrlaw2.FeatTells'. -/
def featTellsCard : Claim7 := { stood := { row := featTellsRow, standIns := [], harness := (true, "193f0ae2a0aa88e31883bf185549bd051284455a792a42be4f0e51aa3d71257b"), looks := false }, kinds := [], alts := [], laidByText := true, laidKinds := [.data, .data, .data, .data, .pinned], laidTests := true, laidLooks := .later }
def FeatTellsCardSaid : Prop := Claim7.holds Tryz.pinned (.plain (OpenSpec.ofChange featTellsSpec)) featTellsCard

/-- THE SECOND FORM's CARD OF 'terrlaw2.SurveyWrites'. -/
def surveyWritesUptoCard : Claim7 := { stood := { row := surveyWritesUptoRow, standIns := [], harness := (true, "193f0ae2a0aa88e31883bf185549bd051284455a792a42be4f0e51aa3d71257b"), looks := false }, kinds := [], alts := [], laidByText := true, laidKinds := [.data, .data, .data, .data, .pinned], laidTests := true, laidLooks := .later }
def SurveyWritesUptoCardSaid : Prop := Claim7.holds Tryz.pinned (.plain (OpenSpec.upto surveyWritesSpec)) surveyWritesUptoCard

/-- THE SECOND FORM's CARD OF 'terrlaw2.FeatTells'. -/
def featTellsUptoCard : Claim7 := { stood := { row := featTellsUptoRow, standIns := [], harness := (true, "193f0ae2a0aa88e31883bf185549bd051284455a792a42be4f0e51aa3d71257b"), looks := false }, kinds := [], alts := [], laidByText := true, laidKinds := [.data, .data, .data, .data, .pinned], laidTests := true, laidLooks := .later }
def FeatTellsUptoCardSaid : Prop := Claim7.holds Tryz.pinned (.plain (OpenSpec.upto featTellsSpec)) featTellsUptoCard
end Rows
end Go.Proofs.YtgabpbnndikheaaGreatDoor
