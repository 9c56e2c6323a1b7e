/-
  DERIVED. GIVEN WITH THE SEED: THE CARDS: each row of YtgabpbnndikheaaDoorRows.lean that lists a variable, with what it lists TIED to the program's text (the seventh form; the later family's looks); each row that meets fmt, with fmt's text TOLD by the authors' own Lean function (tested against real Go, not proved from fmt's source: count such statements apart). THE CARD IS WHAT COUNTS. Prove the row's statement (the work); the ties are given (YtgabpbnndikheaaDoorTie.lean); close each card by the builder's one call (the guide's Derived/Test/ToyasCard.lean, 'card_holds'). Laid BY PROGRAM, IN A SANDBOX (cutbox-door.mjs). By AI agents, Wed Nov 11 2026. No macro, syntax, notation, axiom, sorry.
-/
import Derived.Test.YtgabpbnndikheaaDoorRows
import GoSem.ClaimSeven
namespace Go.Proofs.YtgabpbnndikheaaDoor
namespace Rows

/-- THE TIED CARD OF 'terrkeep2.ValueOrder'. -/
def valueOrderCard : Claim7 := { stood := { row := valueOrderRow, standIns := [], harness := (true, "28e54bda6a2f87221ec964db6f5c19cf4e0fb9e39f9e9b5f71f9aff001869af6"), looks := true }, kinds := [], alts := [], laidByText := true, laidKinds := [.data, .data, .data, .sentinel, .sentinel], laidTests := true, laidLooks := .later }
def ValueOrderCardSaid : Prop := Claim7.holds Tryd.pinned (.plain (OpenSpec.ofChange valueOrderSpec)) valueOrderCard

/-- THE TIED CARD OF 'terrkeep2.ValueBack'. -/
def valueBackCard : Claim7 := { stood := { row := valueBackRow, standIns := [], harness := (true, "28e54bda6a2f87221ec964db6f5c19cf4e0fb9e39f9e9b5f71f9aff001869af6"), looks := true }, kinds := [], alts := [], laidByText := true, laidKinds := [.data, .data, .data, .sentinel, .sentinel], laidTests := true, laidLooks := .later }
def ValueBackCardSaid : Prop := Claim7.holds Tryd.pinned (.plain (OpenSpec.ofChange valueBackSpec)) valueBackCard

/-- THE TIED CARD OF 'terrlaw2.FeatChecks'. -/
def featChecksCard : Claim7 := { stood := { row := featChecksRow, standIns := [], harness := (true, "28e54bda6a2f87221ec964db6f5c19cf4e0fb9e39f9e9b5f71f9aff001869af6"), looks := true }, kinds := [], alts := [], laidByText := true, laidKinds := [.data, .pinned], laidTests := true, laidLooks := .later }
def FeatChecksCardSaid : Prop := Claim7.holds Tryd.pinned (.plain (OpenSpec.ofChange featChecksSpec)) featChecksCard

/-- THE TIED CARD OF 'terrlaw2.ValueTells'. -/
def valueTellsCard : Claim7 := { stood := { row := valueTellsRow, standIns := [], harness := (true, "28e54bda6a2f87221ec964db6f5c19cf4e0fb9e39f9e9b5f71f9aff001869af6"), looks := true }, kinds := [], alts := [], laidByText := true, laidKinds := [.data, .data, .data, .sentinel, .sentinel], laidTests := true, laidLooks := .later }
def ValueTellsCardSaid : Prop := Claim7.holds Tryd.pinned (.plain (OpenSpec.ofChange valueTellsSpec)) valueTellsCard

/-- THE TIED CARD OF 'terrlaw2.BinWrites'. -/
def binWritesCard : Claim7 := { stood := { row := binWritesRow, standIns := [], harness := (true, "28e54bda6a2f87221ec964db6f5c19cf4e0fb9e39f9e9b5f71f9aff001869af6"), looks := true }, kinds := [], alts := [], laidByText := true, laidKinds := [.data, .pinned], laidTests := true, laidLooks := .later }
def BinWritesCardSaid : Prop := Claim7.holds Tryd.pinned (.plain (OpenSpec.ofChange binWritesSpec)) binWritesCard

/-- THE SECOND FORM's CARD OF 'terrkeep2.ValueOrder'. -/
def valueOrderUptoCard : Claim7 := { stood := { row := valueOrderUptoRow, standIns := [], harness := (true, "28e54bda6a2f87221ec964db6f5c19cf4e0fb9e39f9e9b5f71f9aff001869af6"), looks := true }, kinds := [], alts := [], laidByText := true, laidKinds := [.data, .data, .data, .sentinel, .sentinel], laidTests := true, laidLooks := .later }
def ValueOrderUptoCardSaid : Prop := Claim7.holds Tryd.pinned (.plain (OpenSpec.upto valueOrderSpec)) valueOrderUptoCard

/-- THE SECOND FORM's CARD OF 'terrkeep2.ValueBack'. -/
def valueBackUptoCard : Claim7 := { stood := { row := valueBackUptoRow, standIns := [], harness := (true, "28e54bda6a2f87221ec964db6f5c19cf4e0fb9e39f9e9b5f71f9aff001869af6"), looks := true }, kinds := [], alts := [], laidByText := true, laidKinds := [.data, .data, .data, .sentinel, .sentinel], laidTests := true, laidLooks := .later }
def ValueBackUptoCardSaid : Prop := Claim7.holds Tryd.pinned (.plain (OpenSpec.upto valueBackSpec)) valueBackUptoCard

/-- THE SECOND FORM's CARD OF 'terrlaw2.FeatChecks'. -/
def featChecksUptoCard : Claim7 := { stood := { row := featChecksUptoRow, standIns := [], harness := (true, "28e54bda6a2f87221ec964db6f5c19cf4e0fb9e39f9e9b5f71f9aff001869af6"), looks := true }, kinds := [], alts := [], laidByText := true, laidKinds := [.data, .pinned], laidTests := true, laidLooks := .later }
def FeatChecksUptoCardSaid : Prop := Claim7.holds Tryd.pinned (.plain (OpenSpec.upto featChecksSpec)) featChecksUptoCard

/-- THE SECOND FORM's CARD OF 'terrlaw2.ValueTells'. -/
def valueTellsUptoCard : Claim7 := { stood := { row := valueTellsUptoRow, standIns := [], harness := (true, "28e54bda6a2f87221ec964db6f5c19cf4e0fb9e39f9e9b5f71f9aff001869af6"), looks := true }, kinds := [], alts := [], laidByText := true, laidKinds := [.data, .data, .data, .sentinel, .sentinel], laidTests := true, laidLooks := .later }
def ValueTellsUptoCardSaid : Prop := Claim7.holds Tryd.pinned (.plain (OpenSpec.upto valueTellsSpec)) valueTellsUptoCard

/-- THE SECOND FORM's CARD OF 'terrlaw2.BinWrites'. -/
def binWritesUptoCard : Claim7 := { stood := { row := binWritesUptoRow, standIns := [], harness := (true, "28e54bda6a2f87221ec964db6f5c19cf4e0fb9e39f9e9b5f71f9aff001869af6"), looks := true }, kinds := [], alts := [], laidByText := true, laidKinds := [.data, .pinned], laidTests := true, laidLooks := .later }
def BinWritesUptoCardSaid : Prop := Claim7.holds Tryd.pinned (.plain (OpenSpec.upto binWritesSpec)) binWritesUptoCard
end Rows
end Go.Proofs.YtgabpbnndikheaaDoor
