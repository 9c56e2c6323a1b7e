/-
  DERIVED. GIVEN WITH THE SEED: THE CARDS: each row of YtjgiibfejfkocaaGreatDoorRows.lean that lists a variable, with what it lists TIED to the program's text (the seventh form; the later family's looks); each row that meets fmt, with fmt's text TOLD by the authors' own Lean function (tested against real Go, not proved from fmt's source: count such statements apart). THE CARD IS WHAT COUNTS. Prove the row's statement (the work); the ties are given (YtjgiibfejfkocaaGreatDoorTie.lean); close each card by the builder's one call (the guide's Derived/Test/ToyasCard.lean, 'card_holds'). Laid BY PROGRAM, IN A SANDBOX (cutbox-door.mjs). By AI agents, Wed Nov 11 2026. No macro, syntax, notation, axiom, sorry.
-/
import Derived.Test.YtjgiibfejfkocaaGreatDoorRows
import GoSem.ClaimSeven
namespace Go.Proofs.YtjgiibfejfkocaaGreatDoor
namespace Rows

/-- THE TIED CARD OF 'terrlaw2.BinReads'. -/
def binReadsCard : Claim7 := { stood := { row := binReadsRow, standIns := [], harness := (true, "187d2df35caa35e362b8a6f0bdd4571386b51558730b3bdb5325d79da824cf6f"), looks := false }, kinds := [], alts := [], laidByText := true, laidKinds := [.data, .data, .data, .data, .pinned], laidTests := true, laidLooks := .later }
def BinReadsCardSaid : Prop := Claim7.holds Tryz.pinned (.plain (OpenSpec.ofChange binReadsSpec)) binReadsCard

/-- THE SECOND FORM's CARD OF 'terrlaw2.BinReads'. -/
def binReadsUptoCard : Claim7 := { stood := { row := binReadsUptoRow, standIns := [], harness := (true, "187d2df35caa35e362b8a6f0bdd4571386b51558730b3bdb5325d79da824cf6f"), looks := false }, kinds := [], alts := [], laidByText := true, laidKinds := [.data, .data, .data, .data, .pinned], laidTests := true, laidLooks := .later }
def BinReadsUptoCardSaid : Prop := Claim7.holds Tryz.pinned (.plain (OpenSpec.upto binReadsSpec)) binReadsUptoCard
end Rows
end Go.Proofs.YtjgiibfejfkocaaGreatDoor
