/-
  No cell of these rows narrows 'for every input' (looked for: loops, veiled, ifaces, maps, wideKeys, modest, calm, conditions, laid).
  DERIVED. THE GIVEN ROWS OF THIS SEAT. 5 by the template 'for every input the law returns true; each argument reads behind the call as it read before'; 0 by the template 'total and deterministic' (their statements: YtgabpbnndikheaaTotals.lean).
  GIVEN WITH THE SEED: the statements are not yours to turn. If you find one false, say at which input.
  Laid BY PROGRAM, IN A SANDBOX (cutbox-rows.mjs): the forced cells as the released guide's own fill.sh prints them over the translation 0a7571bd3dd22967… (all of the seat's roots in one cut). By AI agents, Wed Nov 11 2026. No macro, syntax, notation, axiom, sorry.
-/
import Derived.Test.YtgabpbnndikheaaChecked
import GoSem.Claim
import GoSem.ClaimJoined
import GoSem.ClaimMapViews
import Derived.JoinedTies
import Derived.KernelRfl
namespace Go.Proofs.Ytgabpbnndikheaa
/- THE CELL 'sum', in the pinned program and in every row, IS THE sha256 OF THE DUMP (.gsa) THAT YtgabpbnndikheaaProg.lean LOADS. Nothing in Lean hashes anything: it is a label: what it is worth is what the hold of that sum in a sandbox is worth. -/
noncomputable def Try.pinned : Pinned := { name := "ytgabpbnndikheaa", sum := "0a7571bd3dd22967d36dbb29b8131bff9640fcc886d95ba0168ff3fedef967f4", checked := Try.checked }
namespace Rows
def none {H : Type} : Left H := { results := [], args := [] }

/-- 'terrlaw2.BinNumbers': WHATEVER THE INPUT: true; the input reads as it did. -/
def binNumbersSpec : ChangeSpec := { name := "binNumbers", fn := fun _ => fun
  | [d1, d2] => { results := [.lit (.bool true)], args := [d1, d2] }
  | _ => none }
def binNumbersRow : OpenClaim := { program := "ytgabpbnndikheaa", sum := "0a7571bd3dd22967d36dbb29b8131bff9640fcc886d95ba0168ff3fedef967f4", func := "terrier/terrlaw2.BinNumbers", spec := "binNumbers", apart := false }
def BinNumbersSaid : Prop := binNumbersRow.holds Try.pinned (OpenSpec.ofChange binNumbersSpec)

/-- ITS FALSE NEIGHBOUR: 'it returns false'. Refute it at one input. -/
def binNumbersWrong : ChangeSpec := { name := "binNumbers", fn := fun _ => fun
  | [d1, d2] => { results := [.lit (.bool false)], args := [d1, d2] }
  | _ => none }
def BinNumbersWrongFalsely : Prop := binNumbersRow.holds Try.pinned (OpenSpec.ofChange binNumbersWrong)

/-- 'terrkeep2.FeatCopies': WHATEVER THE INPUT: true; the input reads as it did. -/
def featCopiesSpec : ChangeSpec := { name := "featCopies", fn := fun _ => fun
  | [d] => { results := [.lit (.bool true)], args := [d] }
  | _ => none }
def featCopiesRow : OpenClaim := { program := "ytgabpbnndikheaa", sum := "0a7571bd3dd22967d36dbb29b8131bff9640fcc886d95ba0168ff3fedef967f4", func := "terrier/terrkeep2.FeatCopies", spec := "featCopies", unfollowed := true, recurses := true, apart := false }
def FeatCopiesSaid : Prop := featCopiesRow.holds Try.pinned (OpenSpec.ofChange featCopiesSpec)

/-- ITS FALSE NEIGHBOUR: 'it returns false'. Refute it at one input. -/
def featCopiesWrong : ChangeSpec := { name := "featCopies", fn := fun _ => fun
  | [d] => { results := [.lit (.bool false)], args := [d] }
  | _ => none }
def FeatCopiesWrongFalsely : Prop := featCopiesRow.holds Try.pinned (OpenSpec.ofChange featCopiesWrong)

/-- 'terrkeep2.FeatTimes': WHATEVER THE INPUT: true; the input reads as it did. -/
def featTimesSpec : ChangeSpec := { name := "featTimes", fn := fun _ => fun
  | [d1, d2] => { results := [.lit (.bool true)], args := [d1, d2] }
  | _ => none }
def featTimesRow : OpenClaim := { program := "ytgabpbnndikheaa", sum := "0a7571bd3dd22967d36dbb29b8131bff9640fcc886d95ba0168ff3fedef967f4", func := "terrier/terrkeep2.FeatTimes", spec := "featTimes", unfollowed := true, recurses := true, apart := false }
def FeatTimesSaid : Prop := featTimesRow.holds Try.pinned (OpenSpec.ofChange featTimesSpec)

/-- ITS FALSE NEIGHBOUR: 'it returns false'. Refute it at one input. -/
def featTimesWrong : ChangeSpec := { name := "featTimes", fn := fun _ => fun
  | [d1, d2] => { results := [.lit (.bool false)], args := [d1, d2] }
  | _ => none }
def FeatTimesWrongFalsely : Prop := featTimesRow.holds Try.pinned (OpenSpec.ofChange featTimesWrong)

/-- 'terrkeep2.BinBack': WHATEVER THE INPUT: true; the input reads as it did. -/
def binBackSpec : ChangeSpec := { name := "binBack", fn := fun _ => fun
  | [d1, d2, d3] => { results := [.lit (.bool true)], args := [d1, d2, d3] }
  | _ => none }
def binBackRow : OpenClaim := { program := "ytgabpbnndikheaa", sum := "0a7571bd3dd22967d36dbb29b8131bff9640fcc886d95ba0168ff3fedef967f4", func := "terrier/terrkeep2.BinBack", spec := "binBack", unfollowed := true, recurses := true, apart := false }
def BinBackSaid : Prop := binBackRow.holds Try.pinned (OpenSpec.ofChange binBackSpec)

/-- ITS FALSE NEIGHBOUR: 'it returns false'. Refute it at one input. -/
def binBackWrong : ChangeSpec := { name := "binBack", fn := fun _ => fun
  | [d1, d2, d3] => { results := [.lit (.bool false)], args := [d1, d2, d3] }
  | _ => none }
def BinBackWrongFalsely : Prop := binBackRow.holds Try.pinned (OpenSpec.ofChange binBackWrong)

/-- 'terrkeep2.BinRow': WHATEVER THE INPUT: true; the input reads as it did. -/
def binRowSpec : ChangeSpec := { name := "binRow", fn := fun _ => fun
  | [d1, d2] => { results := [.lit (.bool true)], args := [d1, d2] }
  | _ => none }
def binRowRow : OpenClaim := { program := "ytgabpbnndikheaa", sum := "0a7571bd3dd22967d36dbb29b8131bff9640fcc886d95ba0168ff3fedef967f4", func := "terrier/terrkeep2.BinRow", spec := "binRow", unfollowed := true, recurses := true, apart := false }
def BinRowSaid : Prop := binRowRow.holds Try.pinned (OpenSpec.ofChange binRowSpec)

/-- ITS FALSE NEIGHBOUR: 'it returns false'. Refute it at one input. -/
def binRowWrong : ChangeSpec := { name := "binRow", fn := fun _ => fun
  | [d1, d2] => { results := [.lit (.bool false)], args := [d1, d2] }
  | _ => none }
def BinRowWrongFalsely : Prop := binRowRow.holds Try.pinned (OpenSpec.ofChange binRowWrong)

/- THE SECOND FORM. 'bulk': how many values and letters a reading holds, each counted each time it is reached (what is shared counts as often as it is met; a slice's spare places count too). A statement '..UptoSaid' is the law's where the arguments, and the package variables that the reading takes, are together of bulk at most 1048576: NARROWER than '..Said'. Prove '..Said' where nothing that the law and all that it calls make is longer than what came in: it says more and counts as full. Else prove '..UptoSaid'. A law counts once. -/
mutual
def uptoBulk {H : Type} : DataW H → Nat
  | .lit (.string bytes) => bytes.length + 1
  | .lit _ => 1
  | .nil => 1
  | .ptr d => uptoBulk d + 1
  | .slice elems spare => uptoBulkAll elems + uptoBulkAll spare + 1
  | .agg parts => uptoBulkAll parts + 1
  | .iface _ d => uptoBulk d + 1
  | .map entries => uptoBulkEntries entries + 1
  | .held _ => 1
def uptoBulkAll {H : Type} : List (DataW H) → Nat
  | [] => 0
  | d :: r => uptoBulk d + uptoBulkAll r
def uptoBulkEntries {H : Type} : List (Lit × DataW H) → Nat
  | [] => 0
  | x :: r => uptoBulkEntry x + uptoBulkEntries r
def uptoBulkEntry {H : Type} : Lit × DataW H → Nat
  | (.string bytes, d) => bytes.length + uptoBulk d + 1
  | (_, d) => uptoBulk d + 1
 end
def uptoSmall : (H : Type) → List (DataW H) → Bool := fun _ ds => decide (uptoBulkAll ds ≤ 1048576)
def OpenSpec.upto (s : _root_.Go.ChangeSpec) : _root_.Go.OpenSpec := { _root_.Go.OpenSpec.ofChange s with cond := some uptoSmall }

/-- 'terrlaw2.BinNumbers', WHERE WHAT IT READS IS OF BULK AT MOST 1048576: true; the input reads as it did. -/
def binNumbersUptoRow : OpenClaim := { program := "ytgabpbnndikheaa", sum := "0a7571bd3dd22967d36dbb29b8131bff9640fcc886d95ba0168ff3fedef967f4", func := "terrier/terrlaw2.BinNumbers", spec := "binNumbers", apart := false, narrowed := true }
def BinNumbersUptoSaid : Prop := binNumbersUptoRow.holds Try.pinned (OpenSpec.upto binNumbersSpec)

/-- 'terrkeep2.FeatCopies', WHERE WHAT IT READS IS OF BULK AT MOST 1048576: true; the input reads as it did. -/
def featCopiesUptoRow : OpenClaim := { program := "ytgabpbnndikheaa", sum := "0a7571bd3dd22967d36dbb29b8131bff9640fcc886d95ba0168ff3fedef967f4", func := "terrier/terrkeep2.FeatCopies", spec := "featCopies", unfollowed := true, recurses := true, apart := false, narrowed := true }
def FeatCopiesUptoSaid : Prop := featCopiesUptoRow.holds Try.pinned (OpenSpec.upto featCopiesSpec)

/-- 'terrkeep2.FeatTimes', WHERE WHAT IT READS IS OF BULK AT MOST 1048576: true; the input reads as it did. -/
def featTimesUptoRow : OpenClaim := { program := "ytgabpbnndikheaa", sum := "0a7571bd3dd22967d36dbb29b8131bff9640fcc886d95ba0168ff3fedef967f4", func := "terrier/terrkeep2.FeatTimes", spec := "featTimes", unfollowed := true, recurses := true, apart := false, narrowed := true }
def FeatTimesUptoSaid : Prop := featTimesUptoRow.holds Try.pinned (OpenSpec.upto featTimesSpec)

/-- 'terrkeep2.BinBack', WHERE WHAT IT READS IS OF BULK AT MOST 1048576: true; the input reads as it did. -/
def binBackUptoRow : OpenClaim := { program := "ytgabpbnndikheaa", sum := "0a7571bd3dd22967d36dbb29b8131bff9640fcc886d95ba0168ff3fedef967f4", func := "terrier/terrkeep2.BinBack", spec := "binBack", unfollowed := true, recurses := true, apart := false, narrowed := true }
def BinBackUptoSaid : Prop := binBackUptoRow.holds Try.pinned (OpenSpec.upto binBackSpec)

/-- 'terrkeep2.BinRow', WHERE WHAT IT READS IS OF BULK AT MOST 1048576: true; the input reads as it did. -/
def binRowUptoRow : OpenClaim := { program := "ytgabpbnndikheaa", sum := "0a7571bd3dd22967d36dbb29b8131bff9640fcc886d95ba0168ff3fedef967f4", func := "terrier/terrkeep2.BinRow", spec := "binRow", unfollowed := true, recurses := true, apart := false, narrowed := true }
def BinRowUptoSaid : Prop := binRowUptoRow.holds Try.pinned (OpenSpec.upto binRowSpec)

end Rows
end Go.Proofs.Ytgabpbnndikheaa
