/-
  DERIVED. GIVEN WITH THE SEED: THE CARDS: each row of YtiknkjhdieepbaaDoorRows.lean that lists a variable, with what it lists TIED to the program's text (the seventh form; the later family's looks); each row that meets fmt, with fmt's text TOLD by the authors' own Lean function (tested against real Go, not proved from fmt's source: count such statements apart). THE CARD IS WHAT COUNTS. Prove the row's statement (the work); the ties are given (YtiknkjhdieepbaaDoorTie.lean); close each card by the builder's one call (the guide's Derived/Test/ToyasCard.lean, 'card_holds'). Laid BY PROGRAM, IN A SANDBOX (cutbox-door.mjs). By AI agents, Wed Nov 11 2026. No macro, syntax, notation, axiom, sorry.
-/
import Derived.Test.YtiknkjhdieepbaaDoorRows
import GoSem.ClaimSeven
namespace Go.Proofs.YtiknkjhdieepbaaDoor
namespace Rows

/-- THE TIED CARD OF 'laws.FnTreeJoin'. -/
def fnTreeJoinCard : Claim7 := { stood := { row := fnTreeJoinRow, standIns := [], harness := (true, "d4ed193d76b1d6a6818c545151fdcc04ee30f27444132f01e6db81330c6cf81a"), looks := false }, kinds := [], alts := [], laidByText := true, laidKinds := [.data, .pinned], laidTests := true, laidLooks := .later }
def FnTreeJoinCardSaid : Prop := Claim7.holds Tryd.pinned (.plain (OpenSpec.ofChange fnTreeJoinSpec)) fnTreeJoinCard

/-- THE SECOND FORM's CARD OF 'laws.FnTreeJoin'. -/
def fnTreeJoinUptoCard : Claim7 := { stood := { row := fnTreeJoinUptoRow, standIns := [], harness := (true, "d4ed193d76b1d6a6818c545151fdcc04ee30f27444132f01e6db81330c6cf81a"), looks := false }, kinds := [], alts := [], laidByText := true, laidKinds := [.data, .pinned], laidTests := true, laidLooks := .later }
def FnTreeJoinUptoCardSaid : Prop := Claim7.holds Tryd.pinned (.plain (OpenSpec.upto fnTreeJoinSpec)) fnTreeJoinUptoCard
end Rows
end Go.Proofs.YtiknkjhdieepbaaDoor
