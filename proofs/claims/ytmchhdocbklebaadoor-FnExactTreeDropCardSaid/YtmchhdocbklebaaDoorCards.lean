/-
  DERIVED. GIVEN WITH THE SEED: THE CARDS: each row of YtmchhdocbklebaaDoorRows.lean that lists a variable, with what it lists TIED to the program's text (the seventh form; the later family's looks); each row that meets fmt, with fmt's text TOLD by the authors' own Lean function (tested against real Go, not proved from fmt's source: count such statements apart). THE CARD IS WHAT COUNTS. Prove the row's statement (the work); the ties are given (YtmchhdocbklebaaDoorTie.lean); close each card by the builder's one call (the guide's Derived/Test/ToyasCard.lean, 'card_holds'). Laid BY PROGRAM, IN A SANDBOX (cutbox-door.mjs). By AI agents, Wed Nov 11 2026. No macro, syntax, notation, axiom, sorry.
-/
import Derived.Test.YtmchhdocbklebaaDoorRows
import GoSem.ClaimSeven
namespace Go.Proofs.YtmchhdocbklebaaDoor
namespace Rows

/-- THE TIED CARD OF 'laws.FnExactTreeMove'. -/
def fnExactTreeMoveCard : Claim7 := { stood := { row := fnExactTreeMoveRow, standIns := [], harness := (true, "b0543df39926eb954008a055ad433494565e382fd1f5a17db978edbe8184d10f"), looks := false }, kinds := [], alts := [], laidByText := true, laidKinds := [.data, .pinned], laidTests := true, laidLooks := .later }
def FnExactTreeMoveCardSaid : Prop := Claim7.holds Tryd.pinned (.plain (OpenSpec.ofChange fnExactTreeMoveSpec)) fnExactTreeMoveCard

/-- THE TIED CARD OF 'laws.FnExactTreeDrop'. -/
def fnExactTreeDropCard : Claim7 := { stood := { row := fnExactTreeDropRow, standIns := [], harness := (true, "b0543df39926eb954008a055ad433494565e382fd1f5a17db978edbe8184d10f"), looks := false }, kinds := [], alts := [], laidByText := true, laidKinds := [.data, .pinned], laidTests := true, laidLooks := .later }
def FnExactTreeDropCardSaid : Prop := Claim7.holds Tryd.pinned (.plain (OpenSpec.ofChange fnExactTreeDropSpec)) fnExactTreeDropCard

/-- THE TIED CARD OF 'laws.FnExactTreeJoin'. -/
def fnExactTreeJoinCard : Claim7 := { stood := { row := fnExactTreeJoinRow, standIns := [], harness := (true, "b0543df39926eb954008a055ad433494565e382fd1f5a17db978edbe8184d10f"), looks := false }, kinds := [], alts := [], laidByText := true, laidKinds := [.data, .pinned], laidTests := true, laidLooks := .later }
def FnExactTreeJoinCardSaid : Prop := Claim7.holds Tryd.pinned (.plain (OpenSpec.ofChange fnExactTreeJoinSpec)) fnExactTreeJoinCard

/-- THE TIED CARD OF 'laws.FnExactTreePut'. -/
def fnExactTreePutCard : Claim7 := { stood := { row := fnExactTreePutRow, standIns := [], harness := (true, "b0543df39926eb954008a055ad433494565e382fd1f5a17db978edbe8184d10f"), looks := false }, kinds := [], alts := [], laidByText := true, laidKinds := [.data, .pinned], laidTests := true, laidLooks := .later }
def FnExactTreePutCardSaid : Prop := Claim7.holds Tryd.pinned (.plain (OpenSpec.ofChange fnExactTreePutSpec)) fnExactTreePutCard

/-- THE SECOND FORM's CARD OF 'laws.FnExactTreeMove'. -/
def fnExactTreeMoveUptoCard : Claim7 := { stood := { row := fnExactTreeMoveUptoRow, standIns := [], harness := (true, "b0543df39926eb954008a055ad433494565e382fd1f5a17db978edbe8184d10f"), looks := false }, kinds := [], alts := [], laidByText := true, laidKinds := [.data, .pinned], laidTests := true, laidLooks := .later }
def FnExactTreeMoveUptoCardSaid : Prop := Claim7.holds Tryd.pinned (.plain (OpenSpec.upto fnExactTreeMoveSpec)) fnExactTreeMoveUptoCard

/-- THE SECOND FORM's CARD OF 'laws.FnExactTreeDrop'. -/
def fnExactTreeDropUptoCard : Claim7 := { stood := { row := fnExactTreeDropUptoRow, standIns := [], harness := (true, "b0543df39926eb954008a055ad433494565e382fd1f5a17db978edbe8184d10f"), looks := false }, kinds := [], alts := [], laidByText := true, laidKinds := [.data, .pinned], laidTests := true, laidLooks := .later }
def FnExactTreeDropUptoCardSaid : Prop := Claim7.holds Tryd.pinned (.plain (OpenSpec.upto fnExactTreeDropSpec)) fnExactTreeDropUptoCard

/-- THE SECOND FORM's CARD OF 'laws.FnExactTreeJoin'. -/
def fnExactTreeJoinUptoCard : Claim7 := { stood := { row := fnExactTreeJoinUptoRow, standIns := [], harness := (true, "b0543df39926eb954008a055ad433494565e382fd1f5a17db978edbe8184d10f"), looks := false }, kinds := [], alts := [], laidByText := true, laidKinds := [.data, .pinned], laidTests := true, laidLooks := .later }
def FnExactTreeJoinUptoCardSaid : Prop := Claim7.holds Tryd.pinned (.plain (OpenSpec.upto fnExactTreeJoinSpec)) fnExactTreeJoinUptoCard

/-- THE SECOND FORM's CARD OF 'laws.FnExactTreePut'. -/
def fnExactTreePutUptoCard : Claim7 := { stood := { row := fnExactTreePutUptoRow, standIns := [], harness := (true, "b0543df39926eb954008a055ad433494565e382fd1f5a17db978edbe8184d10f"), looks := false }, kinds := [], alts := [], laidByText := true, laidKinds := [.data, .pinned], laidTests := true, laidLooks := .later }
def FnExactTreePutUptoCardSaid : Prop := Claim7.holds Tryd.pinned (.plain (OpenSpec.upto fnExactTreePutSpec)) fnExactTreePutUptoCard
end Rows
end Go.Proofs.YtmchhdocbklebaaDoor
