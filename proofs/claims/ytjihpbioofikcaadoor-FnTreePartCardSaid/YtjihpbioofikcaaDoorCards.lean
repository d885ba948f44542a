/-
  DERIVED. GIVEN WITH THE SEED: THE CARDS: each row of YtjihpbioofikcaaDoorRows.lean that lists a variable, with what it lists TIED to the program's text (the seventh form; the later family's looks); each row that meets fmt, with fmt's text TOLD by the authors' own Lean function (tested against real Go, not proved from fmt's source: count such statements apart). THE CARD IS WHAT COUNTS. Prove the row's statement (the work); the ties are given (YtjihpbioofikcaaDoorTie.lean); close each card by the builder's one call (the guide's Derived/Test/ToyasCard.lean, 'card_holds'). Laid BY PROGRAM, IN A SANDBOX (cutbox-door.mjs). By AI agents, Wed Nov 11 2026. No macro, syntax, notation, axiom, sorry.
-/
import Derived.Test.YtjihpbioofikcaaDoorRows
import GoSem.ClaimSeven
namespace Go.Proofs.YtjihpbioofikcaaDoor
namespace Rows

/-- THE TIED CARD OF 'laws.FnExactTreePut'. -/
def fnExactTreePutCard : Claim7 := { stood := { row := fnExactTreePutRow, standIns := [], harness := (true, "9df6e87659e6e686f2f6385ed3f1e0379458e2b1c31a72f13b7ee89011821430"), looks := false }, kinds := [], alts := [], laidByText := true, laidKinds := [.data, .pinned], laidTests := true, laidLooks := .later }
def FnExactTreePutCardSaid : Prop := Claim7.holds Tryd.pinned (.plain (OpenSpec.ofChange fnExactTreePutSpec)) fnExactTreePutCard

/-- THE TIED CARD OF 'laws.FnExactTreeJoin'. -/
def fnExactTreeJoinCard : Claim7 := { stood := { row := fnExactTreeJoinRow, standIns := [], harness := (true, "9df6e87659e6e686f2f6385ed3f1e0379458e2b1c31a72f13b7ee89011821430"), looks := false }, kinds := [], alts := [], laidByText := true, laidKinds := [.data, .pinned], laidTests := true, laidLooks := .later }
def FnExactTreeJoinCardSaid : Prop := Claim7.holds Tryd.pinned (.plain (OpenSpec.ofChange fnExactTreeJoinSpec)) fnExactTreeJoinCard

/-- THE TIED CARD OF 'laws.FnExactTreeMove'. -/
def fnExactTreeMoveCard : Claim7 := { stood := { row := fnExactTreeMoveRow, standIns := [], harness := (true, "9df6e87659e6e686f2f6385ed3f1e0379458e2b1c31a72f13b7ee89011821430"), looks := false }, kinds := [], alts := [], laidByText := true, laidKinds := [.data, .pinned], laidTests := true, laidLooks := .later }
def FnExactTreeMoveCardSaid : Prop := Claim7.holds Tryd.pinned (.plain (OpenSpec.ofChange fnExactTreeMoveSpec)) fnExactTreeMoveCard

/-- THE TIED CARD OF 'laws.FnExactTreePart'. -/
def fnExactTreePartCard : Claim7 := { stood := { row := fnExactTreePartRow, standIns := [], harness := (true, "9df6e87659e6e686f2f6385ed3f1e0379458e2b1c31a72f13b7ee89011821430"), looks := false }, kinds := [], alts := [], laidByText := true, laidKinds := [.data, .pinned], laidTests := true, laidLooks := .later }
def FnExactTreePartCardSaid : Prop := Claim7.holds Tryd.pinned (.plain (OpenSpec.ofChange fnExactTreePartSpec)) fnExactTreePartCard

/-- THE TIED CARD OF 'laws.FnTreeFollow'. -/
def fnTreeFollowCard : Claim7 := { stood := { row := fnTreeFollowRow, standIns := [], harness := (true, "9df6e87659e6e686f2f6385ed3f1e0379458e2b1c31a72f13b7ee89011821430"), looks := false }, kinds := [], alts := [], laidByText := true, laidKinds := [.data, .pinned], laidTests := true, laidLooks := .later }
def FnTreeFollowCardSaid : Prop := Claim7.holds Tryd.pinned (.plain (OpenSpec.ofChange fnTreeFollowSpec)) fnTreeFollowCard

/-- THE TIED CARD OF 'laws.FnTreeDrop'. -/
def fnTreeDropCard : Claim7 := { stood := { row := fnTreeDropRow, standIns := [], harness := (true, "9df6e87659e6e686f2f6385ed3f1e0379458e2b1c31a72f13b7ee89011821430"), looks := false }, kinds := [], alts := [], laidByText := true, laidKinds := [.data, .pinned], laidTests := true, laidLooks := .later }
def FnTreeDropCardSaid : Prop := Claim7.holds Tryd.pinned (.plain (OpenSpec.ofChange fnTreeDropSpec)) fnTreeDropCard

/-- THE TIED CARD OF 'laws.FnTreePut'. -/
def fnTreePutCard : Claim7 := { stood := { row := fnTreePutRow, standIns := [], harness := (true, "9df6e87659e6e686f2f6385ed3f1e0379458e2b1c31a72f13b7ee89011821430"), looks := false }, kinds := [], alts := [], laidByText := true, laidKinds := [.data, .pinned], laidTests := true, laidLooks := .later }
def FnTreePutCardSaid : Prop := Claim7.holds Tryd.pinned (.plain (OpenSpec.ofChange fnTreePutSpec)) fnTreePutCard

/-- THE TIED CARD OF 'laws.FnTreePutDrop'. -/
def fnTreePutDropCard : Claim7 := { stood := { row := fnTreePutDropRow, standIns := [], harness := (true, "9df6e87659e6e686f2f6385ed3f1e0379458e2b1c31a72f13b7ee89011821430"), looks := false }, kinds := [], alts := [], laidByText := true, laidKinds := [.data, .pinned], laidTests := true, laidLooks := .later }
def FnTreePutDropCardSaid : Prop := Claim7.holds Tryd.pinned (.plain (OpenSpec.ofChange fnTreePutDropSpec)) fnTreePutDropCard

/-- THE TIED CARD OF 'laws.FnTreeLink'. -/
def fnTreeLinkCard : Claim7 := { stood := { row := fnTreeLinkRow, standIns := [], harness := (true, "9df6e87659e6e686f2f6385ed3f1e0379458e2b1c31a72f13b7ee89011821430"), looks := false }, kinds := [], alts := [], laidByText := true, laidKinds := [.data, .pinned], laidTests := true, laidLooks := .later }
def FnTreeLinkCardSaid : Prop := Claim7.holds Tryd.pinned (.plain (OpenSpec.ofChange fnTreeLinkSpec)) fnTreeLinkCard

/-- THE TIED CARD OF 'laws.FnTreeGrow'. -/
def fnTreeGrowCard : Claim7 := { stood := { row := fnTreeGrowRow, standIns := [], harness := (true, "9df6e87659e6e686f2f6385ed3f1e0379458e2b1c31a72f13b7ee89011821430"), looks := false }, kinds := [], alts := [], laidByText := true, laidKinds := [.data, .pinned], laidTests := true, laidLooks := .later }
def FnTreeGrowCardSaid : Prop := Claim7.holds Tryd.pinned (.plain (OpenSpec.ofChange fnTreeGrowSpec)) fnTreeGrowCard

/-- THE TIED CARD OF 'laws.FnTreeMoveIn'. -/
def fnTreeMoveInCard : Claim7 := { stood := { row := fnTreeMoveInRow, standIns := [], harness := (true, "9df6e87659e6e686f2f6385ed3f1e0379458e2b1c31a72f13b7ee89011821430"), looks := false }, kinds := [], alts := [], laidByText := true, laidKinds := [.data, .pinned], laidTests := true, laidLooks := .later }
def FnTreeMoveInCardSaid : Prop := Claim7.holds Tryd.pinned (.plain (OpenSpec.ofChange fnTreeMoveInSpec)) fnTreeMoveInCard

/-- THE TIED CARD OF 'laws.FnTreeMove'. -/
def fnTreeMoveCard : Claim7 := { stood := { row := fnTreeMoveRow, standIns := [], harness := (true, "9df6e87659e6e686f2f6385ed3f1e0379458e2b1c31a72f13b7ee89011821430"), looks := false }, kinds := [], alts := [], laidByText := true, laidKinds := [.data, .pinned], laidTests := true, laidLooks := .later }
def FnTreeMoveCardSaid : Prop := Claim7.holds Tryd.pinned (.plain (OpenSpec.ofChange fnTreeMoveSpec)) fnTreeMoveCard

/-- THE TIED CARD OF 'laws.FnTreeJoinSelf'. -/
def fnTreeJoinSelfCard : Claim7 := { stood := { row := fnTreeJoinSelfRow, standIns := [], harness := (true, "9df6e87659e6e686f2f6385ed3f1e0379458e2b1c31a72f13b7ee89011821430"), looks := false }, kinds := [], alts := [], laidByText := true, laidKinds := [.data, .pinned], laidTests := true, laidLooks := .later }
def FnTreeJoinSelfCardSaid : Prop := Claim7.holds Tryd.pinned (.plain (OpenSpec.ofChange fnTreeJoinSelfSpec)) fnTreeJoinSelfCard

/-- THE TIED CARD OF 'laws.FnTreeJoin'. -/
def fnTreeJoinCard : Claim7 := { stood := { row := fnTreeJoinRow, standIns := [], harness := (true, "9df6e87659e6e686f2f6385ed3f1e0379458e2b1c31a72f13b7ee89011821430"), looks := false }, kinds := [], alts := [], laidByText := true, laidKinds := [.data, .pinned], laidTests := true, laidLooks := .later }
def FnTreeJoinCardSaid : Prop := Claim7.holds Tryd.pinned (.plain (OpenSpec.ofChange fnTreeJoinSpec)) fnTreeJoinCard

/-- THE TIED CARD OF 'laws.FnTreePart'. -/
def fnTreePartCard : Claim7 := { stood := { row := fnTreePartRow, standIns := [], harness := (true, "9df6e87659e6e686f2f6385ed3f1e0379458e2b1c31a72f13b7ee89011821430"), looks := false }, kinds := [], alts := [], laidByText := true, laidKinds := [.data, .pinned], laidTests := true, laidLooks := .later }
def FnTreePartCardSaid : Prop := Claim7.holds Tryd.pinned (.plain (OpenSpec.ofChange fnTreePartSpec)) fnTreePartCard

/-- THE TIED CARD OF 'laws.FnTreePartRest'. -/
def fnTreePartRestCard : Claim7 := { stood := { row := fnTreePartRestRow, standIns := [], harness := (true, "9df6e87659e6e686f2f6385ed3f1e0379458e2b1c31a72f13b7ee89011821430"), looks := false }, kinds := [], alts := [], laidByText := true, laidKinds := [.data, .pinned], laidTests := true, laidLooks := .later }
def FnTreePartRestCardSaid : Prop := Claim7.holds Tryd.pinned (.plain (OpenSpec.ofChange fnTreePartRestSpec)) fnTreePartRestCard

/-- THE SECOND FORM's CARD OF 'laws.FnExactTreePut'. -/
def fnExactTreePutUptoCard : Claim7 := { stood := { row := fnExactTreePutUptoRow, standIns := [], harness := (true, "9df6e87659e6e686f2f6385ed3f1e0379458e2b1c31a72f13b7ee89011821430"), looks := false }, kinds := [], alts := [], laidByText := true, laidKinds := [.data, .pinned], laidTests := true, laidLooks := .later }
def FnExactTreePutUptoCardSaid : Prop := Claim7.holds Tryd.pinned (.plain (OpenSpec.upto fnExactTreePutSpec)) fnExactTreePutUptoCard

/-- THE SECOND FORM's CARD OF 'laws.FnExactTreeJoin'. -/
def fnExactTreeJoinUptoCard : Claim7 := { stood := { row := fnExactTreeJoinUptoRow, standIns := [], harness := (true, "9df6e87659e6e686f2f6385ed3f1e0379458e2b1c31a72f13b7ee89011821430"), looks := false }, kinds := [], alts := [], laidByText := true, laidKinds := [.data, .pinned], laidTests := true, laidLooks := .later }
def FnExactTreeJoinUptoCardSaid : Prop := Claim7.holds Tryd.pinned (.plain (OpenSpec.upto fnExactTreeJoinSpec)) fnExactTreeJoinUptoCard

/-- THE SECOND FORM's CARD OF 'laws.FnExactTreeMove'. -/
def fnExactTreeMoveUptoCard : Claim7 := { stood := { row := fnExactTreeMoveUptoRow, standIns := [], harness := (true, "9df6e87659e6e686f2f6385ed3f1e0379458e2b1c31a72f13b7ee89011821430"), looks := false }, kinds := [], alts := [], laidByText := true, laidKinds := [.data, .pinned], laidTests := true, laidLooks := .later }
def FnExactTreeMoveUptoCardSaid : Prop := Claim7.holds Tryd.pinned (.plain (OpenSpec.upto fnExactTreeMoveSpec)) fnExactTreeMoveUptoCard

/-- THE SECOND FORM's CARD OF 'laws.FnExactTreePart'. -/
def fnExactTreePartUptoCard : Claim7 := { stood := { row := fnExactTreePartUptoRow, standIns := [], harness := (true, "9df6e87659e6e686f2f6385ed3f1e0379458e2b1c31a72f13b7ee89011821430"), looks := false }, kinds := [], alts := [], laidByText := true, laidKinds := [.data, .pinned], laidTests := true, laidLooks := .later }
def FnExactTreePartUptoCardSaid : Prop := Claim7.holds Tryd.pinned (.plain (OpenSpec.upto fnExactTreePartSpec)) fnExactTreePartUptoCard

/-- THE SECOND FORM's CARD OF 'laws.FnTreeFollow'. -/
def fnTreeFollowUptoCard : Claim7 := { stood := { row := fnTreeFollowUptoRow, standIns := [], harness := (true, "9df6e87659e6e686f2f6385ed3f1e0379458e2b1c31a72f13b7ee89011821430"), looks := false }, kinds := [], alts := [], laidByText := true, laidKinds := [.data, .pinned], laidTests := true, laidLooks := .later }
def FnTreeFollowUptoCardSaid : Prop := Claim7.holds Tryd.pinned (.plain (OpenSpec.upto fnTreeFollowSpec)) fnTreeFollowUptoCard

/-- THE SECOND FORM's CARD OF 'laws.FnTreeDrop'. -/
def fnTreeDropUptoCard : Claim7 := { stood := { row := fnTreeDropUptoRow, standIns := [], harness := (true, "9df6e87659e6e686f2f6385ed3f1e0379458e2b1c31a72f13b7ee89011821430"), looks := false }, kinds := [], alts := [], laidByText := true, laidKinds := [.data, .pinned], laidTests := true, laidLooks := .later }
def FnTreeDropUptoCardSaid : Prop := Claim7.holds Tryd.pinned (.plain (OpenSpec.upto fnTreeDropSpec)) fnTreeDropUptoCard

/-- THE SECOND FORM's CARD OF 'laws.FnTreePut'. -/
def fnTreePutUptoCard : Claim7 := { stood := { row := fnTreePutUptoRow, standIns := [], harness := (true, "9df6e87659e6e686f2f6385ed3f1e0379458e2b1c31a72f13b7ee89011821430"), looks := false }, kinds := [], alts := [], laidByText := true, laidKinds := [.data, .pinned], laidTests := true, laidLooks := .later }
def FnTreePutUptoCardSaid : Prop := Claim7.holds Tryd.pinned (.plain (OpenSpec.upto fnTreePutSpec)) fnTreePutUptoCard

/-- THE SECOND FORM's CARD OF 'laws.FnTreePutDrop'. -/
def fnTreePutDropUptoCard : Claim7 := { stood := { row := fnTreePutDropUptoRow, standIns := [], harness := (true, "9df6e87659e6e686f2f6385ed3f1e0379458e2b1c31a72f13b7ee89011821430"), looks := false }, kinds := [], alts := [], laidByText := true, laidKinds := [.data, .pinned], laidTests := true, laidLooks := .later }
def FnTreePutDropUptoCardSaid : Prop := Claim7.holds Tryd.pinned (.plain (OpenSpec.upto fnTreePutDropSpec)) fnTreePutDropUptoCard

/-- THE SECOND FORM's CARD OF 'laws.FnTreeLink'. -/
def fnTreeLinkUptoCard : Claim7 := { stood := { row := fnTreeLinkUptoRow, standIns := [], harness := (true, "9df6e87659e6e686f2f6385ed3f1e0379458e2b1c31a72f13b7ee89011821430"), looks := false }, kinds := [], alts := [], laidByText := true, laidKinds := [.data, .pinned], laidTests := true, laidLooks := .later }
def FnTreeLinkUptoCardSaid : Prop := Claim7.holds Tryd.pinned (.plain (OpenSpec.upto fnTreeLinkSpec)) fnTreeLinkUptoCard

/-- THE SECOND FORM's CARD OF 'laws.FnTreeGrow'. -/
def fnTreeGrowUptoCard : Claim7 := { stood := { row := fnTreeGrowUptoRow, standIns := [], harness := (true, "9df6e87659e6e686f2f6385ed3f1e0379458e2b1c31a72f13b7ee89011821430"), looks := false }, kinds := [], alts := [], laidByText := true, laidKinds := [.data, .pinned], laidTests := true, laidLooks := .later }
def FnTreeGrowUptoCardSaid : Prop := Claim7.holds Tryd.pinned (.plain (OpenSpec.upto fnTreeGrowSpec)) fnTreeGrowUptoCard

/-- THE SECOND FORM's CARD OF 'laws.FnTreeMoveIn'. -/
def fnTreeMoveInUptoCard : Claim7 := { stood := { row := fnTreeMoveInUptoRow, standIns := [], harness := (true, "9df6e87659e6e686f2f6385ed3f1e0379458e2b1c31a72f13b7ee89011821430"), looks := false }, kinds := [], alts := [], laidByText := true, laidKinds := [.data, .pinned], laidTests := true, laidLooks := .later }
def FnTreeMoveInUptoCardSaid : Prop := Claim7.holds Tryd.pinned (.plain (OpenSpec.upto fnTreeMoveInSpec)) fnTreeMoveInUptoCard

/-- THE SECOND FORM's CARD OF 'laws.FnTreeMove'. -/
def fnTreeMoveUptoCard : Claim7 := { stood := { row := fnTreeMoveUptoRow, standIns := [], harness := (true, "9df6e87659e6e686f2f6385ed3f1e0379458e2b1c31a72f13b7ee89011821430"), looks := false }, kinds := [], alts := [], laidByText := true, laidKinds := [.data, .pinned], laidTests := true, laidLooks := .later }
def FnTreeMoveUptoCardSaid : Prop := Claim7.holds Tryd.pinned (.plain (OpenSpec.upto fnTreeMoveSpec)) fnTreeMoveUptoCard

/-- THE SECOND FORM's CARD OF 'laws.FnTreeJoinSelf'. -/
def fnTreeJoinSelfUptoCard : Claim7 := { stood := { row := fnTreeJoinSelfUptoRow, standIns := [], harness := (true, "9df6e87659e6e686f2f6385ed3f1e0379458e2b1c31a72f13b7ee89011821430"), looks := false }, kinds := [], alts := [], laidByText := true, laidKinds := [.data, .pinned], laidTests := true, laidLooks := .later }
def FnTreeJoinSelfUptoCardSaid : Prop := Claim7.holds Tryd.pinned (.plain (OpenSpec.upto fnTreeJoinSelfSpec)) fnTreeJoinSelfUptoCard

/-- THE SECOND FORM's CARD OF 'laws.FnTreeJoin'. -/
def fnTreeJoinUptoCard : Claim7 := { stood := { row := fnTreeJoinUptoRow, standIns := [], harness := (true, "9df6e87659e6e686f2f6385ed3f1e0379458e2b1c31a72f13b7ee89011821430"), looks := false }, kinds := [], alts := [], laidByText := true, laidKinds := [.data, .pinned], laidTests := true, laidLooks := .later }
def FnTreeJoinUptoCardSaid : Prop := Claim7.holds Tryd.pinned (.plain (OpenSpec.upto fnTreeJoinSpec)) fnTreeJoinUptoCard

/-- THE SECOND FORM's CARD OF 'laws.FnTreePart'. -/
def fnTreePartUptoCard : Claim7 := { stood := { row := fnTreePartUptoRow, standIns := [], harness := (true, "9df6e87659e6e686f2f6385ed3f1e0379458e2b1c31a72f13b7ee89011821430"), looks := false }, kinds := [], alts := [], laidByText := true, laidKinds := [.data, .pinned], laidTests := true, laidLooks := .later }
def FnTreePartUptoCardSaid : Prop := Claim7.holds Tryd.pinned (.plain (OpenSpec.upto fnTreePartSpec)) fnTreePartUptoCard

/-- THE SECOND FORM's CARD OF 'laws.FnTreePartRest'. -/
def fnTreePartRestUptoCard : Claim7 := { stood := { row := fnTreePartRestUptoRow, standIns := [], harness := (true, "9df6e87659e6e686f2f6385ed3f1e0379458e2b1c31a72f13b7ee89011821430"), looks := false }, kinds := [], alts := [], laidByText := true, laidKinds := [.data, .pinned], laidTests := true, laidLooks := .later }
def FnTreePartRestUptoCardSaid : Prop := Claim7.holds Tryd.pinned (.plain (OpenSpec.upto fnTreePartRestSpec)) fnTreePartRestUptoCard
end Rows
end Go.Proofs.YtjihpbioofikcaaDoor
