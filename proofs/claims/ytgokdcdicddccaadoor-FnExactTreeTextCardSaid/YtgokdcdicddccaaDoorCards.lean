/-
  DERIVED. GIVEN WITH THE SEED: THE CARDS: each row of YtgokdcdicddccaaDoorRows.lean that lists a variable, with what it lists TIED to the program's text (the seventh form; the later family's looks); each row that meets fmt, with fmt's text TOLD by the authors' own Lean function (tested against real Go, not proved from fmt's source: count such statements apart). THE CARD IS WHAT COUNTS. Prove the row's statement (the work); the ties are given (YtgokdcdicddccaaDoorTie.lean); close each card by the builder's one call (the guide's Derived/Test/ToyasCard.lean, 'card_holds'). Laid BY PROGRAM, IN A SANDBOX (cutbox-door.mjs). By AI agents, Wed Nov 11 2026. No macro, syntax, notation, axiom, sorry.
-/
import Derived.Test.YtgokdcdicddccaaDoorRows
import GoSem.ClaimSeven
namespace Go.Proofs.YtgokdcdicddccaaDoor
namespace Rows

/-- THE TIED CARD OF 'laws.FnExactTreeOk'. -/
def fnExactTreeOkCard : Claim7 := { stood := { row := fnExactTreeOkRow, standIns := [], harness := (true, "ad453a11a182939e55e64d480fb57be6fe263ff80df128cc0a0f8904e7454365"), looks := false }, kinds := [], alts := [], laidByText := true, laidKinds := [.data, .pinned], laidTests := true, laidLooks := .later }
def FnExactTreeOkCardSaid : Prop := Claim7.holds Tryd.pinned (.plain (OpenSpec.ofChange fnExactTreeOkSpec)) fnExactTreeOkCard

/-- THE TIED CARD OF 'laws.FnExactTreeGet'. -/
def fnExactTreeGetCard : Claim7 := { stood := { row := fnExactTreeGetRow, standIns := [], harness := (true, "ad453a11a182939e55e64d480fb57be6fe263ff80df128cc0a0f8904e7454365"), looks := false }, kinds := [], alts := [], laidByText := true, laidKinds := [.data, .pinned], laidTests := true, laidLooks := .later }
def FnExactTreeGetCardSaid : Prop := Claim7.holds Tryd.pinned (.plain (OpenSpec.ofChange fnExactTreeGetSpec)) fnExactTreeGetCard

/-- THE TIED CARD OF 'laws.FnExactTreeFollow'. -/
def fnExactTreeFollowCard : Claim7 := { stood := { row := fnExactTreeFollowRow, standIns := [], harness := (true, "ad453a11a182939e55e64d480fb57be6fe263ff80df128cc0a0f8904e7454365"), looks := false }, kinds := [], alts := [], laidByText := true, laidKinds := [.data, .pinned], laidTests := true, laidLooks := .later }
def FnExactTreeFollowCardSaid : Prop := Claim7.holds Tryd.pinned (.plain (OpenSpec.ofChange fnExactTreeFollowSpec)) fnExactTreeFollowCard

/-- THE TIED CARD OF 'laws.FnExactTreeText'. -/
def fnExactTreeTextCard : Claim7 := { stood := { row := fnExactTreeTextRow, standIns := [], harness := (true, "ad453a11a182939e55e64d480fb57be6fe263ff80df128cc0a0f8904e7454365"), looks := false }, kinds := [], alts := [], laidByText := true, laidKinds := [.data, .data, .data, .data, .pinned], laidTests := true, laidLooks := .later }
def FnExactTreeTextCardSaid : Prop := Claim7.holds Tryd.pinned (.plain (OpenSpec.ofChange fnExactTreeTextSpec)) fnExactTreeTextCard

/-- THE SECOND FORM's CARD OF 'laws.FnExactTreeOk'. -/
def fnExactTreeOkUptoCard : Claim7 := { stood := { row := fnExactTreeOkUptoRow, standIns := [], harness := (true, "ad453a11a182939e55e64d480fb57be6fe263ff80df128cc0a0f8904e7454365"), looks := false }, kinds := [], alts := [], laidByText := true, laidKinds := [.data, .pinned], laidTests := true, laidLooks := .later }
def FnExactTreeOkUptoCardSaid : Prop := Claim7.holds Tryd.pinned (.plain (OpenSpec.upto fnExactTreeOkSpec)) fnExactTreeOkUptoCard

/-- THE SECOND FORM's CARD OF 'laws.FnExactTreeGet'. -/
def fnExactTreeGetUptoCard : Claim7 := { stood := { row := fnExactTreeGetUptoRow, standIns := [], harness := (true, "ad453a11a182939e55e64d480fb57be6fe263ff80df128cc0a0f8904e7454365"), looks := false }, kinds := [], alts := [], laidByText := true, laidKinds := [.data, .pinned], laidTests := true, laidLooks := .later }
def FnExactTreeGetUptoCardSaid : Prop := Claim7.holds Tryd.pinned (.plain (OpenSpec.upto fnExactTreeGetSpec)) fnExactTreeGetUptoCard

/-- THE SECOND FORM's CARD OF 'laws.FnExactTreeFollow'. -/
def fnExactTreeFollowUptoCard : Claim7 := { stood := { row := fnExactTreeFollowUptoRow, standIns := [], harness := (true, "ad453a11a182939e55e64d480fb57be6fe263ff80df128cc0a0f8904e7454365"), looks := false }, kinds := [], alts := [], laidByText := true, laidKinds := [.data, .pinned], laidTests := true, laidLooks := .later }
def FnExactTreeFollowUptoCardSaid : Prop := Claim7.holds Tryd.pinned (.plain (OpenSpec.upto fnExactTreeFollowSpec)) fnExactTreeFollowUptoCard

/-- THE SECOND FORM's CARD OF 'laws.FnExactTreeText'. -/
def fnExactTreeTextUptoCard : Claim7 := { stood := { row := fnExactTreeTextUptoRow, standIns := [], harness := (true, "ad453a11a182939e55e64d480fb57be6fe263ff80df128cc0a0f8904e7454365"), looks := false }, kinds := [], alts := [], laidByText := true, laidKinds := [.data, .data, .data, .data, .pinned], laidTests := true, laidLooks := .later }
def FnExactTreeTextUptoCardSaid : Prop := Claim7.holds Tryd.pinned (.plain (OpenSpec.upto fnExactTreeTextSpec)) fnExactTreeTextUptoCard
end Rows
end Go.Proofs.YtgokdcdicddccaaDoor
