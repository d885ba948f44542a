/-
  DERIVED. GIVEN WITH THE SEED: THE CARDS: each row of YtgccndhnpmmkfaaDoorRows.lean that lists a variable, with what it lists TIED to the program's text (the seventh form; the later family's looks); each row that meets fmt, with fmt's text TOLD by the authors' own Lean function (tested against real Go, not proved from fmt's source: count such statements apart). THE CARD IS WHAT COUNTS. Prove the row's statement (the work); the ties are given (YtgccndhnpmmkfaaDoorTie.lean); close each card by the builder's one call (the guide's Derived/Test/ToyasCard.lean, 'card_holds'). Laid BY PROGRAM, IN A SANDBOX (cutbox-door.mjs). By AI agents, Wed Nov 11 2026. No macro, syntax, notation, axiom, sorry.
-/
import Derived.Test.YtgccndhnpmmkfaaDoorRows
import GoSem.ClaimSeven
namespace Go.Proofs.YtgccndhnpmmkfaaDoor
namespace Rows

/-- THE TIED CARD OF 'laws.FnExactPathOk'. -/
def fnExactPathOkCard : Claim7 := { stood := { row := fnExactPathOkRow, standIns := [], harness := (true, "64544470630c87f55672096772c640b776b1cc9eaf00602385ae26d38b18598c"), looks := false }, kinds := [], alts := [], laidByText := true, laidKinds := [.data, .pinned], laidTests := true, laidLooks := .later }
def FnExactPathOkCardSaid : Prop := Claim7.holds Tryd.pinned (.plain (OpenSpec.ofChange fnExactPathOkSpec)) fnExactPathOkCard

/-- THE TIED CARD OF 'laws.FnExactPathIn'. -/
def fnExactPathInCard : Claim7 := { stood := { row := fnExactPathInRow, standIns := [], harness := (true, "64544470630c87f55672096772c640b776b1cc9eaf00602385ae26d38b18598c"), looks := false }, kinds := [], alts := [], laidByText := true, laidKinds := [.data, .pinned], laidTests := true, laidLooks := .later }
def FnExactPathInCardSaid : Prop := Claim7.holds Tryd.pinned (.plain (OpenSpec.ofChange fnExactPathInSpec)) fnExactPathInCard

/-- THE TIED CARD OF 'laws.FnExactPathLast'. -/
def fnExactPathLastCard : Claim7 := { stood := { row := fnExactPathLastRow, standIns := [], harness := (true, "64544470630c87f55672096772c640b776b1cc9eaf00602385ae26d38b18598c"), looks := false }, kinds := [], alts := [], laidByText := true, laidKinds := [.data, .pinned], laidTests := true, laidLooks := .later }
def FnExactPathLastCardSaid : Prop := Claim7.holds Tryd.pinned (.plain (OpenSpec.ofChange fnExactPathLastSpec)) fnExactPathLastCard

/-- THE TIED CARD OF 'laws.FnExactPathUp'. -/
def fnExactPathUpCard : Claim7 := { stood := { row := fnExactPathUpRow, standIns := [], harness := (true, "64544470630c87f55672096772c640b776b1cc9eaf00602385ae26d38b18598c"), looks := false }, kinds := [], alts := [], laidByText := true, laidKinds := [.data, .pinned], laidTests := true, laidLooks := .later }
def FnExactPathUpCardSaid : Prop := Claim7.holds Tryd.pinned (.plain (OpenSpec.ofChange fnExactPathUpSpec)) fnExactPathUpCard

/-- THE TIED CARD OF 'laws.FnExactPathMove'. -/
def fnExactPathMoveCard : Claim7 := { stood := { row := fnExactPathMoveRow, standIns := [], harness := (true, "64544470630c87f55672096772c640b776b1cc9eaf00602385ae26d38b18598c"), looks := false }, kinds := [], alts := [], laidByText := true, laidKinds := [.data, .pinned], laidTests := true, laidLooks := .later }
def FnExactPathMoveCardSaid : Prop := Claim7.holds Tryd.pinned (.plain (OpenSpec.ofChange fnExactPathMoveSpec)) fnExactPathMoveCard

/-- THE TIED CARD OF 'laws.FnPathMove'. -/
def fnPathMoveCard : Claim7 := { stood := { row := fnPathMoveRow, standIns := [], harness := (true, "64544470630c87f55672096772c640b776b1cc9eaf00602385ae26d38b18598c"), looks := false }, kinds := [], alts := [], laidByText := true, laidKinds := [.data, .pinned], laidTests := true, laidLooks := .later }
def FnPathMoveCardSaid : Prop := Claim7.holds Tryd.pinned (.plain (OpenSpec.ofChange fnPathMoveSpec)) fnPathMoveCard

/-- THE TIED CARD OF 'laws.FnPathIn'. -/
def fnPathInCard : Claim7 := { stood := { row := fnPathInRow, standIns := [], harness := (true, "64544470630c87f55672096772c640b776b1cc9eaf00602385ae26d38b18598c"), looks := false }, kinds := [], alts := [], laidByText := true, laidKinds := [.data, .pinned], laidTests := true, laidLooks := .later }
def FnPathInCardSaid : Prop := Claim7.holds Tryd.pinned (.plain (OpenSpec.ofChange fnPathInSpec)) fnPathInCard

/-- THE TIED CARD OF 'laws.FnPathUps'. -/
def fnPathUpsCard : Claim7 := { stood := { row := fnPathUpsRow, standIns := [], harness := (true, "64544470630c87f55672096772c640b776b1cc9eaf00602385ae26d38b18598c"), looks := false }, kinds := [], alts := [], laidByText := true, laidKinds := [.data, .pinned], laidTests := true, laidLooks := .later }
def FnPathUpsCardSaid : Prop := Claim7.holds Tryd.pinned (.plain (OpenSpec.ofChange fnPathUpsSpec)) fnPathUpsCard

/-- THE TIED CARD OF 'laws.FnPath'. -/
def fnPathCard : Claim7 := { stood := { row := fnPathRow, standIns := [], harness := (true, "64544470630c87f55672096772c640b776b1cc9eaf00602385ae26d38b18598c"), looks := false }, kinds := [], alts := [], laidByText := true, laidKinds := [.data, .pinned], laidTests := true, laidLooks := .later }
def FnPathCardSaid : Prop := Claim7.holds Tryd.pinned (.plain (OpenSpec.ofChange fnPathSpec)) fnPathCard

/-- THE SECOND FORM's CARD OF 'laws.FnExactPathOk'. -/
def fnExactPathOkUptoCard : Claim7 := { stood := { row := fnExactPathOkUptoRow, standIns := [], harness := (true, "64544470630c87f55672096772c640b776b1cc9eaf00602385ae26d38b18598c"), looks := false }, kinds := [], alts := [], laidByText := true, laidKinds := [.data, .pinned], laidTests := true, laidLooks := .later }
def FnExactPathOkUptoCardSaid : Prop := Claim7.holds Tryd.pinned (.plain (OpenSpec.upto fnExactPathOkSpec)) fnExactPathOkUptoCard

/-- THE SECOND FORM's CARD OF 'laws.FnExactPathIn'. -/
def fnExactPathInUptoCard : Claim7 := { stood := { row := fnExactPathInUptoRow, standIns := [], harness := (true, "64544470630c87f55672096772c640b776b1cc9eaf00602385ae26d38b18598c"), looks := false }, kinds := [], alts := [], laidByText := true, laidKinds := [.data, .pinned], laidTests := true, laidLooks := .later }
def FnExactPathInUptoCardSaid : Prop := Claim7.holds Tryd.pinned (.plain (OpenSpec.upto fnExactPathInSpec)) fnExactPathInUptoCard

/-- THE SECOND FORM's CARD OF 'laws.FnExactPathLast'. -/
def fnExactPathLastUptoCard : Claim7 := { stood := { row := fnExactPathLastUptoRow, standIns := [], harness := (true, "64544470630c87f55672096772c640b776b1cc9eaf00602385ae26d38b18598c"), looks := false }, kinds := [], alts := [], laidByText := true, laidKinds := [.data, .pinned], laidTests := true, laidLooks := .later }
def FnExactPathLastUptoCardSaid : Prop := Claim7.holds Tryd.pinned (.plain (OpenSpec.upto fnExactPathLastSpec)) fnExactPathLastUptoCard

/-- THE SECOND FORM's CARD OF 'laws.FnExactPathUp'. -/
def fnExactPathUpUptoCard : Claim7 := { stood := { row := fnExactPathUpUptoRow, standIns := [], harness := (true, "64544470630c87f55672096772c640b776b1cc9eaf00602385ae26d38b18598c"), looks := false }, kinds := [], alts := [], laidByText := true, laidKinds := [.data, .pinned], laidTests := true, laidLooks := .later }
def FnExactPathUpUptoCardSaid : Prop := Claim7.holds Tryd.pinned (.plain (OpenSpec.upto fnExactPathUpSpec)) fnExactPathUpUptoCard

/-- THE SECOND FORM's CARD OF 'laws.FnExactPathMove'. -/
def fnExactPathMoveUptoCard : Claim7 := { stood := { row := fnExactPathMoveUptoRow, standIns := [], harness := (true, "64544470630c87f55672096772c640b776b1cc9eaf00602385ae26d38b18598c"), looks := false }, kinds := [], alts := [], laidByText := true, laidKinds := [.data, .pinned], laidTests := true, laidLooks := .later }
def FnExactPathMoveUptoCardSaid : Prop := Claim7.holds Tryd.pinned (.plain (OpenSpec.upto fnExactPathMoveSpec)) fnExactPathMoveUptoCard

/-- THE SECOND FORM's CARD OF 'laws.FnPathMove'. -/
def fnPathMoveUptoCard : Claim7 := { stood := { row := fnPathMoveUptoRow, standIns := [], harness := (true, "64544470630c87f55672096772c640b776b1cc9eaf00602385ae26d38b18598c"), looks := false }, kinds := [], alts := [], laidByText := true, laidKinds := [.data, .pinned], laidTests := true, laidLooks := .later }
def FnPathMoveUptoCardSaid : Prop := Claim7.holds Tryd.pinned (.plain (OpenSpec.upto fnPathMoveSpec)) fnPathMoveUptoCard

/-- THE SECOND FORM's CARD OF 'laws.FnPathIn'. -/
def fnPathInUptoCard : Claim7 := { stood := { row := fnPathInUptoRow, standIns := [], harness := (true, "64544470630c87f55672096772c640b776b1cc9eaf00602385ae26d38b18598c"), looks := false }, kinds := [], alts := [], laidByText := true, laidKinds := [.data, .pinned], laidTests := true, laidLooks := .later }
def FnPathInUptoCardSaid : Prop := Claim7.holds Tryd.pinned (.plain (OpenSpec.upto fnPathInSpec)) fnPathInUptoCard

/-- THE SECOND FORM's CARD OF 'laws.FnPathUps'. -/
def fnPathUpsUptoCard : Claim7 := { stood := { row := fnPathUpsUptoRow, standIns := [], harness := (true, "64544470630c87f55672096772c640b776b1cc9eaf00602385ae26d38b18598c"), looks := false }, kinds := [], alts := [], laidByText := true, laidKinds := [.data, .pinned], laidTests := true, laidLooks := .later }
def FnPathUpsUptoCardSaid : Prop := Claim7.holds Tryd.pinned (.plain (OpenSpec.upto fnPathUpsSpec)) fnPathUpsUptoCard

/-- THE SECOND FORM's CARD OF 'laws.FnPath'. -/
def fnPathUptoCard : Claim7 := { stood := { row := fnPathUptoRow, standIns := [], harness := (true, "64544470630c87f55672096772c640b776b1cc9eaf00602385ae26d38b18598c"), looks := false }, kinds := [], alts := [], laidByText := true, laidKinds := [.data, .pinned], laidTests := true, laidLooks := .later }
def FnPathUptoCardSaid : Prop := Claim7.holds Tryd.pinned (.plain (OpenSpec.upto fnPathSpec)) fnPathUptoCard
end Rows
end Go.Proofs.YtgccndhnpmmkfaaDoor
