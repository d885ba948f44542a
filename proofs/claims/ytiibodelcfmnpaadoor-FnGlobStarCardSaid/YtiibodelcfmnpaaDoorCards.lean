/-
  DERIVED. GIVEN WITH THE SEED: THE CARDS: each row of YtiibodelcfmnpaaDoorRows.lean that lists a variable, with what it lists TIED to the program's text (the seventh form; the later family's looks); each row that meets fmt, with fmt's text TOLD by the authors' own Lean function (tested against real Go, not proved from fmt's source: count such statements apart). THE CARD IS WHAT COUNTS. Prove the row's statement (the work); the ties are given (YtiibodelcfmnpaaDoorTie.lean); close each card by the builder's one call (the guide's Derived/Test/ToyasCard.lean, 'card_holds'). Laid BY PROGRAM, IN A SANDBOX (cutbox-door.mjs). By AI agents, Wed Nov 11 2026. No macro, syntax, notation, axiom, sorry.
-/
import Derived.Test.YtiibodelcfmnpaaDoorRows
import GoSem.ClaimSeven
namespace Go.Proofs.YtiibodelcfmnpaaDoor
namespace Rows

/-- THE TIED CARD OF 'laws.FnExactGlobOk'. -/
def fnExactGlobOkCard : Claim7 := { stood := { row := fnExactGlobOkRow, standIns := [], harness := (true, "91f7c024edfa21c94b824baed8780995fe47693399623919b111bf0a348e0d18"), looks := false }, kinds := [], alts := [], laidByText := true, laidKinds := [.data, .pinned], laidTests := true, laidLooks := .later }
def FnExactGlobOkCardSaid : Prop := Claim7.holds Tryd.pinned (.plain (OpenSpec.ofChange fnExactGlobOkSpec)) fnExactGlobOkCard

/-- THE TIED CARD OF 'laws.FnGlobStar'. -/
def fnGlobStarCard : Claim7 := { stood := { row := fnGlobStarRow, standIns := [], harness := (true, "91f7c024edfa21c94b824baed8780995fe47693399623919b111bf0a348e0d18"), looks := false }, kinds := [], alts := [], laidByText := true, laidKinds := [.data, .pinned], laidTests := true, laidLooks := .later }
def FnGlobStarCardSaid : Prop := Claim7.holds Tryd.pinned (.plain (OpenSpec.ofChange fnGlobStarSpec)) fnGlobStarCard

/-- THE TIED CARD OF 'laws.FnGlobDeep'. -/
def fnGlobDeepCard : Claim7 := { stood := { row := fnGlobDeepRow, standIns := [], harness := (true, "91f7c024edfa21c94b824baed8780995fe47693399623919b111bf0a348e0d18"), looks := false }, kinds := [], alts := [], laidByText := true, laidKinds := [.data, .pinned], laidTests := true, laidLooks := .later }
def FnGlobDeepCardSaid : Prop := Claim7.holds Tryd.pinned (.plain (OpenSpec.ofChange fnGlobDeepSpec)) fnGlobDeepCard

/-- THE TIED CARD OF 'laws.FnExactGlobHas'. -/
def fnExactGlobHasCard : Claim7 := { stood := { row := fnExactGlobHasRow, standIns := [], harness := (true, "91f7c024edfa21c94b824baed8780995fe47693399623919b111bf0a348e0d18"), looks := false }, kinds := [], alts := [], laidByText := true, laidKinds := [.data, .pinned], laidTests := true, laidLooks := .later }
def FnExactGlobHasCardSaid : Prop := Claim7.holds Tryd.pinned (.plain (OpenSpec.ofChange fnExactGlobHasSpec)) fnExactGlobHasCard

/-- THE TIED CARD OF 'laws.FnGlob'. -/
def fnGlobCard : Claim7 := { stood := { row := fnGlobRow, standIns := [], harness := (true, "91f7c024edfa21c94b824baed8780995fe47693399623919b111bf0a348e0d18"), looks := false }, kinds := [], alts := [], laidByText := true, laidKinds := [.data, .pinned], laidTests := true, laidLooks := .later }
def FnGlobCardSaid : Prop := Claim7.holds Tryd.pinned (.plain (OpenSpec.ofChange fnGlobSpec)) fnGlobCard

/-- THE TIED CARD OF 'laws.FnGlobClass'. -/
def fnGlobClassCard : Claim7 := { stood := { row := fnGlobClassRow, standIns := [], harness := (true, "91f7c024edfa21c94b824baed8780995fe47693399623919b111bf0a348e0d18"), looks := false }, kinds := [], alts := [], laidByText := true, laidKinds := [.data, .pinned], laidTests := true, laidLooks := .later }
def FnGlobClassCardSaid : Prop := Claim7.holds Tryd.pinned (.plain (OpenSpec.ofChange fnGlobClassSpec)) fnGlobClassCard

/-- THE SECOND FORM's CARD OF 'laws.FnExactGlobOk'. -/
def fnExactGlobOkUptoCard : Claim7 := { stood := { row := fnExactGlobOkUptoRow, standIns := [], harness := (true, "91f7c024edfa21c94b824baed8780995fe47693399623919b111bf0a348e0d18"), looks := false }, kinds := [], alts := [], laidByText := true, laidKinds := [.data, .pinned], laidTests := true, laidLooks := .later }
def FnExactGlobOkUptoCardSaid : Prop := Claim7.holds Tryd.pinned (.plain (OpenSpec.upto fnExactGlobOkSpec)) fnExactGlobOkUptoCard

/-- THE SECOND FORM's CARD OF 'laws.FnGlobStar'. -/
def fnGlobStarUptoCard : Claim7 := { stood := { row := fnGlobStarUptoRow, standIns := [], harness := (true, "91f7c024edfa21c94b824baed8780995fe47693399623919b111bf0a348e0d18"), looks := false }, kinds := [], alts := [], laidByText := true, laidKinds := [.data, .pinned], laidTests := true, laidLooks := .later }
def FnGlobStarUptoCardSaid : Prop := Claim7.holds Tryd.pinned (.plain (OpenSpec.upto fnGlobStarSpec)) fnGlobStarUptoCard

/-- THE SECOND FORM's CARD OF 'laws.FnGlobDeep'. -/
def fnGlobDeepUptoCard : Claim7 := { stood := { row := fnGlobDeepUptoRow, standIns := [], harness := (true, "91f7c024edfa21c94b824baed8780995fe47693399623919b111bf0a348e0d18"), looks := false }, kinds := [], alts := [], laidByText := true, laidKinds := [.data, .pinned], laidTests := true, laidLooks := .later }
def FnGlobDeepUptoCardSaid : Prop := Claim7.holds Tryd.pinned (.plain (OpenSpec.upto fnGlobDeepSpec)) fnGlobDeepUptoCard

/-- THE SECOND FORM's CARD OF 'laws.FnExactGlobHas'. -/
def fnExactGlobHasUptoCard : Claim7 := { stood := { row := fnExactGlobHasUptoRow, standIns := [], harness := (true, "91f7c024edfa21c94b824baed8780995fe47693399623919b111bf0a348e0d18"), looks := false }, kinds := [], alts := [], laidByText := true, laidKinds := [.data, .pinned], laidTests := true, laidLooks := .later }
def FnExactGlobHasUptoCardSaid : Prop := Claim7.holds Tryd.pinned (.plain (OpenSpec.upto fnExactGlobHasSpec)) fnExactGlobHasUptoCard

/-- THE SECOND FORM's CARD OF 'laws.FnGlob'. -/
def fnGlobUptoCard : Claim7 := { stood := { row := fnGlobUptoRow, standIns := [], harness := (true, "91f7c024edfa21c94b824baed8780995fe47693399623919b111bf0a348e0d18"), looks := false }, kinds := [], alts := [], laidByText := true, laidKinds := [.data, .pinned], laidTests := true, laidLooks := .later }
def FnGlobUptoCardSaid : Prop := Claim7.holds Tryd.pinned (.plain (OpenSpec.upto fnGlobSpec)) fnGlobUptoCard

/-- THE SECOND FORM's CARD OF 'laws.FnGlobClass'. -/
def fnGlobClassUptoCard : Claim7 := { stood := { row := fnGlobClassUptoRow, standIns := [], harness := (true, "91f7c024edfa21c94b824baed8780995fe47693399623919b111bf0a348e0d18"), looks := false }, kinds := [], alts := [], laidByText := true, laidKinds := [.data, .pinned], laidTests := true, laidLooks := .later }
def FnGlobClassUptoCardSaid : Prop := Claim7.holds Tryd.pinned (.plain (OpenSpec.upto fnGlobClassSpec)) fnGlobClassUptoCard
end Rows
end Go.Proofs.YtiibodelcfmnpaaDoor
