/-
  DERIVED. GIVEN WITH THE SEED: THE CARDS: each row of YtdcfifhmldolhaaDoorRows.lean that lists a variable, with what it lists TIED to the program's text (the seventh form; the later family's looks); each row that meets fmt, with fmt's text TOLD by the authors' own Lean function (tested against real Go, not proved from fmt's source: count such statements apart). THE CARD IS WHAT COUNTS. Prove the row's statement (the work); the ties are given (YtdcfifhmldolhaaDoorTie.lean); close each card by the builder's one call (the guide's Derived/Test/ToyasCard.lean, 'card_holds'). Laid BY PROGRAM, IN A SANDBOX (cutbox-door.mjs). By AI agents, Wed Nov 11 2026. No macro, syntax, notation, axiom, sorry.
-/
import Derived.Test.YtdcfifhmldolhaaDoorRows
import GoSem.ClaimSeven
namespace Go.Proofs.YtdcfifhmldolhaaDoor
namespace Rows

/-- THE TIED CARD OF 'laws.FnExactNeedGet'. -/
def fnExactNeedGetCard : Claim7 := { stood := { row := fnExactNeedGetRow, standIns := [], harness := (true, "d80a7270c9689d8f2277c07fcf450cf7d3e5c96f9b2eea33a64699556f4f5ce0"), looks := false }, kinds := [], alts := [], laidByText := true, laidKinds := [.data, .pinned], laidTests := true, laidLooks := .later }
def FnExactNeedGetCardSaid : Prop := Claim7.holds Tryd.pinned (.plain (OpenSpec.ofChange fnExactNeedGetSpec)) fnExactNeedGetCard

/-- THE TIED CARD OF 'laws.FnNeedText'. -/
def fnNeedTextCard : Claim7 := { stood := { row := fnNeedTextRow, standIns := [], harness := (true, "d80a7270c9689d8f2277c07fcf450cf7d3e5c96f9b2eea33a64699556f4f5ce0"), looks := false }, kinds := [], alts := [], laidByText := true, laidKinds := [.data, .pinned], laidTests := true, laidLooks := .later }
def FnNeedTextCardSaid : Prop := Claim7.holds Tryd.pinned (.plain (OpenSpec.ofChange fnNeedTextSpec)) fnNeedTextCard

/-- THE SECOND FORM's CARD OF 'laws.FnExactNeedGet'. -/
def fnExactNeedGetUptoCard : Claim7 := { stood := { row := fnExactNeedGetUptoRow, standIns := [], harness := (true, "d80a7270c9689d8f2277c07fcf450cf7d3e5c96f9b2eea33a64699556f4f5ce0"), looks := false }, kinds := [], alts := [], laidByText := true, laidKinds := [.data, .pinned], laidTests := true, laidLooks := .later }
def FnExactNeedGetUptoCardSaid : Prop := Claim7.holds Tryd.pinned (.plain (OpenSpec.upto fnExactNeedGetSpec)) fnExactNeedGetUptoCard

/-- THE SECOND FORM's CARD OF 'laws.FnNeedText'. -/
def fnNeedTextUptoCard : Claim7 := { stood := { row := fnNeedTextUptoRow, standIns := [], harness := (true, "d80a7270c9689d8f2277c07fcf450cf7d3e5c96f9b2eea33a64699556f4f5ce0"), looks := false }, kinds := [], alts := [], laidByText := true, laidKinds := [.data, .pinned], laidTests := true, laidLooks := .later }
def FnNeedTextUptoCardSaid : Prop := Claim7.holds Tryd.pinned (.plain (OpenSpec.upto fnNeedTextSpec)) fnNeedTextUptoCard
end Rows
end Go.Proofs.YtdcfifhmldolhaaDoor
