/-
  DERIVED. GIVEN WITH THE SEED: THE CARDS: each row of YtgocnaeignachaaDoorRows.lean that lists a variable, with what it lists TIED to the program's text (the seventh form; the later family's looks); each row that meets fmt, with fmt's text TOLD by the authors' own Lean function (tested against real Go, not proved from fmt's source: count such statements apart). THE CARD IS WHAT COUNTS. Prove the row's statement (the work); the ties are given (YtgocnaeignachaaDoorTie.lean); close each card by the builder's one call (the guide's Derived/Test/ToyasCard.lean, 'card_holds'). Laid BY PROGRAM, IN A SANDBOX (cutbox-door.mjs). By AI agents, Wed Nov 11 2026. No macro, syntax, notation, axiom, sorry.
-/
import Derived.Test.YtgocnaeignachaaDoorRows
import GoSem.ClaimSeven
namespace Go.Proofs.YtgocnaeignachaaDoor
namespace Rows

/-- THE TIED CARD OF 'laws.FnExactVersionOk'. -/
def fnExactVersionOkCard : Claim7 := { stood := { row := fnExactVersionOkRow, standIns := [], harness := (true, "a5aa05e61678872145bc9ef6515f1cae28f516c10668d2dc67ad2e37bbcfbd7b"), looks := false }, kinds := [], alts := [], laidByText := true, laidKinds := [.data, .pinned], laidTests := true, laidLooks := .later }
def FnExactVersionOkCardSaid : Prop := Claim7.holds Tryd.pinned (.plain (OpenSpec.ofChange fnExactVersionOkSpec)) fnExactVersionOkCard

/-- THE TIED CARD OF 'laws.FnExactNeedOk'. -/
def fnExactNeedOkCard : Claim7 := { stood := { row := fnExactNeedOkRow, standIns := [], harness := (true, "a5aa05e61678872145bc9ef6515f1cae28f516c10668d2dc67ad2e37bbcfbd7b"), looks := false }, kinds := [], alts := [], laidByText := true, laidKinds := [.data, .pinned], laidTests := true, laidLooks := .later }
def FnExactNeedOkCardSaid : Prop := Claim7.holds Tryd.pinned (.plain (OpenSpec.ofChange fnExactNeedOkSpec)) fnExactNeedOkCard

/-- THE TIED CARD OF 'laws.FnExactVersionOrder'. -/
def fnExactVersionOrderCard : Claim7 := { stood := { row := fnExactVersionOrderRow, standIns := [], harness := (true, "a5aa05e61678872145bc9ef6515f1cae28f516c10668d2dc67ad2e37bbcfbd7b"), looks := false }, kinds := [], alts := [], laidByText := true, laidKinds := [.data, .pinned], laidTests := true, laidLooks := .later }
def FnExactVersionOrderCardSaid : Prop := Claim7.holds Tryd.pinned (.plain (OpenSpec.ofChange fnExactVersionOrderSpec)) fnExactVersionOrderCard

/-- THE TIED CARD OF 'laws.FnExactNeedPut'. -/
def fnExactNeedPutCard : Claim7 := { stood := { row := fnExactNeedPutRow, standIns := [], harness := (true, "a5aa05e61678872145bc9ef6515f1cae28f516c10668d2dc67ad2e37bbcfbd7b"), looks := false }, kinds := [], alts := [], laidByText := true, laidKinds := [.data, .pinned], laidTests := true, laidLooks := .later }
def FnExactNeedPutCardSaid : Prop := Claim7.holds Tryd.pinned (.plain (OpenSpec.ofChange fnExactNeedPutSpec)) fnExactNeedPutCard

/-- THE TIED CARD OF 'laws.FnVersionKnown'. -/
def fnVersionKnownCard : Claim7 := { stood := { row := fnVersionKnownRow, standIns := [], harness := (true, "a5aa05e61678872145bc9ef6515f1cae28f516c10668d2dc67ad2e37bbcfbd7b"), looks := false }, kinds := [], alts := [], laidByText := true, laidKinds := [.data, .pinned], laidTests := true, laidLooks := .later }
def FnVersionKnownCardSaid : Prop := Claim7.holds Tryd.pinned (.plain (OpenSpec.ofChange fnVersionKnownSpec)) fnVersionKnownCard

/-- THE TIED CARD OF 'laws.FnVersionOrder'. -/
def fnVersionOrderCard : Claim7 := { stood := { row := fnVersionOrderRow, standIns := [], harness := (true, "a5aa05e61678872145bc9ef6515f1cae28f516c10668d2dc67ad2e37bbcfbd7b"), looks := false }, kinds := [], alts := [], laidByText := true, laidKinds := [.data, .pinned], laidTests := true, laidLooks := .later }
def FnVersionOrderCardSaid : Prop := Claim7.holds Tryd.pinned (.plain (OpenSpec.ofChange fnVersionOrderSpec)) fnVersionOrderCard

/-- THE TIED CARD OF 'laws.FnExactNeedFits'. -/
def fnExactNeedFitsCard : Claim7 := { stood := { row := fnExactNeedFitsRow, standIns := [], harness := (true, "a5aa05e61678872145bc9ef6515f1cae28f516c10668d2dc67ad2e37bbcfbd7b"), looks := false }, kinds := [], alts := [], laidByText := true, laidKinds := [.data, .pinned], laidTests := true, laidLooks := .later }
def FnExactNeedFitsCardSaid : Prop := Claim7.holds Tryd.pinned (.plain (OpenSpec.ofChange fnExactNeedFitsSpec)) fnExactNeedFitsCard

/-- THE TIED CARD OF 'laws.FnNeedFits'. -/
def fnNeedFitsCard : Claim7 := { stood := { row := fnNeedFitsRow, standIns := [], harness := (true, "a5aa05e61678872145bc9ef6515f1cae28f516c10668d2dc67ad2e37bbcfbd7b"), looks := false }, kinds := [], alts := [], laidByText := true, laidKinds := [.data, .pinned], laidTests := true, laidLooks := .later }
def FnNeedFitsCardSaid : Prop := Claim7.holds Tryd.pinned (.plain (OpenSpec.ofChange fnNeedFitsSpec)) fnNeedFitsCard

/-- THE TIED CARD OF 'laws.FnNeedOther'. -/
def fnNeedOtherCard : Claim7 := { stood := { row := fnNeedOtherRow, standIns := [], harness := (true, "a5aa05e61678872145bc9ef6515f1cae28f516c10668d2dc67ad2e37bbcfbd7b"), looks := false }, kinds := [], alts := [], laidByText := true, laidKinds := [.data, .pinned], laidTests := true, laidLooks := .later }
def FnNeedOtherCardSaid : Prop := Claim7.holds Tryd.pinned (.plain (OpenSpec.ofChange fnNeedOtherSpec)) fnNeedOtherCard

/-- THE TIED CARD OF 'laws.FnExactNeedGet'. -/
def fnExactNeedGetCard : Claim7 := { stood := { row := fnExactNeedGetRow, standIns := [], harness := (true, "a5aa05e61678872145bc9ef6515f1cae28f516c10668d2dc67ad2e37bbcfbd7b"), looks := false }, kinds := [], alts := [], laidByText := true, laidKinds := [.data, .pinned], laidTests := true, laidLooks := .later }
def FnExactNeedGetCardSaid : Prop := Claim7.holds Tryd.pinned (.plain (OpenSpec.ofChange fnExactNeedGetSpec)) fnExactNeedGetCard

/-- THE TIED CARD OF 'laws.FnNeedText'. -/
def fnNeedTextCard : Claim7 := { stood := { row := fnNeedTextRow, standIns := [], harness := (true, "a5aa05e61678872145bc9ef6515f1cae28f516c10668d2dc67ad2e37bbcfbd7b"), looks := false }, kinds := [], alts := [], laidByText := true, laidKinds := [.data, .pinned], laidTests := true, laidLooks := .later }
def FnNeedTextCardSaid : Prop := Claim7.holds Tryd.pinned (.plain (OpenSpec.ofChange fnNeedTextSpec)) fnNeedTextCard

/-- THE SECOND FORM's CARD OF 'laws.FnExactVersionOk'. -/
def fnExactVersionOkUptoCard : Claim7 := { stood := { row := fnExactVersionOkUptoRow, standIns := [], harness := (true, "a5aa05e61678872145bc9ef6515f1cae28f516c10668d2dc67ad2e37bbcfbd7b"), looks := false }, kinds := [], alts := [], laidByText := true, laidKinds := [.data, .pinned], laidTests := true, laidLooks := .later }
def FnExactVersionOkUptoCardSaid : Prop := Claim7.holds Tryd.pinned (.plain (OpenSpec.upto fnExactVersionOkSpec)) fnExactVersionOkUptoCard

/-- THE SECOND FORM's CARD OF 'laws.FnExactNeedOk'. -/
def fnExactNeedOkUptoCard : Claim7 := { stood := { row := fnExactNeedOkUptoRow, standIns := [], harness := (true, "a5aa05e61678872145bc9ef6515f1cae28f516c10668d2dc67ad2e37bbcfbd7b"), looks := false }, kinds := [], alts := [], laidByText := true, laidKinds := [.data, .pinned], laidTests := true, laidLooks := .later }
def FnExactNeedOkUptoCardSaid : Prop := Claim7.holds Tryd.pinned (.plain (OpenSpec.upto fnExactNeedOkSpec)) fnExactNeedOkUptoCard

/-- THE SECOND FORM's CARD OF 'laws.FnExactVersionOrder'. -/
def fnExactVersionOrderUptoCard : Claim7 := { stood := { row := fnExactVersionOrderUptoRow, standIns := [], harness := (true, "a5aa05e61678872145bc9ef6515f1cae28f516c10668d2dc67ad2e37bbcfbd7b"), looks := false }, kinds := [], alts := [], laidByText := true, laidKinds := [.data, .pinned], laidTests := true, laidLooks := .later }
def FnExactVersionOrderUptoCardSaid : Prop := Claim7.holds Tryd.pinned (.plain (OpenSpec.upto fnExactVersionOrderSpec)) fnExactVersionOrderUptoCard

/-- THE SECOND FORM's CARD OF 'laws.FnExactNeedPut'. -/
def fnExactNeedPutUptoCard : Claim7 := { stood := { row := fnExactNeedPutUptoRow, standIns := [], harness := (true, "a5aa05e61678872145bc9ef6515f1cae28f516c10668d2dc67ad2e37bbcfbd7b"), looks := false }, kinds := [], alts := [], laidByText := true, laidKinds := [.data, .pinned], laidTests := true, laidLooks := .later }
def FnExactNeedPutUptoCardSaid : Prop := Claim7.holds Tryd.pinned (.plain (OpenSpec.upto fnExactNeedPutSpec)) fnExactNeedPutUptoCard

/-- THE SECOND FORM's CARD OF 'laws.FnVersionKnown'. -/
def fnVersionKnownUptoCard : Claim7 := { stood := { row := fnVersionKnownUptoRow, standIns := [], harness := (true, "a5aa05e61678872145bc9ef6515f1cae28f516c10668d2dc67ad2e37bbcfbd7b"), looks := false }, kinds := [], alts := [], laidByText := true, laidKinds := [.data, .pinned], laidTests := true, laidLooks := .later }
def FnVersionKnownUptoCardSaid : Prop := Claim7.holds Tryd.pinned (.plain (OpenSpec.upto fnVersionKnownSpec)) fnVersionKnownUptoCard

/-- THE SECOND FORM's CARD OF 'laws.FnVersionOrder'. -/
def fnVersionOrderUptoCard : Claim7 := { stood := { row := fnVersionOrderUptoRow, standIns := [], harness := (true, "a5aa05e61678872145bc9ef6515f1cae28f516c10668d2dc67ad2e37bbcfbd7b"), looks := false }, kinds := [], alts := [], laidByText := true, laidKinds := [.data, .pinned], laidTests := true, laidLooks := .later }
def FnVersionOrderUptoCardSaid : Prop := Claim7.holds Tryd.pinned (.plain (OpenSpec.upto fnVersionOrderSpec)) fnVersionOrderUptoCard

/-- THE SECOND FORM's CARD OF 'laws.FnExactNeedFits'. -/
def fnExactNeedFitsUptoCard : Claim7 := { stood := { row := fnExactNeedFitsUptoRow, standIns := [], harness := (true, "a5aa05e61678872145bc9ef6515f1cae28f516c10668d2dc67ad2e37bbcfbd7b"), looks := false }, kinds := [], alts := [], laidByText := true, laidKinds := [.data, .pinned], laidTests := true, laidLooks := .later }
def FnExactNeedFitsUptoCardSaid : Prop := Claim7.holds Tryd.pinned (.plain (OpenSpec.upto fnExactNeedFitsSpec)) fnExactNeedFitsUptoCard

/-- THE SECOND FORM's CARD OF 'laws.FnNeedFits'. -/
def fnNeedFitsUptoCard : Claim7 := { stood := { row := fnNeedFitsUptoRow, standIns := [], harness := (true, "a5aa05e61678872145bc9ef6515f1cae28f516c10668d2dc67ad2e37bbcfbd7b"), looks := false }, kinds := [], alts := [], laidByText := true, laidKinds := [.data, .pinned], laidTests := true, laidLooks := .later }
def FnNeedFitsUptoCardSaid : Prop := Claim7.holds Tryd.pinned (.plain (OpenSpec.upto fnNeedFitsSpec)) fnNeedFitsUptoCard

/-- THE SECOND FORM's CARD OF 'laws.FnNeedOther'. -/
def fnNeedOtherUptoCard : Claim7 := { stood := { row := fnNeedOtherUptoRow, standIns := [], harness := (true, "a5aa05e61678872145bc9ef6515f1cae28f516c10668d2dc67ad2e37bbcfbd7b"), looks := false }, kinds := [], alts := [], laidByText := true, laidKinds := [.data, .pinned], laidTests := true, laidLooks := .later }
def FnNeedOtherUptoCardSaid : Prop := Claim7.holds Tryd.pinned (.plain (OpenSpec.upto fnNeedOtherSpec)) fnNeedOtherUptoCard

/-- THE SECOND FORM's CARD OF 'laws.FnExactNeedGet'. -/
def fnExactNeedGetUptoCard : Claim7 := { stood := { row := fnExactNeedGetUptoRow, standIns := [], harness := (true, "a5aa05e61678872145bc9ef6515f1cae28f516c10668d2dc67ad2e37bbcfbd7b"), looks := false }, kinds := [], alts := [], laidByText := true, laidKinds := [.data, .pinned], laidTests := true, laidLooks := .later }
def FnExactNeedGetUptoCardSaid : Prop := Claim7.holds Tryd.pinned (.plain (OpenSpec.upto fnExactNeedGetSpec)) fnExactNeedGetUptoCard

/-- THE SECOND FORM's CARD OF 'laws.FnNeedText'. -/
def fnNeedTextUptoCard : Claim7 := { stood := { row := fnNeedTextUptoRow, standIns := [], harness := (true, "a5aa05e61678872145bc9ef6515f1cae28f516c10668d2dc67ad2e37bbcfbd7b"), looks := false }, kinds := [], alts := [], laidByText := true, laidKinds := [.data, .pinned], laidTests := true, laidLooks := .later }
def FnNeedTextUptoCardSaid : Prop := Claim7.holds Tryd.pinned (.plain (OpenSpec.upto fnNeedTextSpec)) fnNeedTextUptoCard
end Rows
end Go.Proofs.YtgocnaeignachaaDoor
