/-
  NARROWER THAN 'FOR EVERY INPUT', by the rows' own cells (each row's printed sentence says how): FnExactVersionOk: laid · FnExactNeedOk: laid · FnExactVersionOrder: laid · FnExactNeedPut: laid · FnVersionKnown: laid · FnVersionOrder: laid · FnExactNeedFits: laid · FnNeedFits: laid · FnNeedOther: laid · FnExactNeedGet: laid · FnNeedText: laid.
  DERIVED. THE GIVEN ROWS OF THIS SEAT. 11 by the template 'for every input the law returns true; each argument reads behind the call as it read before'; 0 by the template 'total and deterministic' (their statements: YtgocnaeignachaaDoorTotals.lean).
  GIVEN WITH THE SEED: the statements are not yours to turn. If you find one false, say at which input.
  Laid BY PROGRAM, IN A SANDBOX (cutbox-rows.mjs): the forced cells as the released guide's own fill.sh prints them over the translation 17bb93f7cc071ea7… (all of the seat's roots in one cut). By AI agents, Wed Nov 11 2026. No macro, syntax, notation, axiom, sorry.
-/
import Derived.Test.YtgocnaeignachaaDoorChecked
import GoSem.PinnedTables
import GoSem.Claim
import GoSem.ClaimJoined
import GoSem.ClaimMapViews
import Derived.JoinedTies
import Derived.KernelRfl
namespace Go.Proofs.YtgocnaeignachaaDoor
/- THE CELL 'sum', in the pinned program and in every row, IS THE sha256 OF THE DUMP (.gsa) THAT YtgocnaeignachaaDoorProg.lean LOADS. Nothing in Lean hashes anything: it is a label: what it is worth is what the hold of that sum in a sandbox is worth. -/
noncomputable def Tryd.pinned : Pinned := { name := "ytgocnaeignachaadoor", sum := "17bb93f7cc071ea7587a505c4419c328b2fca444cf631b6d0316577429f6a199", checked := Tryd.checked }
namespace Rows
def none {H : Type} : Left H := { results := [], args := [] }

/- WHAT THE LISTED PACKAGE-LEVEL VARIABLES READ AS WHEN THE CALL BEGINS. Each datum BY PROGRAM (the guide's laid-datum.mjs) off the statement by which the dump's own 'gosem.cut.vars' lays the variable. In a bare row this is a premise. The card (YtgocnaeignachaaDoorCards.lean) ties it to the program's text. -/
def laid_unicode_utf8_acceptRanges {H : Type} : DataW H := .agg [.agg [.lit (.int .u8 128), .lit (.int .u8 191)], .agg [.lit (.int .u8 160), .lit (.int .u8 191)], .agg [.lit (.int .u8 128), .lit (.int .u8 159)], .agg [.lit (.int .u8 144), .lit (.int .u8 191)], .agg [.lit (.int .u8 128), .lit (.int .u8 143)], .agg [.lit (.int .u8 0), .lit (.int .u8 0)], .agg [.lit (.int .u8 0), .lit (.int .u8 0)], .agg [.lit (.int .u8 0), .lit (.int .u8 0)], .agg [.lit (.int .u8 0), .lit (.int .u8 0)], .agg [.lit (.int .u8 0), .lit (.int .u8 0)], .agg [.lit (.int .u8 0), .lit (.int .u8 0)], .agg [.lit (.int .u8 0), .lit (.int .u8 0)], .agg [.lit (.int .u8 0), .lit (.int .u8 0)], .agg [.lit (.int .u8 0), .lit (.int .u8 0)], .agg [.lit (.int .u8 0), .lit (.int .u8 0)], .agg [.lit (.int .u8 0), .lit (.int .u8 0)]]
/-- One of Go's own tables, pinned by name: the form's constant. -/
def laid_unicode_utf8_first : DataW Unit := Go.Pinned.utf8First

/-- 'laws.FnExactVersionOk': WHATEVER THE INPUT: true; the input reads as it did. -/
def fnExactVersionOkSpec : ChangeSpec := { name := "fnExactVersionOk", fn := fun _ => fun
  | [d] => { results := [.lit (.bool true)], args := [d] }
  | _ => none }
def fnExactVersionOkRow : OpenClaim := { program := "ytgocnaeignachaadoor", sum := "17bb93f7cc071ea7587a505c4419c328b2fca444cf631b6d0316577429f6a199", func := "loop.example/jackstay/laws.FnExactVersionOk", spec := "fnExactVersionOk", inPlace := ["internal/bytealg.IndexByteString", "internal/bytealg.IndexString"], unfollowed := true, recurses := true, named := ["unicode/utf8.first", "unicode/utf8.acceptRanges", "internal/bytealg.MaxLen"], apart := false, laid := [("unicode/utf8.acceptRanges", laid_unicode_utf8_acceptRanges), ("unicode/utf8.first", laid_unicode_utf8_first)] }
def FnExactVersionOkSaid : Prop := fnExactVersionOkRow.holds Tryd.pinned (OpenSpec.ofChange fnExactVersionOkSpec)

/-- ITS FALSE NEIGHBOUR: 'it returns false'. Refute it at one input. -/
def fnExactVersionOkWrong : ChangeSpec := { name := "fnExactVersionOk", fn := fun _ => fun
  | [d] => { results := [.lit (.bool false)], args := [d] }
  | _ => none }
def FnExactVersionOkWrongFalsely : Prop := fnExactVersionOkRow.holds Tryd.pinned (OpenSpec.ofChange fnExactVersionOkWrong)

/-- 'laws.FnExactNeedOk': WHATEVER THE INPUT: true; the input reads as it did. -/
def fnExactNeedOkSpec : ChangeSpec := { name := "fnExactNeedOk", fn := fun _ => fun
  | [d] => { results := [.lit (.bool true)], args := [d] }
  | _ => none }
def fnExactNeedOkRow : OpenClaim := { program := "ytgocnaeignachaadoor", sum := "17bb93f7cc071ea7587a505c4419c328b2fca444cf631b6d0316577429f6a199", func := "loop.example/jackstay/laws.FnExactNeedOk", spec := "fnExactNeedOk", inPlace := ["internal/bytealg.IndexByteString", "internal/bytealg.IndexString"], unfollowed := true, recurses := true, named := ["unicode/utf8.first", "unicode/utf8.acceptRanges", "internal/bytealg.MaxLen"], apart := false, laid := [("unicode/utf8.acceptRanges", laid_unicode_utf8_acceptRanges), ("unicode/utf8.first", laid_unicode_utf8_first)] }
def FnExactNeedOkSaid : Prop := fnExactNeedOkRow.holds Tryd.pinned (OpenSpec.ofChange fnExactNeedOkSpec)

/-- ITS FALSE NEIGHBOUR: 'it returns false'. Refute it at one input. -/
def fnExactNeedOkWrong : ChangeSpec := { name := "fnExactNeedOk", fn := fun _ => fun
  | [d] => { results := [.lit (.bool false)], args := [d] }
  | _ => none }
def FnExactNeedOkWrongFalsely : Prop := fnExactNeedOkRow.holds Tryd.pinned (OpenSpec.ofChange fnExactNeedOkWrong)

/-- 'laws.FnExactVersionOrder': WHATEVER THE INPUT: true; the input reads as it did. -/
def fnExactVersionOrderSpec : ChangeSpec := { name := "fnExactVersionOrder", fn := fun _ => fun
  | [d1, d2] => { results := [.lit (.bool true)], args := [d1, d2] }
  | _ => none }
def fnExactVersionOrderRow : OpenClaim := { program := "ytgocnaeignachaadoor", sum := "17bb93f7cc071ea7587a505c4419c328b2fca444cf631b6d0316577429f6a199", func := "loop.example/jackstay/laws.FnExactVersionOrder", spec := "fnExactVersionOrder", inPlace := ["internal/bytealg.IndexByteString", "internal/bytealg.IndexString"], unfollowed := true, recurses := true, named := ["unicode/utf8.first", "unicode/utf8.acceptRanges", "internal/bytealg.MaxLen"], apart := false, laid := [("unicode/utf8.acceptRanges", laid_unicode_utf8_acceptRanges), ("unicode/utf8.first", laid_unicode_utf8_first)] }
def FnExactVersionOrderSaid : Prop := fnExactVersionOrderRow.holds Tryd.pinned (OpenSpec.ofChange fnExactVersionOrderSpec)

/-- ITS FALSE NEIGHBOUR: 'it returns false'. Refute it at one input. -/
def fnExactVersionOrderWrong : ChangeSpec := { name := "fnExactVersionOrder", fn := fun _ => fun
  | [d1, d2] => { results := [.lit (.bool false)], args := [d1, d2] }
  | _ => none }
def FnExactVersionOrderWrongFalsely : Prop := fnExactVersionOrderRow.holds Tryd.pinned (OpenSpec.ofChange fnExactVersionOrderWrong)

/-- 'laws.FnExactNeedPut': WHATEVER THE INPUT: true; the input reads as it did. -/
def fnExactNeedPutSpec : ChangeSpec := { name := "fnExactNeedPut", fn := fun _ => fun
  | [d] => { results := [.lit (.bool true)], args := [d] }
  | _ => none }
def fnExactNeedPutRow : OpenClaim := { program := "ytgocnaeignachaadoor", sum := "17bb93f7cc071ea7587a505c4419c328b2fca444cf631b6d0316577429f6a199", func := "loop.example/jackstay/laws.FnExactNeedPut", spec := "fnExactNeedPut", inPlace := ["internal/bytealg.IndexByteString", "internal/bytealg.IndexString"], unfollowed := true, recurses := true, named := ["unicode/utf8.first", "unicode/utf8.acceptRanges", "internal/bytealg.MaxLen"], apart := false, laid := [("unicode/utf8.acceptRanges", laid_unicode_utf8_acceptRanges), ("unicode/utf8.first", laid_unicode_utf8_first)] }
def FnExactNeedPutSaid : Prop := fnExactNeedPutRow.holds Tryd.pinned (OpenSpec.ofChange fnExactNeedPutSpec)

/-- ITS FALSE NEIGHBOUR: 'it returns false'. Refute it at one input. -/
def fnExactNeedPutWrong : ChangeSpec := { name := "fnExactNeedPut", fn := fun _ => fun
  | [d] => { results := [.lit (.bool false)], args := [d] }
  | _ => none }
def FnExactNeedPutWrongFalsely : Prop := fnExactNeedPutRow.holds Tryd.pinned (OpenSpec.ofChange fnExactNeedPutWrong)

/-- 'laws.FnVersionKnown': WHATEVER THE INPUT: true; the input reads as it did. -/
def fnVersionKnownSpec : ChangeSpec := { name := "fnVersionKnown", fn := fun _ => fun
  | [d] => { results := [.lit (.bool true)], args := [d] }
  | _ => none }
def fnVersionKnownRow : OpenClaim := { program := "ytgocnaeignachaadoor", sum := "17bb93f7cc071ea7587a505c4419c328b2fca444cf631b6d0316577429f6a199", func := "loop.example/jackstay/laws.FnVersionKnown", spec := "fnVersionKnown", inPlace := ["internal/bytealg.IndexByteString", "internal/bytealg.IndexString"], unfollowed := true, recurses := true, named := ["unicode/utf8.first", "unicode/utf8.acceptRanges", "internal/bytealg.MaxLen"], apart := false, laid := [("unicode/utf8.acceptRanges", laid_unicode_utf8_acceptRanges), ("unicode/utf8.first", laid_unicode_utf8_first)] }
def FnVersionKnownSaid : Prop := fnVersionKnownRow.holds Tryd.pinned (OpenSpec.ofChange fnVersionKnownSpec)

/-- ITS FALSE NEIGHBOUR: 'it returns false'. Refute it at one input. -/
def fnVersionKnownWrong : ChangeSpec := { name := "fnVersionKnown", fn := fun _ => fun
  | [d] => { results := [.lit (.bool false)], args := [d] }
  | _ => none }
def FnVersionKnownWrongFalsely : Prop := fnVersionKnownRow.holds Tryd.pinned (OpenSpec.ofChange fnVersionKnownWrong)

/-- 'laws.FnVersionOrder': WHATEVER THE INPUT: true; the input reads as it did. -/
def fnVersionOrderSpec : ChangeSpec := { name := "fnVersionOrder", fn := fun _ => fun
  | [d1, d2] => { results := [.lit (.bool true)], args := [d1, d2] }
  | _ => none }
def fnVersionOrderRow : OpenClaim := { program := "ytgocnaeignachaadoor", sum := "17bb93f7cc071ea7587a505c4419c328b2fca444cf631b6d0316577429f6a199", func := "loop.example/jackstay/laws.FnVersionOrder", spec := "fnVersionOrder", inPlace := ["internal/bytealg.IndexByteString", "internal/bytealg.IndexString"], unfollowed := true, recurses := true, named := ["unicode/utf8.first", "unicode/utf8.acceptRanges", "internal/bytealg.MaxLen"], apart := false, laid := [("unicode/utf8.acceptRanges", laid_unicode_utf8_acceptRanges), ("unicode/utf8.first", laid_unicode_utf8_first)] }
def FnVersionOrderSaid : Prop := fnVersionOrderRow.holds Tryd.pinned (OpenSpec.ofChange fnVersionOrderSpec)

/-- ITS FALSE NEIGHBOUR: 'it returns false'. Refute it at one input. -/
def fnVersionOrderWrong : ChangeSpec := { name := "fnVersionOrder", fn := fun _ => fun
  | [d1, d2] => { results := [.lit (.bool false)], args := [d1, d2] }
  | _ => none }
def FnVersionOrderWrongFalsely : Prop := fnVersionOrderRow.holds Tryd.pinned (OpenSpec.ofChange fnVersionOrderWrong)

/-- 'laws.FnExactNeedFits': WHATEVER THE INPUT: true; the input reads as it did. -/
def fnExactNeedFitsSpec : ChangeSpec := { name := "fnExactNeedFits", fn := fun _ => fun
  | [d1, d2, d3] => { results := [.lit (.bool true)], args := [d1, d2, d3] }
  | _ => none }
def fnExactNeedFitsRow : OpenClaim := { program := "ytgocnaeignachaadoor", sum := "17bb93f7cc071ea7587a505c4419c328b2fca444cf631b6d0316577429f6a199", func := "loop.example/jackstay/laws.FnExactNeedFits", spec := "fnExactNeedFits", inPlace := ["internal/bytealg.IndexByteString", "internal/bytealg.IndexString"], unfollowed := true, recurses := true, named := ["unicode/utf8.first", "unicode/utf8.acceptRanges", "internal/bytealg.MaxLen"], apart := false, laid := [("unicode/utf8.acceptRanges", laid_unicode_utf8_acceptRanges), ("unicode/utf8.first", laid_unicode_utf8_first)] }
def FnExactNeedFitsSaid : Prop := fnExactNeedFitsRow.holds Tryd.pinned (OpenSpec.ofChange fnExactNeedFitsSpec)

/-- ITS FALSE NEIGHBOUR: 'it returns false'. Refute it at one input. -/
def fnExactNeedFitsWrong : ChangeSpec := { name := "fnExactNeedFits", fn := fun _ => fun
  | [d1, d2, d3] => { results := [.lit (.bool false)], args := [d1, d2, d3] }
  | _ => none }
def FnExactNeedFitsWrongFalsely : Prop := fnExactNeedFitsRow.holds Tryd.pinned (OpenSpec.ofChange fnExactNeedFitsWrong)

/-- 'laws.FnNeedFits': WHATEVER THE INPUT: true; the input reads as it did. -/
def fnNeedFitsSpec : ChangeSpec := { name := "fnNeedFits", fn := fun _ => fun
  | [d] => { results := [.lit (.bool true)], args := [d] }
  | _ => none }
def fnNeedFitsRow : OpenClaim := { program := "ytgocnaeignachaadoor", sum := "17bb93f7cc071ea7587a505c4419c328b2fca444cf631b6d0316577429f6a199", func := "loop.example/jackstay/laws.FnNeedFits", spec := "fnNeedFits", inPlace := ["internal/bytealg.IndexByteString", "internal/bytealg.IndexString"], unfollowed := true, recurses := true, named := ["unicode/utf8.first", "unicode/utf8.acceptRanges", "internal/bytealg.MaxLen"], apart := false, laid := [("unicode/utf8.acceptRanges", laid_unicode_utf8_acceptRanges), ("unicode/utf8.first", laid_unicode_utf8_first)] }
def FnNeedFitsSaid : Prop := fnNeedFitsRow.holds Tryd.pinned (OpenSpec.ofChange fnNeedFitsSpec)

/-- ITS FALSE NEIGHBOUR: 'it returns false'. Refute it at one input. -/
def fnNeedFitsWrong : ChangeSpec := { name := "fnNeedFits", fn := fun _ => fun
  | [d] => { results := [.lit (.bool false)], args := [d] }
  | _ => none }
def FnNeedFitsWrongFalsely : Prop := fnNeedFitsRow.holds Tryd.pinned (OpenSpec.ofChange fnNeedFitsWrong)

/-- 'laws.FnNeedOther': WHATEVER THE INPUT: true; the input reads as it did. -/
def fnNeedOtherSpec : ChangeSpec := { name := "fnNeedOther", fn := fun _ => fun
  | [d] => { results := [.lit (.bool true)], args := [d] }
  | _ => none }
def fnNeedOtherRow : OpenClaim := { program := "ytgocnaeignachaadoor", sum := "17bb93f7cc071ea7587a505c4419c328b2fca444cf631b6d0316577429f6a199", func := "loop.example/jackstay/laws.FnNeedOther", spec := "fnNeedOther", inPlace := ["internal/bytealg.IndexByteString", "internal/bytealg.IndexString"], unfollowed := true, recurses := true, named := ["unicode/utf8.first", "unicode/utf8.acceptRanges", "internal/bytealg.MaxLen"], apart := false, laid := [("unicode/utf8.acceptRanges", laid_unicode_utf8_acceptRanges), ("unicode/utf8.first", laid_unicode_utf8_first)] }
def FnNeedOtherSaid : Prop := fnNeedOtherRow.holds Tryd.pinned (OpenSpec.ofChange fnNeedOtherSpec)

/-- ITS FALSE NEIGHBOUR: 'it returns false'. Refute it at one input. -/
def fnNeedOtherWrong : ChangeSpec := { name := "fnNeedOther", fn := fun _ => fun
  | [d] => { results := [.lit (.bool false)], args := [d] }
  | _ => none }
def FnNeedOtherWrongFalsely : Prop := fnNeedOtherRow.holds Tryd.pinned (OpenSpec.ofChange fnNeedOtherWrong)

/-- 'laws.FnExactNeedGet': WHATEVER THE INPUT: true; the input reads as it did. -/
def fnExactNeedGetSpec : ChangeSpec := { name := "fnExactNeedGet", fn := fun _ => fun
  | [d] => { results := [.lit (.bool true)], args := [d] }
  | _ => none }
def fnExactNeedGetRow : OpenClaim := { program := "ytgocnaeignachaadoor", sum := "17bb93f7cc071ea7587a505c4419c328b2fca444cf631b6d0316577429f6a199", func := "loop.example/jackstay/laws.FnExactNeedGet", spec := "fnExactNeedGet", inPlace := ["internal/bytealg.IndexByteString", "internal/bytealg.IndexString"], unfollowed := true, recurses := true, named := ["unicode/utf8.first", "unicode/utf8.acceptRanges", "internal/bytealg.MaxLen"], apart := false, laid := [("unicode/utf8.acceptRanges", laid_unicode_utf8_acceptRanges), ("unicode/utf8.first", laid_unicode_utf8_first)] }
def FnExactNeedGetSaid : Prop := fnExactNeedGetRow.holds Tryd.pinned (OpenSpec.ofChange fnExactNeedGetSpec)

/-- ITS FALSE NEIGHBOUR: 'it returns false'. Refute it at one input. -/
def fnExactNeedGetWrong : ChangeSpec := { name := "fnExactNeedGet", fn := fun _ => fun
  | [d] => { results := [.lit (.bool false)], args := [d] }
  | _ => none }
def FnExactNeedGetWrongFalsely : Prop := fnExactNeedGetRow.holds Tryd.pinned (OpenSpec.ofChange fnExactNeedGetWrong)

/-- 'laws.FnNeedText': WHATEVER THE INPUT: true; the input reads as it did. -/
def fnNeedTextSpec : ChangeSpec := { name := "fnNeedText", fn := fun _ => fun
  | [d1, d2] => { results := [.lit (.bool true)], args := [d1, d2] }
  | _ => none }
def fnNeedTextRow : OpenClaim := { program := "ytgocnaeignachaadoor", sum := "17bb93f7cc071ea7587a505c4419c328b2fca444cf631b6d0316577429f6a199", func := "loop.example/jackstay/laws.FnNeedText", spec := "fnNeedText", inPlace := ["internal/bytealg.IndexByteString", "internal/bytealg.IndexString"], unfollowed := true, recurses := true, named := ["unicode/utf8.first", "unicode/utf8.acceptRanges", "internal/bytealg.MaxLen"], apart := false, laid := [("unicode/utf8.acceptRanges", laid_unicode_utf8_acceptRanges), ("unicode/utf8.first", laid_unicode_utf8_first)] }
def FnNeedTextSaid : Prop := fnNeedTextRow.holds Tryd.pinned (OpenSpec.ofChange fnNeedTextSpec)

/-- ITS FALSE NEIGHBOUR: 'it returns false'. Refute it at one input. -/
def fnNeedTextWrong : ChangeSpec := { name := "fnNeedText", fn := fun _ => fun
  | [d1, d2] => { results := [.lit (.bool false)], args := [d1, d2] }
  | _ => none }
def FnNeedTextWrongFalsely : Prop := fnNeedTextRow.holds Tryd.pinned (OpenSpec.ofChange fnNeedTextWrong)

/- THE SECOND FORM. 'bulk': how many values and letters a reading holds, each counted each time it is reached (what is shared counts as often as it is met; a slice's spare places count too). A statement '..UptoSaid' is the law's where the arguments, and the package variables that the reading takes, are together of bulk at most 1048576: NARROWER than '..Said'. Prove '..Said' where nothing that the law and all that it calls make is longer than what came in: it says more and counts as full. Else prove '..UptoSaid'. A law counts once. -/
mutual
def uptoBulk {H : Type} : DataW H → Nat
  | .lit (.string bytes) => bytes.length + 1
  | .lit _ => 1
  | .nil => 1
  | .ptr d => uptoBulk d + 1
  | .slice elems spare => uptoBulkAll elems + uptoBulkAll spare + 1
  | .agg parts => uptoBulkAll parts + 1
  | .iface _ d => uptoBulk d + 1
  | .map entries => uptoBulkEntries entries + 1
  | .held _ => 1
def uptoBulkAll {H : Type} : List (DataW H) → Nat
  | [] => 0
  | d :: r => uptoBulk d + uptoBulkAll r
def uptoBulkEntries {H : Type} : List (Lit × DataW H) → Nat
  | [] => 0
  | x :: r => uptoBulkEntry x + uptoBulkEntries r
def uptoBulkEntry {H : Type} : Lit × DataW H → Nat
  | (.string bytes, d) => bytes.length + uptoBulk d + 1
  | (_, d) => uptoBulk d + 1
 end
def uptoSmall : (H : Type) → List (DataW H) → Bool := fun _ ds => decide (uptoBulkAll ds ≤ 1048576)
def OpenSpec.upto (s : _root_.Go.ChangeSpec) : _root_.Go.OpenSpec := { _root_.Go.OpenSpec.ofChange s with cond := some uptoSmall }

/-- 'laws.FnExactVersionOk', WHERE WHAT IT READS IS OF BULK AT MOST 1048576: true; the input reads as it did. -/
def fnExactVersionOkUptoRow : OpenClaim := { program := "ytgocnaeignachaadoor", sum := "17bb93f7cc071ea7587a505c4419c328b2fca444cf631b6d0316577429f6a199", func := "loop.example/jackstay/laws.FnExactVersionOk", spec := "fnExactVersionOk", inPlace := ["internal/bytealg.IndexByteString", "internal/bytealg.IndexString"], unfollowed := true, recurses := true, named := ["unicode/utf8.first", "unicode/utf8.acceptRanges", "internal/bytealg.MaxLen"], apart := false, laid := [("unicode/utf8.acceptRanges", laid_unicode_utf8_acceptRanges), ("unicode/utf8.first", laid_unicode_utf8_first)], narrowed := true }
def FnExactVersionOkUptoSaid : Prop := fnExactVersionOkUptoRow.holds Tryd.pinned (OpenSpec.upto fnExactVersionOkSpec)

/-- 'laws.FnExactNeedOk', WHERE WHAT IT READS IS OF BULK AT MOST 1048576: true; the input reads as it did. -/
def fnExactNeedOkUptoRow : OpenClaim := { program := "ytgocnaeignachaadoor", sum := "17bb93f7cc071ea7587a505c4419c328b2fca444cf631b6d0316577429f6a199", func := "loop.example/jackstay/laws.FnExactNeedOk", spec := "fnExactNeedOk", inPlace := ["internal/bytealg.IndexByteString", "internal/bytealg.IndexString"], unfollowed := true, recurses := true, named := ["unicode/utf8.first", "unicode/utf8.acceptRanges", "internal/bytealg.MaxLen"], apart := false, laid := [("unicode/utf8.acceptRanges", laid_unicode_utf8_acceptRanges), ("unicode/utf8.first", laid_unicode_utf8_first)], narrowed := true }
def FnExactNeedOkUptoSaid : Prop := fnExactNeedOkUptoRow.holds Tryd.pinned (OpenSpec.upto fnExactNeedOkSpec)

/-- 'laws.FnExactVersionOrder', WHERE WHAT IT READS IS OF BULK AT MOST 1048576: true; the input reads as it did. -/
def fnExactVersionOrderUptoRow : OpenClaim := { program := "ytgocnaeignachaadoor", sum := "17bb93f7cc071ea7587a505c4419c328b2fca444cf631b6d0316577429f6a199", func := "loop.example/jackstay/laws.FnExactVersionOrder", spec := "fnExactVersionOrder", inPlace := ["internal/bytealg.IndexByteString", "internal/bytealg.IndexString"], unfollowed := true, recurses := true, named := ["unicode/utf8.first", "unicode/utf8.acceptRanges", "internal/bytealg.MaxLen"], apart := false, laid := [("unicode/utf8.acceptRanges", laid_unicode_utf8_acceptRanges), ("unicode/utf8.first", laid_unicode_utf8_first)], narrowed := true }
def FnExactVersionOrderUptoSaid : Prop := fnExactVersionOrderUptoRow.holds Tryd.pinned (OpenSpec.upto fnExactVersionOrderSpec)

/-- 'laws.FnExactNeedPut', WHERE WHAT IT READS IS OF BULK AT MOST 1048576: true; the input reads as it did. -/
def fnExactNeedPutUptoRow : OpenClaim := { program := "ytgocnaeignachaadoor", sum := "17bb93f7cc071ea7587a505c4419c328b2fca444cf631b6d0316577429f6a199", func := "loop.example/jackstay/laws.FnExactNeedPut", spec := "fnExactNeedPut", inPlace := ["internal/bytealg.IndexByteString", "internal/bytealg.IndexString"], unfollowed := true, recurses := true, named := ["unicode/utf8.first", "unicode/utf8.acceptRanges", "internal/bytealg.MaxLen"], apart := false, laid := [("unicode/utf8.acceptRanges", laid_unicode_utf8_acceptRanges), ("unicode/utf8.first", laid_unicode_utf8_first)], narrowed := true }
def FnExactNeedPutUptoSaid : Prop := fnExactNeedPutUptoRow.holds Tryd.pinned (OpenSpec.upto fnExactNeedPutSpec)

/-- 'laws.FnVersionKnown', WHERE WHAT IT READS IS OF BULK AT MOST 1048576: true; the input reads as it did. -/
def fnVersionKnownUptoRow : OpenClaim := { program := "ytgocnaeignachaadoor", sum := "17bb93f7cc071ea7587a505c4419c328b2fca444cf631b6d0316577429f6a199", func := "loop.example/jackstay/laws.FnVersionKnown", spec := "fnVersionKnown", inPlace := ["internal/bytealg.IndexByteString", "internal/bytealg.IndexString"], unfollowed := true, recurses := true, named := ["unicode/utf8.first", "unicode/utf8.acceptRanges", "internal/bytealg.MaxLen"], apart := false, laid := [("unicode/utf8.acceptRanges", laid_unicode_utf8_acceptRanges), ("unicode/utf8.first", laid_unicode_utf8_first)], narrowed := true }
def FnVersionKnownUptoSaid : Prop := fnVersionKnownUptoRow.holds Tryd.pinned (OpenSpec.upto fnVersionKnownSpec)

/-- 'laws.FnVersionOrder', WHERE WHAT IT READS IS OF BULK AT MOST 1048576: true; the input reads as it did. -/
def fnVersionOrderUptoRow : OpenClaim := { program := "ytgocnaeignachaadoor", sum := "17bb93f7cc071ea7587a505c4419c328b2fca444cf631b6d0316577429f6a199", func := "loop.example/jackstay/laws.FnVersionOrder", spec := "fnVersionOrder", inPlace := ["internal/bytealg.IndexByteString", "internal/bytealg.IndexString"], unfollowed := true, recurses := true, named := ["unicode/utf8.first", "unicode/utf8.acceptRanges", "internal/bytealg.MaxLen"], apart := false, laid := [("unicode/utf8.acceptRanges", laid_unicode_utf8_acceptRanges), ("unicode/utf8.first", laid_unicode_utf8_first)], narrowed := true }
def FnVersionOrderUptoSaid : Prop := fnVersionOrderUptoRow.holds Tryd.pinned (OpenSpec.upto fnVersionOrderSpec)

/-- 'laws.FnExactNeedFits', WHERE WHAT IT READS IS OF BULK AT MOST 1048576: true; the input reads as it did. -/
def fnExactNeedFitsUptoRow : OpenClaim := { program := "ytgocnaeignachaadoor", sum := "17bb93f7cc071ea7587a505c4419c328b2fca444cf631b6d0316577429f6a199", func := "loop.example/jackstay/laws.FnExactNeedFits", spec := "fnExactNeedFits", inPlace := ["internal/bytealg.IndexByteString", "internal/bytealg.IndexString"], unfollowed := true, recurses := true, named := ["unicode/utf8.first", "unicode/utf8.acceptRanges", "internal/bytealg.MaxLen"], apart := false, laid := [("unicode/utf8.acceptRanges", laid_unicode_utf8_acceptRanges), ("unicode/utf8.first", laid_unicode_utf8_first)], narrowed := true }
def FnExactNeedFitsUptoSaid : Prop := fnExactNeedFitsUptoRow.holds Tryd.pinned (OpenSpec.upto fnExactNeedFitsSpec)

/-- 'laws.FnNeedFits', WHERE WHAT IT READS IS OF BULK AT MOST 1048576: true; the input reads as it did. -/
def fnNeedFitsUptoRow : OpenClaim := { program := "ytgocnaeignachaadoor", sum := "17bb93f7cc071ea7587a505c4419c328b2fca444cf631b6d0316577429f6a199", func := "loop.example/jackstay/laws.FnNeedFits", spec := "fnNeedFits", inPlace := ["internal/bytealg.IndexByteString", "internal/bytealg.IndexString"], unfollowed := true, recurses := true, named := ["unicode/utf8.first", "unicode/utf8.acceptRanges", "internal/bytealg.MaxLen"], apart := false, laid := [("unicode/utf8.acceptRanges", laid_unicode_utf8_acceptRanges), ("unicode/utf8.first", laid_unicode_utf8_first)], narrowed := true }
def FnNeedFitsUptoSaid : Prop := fnNeedFitsUptoRow.holds Tryd.pinned (OpenSpec.upto fnNeedFitsSpec)

/-- 'laws.FnNeedOther', WHERE WHAT IT READS IS OF BULK AT MOST 1048576: true; the input reads as it did. -/
def fnNeedOtherUptoRow : OpenClaim := { program := "ytgocnaeignachaadoor", sum := "17bb93f7cc071ea7587a505c4419c328b2fca444cf631b6d0316577429f6a199", func := "loop.example/jackstay/laws.FnNeedOther", spec := "fnNeedOther", inPlace := ["internal/bytealg.IndexByteString", "internal/bytealg.IndexString"], unfollowed := true, recurses := true, named := ["unicode/utf8.first", "unicode/utf8.acceptRanges", "internal/bytealg.MaxLen"], apart := false, laid := [("unicode/utf8.acceptRanges", laid_unicode_utf8_acceptRanges), ("unicode/utf8.first", laid_unicode_utf8_first)], narrowed := true }
def FnNeedOtherUptoSaid : Prop := fnNeedOtherUptoRow.holds Tryd.pinned (OpenSpec.upto fnNeedOtherSpec)

/-- 'laws.FnExactNeedGet', WHERE WHAT IT READS IS OF BULK AT MOST 1048576: true; the input reads as it did. -/
def fnExactNeedGetUptoRow : OpenClaim := { program := "ytgocnaeignachaadoor", sum := "17bb93f7cc071ea7587a505c4419c328b2fca444cf631b6d0316577429f6a199", func := "loop.example/jackstay/laws.FnExactNeedGet", spec := "fnExactNeedGet", inPlace := ["internal/bytealg.IndexByteString", "internal/bytealg.IndexString"], unfollowed := true, recurses := true, named := ["unicode/utf8.first", "unicode/utf8.acceptRanges", "internal/bytealg.MaxLen"], apart := false, laid := [("unicode/utf8.acceptRanges", laid_unicode_utf8_acceptRanges), ("unicode/utf8.first", laid_unicode_utf8_first)], narrowed := true }
def FnExactNeedGetUptoSaid : Prop := fnExactNeedGetUptoRow.holds Tryd.pinned (OpenSpec.upto fnExactNeedGetSpec)

/-- 'laws.FnNeedText', WHERE WHAT IT READS IS OF BULK AT MOST 1048576: true; the input reads as it did. -/
def fnNeedTextUptoRow : OpenClaim := { program := "ytgocnaeignachaadoor", sum := "17bb93f7cc071ea7587a505c4419c328b2fca444cf631b6d0316577429f6a199", func := "loop.example/jackstay/laws.FnNeedText", spec := "fnNeedText", inPlace := ["internal/bytealg.IndexByteString", "internal/bytealg.IndexString"], unfollowed := true, recurses := true, named := ["unicode/utf8.first", "unicode/utf8.acceptRanges", "internal/bytealg.MaxLen"], apart := false, laid := [("unicode/utf8.acceptRanges", laid_unicode_utf8_acceptRanges), ("unicode/utf8.first", laid_unicode_utf8_first)], narrowed := true }
def FnNeedTextUptoSaid : Prop := fnNeedTextUptoRow.holds Tryd.pinned (OpenSpec.upto fnNeedTextSpec)

end Rows
end Go.Proofs.YtgocnaeignachaaDoor
