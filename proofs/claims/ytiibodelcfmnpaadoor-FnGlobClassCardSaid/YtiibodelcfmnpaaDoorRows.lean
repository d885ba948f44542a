/-
  NARROWER THAN 'FOR EVERY INPUT', by the rows' own cells (each row's printed sentence says how): FnExactGlobOk: laid · FnGlobStar: laid · FnGlobDeep: laid · FnExactGlobHas: laid · FnGlob: laid · FnGlobClass: laid.
  DERIVED. THE GIVEN ROWS OF THIS SEAT. 6 by the template 'for every input the law returns true; each argument reads behind the call as it read before'; 0 by the template 'total and deterministic' (their statements: YtiibodelcfmnpaaDoorTotals.lean).
  GIVEN WITH THE SEED: the statements are not yours to turn. If you find one false, say at which input.
  Laid BY PROGRAM, IN A SANDBOX (cutbox-rows.mjs): the forced cells as the released guide's own fill.sh prints them over the translation 53d454ccdd3b5b14… (all of the seat's roots in one cut). By AI agents, Wed Nov 11 2026. No macro, syntax, notation, axiom, sorry.
-/
import Derived.Test.YtiibodelcfmnpaaDoorChecked
import GoSem.PinnedTables
import GoSem.Claim
import GoSem.ClaimJoined
import GoSem.ClaimMapViews
import Derived.JoinedTies
import Derived.KernelRfl
namespace Go.Proofs.YtiibodelcfmnpaaDoor
/- THE CELL 'sum', in the pinned program and in every row, IS THE sha256 OF THE DUMP (.gsa) THAT YtiibodelcfmnpaaDoorProg.lean LOADS. Nothing in Lean hashes anything: it is a label: what it is worth is what the hold of that sum in a sandbox is worth. -/
noncomputable def Tryd.pinned : Pinned := { name := "ytiibodelcfmnpaadoor", sum := "53d454ccdd3b5b14d79103dfec4287a1941a0dd69c97c15f1c6d3206e437c240", checked := Tryd.checked }
namespace Rows
def none {H : Type} : Left H := { results := [], args := [] }

/- WHAT THE LISTED PACKAGE-LEVEL VARIABLES READ AS WHEN THE CALL BEGINS. Each datum BY PROGRAM (the guide's laid-datum.mjs) off the statement by which the dump's own 'gosem.cut.vars' lays the variable. In a bare row this is a premise. The card (YtiibodelcfmnpaaDoorCards.lean) ties it to the program's text. -/
def laid_unicode_utf8_acceptRanges {H : Type} : DataW H := .agg [.agg [.lit (.int .u8 128), .lit (.int .u8 191)], .agg [.lit (.int .u8 160), .lit (.int .u8 191)], .agg [.lit (.int .u8 128), .lit (.int .u8 159)], .agg [.lit (.int .u8 144), .lit (.int .u8 191)], .agg [.lit (.int .u8 128), .lit (.int .u8 143)], .agg [.lit (.int .u8 0), .lit (.int .u8 0)], .agg [.lit (.int .u8 0), .lit (.int .u8 0)], .agg [.lit (.int .u8 0), .lit (.int .u8 0)], .agg [.lit (.int .u8 0), .lit (.int .u8 0)], .agg [.lit (.int .u8 0), .lit (.int .u8 0)], .agg [.lit (.int .u8 0), .lit (.int .u8 0)], .agg [.lit (.int .u8 0), .lit (.int .u8 0)], .agg [.lit (.int .u8 0), .lit (.int .u8 0)], .agg [.lit (.int .u8 0), .lit (.int .u8 0)], .agg [.lit (.int .u8 0), .lit (.int .u8 0)], .agg [.lit (.int .u8 0), .lit (.int .u8 0)]]
/-- One of Go's own tables, pinned by name: the form's constant. -/
def laid_unicode_utf8_first : DataW Unit := Go.Pinned.utf8First

/-- 'laws.FnExactGlobOk': WHATEVER THE INPUT: true; the input reads as it did. -/
def fnExactGlobOkSpec : ChangeSpec := { name := "fnExactGlobOk", fn := fun _ => fun
  | [d] => { results := [.lit (.bool true)], args := [d] }
  | _ => none }
def fnExactGlobOkRow : OpenClaim := { program := "ytiibodelcfmnpaadoor", sum := "53d454ccdd3b5b14d79103dfec4287a1941a0dd69c97c15f1c6d3206e437c240", func := "loop.example/jackstay/laws.FnExactGlobOk", spec := "fnExactGlobOk", inPlace := ["internal/bytealg.IndexByteString", "internal/bytealg.IndexString"], unfollowed := true, recurses := true, named := ["unicode/utf8.first", "unicode/utf8.acceptRanges", "internal/bytealg.MaxLen"], apart := false, laid := [("unicode/utf8.acceptRanges", laid_unicode_utf8_acceptRanges), ("unicode/utf8.first", laid_unicode_utf8_first)] }
def FnExactGlobOkSaid : Prop := fnExactGlobOkRow.holds Tryd.pinned (OpenSpec.ofChange fnExactGlobOkSpec)

/-- ITS FALSE NEIGHBOUR: 'it returns false'. Refute it at one input. -/
def fnExactGlobOkWrong : ChangeSpec := { name := "fnExactGlobOk", fn := fun _ => fun
  | [d] => { results := [.lit (.bool false)], args := [d] }
  | _ => none }
def FnExactGlobOkWrongFalsely : Prop := fnExactGlobOkRow.holds Tryd.pinned (OpenSpec.ofChange fnExactGlobOkWrong)

/-- 'laws.FnGlobStar': WHATEVER THE INPUT: true; the input reads as it did. -/
def fnGlobStarSpec : ChangeSpec := { name := "fnGlobStar", fn := fun _ => fun
  | [d] => { results := [.lit (.bool true)], args := [d] }
  | _ => none }
def fnGlobStarRow : OpenClaim := { program := "ytiibodelcfmnpaadoor", sum := "53d454ccdd3b5b14d79103dfec4287a1941a0dd69c97c15f1c6d3206e437c240", func := "loop.example/jackstay/laws.FnGlobStar", spec := "fnGlobStar", inPlace := ["internal/bytealg.IndexByteString", "internal/bytealg.IndexString"], unfollowed := true, recurses := true, named := ["unicode/utf8.first", "unicode/utf8.acceptRanges", "internal/bytealg.MaxLen"], apart := false, laid := [("unicode/utf8.acceptRanges", laid_unicode_utf8_acceptRanges), ("unicode/utf8.first", laid_unicode_utf8_first)] }
def FnGlobStarSaid : Prop := fnGlobStarRow.holds Tryd.pinned (OpenSpec.ofChange fnGlobStarSpec)

/-- ITS FALSE NEIGHBOUR: 'it returns false'. Refute it at one input. -/
def fnGlobStarWrong : ChangeSpec := { name := "fnGlobStar", fn := fun _ => fun
  | [d] => { results := [.lit (.bool false)], args := [d] }
  | _ => none }
def FnGlobStarWrongFalsely : Prop := fnGlobStarRow.holds Tryd.pinned (OpenSpec.ofChange fnGlobStarWrong)

/-- 'laws.FnGlobDeep': WHATEVER THE INPUT: true; the input reads as it did. -/
def fnGlobDeepSpec : ChangeSpec := { name := "fnGlobDeep", fn := fun _ => fun
  | [d] => { results := [.lit (.bool true)], args := [d] }
  | _ => none }
def fnGlobDeepRow : OpenClaim := { program := "ytiibodelcfmnpaadoor", sum := "53d454ccdd3b5b14d79103dfec4287a1941a0dd69c97c15f1c6d3206e437c240", func := "loop.example/jackstay/laws.FnGlobDeep", spec := "fnGlobDeep", inPlace := ["internal/bytealg.IndexByteString", "internal/bytealg.IndexString"], unfollowed := true, recurses := true, named := ["unicode/utf8.first", "unicode/utf8.acceptRanges", "internal/bytealg.MaxLen"], apart := false, laid := [("unicode/utf8.acceptRanges", laid_unicode_utf8_acceptRanges), ("unicode/utf8.first", laid_unicode_utf8_first)] }
def FnGlobDeepSaid : Prop := fnGlobDeepRow.holds Tryd.pinned (OpenSpec.ofChange fnGlobDeepSpec)

/-- ITS FALSE NEIGHBOUR: 'it returns false'. Refute it at one input. -/
def fnGlobDeepWrong : ChangeSpec := { name := "fnGlobDeep", fn := fun _ => fun
  | [d] => { results := [.lit (.bool false)], args := [d] }
  | _ => none }
def FnGlobDeepWrongFalsely : Prop := fnGlobDeepRow.holds Tryd.pinned (OpenSpec.ofChange fnGlobDeepWrong)

/-- 'laws.FnExactGlobHas': WHATEVER THE INPUT: true; the input reads as it did. -/
def fnExactGlobHasSpec : ChangeSpec := { name := "fnExactGlobHas", fn := fun _ => fun
  | [d1, d2] => { results := [.lit (.bool true)], args := [d1, d2] }
  | _ => none }
def fnExactGlobHasRow : OpenClaim := { program := "ytiibodelcfmnpaadoor", sum := "53d454ccdd3b5b14d79103dfec4287a1941a0dd69c97c15f1c6d3206e437c240", func := "loop.example/jackstay/laws.FnExactGlobHas", spec := "fnExactGlobHas", inPlace := ["internal/bytealg.IndexByteString", "internal/bytealg.IndexString"], unfollowed := true, recurses := true, named := ["unicode/utf8.first", "unicode/utf8.acceptRanges", "internal/bytealg.MaxLen"], apart := false, laid := [("unicode/utf8.acceptRanges", laid_unicode_utf8_acceptRanges), ("unicode/utf8.first", laid_unicode_utf8_first)] }
def FnExactGlobHasSaid : Prop := fnExactGlobHasRow.holds Tryd.pinned (OpenSpec.ofChange fnExactGlobHasSpec)

/-- ITS FALSE NEIGHBOUR: 'it returns false'. Refute it at one input. -/
def fnExactGlobHasWrong : ChangeSpec := { name := "fnExactGlobHas", fn := fun _ => fun
  | [d1, d2] => { results := [.lit (.bool false)], args := [d1, d2] }
  | _ => none }
def FnExactGlobHasWrongFalsely : Prop := fnExactGlobHasRow.holds Tryd.pinned (OpenSpec.ofChange fnExactGlobHasWrong)

/-- 'laws.FnGlob': WHATEVER THE INPUT: true; the input reads as it did. -/
def fnGlobSpec : ChangeSpec := { name := "fnGlob", fn := fun _ => fun
  | [d] => { results := [.lit (.bool true)], args := [d] }
  | _ => none }
def fnGlobRow : OpenClaim := { program := "ytiibodelcfmnpaadoor", sum := "53d454ccdd3b5b14d79103dfec4287a1941a0dd69c97c15f1c6d3206e437c240", func := "loop.example/jackstay/laws.FnGlob", spec := "fnGlob", inPlace := ["internal/bytealg.IndexByteString", "internal/bytealg.IndexString"], unfollowed := true, recurses := true, named := ["unicode/utf8.first", "unicode/utf8.acceptRanges", "internal/bytealg.MaxLen"], apart := false, laid := [("unicode/utf8.acceptRanges", laid_unicode_utf8_acceptRanges), ("unicode/utf8.first", laid_unicode_utf8_first)] }
def FnGlobSaid : Prop := fnGlobRow.holds Tryd.pinned (OpenSpec.ofChange fnGlobSpec)

/-- ITS FALSE NEIGHBOUR: 'it returns false'. Refute it at one input. -/
def fnGlobWrong : ChangeSpec := { name := "fnGlob", fn := fun _ => fun
  | [d] => { results := [.lit (.bool false)], args := [d] }
  | _ => none }
def FnGlobWrongFalsely : Prop := fnGlobRow.holds Tryd.pinned (OpenSpec.ofChange fnGlobWrong)

/-- 'laws.FnGlobClass': WHATEVER THE INPUT: true; the input reads as it did. -/
def fnGlobClassSpec : ChangeSpec := { name := "fnGlobClass", fn := fun _ => fun
  | [d] => { results := [.lit (.bool true)], args := [d] }
  | _ => none }
def fnGlobClassRow : OpenClaim := { program := "ytiibodelcfmnpaadoor", sum := "53d454ccdd3b5b14d79103dfec4287a1941a0dd69c97c15f1c6d3206e437c240", func := "loop.example/jackstay/laws.FnGlobClass", spec := "fnGlobClass", inPlace := ["internal/bytealg.IndexByteString", "internal/bytealg.IndexString"], unfollowed := true, recurses := true, named := ["unicode/utf8.first", "unicode/utf8.acceptRanges", "internal/bytealg.MaxLen"], apart := false, laid := [("unicode/utf8.acceptRanges", laid_unicode_utf8_acceptRanges), ("unicode/utf8.first", laid_unicode_utf8_first)] }
def FnGlobClassSaid : Prop := fnGlobClassRow.holds Tryd.pinned (OpenSpec.ofChange fnGlobClassSpec)

/-- ITS FALSE NEIGHBOUR: 'it returns false'. Refute it at one input. -/
def fnGlobClassWrong : ChangeSpec := { name := "fnGlobClass", fn := fun _ => fun
  | [d] => { results := [.lit (.bool false)], args := [d] }
  | _ => none }
def FnGlobClassWrongFalsely : Prop := fnGlobClassRow.holds Tryd.pinned (OpenSpec.ofChange fnGlobClassWrong)

/- THE SECOND FORM. 'bulk': how many values and letters a reading holds, each counted each time it is reached (what is shared counts as often as it is met; a slice's spare places count too). A statement '..UptoSaid' is the law's where the arguments, and the package variables that the reading takes, are together of bulk at most 1048576: NARROWER than '..Said'. Prove '..Said' where nothing that the law and all that it calls make is longer than what came in: it says more and counts as full. Else prove '..UptoSaid'. A law counts once. -/
mutual
def uptoBulk {H : Type} : DataW H → Nat
  | .lit (.string bytes) => bytes.length + 1
  | .lit _ => 1
  | .nil => 1
  | .ptr d => uptoBulk d + 1
  | .slice elems spare => uptoBulkAll elems + uptoBulkAll spare + 1
  | .agg parts => uptoBulkAll parts + 1
  | .iface _ d => uptoBulk d + 1
  | .map entries => uptoBulkEntries entries + 1
  | .held _ => 1
def uptoBulkAll {H : Type} : List (DataW H) → Nat
  | [] => 0
  | d :: r => uptoBulk d + uptoBulkAll r
def uptoBulkEntries {H : Type} : List (Lit × DataW H) → Nat
  | [] => 0
  | x :: r => uptoBulkEntry x + uptoBulkEntries r
def uptoBulkEntry {H : Type} : Lit × DataW H → Nat
  | (.string bytes, d) => bytes.length + uptoBulk d + 1
  | (_, d) => uptoBulk d + 1
 end
def uptoSmall : (H : Type) → List (DataW H) → Bool := fun _ ds => decide (uptoBulkAll ds ≤ 1048576)
def OpenSpec.upto (s : _root_.Go.ChangeSpec) : _root_.Go.OpenSpec := { _root_.Go.OpenSpec.ofChange s with cond := some uptoSmall }

/-- 'laws.FnExactGlobOk', WHERE WHAT IT READS IS OF BULK AT MOST 1048576: true; the input reads as it did. -/
def fnExactGlobOkUptoRow : OpenClaim := { program := "ytiibodelcfmnpaadoor", sum := "53d454ccdd3b5b14d79103dfec4287a1941a0dd69c97c15f1c6d3206e437c240", func := "loop.example/jackstay/laws.FnExactGlobOk", spec := "fnExactGlobOk", inPlace := ["internal/bytealg.IndexByteString", "internal/bytealg.IndexString"], unfollowed := true, recurses := true, named := ["unicode/utf8.first", "unicode/utf8.acceptRanges", "internal/bytealg.MaxLen"], apart := false, laid := [("unicode/utf8.acceptRanges", laid_unicode_utf8_acceptRanges), ("unicode/utf8.first", laid_unicode_utf8_first)], narrowed := true }
def FnExactGlobOkUptoSaid : Prop := fnExactGlobOkUptoRow.holds Tryd.pinned (OpenSpec.upto fnExactGlobOkSpec)

/-- 'laws.FnGlobStar', WHERE WHAT IT READS IS OF BULK AT MOST 1048576: true; the input reads as it did. -/
def fnGlobStarUptoRow : OpenClaim := { program := "ytiibodelcfmnpaadoor", sum := "53d454ccdd3b5b14d79103dfec4287a1941a0dd69c97c15f1c6d3206e437c240", func := "loop.example/jackstay/laws.FnGlobStar", spec := "fnGlobStar", inPlace := ["internal/bytealg.IndexByteString", "internal/bytealg.IndexString"], unfollowed := true, recurses := true, named := ["unicode/utf8.first", "unicode/utf8.acceptRanges", "internal/bytealg.MaxLen"], apart := false, laid := [("unicode/utf8.acceptRanges", laid_unicode_utf8_acceptRanges), ("unicode/utf8.first", laid_unicode_utf8_first)], narrowed := true }
def FnGlobStarUptoSaid : Prop := fnGlobStarUptoRow.holds Tryd.pinned (OpenSpec.upto fnGlobStarSpec)

/-- 'laws.FnGlobDeep', WHERE WHAT IT READS IS OF BULK AT MOST 1048576: true; the input reads as it did. -/
def fnGlobDeepUptoRow : OpenClaim := { program := "ytiibodelcfmnpaadoor", sum := "53d454ccdd3b5b14d79103dfec4287a1941a0dd69c97c15f1c6d3206e437c240", func := "loop.example/jackstay/laws.FnGlobDeep", spec := "fnGlobDeep", inPlace := ["internal/bytealg.IndexByteString", "internal/bytealg.IndexString"], unfollowed := true, recurses := true, named := ["unicode/utf8.first", "unicode/utf8.acceptRanges", "internal/bytealg.MaxLen"], apart := false, laid := [("unicode/utf8.acceptRanges", laid_unicode_utf8_acceptRanges), ("unicode/utf8.first", laid_unicode_utf8_first)], narrowed := true }
def FnGlobDeepUptoSaid : Prop := fnGlobDeepUptoRow.holds Tryd.pinned (OpenSpec.upto fnGlobDeepSpec)

/-- 'laws.FnExactGlobHas', WHERE WHAT IT READS IS OF BULK AT MOST 1048576: true; the input reads as it did. -/
def fnExactGlobHasUptoRow : OpenClaim := { program := "ytiibodelcfmnpaadoor", sum := "53d454ccdd3b5b14d79103dfec4287a1941a0dd69c97c15f1c6d3206e437c240", func := "loop.example/jackstay/laws.FnExactGlobHas", spec := "fnExactGlobHas", inPlace := ["internal/bytealg.IndexByteString", "internal/bytealg.IndexString"], unfollowed := true, recurses := true, named := ["unicode/utf8.first", "unicode/utf8.acceptRanges", "internal/bytealg.MaxLen"], apart := false, laid := [("unicode/utf8.acceptRanges", laid_unicode_utf8_acceptRanges), ("unicode/utf8.first", laid_unicode_utf8_first)], narrowed := true }
def FnExactGlobHasUptoSaid : Prop := fnExactGlobHasUptoRow.holds Tryd.pinned (OpenSpec.upto fnExactGlobHasSpec)

/-- 'laws.FnGlob', WHERE WHAT IT READS IS OF BULK AT MOST 1048576: true; the input reads as it did. -/
def fnGlobUptoRow : OpenClaim := { program := "ytiibodelcfmnpaadoor", sum := "53d454ccdd3b5b14d79103dfec4287a1941a0dd69c97c15f1c6d3206e437c240", func := "loop.example/jackstay/laws.FnGlob", spec := "fnGlob", inPlace := ["internal/bytealg.IndexByteString", "internal/bytealg.IndexString"], unfollowed := true, recurses := true, named := ["unicode/utf8.first", "unicode/utf8.acceptRanges", "internal/bytealg.MaxLen"], apart := false, laid := [("unicode/utf8.acceptRanges", laid_unicode_utf8_acceptRanges), ("unicode/utf8.first", laid_unicode_utf8_first)], narrowed := true }
def FnGlobUptoSaid : Prop := fnGlobUptoRow.holds Tryd.pinned (OpenSpec.upto fnGlobSpec)

/-- 'laws.FnGlobClass', WHERE WHAT IT READS IS OF BULK AT MOST 1048576: true; the input reads as it did. -/
def fnGlobClassUptoRow : OpenClaim := { program := "ytiibodelcfmnpaadoor", sum := "53d454ccdd3b5b14d79103dfec4287a1941a0dd69c97c15f1c6d3206e437c240", func := "loop.example/jackstay/laws.FnGlobClass", spec := "fnGlobClass", inPlace := ["internal/bytealg.IndexByteString", "internal/bytealg.IndexString"], unfollowed := true, recurses := true, named := ["unicode/utf8.first", "unicode/utf8.acceptRanges", "internal/bytealg.MaxLen"], apart := false, laid := [("unicode/utf8.acceptRanges", laid_unicode_utf8_acceptRanges), ("unicode/utf8.first", laid_unicode_utf8_first)], narrowed := true }
def FnGlobClassUptoSaid : Prop := fnGlobClassUptoRow.holds Tryd.pinned (OpenSpec.upto fnGlobClassSpec)

end Rows
end Go.Proofs.YtiibodelcfmnpaaDoor
