/-
  NARROWER THAN 'FOR EVERY INPUT', by the rows' own cells (each row's printed sentence says how): FnExactPathOk: laid · FnExactPathIn: laid · FnExactPathLast: laid · FnExactPathUp: laid · FnExactPathMove: laid · FnPathMove: laid · FnPathIn: laid · FnPathUps: laid · FnPath: laid.
  DERIVED. THE GIVEN ROWS OF THIS SEAT. 9 by the template 'for every input the law returns true; each argument reads behind the call as it read before'; 0 by the template 'total and deterministic' (their statements: YtgccndhnpmmkfaaDoorTotals.lean).
  GIVEN WITH THE SEED: the statements are not yours to turn. If you find one false, say at which input.
  Laid BY PROGRAM, IN A SANDBOX (cutbox-rows.mjs): the forced cells as the released guide's own fill.sh prints them over the translation 8fd7bf456015868d… (all of the seat's roots in one cut). By AI agents, Wed Nov 11 2026. No macro, syntax, notation, axiom, sorry.
-/
import Derived.Test.YtgccndhnpmmkfaaDoorChecked
import GoSem.PinnedTables
import GoSem.Claim
import GoSem.ClaimJoined
import GoSem.ClaimMapViews
import Derived.JoinedTies
import Derived.KernelRfl
namespace Go.Proofs.YtgccndhnpmmkfaaDoor
/- THE CELL 'sum', in the pinned program and in every row, IS THE sha256 OF THE DUMP (.gsa) THAT YtgccndhnpmmkfaaDoorProg.lean LOADS. Nothing in Lean hashes anything: it is a label: what it is worth is what the hold of that sum in a sandbox is worth. -/
noncomputable def Tryd.pinned : Pinned := { name := "ytgccndhnpmmkfaadoor", sum := "8fd7bf456015868d9517b689000d7d8eee684acd52432b26a5f47c4abdf1b40c", checked := Tryd.checked }
namespace Rows
def none {H : Type} : Left H := { results := [], args := [] }

/- WHAT THE LISTED PACKAGE-LEVEL VARIABLES READ AS WHEN THE CALL BEGINS. Each datum BY PROGRAM (the guide's laid-datum.mjs) off the statement by which the dump's own 'gosem.cut.vars' lays the variable. In a bare row this is a premise. The card (YtgccndhnpmmkfaaDoorCards.lean) ties it to the program's text. -/
def laid_unicode_utf8_acceptRanges {H : Type} : DataW H := .agg [.agg [.lit (.int .u8 128), .lit (.int .u8 191)], .agg [.lit (.int .u8 160), .lit (.int .u8 191)], .agg [.lit (.int .u8 128), .lit (.int .u8 159)], .agg [.lit (.int .u8 144), .lit (.int .u8 191)], .agg [.lit (.int .u8 128), .lit (.int .u8 143)], .agg [.lit (.int .u8 0), .lit (.int .u8 0)], .agg [.lit (.int .u8 0), .lit (.int .u8 0)], .agg [.lit (.int .u8 0), .lit (.int .u8 0)], .agg [.lit (.int .u8 0), .lit (.int .u8 0)], .agg [.lit (.int .u8 0), .lit (.int .u8 0)], .agg [.lit (.int .u8 0), .lit (.int .u8 0)], .agg [.lit (.int .u8 0), .lit (.int .u8 0)], .agg [.lit (.int .u8 0), .lit (.int .u8 0)], .agg [.lit (.int .u8 0), .lit (.int .u8 0)], .agg [.lit (.int .u8 0), .lit (.int .u8 0)], .agg [.lit (.int .u8 0), .lit (.int .u8 0)]]
/-- One of Go's own tables, pinned by name: the form's constant. -/
def laid_unicode_utf8_first : DataW Unit := Go.Pinned.utf8First

/-- 'laws.FnExactPathOk': WHATEVER THE INPUT: true; the input reads as it did. -/
def fnExactPathOkSpec : ChangeSpec := { name := "fnExactPathOk", fn := fun _ => fun
  | [d] => { results := [.lit (.bool true)], args := [d] }
  | _ => none }
def fnExactPathOkRow : OpenClaim := { program := "ytgccndhnpmmkfaadoor", sum := "8fd7bf456015868d9517b689000d7d8eee684acd52432b26a5f47c4abdf1b40c", func := "loop.example/jackstay/laws.FnExactPathOk", spec := "fnExactPathOk", inPlace := ["internal/bytealg.IndexByteString", "internal/bytealg.IndexString"], unfollowed := true, recurses := true, named := ["unicode/utf8.first", "unicode/utf8.acceptRanges", "internal/bytealg.MaxLen"], apart := false, laid := [("unicode/utf8.acceptRanges", laid_unicode_utf8_acceptRanges), ("unicode/utf8.first", laid_unicode_utf8_first)] }
def FnExactPathOkSaid : Prop := fnExactPathOkRow.holds Tryd.pinned (OpenSpec.ofChange fnExactPathOkSpec)

/-- ITS FALSE NEIGHBOUR: 'it returns false'. Refute it at one input. -/
def fnExactPathOkWrong : ChangeSpec := { name := "fnExactPathOk", fn := fun _ => fun
  | [d] => { results := [.lit (.bool false)], args := [d] }
  | _ => none }
def FnExactPathOkWrongFalsely : Prop := fnExactPathOkRow.holds Tryd.pinned (OpenSpec.ofChange fnExactPathOkWrong)

/-- 'laws.FnExactPathIn': WHATEVER THE INPUT: true; the input reads as it did. -/
def fnExactPathInSpec : ChangeSpec := { name := "fnExactPathIn", fn := fun _ => fun
  | [d1, d2] => { results := [.lit (.bool true)], args := [d1, d2] }
  | _ => none }
def fnExactPathInRow : OpenClaim := { program := "ytgccndhnpmmkfaadoor", sum := "8fd7bf456015868d9517b689000d7d8eee684acd52432b26a5f47c4abdf1b40c", func := "loop.example/jackstay/laws.FnExactPathIn", spec := "fnExactPathIn", inPlace := ["internal/bytealg.IndexByteString", "internal/bytealg.IndexString"], unfollowed := true, recurses := true, named := ["unicode/utf8.first", "unicode/utf8.acceptRanges", "internal/bytealg.MaxLen"], apart := false, laid := [("unicode/utf8.acceptRanges", laid_unicode_utf8_acceptRanges), ("unicode/utf8.first", laid_unicode_utf8_first)] }
def FnExactPathInSaid : Prop := fnExactPathInRow.holds Tryd.pinned (OpenSpec.ofChange fnExactPathInSpec)

/-- ITS FALSE NEIGHBOUR: 'it returns false'. Refute it at one input. -/
def fnExactPathInWrong : ChangeSpec := { name := "fnExactPathIn", fn := fun _ => fun
  | [d1, d2] => { results := [.lit (.bool false)], args := [d1, d2] }
  | _ => none }
def FnExactPathInWrongFalsely : Prop := fnExactPathInRow.holds Tryd.pinned (OpenSpec.ofChange fnExactPathInWrong)

/-- 'laws.FnExactPathLast': WHATEVER THE INPUT: true; the input reads as it did. -/
def fnExactPathLastSpec : ChangeSpec := { name := "fnExactPathLast", fn := fun _ => fun
  | [d] => { results := [.lit (.bool true)], args := [d] }
  | _ => none }
def fnExactPathLastRow : OpenClaim := { program := "ytgccndhnpmmkfaadoor", sum := "8fd7bf456015868d9517b689000d7d8eee684acd52432b26a5f47c4abdf1b40c", func := "loop.example/jackstay/laws.FnExactPathLast", spec := "fnExactPathLast", inPlace := ["internal/bytealg.IndexByteString", "internal/bytealg.IndexString"], unfollowed := true, recurses := true, named := ["unicode/utf8.first", "unicode/utf8.acceptRanges", "internal/bytealg.MaxLen"], apart := false, laid := [("unicode/utf8.acceptRanges", laid_unicode_utf8_acceptRanges), ("unicode/utf8.first", laid_unicode_utf8_first)] }
def FnExactPathLastSaid : Prop := fnExactPathLastRow.holds Tryd.pinned (OpenSpec.ofChange fnExactPathLastSpec)

/-- ITS FALSE NEIGHBOUR: 'it returns false'. Refute it at one input. -/
def fnExactPathLastWrong : ChangeSpec := { name := "fnExactPathLast", fn := fun _ => fun
  | [d] => { results := [.lit (.bool false)], args := [d] }
  | _ => none }
def FnExactPathLastWrongFalsely : Prop := fnExactPathLastRow.holds Tryd.pinned (OpenSpec.ofChange fnExactPathLastWrong)

/-- 'laws.FnExactPathUp': WHATEVER THE INPUT: true; the input reads as it did. -/
def fnExactPathUpSpec : ChangeSpec := { name := "fnExactPathUp", fn := fun _ => fun
  | [d] => { results := [.lit (.bool true)], args := [d] }
  | _ => none }
def fnExactPathUpRow : OpenClaim := { program := "ytgccndhnpmmkfaadoor", sum := "8fd7bf456015868d9517b689000d7d8eee684acd52432b26a5f47c4abdf1b40c", func := "loop.example/jackstay/laws.FnExactPathUp", spec := "fnExactPathUp", inPlace := ["internal/bytealg.IndexByteString", "internal/bytealg.IndexString"], unfollowed := true, recurses := true, named := ["unicode/utf8.first", "unicode/utf8.acceptRanges", "internal/bytealg.MaxLen"], apart := false, laid := [("unicode/utf8.acceptRanges", laid_unicode_utf8_acceptRanges), ("unicode/utf8.first", laid_unicode_utf8_first)] }
def FnExactPathUpSaid : Prop := fnExactPathUpRow.holds Tryd.pinned (OpenSpec.ofChange fnExactPathUpSpec)

/-- ITS FALSE NEIGHBOUR: 'it returns false'. Refute it at one input. -/
def fnExactPathUpWrong : ChangeSpec := { name := "fnExactPathUp", fn := fun _ => fun
  | [d] => { results := [.lit (.bool false)], args := [d] }
  | _ => none }
def FnExactPathUpWrongFalsely : Prop := fnExactPathUpRow.holds Tryd.pinned (OpenSpec.ofChange fnExactPathUpWrong)

/-- 'laws.FnExactPathMove': WHATEVER THE INPUT: true; the input reads as it did. -/
def fnExactPathMoveSpec : ChangeSpec := { name := "fnExactPathMove", fn := fun _ => fun
  | [d1, d2, d3] => { results := [.lit (.bool true)], args := [d1, d2, d3] }
  | _ => none }
def fnExactPathMoveRow : OpenClaim := { program := "ytgccndhnpmmkfaadoor", sum := "8fd7bf456015868d9517b689000d7d8eee684acd52432b26a5f47c4abdf1b40c", func := "loop.example/jackstay/laws.FnExactPathMove", spec := "fnExactPathMove", inPlace := ["internal/bytealg.IndexByteString", "internal/bytealg.IndexString"], unfollowed := true, recurses := true, named := ["unicode/utf8.first", "unicode/utf8.acceptRanges", "internal/bytealg.MaxLen"], apart := false, laid := [("unicode/utf8.acceptRanges", laid_unicode_utf8_acceptRanges), ("unicode/utf8.first", laid_unicode_utf8_first)] }
def FnExactPathMoveSaid : Prop := fnExactPathMoveRow.holds Tryd.pinned (OpenSpec.ofChange fnExactPathMoveSpec)

/-- ITS FALSE NEIGHBOUR: 'it returns false'. Refute it at one input. -/
def fnExactPathMoveWrong : ChangeSpec := { name := "fnExactPathMove", fn := fun _ => fun
  | [d1, d2, d3] => { results := [.lit (.bool false)], args := [d1, d2, d3] }
  | _ => none }
def FnExactPathMoveWrongFalsely : Prop := fnExactPathMoveRow.holds Tryd.pinned (OpenSpec.ofChange fnExactPathMoveWrong)

/-- 'laws.FnPathMove': WHATEVER THE INPUT: true; the input reads as it did. -/
def fnPathMoveSpec : ChangeSpec := { name := "fnPathMove", fn := fun _ => fun
  | [d] => { results := [.lit (.bool true)], args := [d] }
  | _ => none }
def fnPathMoveRow : OpenClaim := { program := "ytgccndhnpmmkfaadoor", sum := "8fd7bf456015868d9517b689000d7d8eee684acd52432b26a5f47c4abdf1b40c", func := "loop.example/jackstay/laws.FnPathMove", spec := "fnPathMove", inPlace := ["internal/bytealg.IndexByteString", "internal/bytealg.IndexString"], unfollowed := true, recurses := true, named := ["unicode/utf8.first", "unicode/utf8.acceptRanges", "internal/bytealg.MaxLen"], apart := false, laid := [("unicode/utf8.acceptRanges", laid_unicode_utf8_acceptRanges), ("unicode/utf8.first", laid_unicode_utf8_first)] }
def FnPathMoveSaid : Prop := fnPathMoveRow.holds Tryd.pinned (OpenSpec.ofChange fnPathMoveSpec)

/-- ITS FALSE NEIGHBOUR: 'it returns false'. Refute it at one input. -/
def fnPathMoveWrong : ChangeSpec := { name := "fnPathMove", fn := fun _ => fun
  | [d] => { results := [.lit (.bool false)], args := [d] }
  | _ => none }
def FnPathMoveWrongFalsely : Prop := fnPathMoveRow.holds Tryd.pinned (OpenSpec.ofChange fnPathMoveWrong)

/-- 'laws.FnPathIn': WHATEVER THE INPUT: true; the input reads as it did. -/
def fnPathInSpec : ChangeSpec := { name := "fnPathIn", fn := fun _ => fun
  | [d] => { results := [.lit (.bool true)], args := [d] }
  | _ => none }
def fnPathInRow : OpenClaim := { program := "ytgccndhnpmmkfaadoor", sum := "8fd7bf456015868d9517b689000d7d8eee684acd52432b26a5f47c4abdf1b40c", func := "loop.example/jackstay/laws.FnPathIn", spec := "fnPathIn", inPlace := ["internal/bytealg.IndexByteString", "internal/bytealg.IndexString"], unfollowed := true, recurses := true, named := ["unicode/utf8.first", "unicode/utf8.acceptRanges", "internal/bytealg.MaxLen"], apart := false, laid := [("unicode/utf8.acceptRanges", laid_unicode_utf8_acceptRanges), ("unicode/utf8.first", laid_unicode_utf8_first)] }
def FnPathInSaid : Prop := fnPathInRow.holds Tryd.pinned (OpenSpec.ofChange fnPathInSpec)

/-- ITS FALSE NEIGHBOUR: 'it returns false'. Refute it at one input. -/
def fnPathInWrong : ChangeSpec := { name := "fnPathIn", fn := fun _ => fun
  | [d] => { results := [.lit (.bool false)], args := [d] }
  | _ => none }
def FnPathInWrongFalsely : Prop := fnPathInRow.holds Tryd.pinned (OpenSpec.ofChange fnPathInWrong)

/-- 'laws.FnPathUps': WHATEVER THE INPUT: true; the input reads as it did. -/
def fnPathUpsSpec : ChangeSpec := { name := "fnPathUps", fn := fun _ => fun
  | [d] => { results := [.lit (.bool true)], args := [d] }
  | _ => none }
def fnPathUpsRow : OpenClaim := { program := "ytgccndhnpmmkfaadoor", sum := "8fd7bf456015868d9517b689000d7d8eee684acd52432b26a5f47c4abdf1b40c", func := "loop.example/jackstay/laws.FnPathUps", spec := "fnPathUps", inPlace := ["internal/bytealg.IndexByteString", "internal/bytealg.IndexString"], unfollowed := true, recurses := true, named := ["unicode/utf8.first", "unicode/utf8.acceptRanges", "internal/bytealg.MaxLen"], apart := false, laid := [("unicode/utf8.acceptRanges", laid_unicode_utf8_acceptRanges), ("unicode/utf8.first", laid_unicode_utf8_first)] }
def FnPathUpsSaid : Prop := fnPathUpsRow.holds Tryd.pinned (OpenSpec.ofChange fnPathUpsSpec)

/-- ITS FALSE NEIGHBOUR: 'it returns false'. Refute it at one input. -/
def fnPathUpsWrong : ChangeSpec := { name := "fnPathUps", fn := fun _ => fun
  | [d] => { results := [.lit (.bool false)], args := [d] }
  | _ => none }
def FnPathUpsWrongFalsely : Prop := fnPathUpsRow.holds Tryd.pinned (OpenSpec.ofChange fnPathUpsWrong)

/-- 'laws.FnPath': WHATEVER THE INPUT: true; the input reads as it did. -/
def fnPathSpec : ChangeSpec := { name := "fnPath", fn := fun _ => fun
  | [d] => { results := [.lit (.bool true)], args := [d] }
  | _ => none }
def fnPathRow : OpenClaim := { program := "ytgccndhnpmmkfaadoor", sum := "8fd7bf456015868d9517b689000d7d8eee684acd52432b26a5f47c4abdf1b40c", func := "loop.example/jackstay/laws.FnPath", spec := "fnPath", inPlace := ["internal/bytealg.IndexByteString", "internal/bytealg.IndexString"], unfollowed := true, recurses := true, named := ["unicode/utf8.first", "unicode/utf8.acceptRanges", "internal/bytealg.MaxLen"], apart := false, laid := [("unicode/utf8.acceptRanges", laid_unicode_utf8_acceptRanges), ("unicode/utf8.first", laid_unicode_utf8_first)] }
def FnPathSaid : Prop := fnPathRow.holds Tryd.pinned (OpenSpec.ofChange fnPathSpec)

/-- ITS FALSE NEIGHBOUR: 'it returns false'. Refute it at one input. -/
def fnPathWrong : ChangeSpec := { name := "fnPath", fn := fun _ => fun
  | [d] => { results := [.lit (.bool false)], args := [d] }
  | _ => none }
def FnPathWrongFalsely : Prop := fnPathRow.holds Tryd.pinned (OpenSpec.ofChange fnPathWrong)

/- THE SECOND FORM. 'bulk': how many values and letters a reading holds, each counted each time it is reached (what is shared counts as often as it is met; a slice's spare places count too). A statement '..UptoSaid' is the law's where the arguments, and the package variables that the reading takes, are together of bulk at most 1048576: NARROWER than '..Said'. Prove '..Said' where nothing that the law and all that it calls make is longer than what came in: it says more and counts as full. Else prove '..UptoSaid'. A law counts once. -/
mutual
def uptoBulk {H : Type} : DataW H → Nat
  | .lit (.string bytes) => bytes.length + 1
  | .lit _ => 1
  | .nil => 1
  | .ptr d => uptoBulk d + 1
  | .slice elems spare => uptoBulkAll elems + uptoBulkAll spare + 1
  | .agg parts => uptoBulkAll parts + 1
  | .iface _ d => uptoBulk d + 1
  | .map entries => uptoBulkEntries entries + 1
  | .held _ => 1
def uptoBulkAll {H : Type} : List (DataW H) → Nat
  | [] => 0
  | d :: r => uptoBulk d + uptoBulkAll r
def uptoBulkEntries {H : Type} : List (Lit × DataW H) → Nat
  | [] => 0
  | x :: r => uptoBulkEntry x + uptoBulkEntries r
def uptoBulkEntry {H : Type} : Lit × DataW H → Nat
  | (.string bytes, d) => bytes.length + uptoBulk d + 1
  | (_, d) => uptoBulk d + 1
 end
def uptoSmall : (H : Type) → List (DataW H) → Bool := fun _ ds => decide (uptoBulkAll ds ≤ 1048576)
def OpenSpec.upto (s : _root_.Go.ChangeSpec) : _root_.Go.OpenSpec := { _root_.Go.OpenSpec.ofChange s with cond := some uptoSmall }

/-- 'laws.FnExactPathOk', WHERE WHAT IT READS IS OF BULK AT MOST 1048576: true; the input reads as it did. -/
def fnExactPathOkUptoRow : OpenClaim := { program := "ytgccndhnpmmkfaadoor", sum := "8fd7bf456015868d9517b689000d7d8eee684acd52432b26a5f47c4abdf1b40c", func := "loop.example/jackstay/laws.FnExactPathOk", spec := "fnExactPathOk", inPlace := ["internal/bytealg.IndexByteString", "internal/bytealg.IndexString"], unfollowed := true, recurses := true, named := ["unicode/utf8.first", "unicode/utf8.acceptRanges", "internal/bytealg.MaxLen"], apart := false, laid := [("unicode/utf8.acceptRanges", laid_unicode_utf8_acceptRanges), ("unicode/utf8.first", laid_unicode_utf8_first)], narrowed := true }
def FnExactPathOkUptoSaid : Prop := fnExactPathOkUptoRow.holds Tryd.pinned (OpenSpec.upto fnExactPathOkSpec)

/-- 'laws.FnExactPathIn', WHERE WHAT IT READS IS OF BULK AT MOST 1048576: true; the input reads as it did. -/
def fnExactPathInUptoRow : OpenClaim := { program := "ytgccndhnpmmkfaadoor", sum := "8fd7bf456015868d9517b689000d7d8eee684acd52432b26a5f47c4abdf1b40c", func := "loop.example/jackstay/laws.FnExactPathIn", spec := "fnExactPathIn", inPlace := ["internal/bytealg.IndexByteString", "internal/bytealg.IndexString"], unfollowed := true, recurses := true, named := ["unicode/utf8.first", "unicode/utf8.acceptRanges", "internal/bytealg.MaxLen"], apart := false, laid := [("unicode/utf8.acceptRanges", laid_unicode_utf8_acceptRanges), ("unicode/utf8.first", laid_unicode_utf8_first)], narrowed := true }
def FnExactPathInUptoSaid : Prop := fnExactPathInUptoRow.holds Tryd.pinned (OpenSpec.upto fnExactPathInSpec)

/-- 'laws.FnExactPathLast', WHERE WHAT IT READS IS OF BULK AT MOST 1048576: true; the input reads as it did. -/
def fnExactPathLastUptoRow : OpenClaim := { program := "ytgccndhnpmmkfaadoor", sum := "8fd7bf456015868d9517b689000d7d8eee684acd52432b26a5f47c4abdf1b40c", func := "loop.example/jackstay/laws.FnExactPathLast", spec := "fnExactPathLast", inPlace := ["internal/bytealg.IndexByteString", "internal/bytealg.IndexString"], unfollowed := true, recurses := true, named := ["unicode/utf8.first", "unicode/utf8.acceptRanges", "internal/bytealg.MaxLen"], apart := false, laid := [("unicode/utf8.acceptRanges", laid_unicode_utf8_acceptRanges), ("unicode/utf8.first", laid_unicode_utf8_first)], narrowed := true }
def FnExactPathLastUptoSaid : Prop := fnExactPathLastUptoRow.holds Tryd.pinned (OpenSpec.upto fnExactPathLastSpec)

/-- 'laws.FnExactPathUp', WHERE WHAT IT READS IS OF BULK AT MOST 1048576: true; the input reads as it did. -/
def fnExactPathUpUptoRow : OpenClaim := { program := "ytgccndhnpmmkfaadoor", sum := "8fd7bf456015868d9517b689000d7d8eee684acd52432b26a5f47c4abdf1b40c", func := "loop.example/jackstay/laws.FnExactPathUp", spec := "fnExactPathUp", inPlace := ["internal/bytealg.IndexByteString", "internal/bytealg.IndexString"], unfollowed := true, recurses := true, named := ["unicode/utf8.first", "unicode/utf8.acceptRanges", "internal/bytealg.MaxLen"], apart := false, laid := [("unicode/utf8.acceptRanges", laid_unicode_utf8_acceptRanges), ("unicode/utf8.first", laid_unicode_utf8_first)], narrowed := true }
def FnExactPathUpUptoSaid : Prop := fnExactPathUpUptoRow.holds Tryd.pinned (OpenSpec.upto fnExactPathUpSpec)

/-- 'laws.FnExactPathMove', WHERE WHAT IT READS IS OF BULK AT MOST 1048576: true; the input reads as it did. -/
def fnExactPathMoveUptoRow : OpenClaim := { program := "ytgccndhnpmmkfaadoor", sum := "8fd7bf456015868d9517b689000d7d8eee684acd52432b26a5f47c4abdf1b40c", func := "loop.example/jackstay/laws.FnExactPathMove", spec := "fnExactPathMove", inPlace := ["internal/bytealg.IndexByteString", "internal/bytealg.IndexString"], unfollowed := true, recurses := true, named := ["unicode/utf8.first", "unicode/utf8.acceptRanges", "internal/bytealg.MaxLen"], apart := false, laid := [("unicode/utf8.acceptRanges", laid_unicode_utf8_acceptRanges), ("unicode/utf8.first", laid_unicode_utf8_first)], narrowed := true }
def FnExactPathMoveUptoSaid : Prop := fnExactPathMoveUptoRow.holds Tryd.pinned (OpenSpec.upto fnExactPathMoveSpec)

/-- 'laws.FnPathMove', WHERE WHAT IT READS IS OF BULK AT MOST 1048576: true; the input reads as it did. -/
def fnPathMoveUptoRow : OpenClaim := { program := "ytgccndhnpmmkfaadoor", sum := "8fd7bf456015868d9517b689000d7d8eee684acd52432b26a5f47c4abdf1b40c", func := "loop.example/jackstay/laws.FnPathMove", spec := "fnPathMove", inPlace := ["internal/bytealg.IndexByteString", "internal/bytealg.IndexString"], unfollowed := true, recurses := true, named := ["unicode/utf8.first", "unicode/utf8.acceptRanges", "internal/bytealg.MaxLen"], apart := false, laid := [("unicode/utf8.acceptRanges", laid_unicode_utf8_acceptRanges), ("unicode/utf8.first", laid_unicode_utf8_first)], narrowed := true }
def FnPathMoveUptoSaid : Prop := fnPathMoveUptoRow.holds Tryd.pinned (OpenSpec.upto fnPathMoveSpec)

/-- 'laws.FnPathIn', WHERE WHAT IT READS IS OF BULK AT MOST 1048576: true; the input reads as it did. -/
def fnPathInUptoRow : OpenClaim := { program := "ytgccndhnpmmkfaadoor", sum := "8fd7bf456015868d9517b689000d7d8eee684acd52432b26a5f47c4abdf1b40c", func := "loop.example/jackstay/laws.FnPathIn", spec := "fnPathIn", inPlace := ["internal/bytealg.IndexByteString", "internal/bytealg.IndexString"], unfollowed := true, recurses := true, named := ["unicode/utf8.first", "unicode/utf8.acceptRanges", "internal/bytealg.MaxLen"], apart := false, laid := [("unicode/utf8.acceptRanges", laid_unicode_utf8_acceptRanges), ("unicode/utf8.first", laid_unicode_utf8_first)], narrowed := true }
def FnPathInUptoSaid : Prop := fnPathInUptoRow.holds Tryd.pinned (OpenSpec.upto fnPathInSpec)

/-- 'laws.FnPathUps', WHERE WHAT IT READS IS OF BULK AT MOST 1048576: true; the input reads as it did. -/
def fnPathUpsUptoRow : OpenClaim := { program := "ytgccndhnpmmkfaadoor", sum := "8fd7bf456015868d9517b689000d7d8eee684acd52432b26a5f47c4abdf1b40c", func := "loop.example/jackstay/laws.FnPathUps", spec := "fnPathUps", inPlace := ["internal/bytealg.IndexByteString", "internal/bytealg.IndexString"], unfollowed := true, recurses := true, named := ["unicode/utf8.first", "unicode/utf8.acceptRanges", "internal/bytealg.MaxLen"], apart := false, laid := [("unicode/utf8.acceptRanges", laid_unicode_utf8_acceptRanges), ("unicode/utf8.first", laid_unicode_utf8_first)], narrowed := true }
def FnPathUpsUptoSaid : Prop := fnPathUpsUptoRow.holds Tryd.pinned (OpenSpec.upto fnPathUpsSpec)

/-- 'laws.FnPath', WHERE WHAT IT READS IS OF BULK AT MOST 1048576: true; the input reads as it did. -/
def fnPathUptoRow : OpenClaim := { program := "ytgccndhnpmmkfaadoor", sum := "8fd7bf456015868d9517b689000d7d8eee684acd52432b26a5f47c4abdf1b40c", func := "loop.example/jackstay/laws.FnPath", spec := "fnPath", inPlace := ["internal/bytealg.IndexByteString", "internal/bytealg.IndexString"], unfollowed := true, recurses := true, named := ["unicode/utf8.first", "unicode/utf8.acceptRanges", "internal/bytealg.MaxLen"], apart := false, laid := [("unicode/utf8.acceptRanges", laid_unicode_utf8_acceptRanges), ("unicode/utf8.first", laid_unicode_utf8_first)], narrowed := true }
def FnPathUptoSaid : Prop := fnPathUptoRow.holds Tryd.pinned (OpenSpec.upto fnPathSpec)

end Rows
end Go.Proofs.YtgccndhnpmmkfaaDoor
