/-
  NARROWER THAN 'FOR EVERY INPUT', by the rows' own cells (each row's printed sentence says how): FnExactTreePut: laid · FnExactTreeJoin: laid · FnExactTreeMove: laid · FnExactTreePart: laid · FnTreeFollow: laid · FnTreeDrop: laid · FnTreePut: laid · FnTreePutDrop: laid · FnTreeLink: laid · FnTreeGrow: laid · FnTreeMoveIn: laid · FnTreeMove: laid · FnTreeJoinSelf: laid · FnTreeJoin: laid · FnTreePart: laid · FnTreePartRest: laid.
  DERIVED. THE GIVEN ROWS OF THIS SEAT. 16 by the template 'for every input the law returns true; each argument reads behind the call as it read before'; 0 by the template 'total and deterministic' (their statements: YtjihpbioofikcaaDoorTotals.lean).
  GIVEN WITH THE SEED: the statements are not yours to turn. If you find one false, say at which input.
  Laid BY PROGRAM, IN A SANDBOX (cutbox-rows.mjs): the forced cells as the released guide's own fill.sh prints them over the translation 6d83c024cd12b6a2… (all of the seat's roots in one cut). By AI agents, Wed Nov 11 2026. No macro, syntax, notation, axiom, sorry.
-/
import Derived.Test.YtjihpbioofikcaaDoorChecked
import GoSem.PinnedTables
import GoSem.Claim
import GoSem.ClaimJoined
import GoSem.ClaimMapViews
import Derived.JoinedTies
import Derived.KernelRfl
namespace Go.Proofs.YtjihpbioofikcaaDoor
/- THE CELL 'sum', in the pinned program and in every row, IS THE sha256 OF THE DUMP (.gsa) THAT YtjihpbioofikcaaDoorProg.lean LOADS. Nothing in Lean hashes anything: it is a label: what it is worth is what the hold of that sum in a sandbox is worth. -/
noncomputable def Tryd.pinned : Pinned := { name := "ytjihpbioofikcaadoor", sum := "6d83c024cd12b6a2080abb2e71cc4871399b624b59e7b2aa3e7251fa1395c6ec", checked := Tryd.checked }
namespace Rows
def none {H : Type} : Left H := { results := [], args := [] }

/- WHAT THE LISTED PACKAGE-LEVEL VARIABLES READ AS WHEN THE CALL BEGINS. Each datum BY PROGRAM (the guide's laid-datum.mjs) off the statement by which the dump's own 'gosem.cut.vars' lays the variable. In a bare row this is a premise. The card (YtjihpbioofikcaaDoorCards.lean) ties it to the program's text. -/
def laid_unicode_utf8_acceptRanges {H : Type} : DataW H := .agg [.agg [.lit (.int .u8 128), .lit (.int .u8 191)], .agg [.lit (.int .u8 160), .lit (.int .u8 191)], .agg [.lit (.int .u8 128), .lit (.int .u8 159)], .agg [.lit (.int .u8 144), .lit (.int .u8 191)], .agg [.lit (.int .u8 128), .lit (.int .u8 143)], .agg [.lit (.int .u8 0), .lit (.int .u8 0)], .agg [.lit (.int .u8 0), .lit (.int .u8 0)], .agg [.lit (.int .u8 0), .lit (.int .u8 0)], .agg [.lit (.int .u8 0), .lit (.int .u8 0)], .agg [.lit (.int .u8 0), .lit (.int .u8 0)], .agg [.lit (.int .u8 0), .lit (.int .u8 0)], .agg [.lit (.int .u8 0), .lit (.int .u8 0)], .agg [.lit (.int .u8 0), .lit (.int .u8 0)], .agg [.lit (.int .u8 0), .lit (.int .u8 0)], .agg [.lit (.int .u8 0), .lit (.int .u8 0)], .agg [.lit (.int .u8 0), .lit (.int .u8 0)]]
/-- One of Go's own tables, pinned by name: the form's constant. -/
def laid_unicode_utf8_first : DataW Unit := Go.Pinned.utf8First

/-- 'laws.FnExactTreePut': WHATEVER THE INPUT: true; the input reads as it did. -/
def fnExactTreePutSpec : ChangeSpec := { name := "fnExactTreePut", fn := fun _ => fun
  | [d1, d2] => { results := [.lit (.bool true)], args := [d1, d2] }
  | _ => none }
def fnExactTreePutRow : OpenClaim := { program := "ytjihpbioofikcaadoor", sum := "6d83c024cd12b6a2080abb2e71cc4871399b624b59e7b2aa3e7251fa1395c6ec", func := "loop.example/jackstay/laws.FnExactTreePut", spec := "fnExactTreePut", inPlace := ["internal/bytealg.IndexByteString", "internal/bytealg.IndexString", "slices.overlaps[loop.example/jackstay/impl.Entry]"], unfollowed := true, recurses := true, named := ["unicode/utf8.first", "unicode/utf8.acceptRanges", "internal/bytealg.MaxLen"], apart := false, laid := [("unicode/utf8.acceptRanges", laid_unicode_utf8_acceptRanges), ("unicode/utf8.first", laid_unicode_utf8_first)] }
def FnExactTreePutSaid : Prop := fnExactTreePutRow.holds Tryd.pinned (OpenSpec.ofChange fnExactTreePutSpec)

/-- ITS FALSE NEIGHBOUR: 'it returns false'. Refute it at one input. -/
def fnExactTreePutWrong : ChangeSpec := { name := "fnExactTreePut", fn := fun _ => fun
  | [d1, d2] => { results := [.lit (.bool false)], args := [d1, d2] }
  | _ => none }
def FnExactTreePutWrongFalsely : Prop := fnExactTreePutRow.holds Tryd.pinned (OpenSpec.ofChange fnExactTreePutWrong)

/-- 'laws.FnExactTreeJoin': WHATEVER THE INPUT: true; the input reads as it did. -/
def fnExactTreeJoinSpec : ChangeSpec := { name := "fnExactTreeJoin", fn := fun _ => fun
  | [d1, d2] => { results := [.lit (.bool true)], args := [d1, d2] }
  | _ => none }
def fnExactTreeJoinRow : OpenClaim := { program := "ytjihpbioofikcaadoor", sum := "6d83c024cd12b6a2080abb2e71cc4871399b624b59e7b2aa3e7251fa1395c6ec", func := "loop.example/jackstay/laws.FnExactTreeJoin", spec := "fnExactTreeJoin", inPlace := ["internal/bytealg.IndexByteString", "internal/bytealg.IndexString", "slices.overlaps[loop.example/jackstay/impl.Entry]"], unfollowed := true, recurses := true, named := ["unicode/utf8.first", "unicode/utf8.acceptRanges", "internal/bytealg.MaxLen"], apart := false, laid := [("unicode/utf8.acceptRanges", laid_unicode_utf8_acceptRanges), ("unicode/utf8.first", laid_unicode_utf8_first)] }
def FnExactTreeJoinSaid : Prop := fnExactTreeJoinRow.holds Tryd.pinned (OpenSpec.ofChange fnExactTreeJoinSpec)

/-- ITS FALSE NEIGHBOUR: 'it returns false'. Refute it at one input. -/
def fnExactTreeJoinWrong : ChangeSpec := { name := "fnExactTreeJoin", fn := fun _ => fun
  | [d1, d2] => { results := [.lit (.bool false)], args := [d1, d2] }
  | _ => none }
def FnExactTreeJoinWrongFalsely : Prop := fnExactTreeJoinRow.holds Tryd.pinned (OpenSpec.ofChange fnExactTreeJoinWrong)

/-- 'laws.FnExactTreeMove': WHATEVER THE INPUT: true; the input reads as it did. -/
def fnExactTreeMoveSpec : ChangeSpec := { name := "fnExactTreeMove", fn := fun _ => fun
  | [d1, d2, d3] => { results := [.lit (.bool true)], args := [d1, d2, d3] }
  | _ => none }
def fnExactTreeMoveRow : OpenClaim := { program := "ytjihpbioofikcaadoor", sum := "6d83c024cd12b6a2080abb2e71cc4871399b624b59e7b2aa3e7251fa1395c6ec", func := "loop.example/jackstay/laws.FnExactTreeMove", spec := "fnExactTreeMove", inPlace := ["internal/bytealg.IndexByteString", "internal/bytealg.IndexString"], unfollowed := true, recurses := true, named := ["unicode/utf8.first", "unicode/utf8.acceptRanges", "internal/bytealg.MaxLen"], apart := false, laid := [("unicode/utf8.acceptRanges", laid_unicode_utf8_acceptRanges), ("unicode/utf8.first", laid_unicode_utf8_first)] }
def FnExactTreeMoveSaid : Prop := fnExactTreeMoveRow.holds Tryd.pinned (OpenSpec.ofChange fnExactTreeMoveSpec)

/-- ITS FALSE NEIGHBOUR: 'it returns false'. Refute it at one input. -/
def fnExactTreeMoveWrong : ChangeSpec := { name := "fnExactTreeMove", fn := fun _ => fun
  | [d1, d2, d3] => { results := [.lit (.bool false)], args := [d1, d2, d3] }
  | _ => none }
def FnExactTreeMoveWrongFalsely : Prop := fnExactTreeMoveRow.holds Tryd.pinned (OpenSpec.ofChange fnExactTreeMoveWrong)

/-- 'laws.FnExactTreePart': WHATEVER THE INPUT: true; the input reads as it did. -/
def fnExactTreePartSpec : ChangeSpec := { name := "fnExactTreePart", fn := fun _ => fun
  | [d1, d2] => { results := [.lit (.bool true)], args := [d1, d2] }
  | _ => none }
def fnExactTreePartRow : OpenClaim := { program := "ytjihpbioofikcaadoor", sum := "6d83c024cd12b6a2080abb2e71cc4871399b624b59e7b2aa3e7251fa1395c6ec", func := "loop.example/jackstay/laws.FnExactTreePart", spec := "fnExactTreePart", inPlace := ["internal/bytealg.IndexByteString", "internal/bytealg.IndexString"], unfollowed := true, recurses := true, named := ["unicode/utf8.first", "unicode/utf8.acceptRanges", "internal/bytealg.MaxLen"], apart := false, laid := [("unicode/utf8.acceptRanges", laid_unicode_utf8_acceptRanges), ("unicode/utf8.first", laid_unicode_utf8_first)] }
def FnExactTreePartSaid : Prop := fnExactTreePartRow.holds Tryd.pinned (OpenSpec.ofChange fnExactTreePartSpec)

/-- ITS FALSE NEIGHBOUR: 'it returns false'. Refute it at one input. -/
def fnExactTreePartWrong : ChangeSpec := { name := "fnExactTreePart", fn := fun _ => fun
  | [d1, d2] => { results := [.lit (.bool false)], args := [d1, d2] }
  | _ => none }
def FnExactTreePartWrongFalsely : Prop := fnExactTreePartRow.holds Tryd.pinned (OpenSpec.ofChange fnExactTreePartWrong)

/-- 'laws.FnTreeFollow': WHATEVER THE INPUT: true; the input reads as it did. -/
def fnTreeFollowSpec : ChangeSpec := { name := "fnTreeFollow", fn := fun _ => fun
  | [d] => { results := [.lit (.bool true)], args := [d] }
  | _ => none }
def fnTreeFollowRow : OpenClaim := { program := "ytjihpbioofikcaadoor", sum := "6d83c024cd12b6a2080abb2e71cc4871399b624b59e7b2aa3e7251fa1395c6ec", func := "loop.example/jackstay/laws.FnTreeFollow", spec := "fnTreeFollow", inPlace := ["internal/bytealg.IndexByteString", "internal/bytealg.IndexString"], unfollowed := true, recurses := true, named := ["unicode/utf8.first", "unicode/utf8.acceptRanges", "internal/bytealg.MaxLen"], apart := false, laid := [("unicode/utf8.acceptRanges", laid_unicode_utf8_acceptRanges), ("unicode/utf8.first", laid_unicode_utf8_first)] }
def FnTreeFollowSaid : Prop := fnTreeFollowRow.holds Tryd.pinned (OpenSpec.ofChange fnTreeFollowSpec)

/-- ITS FALSE NEIGHBOUR: 'it returns false'. Refute it at one input. -/
def fnTreeFollowWrong : ChangeSpec := { name := "fnTreeFollow", fn := fun _ => fun
  | [d] => { results := [.lit (.bool false)], args := [d] }
  | _ => none }
def FnTreeFollowWrongFalsely : Prop := fnTreeFollowRow.holds Tryd.pinned (OpenSpec.ofChange fnTreeFollowWrong)

/-- 'laws.FnTreeDrop': WHATEVER THE INPUT: true; the input reads as it did. -/
def fnTreeDropSpec : ChangeSpec := { name := "fnTreeDrop", fn := fun _ => fun
  | [d] => { results := [.lit (.bool true)], args := [d] }
  | _ => none }
def fnTreeDropRow : OpenClaim := { program := "ytjihpbioofikcaadoor", sum := "6d83c024cd12b6a2080abb2e71cc4871399b624b59e7b2aa3e7251fa1395c6ec", func := "loop.example/jackstay/laws.FnTreeDrop", spec := "fnTreeDrop", inPlace := ["internal/bytealg.IndexByteString", "internal/bytealg.IndexString"], unfollowed := true, recurses := true, named := ["unicode/utf8.first", "unicode/utf8.acceptRanges", "internal/bytealg.MaxLen"], apart := false, laid := [("unicode/utf8.acceptRanges", laid_unicode_utf8_acceptRanges), ("unicode/utf8.first", laid_unicode_utf8_first)] }
def FnTreeDropSaid : Prop := fnTreeDropRow.holds Tryd.pinned (OpenSpec.ofChange fnTreeDropSpec)

/-- ITS FALSE NEIGHBOUR: 'it returns false'. Refute it at one input. -/
def fnTreeDropWrong : ChangeSpec := { name := "fnTreeDrop", fn := fun _ => fun
  | [d] => { results := [.lit (.bool false)], args := [d] }
  | _ => none }
def FnTreeDropWrongFalsely : Prop := fnTreeDropRow.holds Tryd.pinned (OpenSpec.ofChange fnTreeDropWrong)

/-- 'laws.FnTreePut': WHATEVER THE INPUT: true; the input reads as it did. -/
def fnTreePutSpec : ChangeSpec := { name := "fnTreePut", fn := fun _ => fun
  | [d] => { results := [.lit (.bool true)], args := [d] }
  | _ => none }
def fnTreePutRow : OpenClaim := { program := "ytjihpbioofikcaadoor", sum := "6d83c024cd12b6a2080abb2e71cc4871399b624b59e7b2aa3e7251fa1395c6ec", func := "loop.example/jackstay/laws.FnTreePut", spec := "fnTreePut", inPlace := ["internal/bytealg.IndexByteString", "internal/bytealg.IndexString", "slices.overlaps[loop.example/jackstay/impl.Entry]"], unfollowed := true, recurses := true, named := ["unicode/utf8.first", "unicode/utf8.acceptRanges", "internal/bytealg.MaxLen"], apart := false, laid := [("unicode/utf8.acceptRanges", laid_unicode_utf8_acceptRanges), ("unicode/utf8.first", laid_unicode_utf8_first)] }
def FnTreePutSaid : Prop := fnTreePutRow.holds Tryd.pinned (OpenSpec.ofChange fnTreePutSpec)

/-- ITS FALSE NEIGHBOUR: 'it returns false'. Refute it at one input. -/
def fnTreePutWrong : ChangeSpec := { name := "fnTreePut", fn := fun _ => fun
  | [d] => { results := [.lit (.bool false)], args := [d] }
  | _ => none }
def FnTreePutWrongFalsely : Prop := fnTreePutRow.holds Tryd.pinned (OpenSpec.ofChange fnTreePutWrong)

/-- 'laws.FnTreePutDrop': WHATEVER THE INPUT: true; the input reads as it did. -/
def fnTreePutDropSpec : ChangeSpec := { name := "fnTreePutDrop", fn := fun _ => fun
  | [d] => { results := [.lit (.bool true)], args := [d] }
  | _ => none }
def fnTreePutDropRow : OpenClaim := { program := "ytjihpbioofikcaadoor", sum := "6d83c024cd12b6a2080abb2e71cc4871399b624b59e7b2aa3e7251fa1395c6ec", func := "loop.example/jackstay/laws.FnTreePutDrop", spec := "fnTreePutDrop", inPlace := ["internal/bytealg.IndexByteString", "internal/bytealg.IndexString", "slices.overlaps[loop.example/jackstay/impl.Entry]"], unfollowed := true, recurses := true, named := ["unicode/utf8.first", "unicode/utf8.acceptRanges", "internal/bytealg.MaxLen"], apart := false, laid := [("unicode/utf8.acceptRanges", laid_unicode_utf8_acceptRanges), ("unicode/utf8.first", laid_unicode_utf8_first)] }
def FnTreePutDropSaid : Prop := fnTreePutDropRow.holds Tryd.pinned (OpenSpec.ofChange fnTreePutDropSpec)

/-- ITS FALSE NEIGHBOUR: 'it returns false'. Refute it at one input. -/
def fnTreePutDropWrong : ChangeSpec := { name := "fnTreePutDrop", fn := fun _ => fun
  | [d] => { results := [.lit (.bool false)], args := [d] }
  | _ => none }
def FnTreePutDropWrongFalsely : Prop := fnTreePutDropRow.holds Tryd.pinned (OpenSpec.ofChange fnTreePutDropWrong)

/-- 'laws.FnTreeLink': WHATEVER THE INPUT: true; the input reads as it did. -/
def fnTreeLinkSpec : ChangeSpec := { name := "fnTreeLink", fn := fun _ => fun
  | [d] => { results := [.lit (.bool true)], args := [d] }
  | _ => none }
def fnTreeLinkRow : OpenClaim := { program := "ytjihpbioofikcaadoor", sum := "6d83c024cd12b6a2080abb2e71cc4871399b624b59e7b2aa3e7251fa1395c6ec", func := "loop.example/jackstay/laws.FnTreeLink", spec := "fnTreeLink", inPlace := ["internal/bytealg.IndexByteString", "internal/bytealg.IndexString", "slices.overlaps[loop.example/jackstay/impl.Entry]"], unfollowed := true, recurses := true, named := ["unicode/utf8.first", "unicode/utf8.acceptRanges", "internal/bytealg.MaxLen"], apart := false, laid := [("unicode/utf8.acceptRanges", laid_unicode_utf8_acceptRanges), ("unicode/utf8.first", laid_unicode_utf8_first)] }
def FnTreeLinkSaid : Prop := fnTreeLinkRow.holds Tryd.pinned (OpenSpec.ofChange fnTreeLinkSpec)

/-- ITS FALSE NEIGHBOUR: 'it returns false'. Refute it at one input. -/
def fnTreeLinkWrong : ChangeSpec := { name := "fnTreeLink", fn := fun _ => fun
  | [d] => { results := [.lit (.bool false)], args := [d] }
  | _ => none }
def FnTreeLinkWrongFalsely : Prop := fnTreeLinkRow.holds Tryd.pinned (OpenSpec.ofChange fnTreeLinkWrong)

/-- 'laws.FnTreeGrow': WHATEVER THE INPUT: true; the input reads as it did. -/
def fnTreeGrowSpec : ChangeSpec := { name := "fnTreeGrow", fn := fun _ => fun
  | [d] => { results := [.lit (.bool true)], args := [d] }
  | _ => none }
def fnTreeGrowRow : OpenClaim := { program := "ytjihpbioofikcaadoor", sum := "6d83c024cd12b6a2080abb2e71cc4871399b624b59e7b2aa3e7251fa1395c6ec", func := "loop.example/jackstay/laws.FnTreeGrow", spec := "fnTreeGrow", inPlace := ["internal/bytealg.IndexByteString", "internal/bytealg.IndexString", "slices.overlaps[loop.example/jackstay/impl.Entry]"], unfollowed := true, recurses := true, named := ["unicode/utf8.first", "unicode/utf8.acceptRanges", "internal/bytealg.MaxLen"], apart := false, laid := [("unicode/utf8.acceptRanges", laid_unicode_utf8_acceptRanges), ("unicode/utf8.first", laid_unicode_utf8_first)] }
def FnTreeGrowSaid : Prop := fnTreeGrowRow.holds Tryd.pinned (OpenSpec.ofChange fnTreeGrowSpec)

/-- ITS FALSE NEIGHBOUR: 'it returns false'. Refute it at one input. -/
def fnTreeGrowWrong : ChangeSpec := { name := "fnTreeGrow", fn := fun _ => fun
  | [d] => { results := [.lit (.bool false)], args := [d] }
  | _ => none }
def FnTreeGrowWrongFalsely : Prop := fnTreeGrowRow.holds Tryd.pinned (OpenSpec.ofChange fnTreeGrowWrong)

/-- 'laws.FnTreeMoveIn': WHATEVER THE INPUT: true; the input reads as it did. -/
def fnTreeMoveInSpec : ChangeSpec := { name := "fnTreeMoveIn", fn := fun _ => fun
  | [d] => { results := [.lit (.bool true)], args := [d] }
  | _ => none }
def fnTreeMoveInRow : OpenClaim := { program := "ytjihpbioofikcaadoor", sum := "6d83c024cd12b6a2080abb2e71cc4871399b624b59e7b2aa3e7251fa1395c6ec", func := "loop.example/jackstay/laws.FnTreeMoveIn", spec := "fnTreeMoveIn", inPlace := ["internal/bytealg.IndexByteString", "internal/bytealg.IndexString"], unfollowed := true, recurses := true, named := ["unicode/utf8.first", "unicode/utf8.acceptRanges", "internal/bytealg.MaxLen"], apart := false, laid := [("unicode/utf8.acceptRanges", laid_unicode_utf8_acceptRanges), ("unicode/utf8.first", laid_unicode_utf8_first)] }
def FnTreeMoveInSaid : Prop := fnTreeMoveInRow.holds Tryd.pinned (OpenSpec.ofChange fnTreeMoveInSpec)

/-- ITS FALSE NEIGHBOUR: 'it returns false'. Refute it at one input. -/
def fnTreeMoveInWrong : ChangeSpec := { name := "fnTreeMoveIn", fn := fun _ => fun
  | [d] => { results := [.lit (.bool false)], args := [d] }
  | _ => none }
def FnTreeMoveInWrongFalsely : Prop := fnTreeMoveInRow.holds Tryd.pinned (OpenSpec.ofChange fnTreeMoveInWrong)

/-- 'laws.FnTreeMove': WHATEVER THE INPUT: true; the input reads as it did. -/
def fnTreeMoveSpec : ChangeSpec := { name := "fnTreeMove", fn := fun _ => fun
  | [d] => { results := [.lit (.bool true)], args := [d] }
  | _ => none }
def fnTreeMoveRow : OpenClaim := { program := "ytjihpbioofikcaadoor", sum := "6d83c024cd12b6a2080abb2e71cc4871399b624b59e7b2aa3e7251fa1395c6ec", func := "loop.example/jackstay/laws.FnTreeMove", spec := "fnTreeMove", inPlace := ["internal/bytealg.IndexByteString", "internal/bytealg.IndexString"], unfollowed := true, recurses := true, named := ["unicode/utf8.first", "unicode/utf8.acceptRanges", "internal/bytealg.MaxLen"], apart := false, laid := [("unicode/utf8.acceptRanges", laid_unicode_utf8_acceptRanges), ("unicode/utf8.first", laid_unicode_utf8_first)] }
def FnTreeMoveSaid : Prop := fnTreeMoveRow.holds Tryd.pinned (OpenSpec.ofChange fnTreeMoveSpec)

/-- ITS FALSE NEIGHBOUR: 'it returns false'. Refute it at one input. -/
def fnTreeMoveWrong : ChangeSpec := { name := "fnTreeMove", fn := fun _ => fun
  | [d] => { results := [.lit (.bool false)], args := [d] }
  | _ => none }
def FnTreeMoveWrongFalsely : Prop := fnTreeMoveRow.holds Tryd.pinned (OpenSpec.ofChange fnTreeMoveWrong)

/-- 'laws.FnTreeJoinSelf': WHATEVER THE INPUT: true; the input reads as it did. -/
def fnTreeJoinSelfSpec : ChangeSpec := { name := "fnTreeJoinSelf", fn := fun _ => fun
  | [d] => { results := [.lit (.bool true)], args := [d] }
  | _ => none }
def fnTreeJoinSelfRow : OpenClaim := { program := "ytjihpbioofikcaadoor", sum := "6d83c024cd12b6a2080abb2e71cc4871399b624b59e7b2aa3e7251fa1395c6ec", func := "loop.example/jackstay/laws.FnTreeJoinSelf", spec := "fnTreeJoinSelf", inPlace := ["internal/bytealg.IndexByteString", "internal/bytealg.IndexString", "slices.overlaps[loop.example/jackstay/impl.Entry]"], unfollowed := true, recurses := true, named := ["unicode/utf8.first", "unicode/utf8.acceptRanges", "internal/bytealg.MaxLen"], apart := false, laid := [("unicode/utf8.acceptRanges", laid_unicode_utf8_acceptRanges), ("unicode/utf8.first", laid_unicode_utf8_first)] }
def FnTreeJoinSelfSaid : Prop := fnTreeJoinSelfRow.holds Tryd.pinned (OpenSpec.ofChange fnTreeJoinSelfSpec)

/-- ITS FALSE NEIGHBOUR: 'it returns false'. Refute it at one input. -/
def fnTreeJoinSelfWrong : ChangeSpec := { name := "fnTreeJoinSelf", fn := fun _ => fun
  | [d] => { results := [.lit (.bool false)], args := [d] }
  | _ => none }
def FnTreeJoinSelfWrongFalsely : Prop := fnTreeJoinSelfRow.holds Tryd.pinned (OpenSpec.ofChange fnTreeJoinSelfWrong)

/-- 'laws.FnTreeJoin': WHATEVER THE INPUT: true; the input reads as it did. -/
def fnTreeJoinSpec : ChangeSpec := { name := "fnTreeJoin", fn := fun _ => fun
  | [d] => { results := [.lit (.bool true)], args := [d] }
  | _ => none }
def fnTreeJoinRow : OpenClaim := { program := "ytjihpbioofikcaadoor", sum := "6d83c024cd12b6a2080abb2e71cc4871399b624b59e7b2aa3e7251fa1395c6ec", func := "loop.example/jackstay/laws.FnTreeJoin", spec := "fnTreeJoin", inPlace := ["internal/bytealg.IndexByteString", "internal/bytealg.IndexString", "slices.overlaps[loop.example/jackstay/impl.Entry]"], unfollowed := true, recurses := true, named := ["unicode/utf8.first", "unicode/utf8.acceptRanges", "internal/bytealg.MaxLen"], apart := false, laid := [("unicode/utf8.acceptRanges", laid_unicode_utf8_acceptRanges), ("unicode/utf8.first", laid_unicode_utf8_first)] }
def FnTreeJoinSaid : Prop := fnTreeJoinRow.holds Tryd.pinned (OpenSpec.ofChange fnTreeJoinSpec)

/-- ITS FALSE NEIGHBOUR: 'it returns false'. Refute it at one input. -/
def fnTreeJoinWrong : ChangeSpec := { name := "fnTreeJoin", fn := fun _ => fun
  | [d] => { results := [.lit (.bool false)], args := [d] }
  | _ => none }
def FnTreeJoinWrongFalsely : Prop := fnTreeJoinRow.holds Tryd.pinned (OpenSpec.ofChange fnTreeJoinWrong)

/-- 'laws.FnTreePart': WHATEVER THE INPUT: true; the input reads as it did. -/
def fnTreePartSpec : ChangeSpec := { name := "fnTreePart", fn := fun _ => fun
  | [d] => { results := [.lit (.bool true)], args := [d] }
  | _ => none }
def fnTreePartRow : OpenClaim := { program := "ytjihpbioofikcaadoor", sum := "6d83c024cd12b6a2080abb2e71cc4871399b624b59e7b2aa3e7251fa1395c6ec", func := "loop.example/jackstay/laws.FnTreePart", spec := "fnTreePart", inPlace := ["internal/bytealg.IndexByteString", "internal/bytealg.IndexString"], unfollowed := true, recurses := true, named := ["unicode/utf8.first", "unicode/utf8.acceptRanges", "internal/bytealg.MaxLen"], apart := false, laid := [("unicode/utf8.acceptRanges", laid_unicode_utf8_acceptRanges), ("unicode/utf8.first", laid_unicode_utf8_first)] }
def FnTreePartSaid : Prop := fnTreePartRow.holds Tryd.pinned (OpenSpec.ofChange fnTreePartSpec)

/-- ITS FALSE NEIGHBOUR: 'it returns false'. Refute it at one input. -/
def fnTreePartWrong : ChangeSpec := { name := "fnTreePart", fn := fun _ => fun
  | [d] => { results := [.lit (.bool false)], args := [d] }
  | _ => none }
def FnTreePartWrongFalsely : Prop := fnTreePartRow.holds Tryd.pinned (OpenSpec.ofChange fnTreePartWrong)

/-- 'laws.FnTreePartRest': WHATEVER THE INPUT: true; the input reads as it did. -/
def fnTreePartRestSpec : ChangeSpec := { name := "fnTreePartRest", fn := fun _ => fun
  | [d] => { results := [.lit (.bool true)], args := [d] }
  | _ => none }
def fnTreePartRestRow : OpenClaim := { program := "ytjihpbioofikcaadoor", sum := "6d83c024cd12b6a2080abb2e71cc4871399b624b59e7b2aa3e7251fa1395c6ec", func := "loop.example/jackstay/laws.FnTreePartRest", spec := "fnTreePartRest", inPlace := ["internal/bytealg.IndexByteString", "internal/bytealg.IndexString"], unfollowed := true, recurses := true, named := ["unicode/utf8.first", "unicode/utf8.acceptRanges", "internal/bytealg.MaxLen"], apart := false, laid := [("unicode/utf8.acceptRanges", laid_unicode_utf8_acceptRanges), ("unicode/utf8.first", laid_unicode_utf8_first)] }
def FnTreePartRestSaid : Prop := fnTreePartRestRow.holds Tryd.pinned (OpenSpec.ofChange fnTreePartRestSpec)

/-- ITS FALSE NEIGHBOUR: 'it returns false'. Refute it at one input. -/
def fnTreePartRestWrong : ChangeSpec := { name := "fnTreePartRest", fn := fun _ => fun
  | [d] => { results := [.lit (.bool false)], args := [d] }
  | _ => none }
def FnTreePartRestWrongFalsely : Prop := fnTreePartRestRow.holds Tryd.pinned (OpenSpec.ofChange fnTreePartRestWrong)

/- THE SECOND FORM. 'bulk': how many values and letters a reading holds, each counted each time it is reached (what is shared counts as often as it is met; a slice's spare places count too). A statement '..UptoSaid' is the law's where the arguments, and the package variables that the reading takes, are together of bulk at most 1048576: NARROWER than '..Said'. Prove '..Said' where nothing that the law and all that it calls make is longer than what came in: it says more and counts as full. Else prove '..UptoSaid'. A law counts once. -/
mutual
def uptoBulk {H : Type} : DataW H → Nat
  | .lit (.string bytes) => bytes.length + 1
  | .lit _ => 1
  | .nil => 1
  | .ptr d => uptoBulk d + 1
  | .slice elems spare => uptoBulkAll elems + uptoBulkAll spare + 1
  | .agg parts => uptoBulkAll parts + 1
  | .iface _ d => uptoBulk d + 1
  | .map entries => uptoBulkEntries entries + 1
  | .held _ => 1
def uptoBulkAll {H : Type} : List (DataW H) → Nat
  | [] => 0
  | d :: r => uptoBulk d + uptoBulkAll r
def uptoBulkEntries {H : Type} : List (Lit × DataW H) → Nat
  | [] => 0
  | x :: r => uptoBulkEntry x + uptoBulkEntries r
def uptoBulkEntry {H : Type} : Lit × DataW H → Nat
  | (.string bytes, d) => bytes.length + uptoBulk d + 1
  | (_, d) => uptoBulk d + 1
 end
def uptoSmall : (H : Type) → List (DataW H) → Bool := fun _ ds => decide (uptoBulkAll ds ≤ 1048576)
def OpenSpec.upto (s : _root_.Go.ChangeSpec) : _root_.Go.OpenSpec := { _root_.Go.OpenSpec.ofChange s with cond := some uptoSmall }

/-- 'laws.FnExactTreePut', WHERE WHAT IT READS IS OF BULK AT MOST 1048576: true; the input reads as it did. -/
def fnExactTreePutUptoRow : OpenClaim := { program := "ytjihpbioofikcaadoor", sum := "6d83c024cd12b6a2080abb2e71cc4871399b624b59e7b2aa3e7251fa1395c6ec", func := "loop.example/jackstay/laws.FnExactTreePut", spec := "fnExactTreePut", inPlace := ["internal/bytealg.IndexByteString", "internal/bytealg.IndexString", "slices.overlaps[loop.example/jackstay/impl.Entry]"], unfollowed := true, recurses := true, named := ["unicode/utf8.first", "unicode/utf8.acceptRanges", "internal/bytealg.MaxLen"], apart := false, laid := [("unicode/utf8.acceptRanges", laid_unicode_utf8_acceptRanges), ("unicode/utf8.first", laid_unicode_utf8_first)], narrowed := true }
def FnExactTreePutUptoSaid : Prop := fnExactTreePutUptoRow.holds Tryd.pinned (OpenSpec.upto fnExactTreePutSpec)

/-- 'laws.FnExactTreeJoin', WHERE WHAT IT READS IS OF BULK AT MOST 1048576: true; the input reads as it did. -/
def fnExactTreeJoinUptoRow : OpenClaim := { program := "ytjihpbioofikcaadoor", sum := "6d83c024cd12b6a2080abb2e71cc4871399b624b59e7b2aa3e7251fa1395c6ec", func := "loop.example/jackstay/laws.FnExactTreeJoin", spec := "fnExactTreeJoin", inPlace := ["internal/bytealg.IndexByteString", "internal/bytealg.IndexString", "slices.overlaps[loop.example/jackstay/impl.Entry]"], unfollowed := true, recurses := true, named := ["unicode/utf8.first", "unicode/utf8.acceptRanges", "internal/bytealg.MaxLen"], apart := false, laid := [("unicode/utf8.acceptRanges", laid_unicode_utf8_acceptRanges), ("unicode/utf8.first", laid_unicode_utf8_first)], narrowed := true }
def FnExactTreeJoinUptoSaid : Prop := fnExactTreeJoinUptoRow.holds Tryd.pinned (OpenSpec.upto fnExactTreeJoinSpec)

/-- 'laws.FnExactTreeMove', WHERE WHAT IT READS IS OF BULK AT MOST 1048576: true; the input reads as it did. -/
def fnExactTreeMoveUptoRow : OpenClaim := { program := "ytjihpbioofikcaadoor", sum := "6d83c024cd12b6a2080abb2e71cc4871399b624b59e7b2aa3e7251fa1395c6ec", func := "loop.example/jackstay/laws.FnExactTreeMove", spec := "fnExactTreeMove", inPlace := ["internal/bytealg.IndexByteString", "internal/bytealg.IndexString"], unfollowed := true, recurses := true, named := ["unicode/utf8.first", "unicode/utf8.acceptRanges", "internal/bytealg.MaxLen"], apart := false, laid := [("unicode/utf8.acceptRanges", laid_unicode_utf8_acceptRanges), ("unicode/utf8.first", laid_unicode_utf8_first)], narrowed := true }
def FnExactTreeMoveUptoSaid : Prop := fnExactTreeMoveUptoRow.holds Tryd.pinned (OpenSpec.upto fnExactTreeMoveSpec)

/-- 'laws.FnExactTreePart', WHERE WHAT IT READS IS OF BULK AT MOST 1048576: true; the input reads as it did. -/
def fnExactTreePartUptoRow : OpenClaim := { program := "ytjihpbioofikcaadoor", sum := "6d83c024cd12b6a2080abb2e71cc4871399b624b59e7b2aa3e7251fa1395c6ec", func := "loop.example/jackstay/laws.FnExactTreePart", spec := "fnExactTreePart", inPlace := ["internal/bytealg.IndexByteString", "internal/bytealg.IndexString"], unfollowed := true, recurses := true, named := ["unicode/utf8.first", "unicode/utf8.acceptRanges", "internal/bytealg.MaxLen"], apart := false, laid := [("unicode/utf8.acceptRanges", laid_unicode_utf8_acceptRanges), ("unicode/utf8.first", laid_unicode_utf8_first)], narrowed := true }
def FnExactTreePartUptoSaid : Prop := fnExactTreePartUptoRow.holds Tryd.pinned (OpenSpec.upto fnExactTreePartSpec)

/-- 'laws.FnTreeFollow', WHERE WHAT IT READS IS OF BULK AT MOST 1048576: true; the input reads as it did. -/
def fnTreeFollowUptoRow : OpenClaim := { program := "ytjihpbioofikcaadoor", sum := "6d83c024cd12b6a2080abb2e71cc4871399b624b59e7b2aa3e7251fa1395c6ec", func := "loop.example/jackstay/laws.FnTreeFollow", spec := "fnTreeFollow", inPlace := ["internal/bytealg.IndexByteString", "internal/bytealg.IndexString"], unfollowed := true, recurses := true, named := ["unicode/utf8.first", "unicode/utf8.acceptRanges", "internal/bytealg.MaxLen"], apart := false, laid := [("unicode/utf8.acceptRanges", laid_unicode_utf8_acceptRanges), ("unicode/utf8.first", laid_unicode_utf8_first)], narrowed := true }
def FnTreeFollowUptoSaid : Prop := fnTreeFollowUptoRow.holds Tryd.pinned (OpenSpec.upto fnTreeFollowSpec)

/-- 'laws.FnTreeDrop', WHERE WHAT IT READS IS OF BULK AT MOST 1048576: true; the input reads as it did. -/
def fnTreeDropUptoRow : OpenClaim := { program := "ytjihpbioofikcaadoor", sum := "6d83c024cd12b6a2080abb2e71cc4871399b624b59e7b2aa3e7251fa1395c6ec", func := "loop.example/jackstay/laws.FnTreeDrop", spec := "fnTreeDrop", inPlace := ["internal/bytealg.IndexByteString", "internal/bytealg.IndexString"], unfollowed := true, recurses := true, named := ["unicode/utf8.first", "unicode/utf8.acceptRanges", "internal/bytealg.MaxLen"], apart := false, laid := [("unicode/utf8.acceptRanges", laid_unicode_utf8_acceptRanges), ("unicode/utf8.first", laid_unicode_utf8_first)], narrowed := true }
def FnTreeDropUptoSaid : Prop := fnTreeDropUptoRow.holds Tryd.pinned (OpenSpec.upto fnTreeDropSpec)

/-- 'laws.FnTreePut', WHERE WHAT IT READS IS OF BULK AT MOST 1048576: true; the input reads as it did. -/
def fnTreePutUptoRow : OpenClaim := { program := "ytjihpbioofikcaadoor", sum := "6d83c024cd12b6a2080abb2e71cc4871399b624b59e7b2aa3e7251fa1395c6ec", func := "loop.example/jackstay/laws.FnTreePut", spec := "fnTreePut", inPlace := ["internal/bytealg.IndexByteString", "internal/bytealg.IndexString", "slices.overlaps[loop.example/jackstay/impl.Entry]"], unfollowed := true, recurses := true, named := ["unicode/utf8.first", "unicode/utf8.acceptRanges", "internal/bytealg.MaxLen"], apart := false, laid := [("unicode/utf8.acceptRanges", laid_unicode_utf8_acceptRanges), ("unicode/utf8.first", laid_unicode_utf8_first)], narrowed := true }
def FnTreePutUptoSaid : Prop := fnTreePutUptoRow.holds Tryd.pinned (OpenSpec.upto fnTreePutSpec)

/-- 'laws.FnTreePutDrop', WHERE WHAT IT READS IS OF BULK AT MOST 1048576: true; the input reads as it did. -/
def fnTreePutDropUptoRow : OpenClaim := { program := "ytjihpbioofikcaadoor", sum := "6d83c024cd12b6a2080abb2e71cc4871399b624b59e7b2aa3e7251fa1395c6ec", func := "loop.example/jackstay/laws.FnTreePutDrop", spec := "fnTreePutDrop", inPlace := ["internal/bytealg.IndexByteString", "internal/bytealg.IndexString", "slices.overlaps[loop.example/jackstay/impl.Entry]"], unfollowed := true, recurses := true, named := ["unicode/utf8.first", "unicode/utf8.acceptRanges", "internal/bytealg.MaxLen"], apart := false, laid := [("unicode/utf8.acceptRanges", laid_unicode_utf8_acceptRanges), ("unicode/utf8.first", laid_unicode_utf8_first)], narrowed := true }
def FnTreePutDropUptoSaid : Prop := fnTreePutDropUptoRow.holds Tryd.pinned (OpenSpec.upto fnTreePutDropSpec)

/-- 'laws.FnTreeLink', WHERE WHAT IT READS IS OF BULK AT MOST 1048576: true; the input reads as it did. -/
def fnTreeLinkUptoRow : OpenClaim := { program := "ytjihpbioofikcaadoor", sum := "6d83c024cd12b6a2080abb2e71cc4871399b624b59e7b2aa3e7251fa1395c6ec", func := "loop.example/jackstay/laws.FnTreeLink", spec := "fnTreeLink", inPlace := ["internal/bytealg.IndexByteString", "internal/bytealg.IndexString", "slices.overlaps[loop.example/jackstay/impl.Entry]"], unfollowed := true, recurses := true, named := ["unicode/utf8.first", "unicode/utf8.acceptRanges", "internal/bytealg.MaxLen"], apart := false, laid := [("unicode/utf8.acceptRanges", laid_unicode_utf8_acceptRanges), ("unicode/utf8.first", laid_unicode_utf8_first)], narrowed := true }
def FnTreeLinkUptoSaid : Prop := fnTreeLinkUptoRow.holds Tryd.pinned (OpenSpec.upto fnTreeLinkSpec)

/-- 'laws.FnTreeGrow', WHERE WHAT IT READS IS OF BULK AT MOST 1048576: true; the input reads as it did. -/
def fnTreeGrowUptoRow : OpenClaim := { program := "ytjihpbioofikcaadoor", sum := "6d83c024cd12b6a2080abb2e71cc4871399b624b59e7b2aa3e7251fa1395c6ec", func := "loop.example/jackstay/laws.FnTreeGrow", spec := "fnTreeGrow", inPlace := ["internal/bytealg.IndexByteString", "internal/bytealg.IndexString", "slices.overlaps[loop.example/jackstay/impl.Entry]"], unfollowed := true, recurses := true, named := ["unicode/utf8.first", "unicode/utf8.acceptRanges", "internal/bytealg.MaxLen"], apart := false, laid := [("unicode/utf8.acceptRanges", laid_unicode_utf8_acceptRanges), ("unicode/utf8.first", laid_unicode_utf8_first)], narrowed := true }
def FnTreeGrowUptoSaid : Prop := fnTreeGrowUptoRow.holds Tryd.pinned (OpenSpec.upto fnTreeGrowSpec)

/-- 'laws.FnTreeMoveIn', WHERE WHAT IT READS IS OF BULK AT MOST 1048576: true; the input reads as it did. -/
def fnTreeMoveInUptoRow : OpenClaim := { program := "ytjihpbioofikcaadoor", sum := "6d83c024cd12b6a2080abb2e71cc4871399b624b59e7b2aa3e7251fa1395c6ec", func := "loop.example/jackstay/laws.FnTreeMoveIn", spec := "fnTreeMoveIn", inPlace := ["internal/bytealg.IndexByteString", "internal/bytealg.IndexString"], unfollowed := true, recurses := true, named := ["unicode/utf8.first", "unicode/utf8.acceptRanges", "internal/bytealg.MaxLen"], apart := false, laid := [("unicode/utf8.acceptRanges", laid_unicode_utf8_acceptRanges), ("unicode/utf8.first", laid_unicode_utf8_first)], narrowed := true }
def FnTreeMoveInUptoSaid : Prop := fnTreeMoveInUptoRow.holds Tryd.pinned (OpenSpec.upto fnTreeMoveInSpec)

/-- 'laws.FnTreeMove', WHERE WHAT IT READS IS OF BULK AT MOST 1048576: true; the input reads as it did. -/
def fnTreeMoveUptoRow : OpenClaim := { program := "ytjihpbioofikcaadoor", sum := "6d83c024cd12b6a2080abb2e71cc4871399b624b59e7b2aa3e7251fa1395c6ec", func := "loop.example/jackstay/laws.FnTreeMove", spec := "fnTreeMove", inPlace := ["internal/bytealg.IndexByteString", "internal/bytealg.IndexString"], unfollowed := true, recurses := true, named := ["unicode/utf8.first", "unicode/utf8.acceptRanges", "internal/bytealg.MaxLen"], apart := false, laid := [("unicode/utf8.acceptRanges", laid_unicode_utf8_acceptRanges), ("unicode/utf8.first", laid_unicode_utf8_first)], narrowed := true }
def FnTreeMoveUptoSaid : Prop := fnTreeMoveUptoRow.holds Tryd.pinned (OpenSpec.upto fnTreeMoveSpec)

/-- 'laws.FnTreeJoinSelf', WHERE WHAT IT READS IS OF BULK AT MOST 1048576: true; the input reads as it did. -/
def fnTreeJoinSelfUptoRow : OpenClaim := { program := "ytjihpbioofikcaadoor", sum := "6d83c024cd12b6a2080abb2e71cc4871399b624b59e7b2aa3e7251fa1395c6ec", func := "loop.example/jackstay/laws.FnTreeJoinSelf", spec := "fnTreeJoinSelf", inPlace := ["internal/bytealg.IndexByteString", "internal/bytealg.IndexString", "slices.overlaps[loop.example/jackstay/impl.Entry]"], unfollowed := true, recurses := true, named := ["unicode/utf8.first", "unicode/utf8.acceptRanges", "internal/bytealg.MaxLen"], apart := false, laid := [("unicode/utf8.acceptRanges", laid_unicode_utf8_acceptRanges), ("unicode/utf8.first", laid_unicode_utf8_first)], narrowed := true }
def FnTreeJoinSelfUptoSaid : Prop := fnTreeJoinSelfUptoRow.holds Tryd.pinned (OpenSpec.upto fnTreeJoinSelfSpec)

/-- 'laws.FnTreeJoin', WHERE WHAT IT READS IS OF BULK AT MOST 1048576: true; the input reads as it did. -/
def fnTreeJoinUptoRow : OpenClaim := { program := "ytjihpbioofikcaadoor", sum := "6d83c024cd12b6a2080abb2e71cc4871399b624b59e7b2aa3e7251fa1395c6ec", func := "loop.example/jackstay/laws.FnTreeJoin", spec := "fnTreeJoin", inPlace := ["internal/bytealg.IndexByteString", "internal/bytealg.IndexString", "slices.overlaps[loop.example/jackstay/impl.Entry]"], unfollowed := true, recurses := true, named := ["unicode/utf8.first", "unicode/utf8.acceptRanges", "internal/bytealg.MaxLen"], apart := false, laid := [("unicode/utf8.acceptRanges", laid_unicode_utf8_acceptRanges), ("unicode/utf8.first", laid_unicode_utf8_first)], narrowed := true }
def FnTreeJoinUptoSaid : Prop := fnTreeJoinUptoRow.holds Tryd.pinned (OpenSpec.upto fnTreeJoinSpec)

/-- 'laws.FnTreePart', WHERE WHAT IT READS IS OF BULK AT MOST 1048576: true; the input reads as it did. -/
def fnTreePartUptoRow : OpenClaim := { program := "ytjihpbioofikcaadoor", sum := "6d83c024cd12b6a2080abb2e71cc4871399b624b59e7b2aa3e7251fa1395c6ec", func := "loop.example/jackstay/laws.FnTreePart", spec := "fnTreePart", inPlace := ["internal/bytealg.IndexByteString", "internal/bytealg.IndexString"], unfollowed := true, recurses := true, named := ["unicode/utf8.first", "unicode/utf8.acceptRanges", "internal/bytealg.MaxLen"], apart := false, laid := [("unicode/utf8.acceptRanges", laid_unicode_utf8_acceptRanges), ("unicode/utf8.first", laid_unicode_utf8_first)], narrowed := true }
def FnTreePartUptoSaid : Prop := fnTreePartUptoRow.holds Tryd.pinned (OpenSpec.upto fnTreePartSpec)

/-- 'laws.FnTreePartRest', WHERE WHAT IT READS IS OF BULK AT MOST 1048576: true; the input reads as it did. -/
def fnTreePartRestUptoRow : OpenClaim := { program := "ytjihpbioofikcaadoor", sum := "6d83c024cd12b6a2080abb2e71cc4871399b624b59e7b2aa3e7251fa1395c6ec", func := "loop.example/jackstay/laws.FnTreePartRest", spec := "fnTreePartRest", inPlace := ["internal/bytealg.IndexByteString", "internal/bytealg.IndexString"], unfollowed := true, recurses := true, named := ["unicode/utf8.first", "unicode/utf8.acceptRanges", "internal/bytealg.MaxLen"], apart := false, laid := [("unicode/utf8.acceptRanges", laid_unicode_utf8_acceptRanges), ("unicode/utf8.first", laid_unicode_utf8_first)], narrowed := true }
def FnTreePartRestUptoSaid : Prop := fnTreePartRestUptoRow.holds Tryd.pinned (OpenSpec.upto fnTreePartRestSpec)

end Rows
end Go.Proofs.YtjihpbioofikcaaDoor
