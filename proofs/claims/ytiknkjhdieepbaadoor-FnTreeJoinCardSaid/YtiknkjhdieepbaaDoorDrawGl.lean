/-
  The walks of the functions that draw patterns: whatever the code, one of a few texts.
-/
import Derived.Test.YtiknkjhdieepbaaDoorGC
namespace Go.Proofs.YtiknkjhdieepbaaDoor
open Go.RowKit
set_option linter.unusedVariables false

def globsA : List (List UInt8) := [[97], [42], [42, 42], [97, 47, 42], [97, 47, 42, 42], [42, 42, 47, 99], [108, 105, 98, 47, 42, 46, 99], [108, 105, 98, 47, 63], [91, 97, 98, 93], [91, 33, 97, 93, 47, 42], [98, 42], [42, 42, 47, 98, 47, 42, 42], [42, 47, 42], [100, 111, 99, 47, 42, 42], [120, 42, 121, 42, 122], [91, 97, 45, 93]]
def globsB : List (List UInt8) := [[], [47], [97, 47, 47, 98], [91], [91, 93], [91, 33, 93], [91, 97], [65], [97, 47, 98, 47, 99, 47, 100, 47, 101, 47, 102], List.replicate 41 42, List.replicate 40 42]
def globsL : List (List UInt8) := globsB ++ globsA
theorem globs_short : ∀ g ∈ globsL, g.length ≤ 41 := by decide
end Go.Proofs.YtiknkjhdieepbaaDoor
