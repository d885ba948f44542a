/-
  The walks of the functions that draw paths: whatever the code, one of a few texts.
-/
import Derived.Test.YtcgnoohllfbmcaaDoorPick
namespace Go.Proofs.YtcgnoohllfbmcaaDoor
open Go.RowKit
set_option linter.unusedVariables false

def pathsL : List (List UInt8) := [[97], [98], [97, 47, 98], [97, 47, 99], [97, 47, 98, 47, 99], [108, 105, 98], [108, 105, 98, 47, 120], [108, 105, 98, 47, 120, 46, 99], [100, 111, 99, 47, 121], [98, 105, 110], [98, 105, 110, 47, 122], [97, 47, 98, 47, 99, 47, 100, 47, 101]]
def anysL : List (List UInt8) := [[], [47], [97, 47], [47, 97], [46], [46, 46], [97, 47, 47, 98], [65], [97, 47, 98, 47, 99, 47, 100, 47, 101, 47, 102], [101, 108, 101, 118, 101, 110, 108, 101, 116, 116, 101], [97, 32, 98], [120, 47, 46, 46, 47, 121]]
def drawnL : List (List UInt8) := anysL ++ pathsL
theorem drawn_short : ∀ s ∈ drawnL, s.length ≤ 20 := by decide
def OfPost2 (ss : List (List UInt8)) (rb p : Nat) (w : World) (e : Ending) (w' : World) : Prop :=
  ∃ s, s ∈ ss ∧ e = .returned (.string (mkB s)) ∧ Rd w' rb p ∧ w.grownBy w' (some rb)

def Draw1 (P : List UInt8 → Prop) (w : World) (e : Ending) (w' : World) : Prop := ∃ s, P s ∧ e = .returned (.string (mkB s)) ∧ Below w.heap.size w w'
def Draw2 (P Q : List UInt8 → Prop) (w : World) (e : Ending) (w' : World) : Prop := ∃ s t, P s ∧ Q t ∧ e = .returned (.tuple #[.string (mkB s), .string (mkB t)]) ∧ Below w.heap.size w w'
def Draw3 (P Q R : List UInt8 → Prop) (w : World) (e : Ending) (w' : World) : Prop := ∃ s t u, P s ∧ Q t ∧ R u ∧ e = .returned (.tuple #[.string (mkB s), .string (mkB t), .string (mkB u)]) ∧ Below w.heap.size w w'
theorem below_rb {w w1 w2 : World} {rb : Nat} (hB : Below w.heap.size w w1) (hr : w.heap.size ≤ rb) (hg : w1.grownBy w2 (some rb)) : Below w.heap.size w w2 :=
  hB.grown hg hB.size (fun k e => by cases e; exact hr)

end Go.Proofs.YtcgnoohllfbmcaaDoor
