/-
  The walks of the functions that draw paths: whatever the code, one of a few texts.
-/
import Derived.Test.YtiibodelcfmnpaaDoorPick
namespace Go.Proofs.YtiibodelcfmnpaaDoor
open Go.RowKit
set_option linter.unusedVariables false

def pathsL : List (List UInt8) := [[97], [98], [97, 47, 98], [97, 47, 99], [97, 47, 98, 47, 99], [108, 105, 98], [108, 105, 98, 47, 120], [108, 105, 98, 47, 120, 46, 99], [100, 111, 99, 47, 121], [98, 105, 110], [98, 105, 110, 47, 122], [97, 47, 98, 47, 99, 47, 100, 47, 101]]
def anysL : List (List UInt8) := [[], [47], [97, 47], [47, 97], [46], [46, 46], [97, 47, 47, 98], [65], [97, 47, 98, 47, 99, 47, 100, 47, 101, 47, 102], [101, 108, 101, 118, 101, 110, 108, 101, 116, 116, 101], [97, 32, 98], [120, 47, 46, 46, 47, 121]]
def drawnL : List (List UInt8) := anysL ++ pathsL
theorem drawn_short : ∀ s ∈ drawnL, s.length ≤ 20 := by decide
def OfPost2 (ss : List (List UInt8)) (rb p : Nat) (w : World) (e : Ending) (w' : World) : Prop :=
  ∃ s, s ∈ ss ∧ e = .returned (.string (mkB s)) ∧ Rd w' rb p ∧ w.grownBy w' (some rb)

set_option maxHeartbeats 1000000 in
theorem l11Path_any (rb p : Nat) (w : World) (h : Rd w rb p) (hp : p ≤ 1073741824) :
    Calls Tryd.prog 39 #[.pointer (some ⟨rb, 0, none⟩)] w (OfPost2 pathsL rb (p + 1) w) := by
  go_enter Tryd.func39, Tryd.ntmps39
  go_wp2_with fail
  refine (of_lit rb p pathsL w h hp (by decide) (by decide)).mono ?_
  rintro e w1 ⟨s, hs, rfl, hR, hg⟩
  go_wp2
  go_ret
  exact ⟨s, hs, rfl, hR, hg⟩

set_option maxHeartbeats 1000000 in
theorem l11AnyPath_any (rb p : Nat) (w : World) (h : Rd w rb p) (hp : p ≤ 1073741823) :
    Calls Tryd.prog 22 #[.pointer (some ⟨rb, 0, none⟩)] w (OfPost2 drawnL rb (p + 2) w) := by
  go_enter Tryd.func22, Tryd.ntmps22
  go_wp2_with fail
  refine (pick_any rb p 6 w h (by omega) (by omega) (by omega)).mono ?_
  rintro e w1 ⟨v, hv, rfl, hR, hg⟩
  by_cases hv0 : v = 0
  · subst hv0
    go_wp2_with fail
    refine (of_lit rb (p + 1) anysL w1 hR (by omega) (by decide) (by decide)).mono ?_
    rintro e w2 ⟨s, hs, rfl, hR2, hg2⟩
    go_wp2
    go_ret
    exact ⟨s, List.mem_append_left _ hs, rfl, hR2, grown_trans hg hg2⟩
  · have hv1 : ((v : Int) == 0) = false := by simp; omega
    have hv0 := Lib.hid hv0
    go_wp2_with fail
    refine (l11Path_any rb (p + 1) w1 hR (by omega)).mono ?_
    rintro e w2 ⟨s, hs, rfl, hR2, hg2⟩
    go_wp2
    go_ret
    exact ⟨s, List.mem_append_right _ hs, rfl, hR2, grown_trans hg hg2⟩

def Draw1 (P : List UInt8 → Prop) (w : World) (e : Ending) (w' : World) : Prop := ∃ s, P s ∧ e = .returned (.string (mkB s)) ∧ Below w.heap.size w w'
def Draw2 (P Q : List UInt8 → Prop) (w : World) (e : Ending) (w' : World) : Prop := ∃ s t, P s ∧ Q t ∧ e = .returned (.tuple #[.string (mkB s), .string (mkB t)]) ∧ Below w.heap.size w w'
def Draw3 (P Q R : List UInt8 → Prop) (w : World) (e : Ending) (w' : World) : Prop := ∃ s t u, P s ∧ Q t ∧ R u ∧ e = .returned (.tuple #[.string (mkB s), .string (mkB t), .string (mkB u)]) ∧ Below w.heap.size w w'
theorem below_rb {w w1 w2 : World} {rb : Nat} (hB : Below w.heap.size w w1) (hr : w.heap.size ≤ rb) (hg : w1.grownBy w2 (some rb)) : Below w.heap.size w w2 :=
  hB.grown hg hB.size (fun k e => by cases e; exact hr)

set_option maxHeartbeats 1000000 in
theorem DrawPathOk_any (A : Option Addr) (n c : Nat) (w : World) (h : IsBytes w A n c) :
    Calls Tryd.prog 11 #[.slice A n c] w (Draw1 (· ∈ drawnL) w) := by
  go_enter Tryd.func11, Tryd.ntmps11
  go_wp2_with fail
  refine (l1Open_any A n c w h).mono ?_
  rintro e w1 ⟨rb, hr, rfl, hR, hB⟩
  go_wp2_with fail
  refine (l11AnyPath_any rb 0 w1 hR (by omega)).mono ?_
  rintro e w2 ⟨s, hs, rfl, hR2, hg⟩
  go_wp2
  go_ret
  exact ⟨s, hs, rfl, below_rb hB hr hg⟩
end Go.Proofs.YtiibodelcfmnpaaDoor
