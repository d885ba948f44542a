/-
  The walks of the functions that draw paths: whatever the code, one of a few texts.
-/
import Derived.Test.YtgccndhnpmmkfaaDoorPick
namespace Go.Proofs.YtgccndhnpmmkfaaDoor
open Go.RowKit
set_option linter.unusedVariables false

def pathsL : List (List UInt8) := [[97], [98], [97, 47, 98], [97, 47, 99], [97, 47, 98, 47, 99], [108, 105, 98], [108, 105, 98, 47, 120], [108, 105, 98, 47, 120, 46, 99], [100, 111, 99, 47, 121], [98, 105, 110], [98, 105, 110, 47, 122], [97, 47, 98, 47, 99, 47, 100, 47, 101]]
def anysL : List (List UInt8) := [[], [47], [97, 47], [47, 97], [46], [46, 46], [97, 47, 47, 98], [65], [97, 47, 98, 47, 99, 47, 100, 47, 101, 47, 102], [101, 108, 101, 118, 101, 110, 108, 101, 116, 116, 101], [97, 32, 98], [120, 47, 46, 46, 47, 121]]
def drawnL : List (List UInt8) := anysL ++ pathsL
theorem drawn_short : ∀ s ∈ drawnL, s.length ≤ 20 := by decide
def OfPost2 (ss : List (List UInt8)) (rb p : Nat) (w : World) (e : Ending) (w' : World) : Prop :=
  ∃ s, s ∈ ss ∧ e = .returned (.string (mkB s)) ∧ Rd w' rb p ∧ w.grownBy w' (some rb)

set_option maxHeartbeats 1000000 in
theorem l11Path_any (rb p : Nat) (w : World) (h : Rd w rb p) (hp : p ≤ 1073741824) :
    Calls Tryd.prog 43 #[.pointer (some ⟨rb, 0, none⟩)] w (OfPost2 pathsL rb (p + 1) w) := by
  go_enter Tryd.func43, Tryd.ntmps43
  go_wp2_with fail
  refine (of_lit rb p pathsL w h hp (by decide) (by decide)).mono ?_
  rintro e w1 ⟨s, hs, rfl, hR, hg⟩
  go_wp2
  go_ret
  exact ⟨s, hs, rfl, hR, hg⟩

set_option maxHeartbeats 1000000 in
theorem l11AnyPath_any (rb p : Nat) (w : World) (h : Rd w rb p) (hp : p ≤ 1073741823) :
    Calls Tryd.prog 35 #[.pointer (some ⟨rb, 0, none⟩)] w (OfPost2 drawnL rb (p + 2) w) := by
  go_enter Tryd.func35, Tryd.ntmps35
  go_wp2_with fail
  refine (pick_any rb p 6 w h (by omega) (by omega) (by omega)).mono ?_
  rintro e w1 ⟨v, hv, rfl, hR, hg⟩
  by_cases hv0 : v = 0
  · subst hv0
    go_wp2_with fail
    refine (of_lit rb (p + 1) anysL w1 hR (by omega) (by decide) (by decide)).mono ?_
    rintro e w2 ⟨s, hs, rfl, hR2, hg2⟩
    go_wp2
    go_ret
    exact ⟨s, List.mem_append_left _ hs, rfl, hR2, grown_trans hg hg2⟩
  · have hv1 : ((v : Int) == 0) = false := by simp; omega
    have hv0 := Lib.hid hv0
    go_wp2_with fail
    refine (l11Path_any rb (p + 1) w1 hR (by omega)).mono ?_
    rintro e w2 ⟨s, hs, rfl, hR2, hg2⟩
    go_wp2
    go_ret
    exact ⟨s, List.mem_append_right _ hs, rfl, hR2, grown_trans hg hg2⟩

def Draw1 (P : List UInt8 → Prop) (w : World) (e : Ending) (w' : World) : Prop := ∃ s, P s ∧ e = .returned (.string (mkB s)) ∧ Below w.heap.size w w'
def Draw2 (P Q : List UInt8 → Prop) (w : World) (e : Ending) (w' : World) : Prop := ∃ s t, P s ∧ Q t ∧ e = .returned (.tuple #[.string (mkB s), .string (mkB t)]) ∧ Below w.heap.size w w'
def Draw3 (P Q R : List UInt8 → Prop) (w : World) (e : Ending) (w' : World) : Prop := ∃ s t u, P s ∧ Q t ∧ R u ∧ e = .returned (.tuple #[.string (mkB s), .string (mkB t), .string (mkB u)]) ∧ Below w.heap.size w w'
theorem below_rb {w w1 w2 : World} {rb : Nat} (hB : Below w.heap.size w w1) (hr : w.heap.size ≤ rb) (hg : w1.grownBy w2 (some rb)) : Below w.heap.size w w2 :=
  hB.grown hg hB.size (fun k e => by cases e; exact hr)

set_option maxHeartbeats 1000000 in
theorem DrawPathOk_any (A : Option Addr) (n c : Nat) (w : World) (h : IsBytes w A n c) :
    Calls Tryd.prog 25 #[.slice A n c] w (Draw1 (· ∈ drawnL) w) := by
  go_enter Tryd.func25, Tryd.ntmps25
  go_wp2_with fail
  refine (l1Open_any A n c w h).mono ?_
  rintro e w1 ⟨rb, hr, rfl, hR, hB⟩
  go_wp2_with fail
  refine (l11AnyPath_any rb 0 w1 hR (by omega)).mono ?_
  rintro e w2 ⟨s, hs, rfl, hR2, hg⟩
  go_wp2
  go_ret
  exact ⟨s, hs, rfl, below_rb hB hr hg⟩
set_option maxHeartbeats 1000000 in
theorem DrawPathUp_any (A : Option Addr) (n c : Nat) (w : World) (h : IsBytes w A n c) :
    Calls Tryd.prog 24 #[.slice A n c] w (Draw1 (· ∈ drawnL) w) := by
  go_enter Tryd.func24, Tryd.ntmps24
  go_wp2_with fail
  refine (l1Open_any A n c w h).mono ?_
  rintro e w1 ⟨rb, hr, rfl, hR, hB⟩
  go_wp2_with fail
  refine (l11AnyPath_any rb 0 w1 hR (by omega)).mono ?_
  rintro e w2 ⟨s, hs, rfl, hR2, hg⟩
  go_wp2
  go_ret
  exact ⟨s, hs, rfl, below_rb hB hr hg⟩
set_option maxHeartbeats 1000000 in
theorem DrawPathIn_any (A : Option Addr) (n c : Nat) (w : World) (h : IsBytes w A n c) :
    Calls Tryd.prog 23 #[.slice A n c] w (Draw2 (· ∈ drawnL) (· ∈ drawnL) w) := by
  go_enter Tryd.func23, Tryd.ntmps23
  go_wp2_with fail
  refine (l1Open_any A n c w h).mono ?_
  rintro e w1 ⟨rb, hr, rfl, hR, hB⟩
  go_wp2_with fail
  refine (l11AnyPath_any rb 0 w1 hR (by omega)).mono ?_
  rintro e w2 ⟨s, hs, rfl, hR2, hg⟩
  go_wp2_with fail
  refine (l11AnyPath_any rb (0 + 2) w2 hR2 (by omega)).mono ?_
  rintro e w3 ⟨t, ht, rfl, hR3, hg3⟩
  go_wp2
  go_ret2
  exact ⟨s, t, hs, ht, rfl, below_rb (below_rb hB hr hg) hr hg3⟩
set_option maxHeartbeats 1000000 in
theorem DrawPathMove_any (A : Option Addr) (n c : Nat) (w : World) (h : IsBytes w A n c) :
    Calls Tryd.prog 22 #[.slice A n c] w (Draw3 (fun s => s.length ≤ 20) (fun s => s.length ≤ 20) (fun s => s.length ≤ 20) w) := by
  go_enter Tryd.func22, Tryd.ntmps22
  go_wp2_with fail
  refine (l1Open_any A n c w h).mono ?_
  rintro e w1 ⟨rb, hr, rfl, hR, hB⟩
  go_wp2_with fail
  refine (l11AnyPath_any rb 0 w1 hR (by omega)).mono ?_
  rintro e w2 ⟨s, hs, rfl, hR2, hg⟩
  go_wp2_with fail
  refine (l11AnyPath_any rb (0 + 2) w2 hR2 (by omega)).mono ?_
  rintro e w3 ⟨t, ht, rfl, hR3, hg3⟩
  go_wp2_with fail
  refine (of_lit rb (0 + 2 + 2) [[97], [97, 47, 98], [108, 105, 98], t] w3 hR3 (by omega) (by simp) (by simp)).mono ?_
  rintro e w4 ⟨u, hu, rfl, hR4, hg4⟩
  have hul : u.length ≤ 20 := by
    simp only [List.mem_cons, List.mem_nil_iff, or_false] at hu
    rcases hu with rfl | rfl | rfl | rfl
    · decide
    · decide
    · decide
    · exact drawn_short _ ht
  go_wp2_with fail
  refine (l11AnyPath_any rb (0 + 2 + 2 + 1) w4 hR4 (by omega)).mono ?_
  rintro e w5 ⟨x, hx, rfl, hR5, hg5⟩
  go_wp2
  go_ret3
  exact ⟨s, u, x, drawn_short _ hs, hul, drawn_short _ hx, rfl, below_rb (below_rb (below_rb (below_rb hB hr hg) hr hg3) hr hg4) hr hg5⟩
end Go.Proofs.YtgccndhnpmmkfaaDoor
