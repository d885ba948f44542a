/-
  The walks of the functions that draw patterns: whatever the code, one of a few texts.
-/
import Derived.Test.YtjihpbioofikcaaDoorGC
namespace Go.Proofs.YtjihpbioofikcaaDoor
open Go.RowKit
set_option linter.unusedVariables false

def globsA : List (List UInt8) := [[97], [42], [42, 42], [97, 47, 42], [97, 47, 42, 42], [42, 42, 47, 99], [108, 105, 98, 47, 42, 46, 99], [108, 105, 98, 47, 63], [91, 97, 98, 93], [91, 33, 97, 93, 47, 42], [98, 42], [42, 42, 47, 98, 47, 42, 42], [42, 47, 42], [100, 111, 99, 47, 42, 42], [120, 42, 121, 42, 122], [91, 97, 45, 93]]
def globsB : List (List UInt8) := [[], [47], [97, 47, 47, 98], [91], [91, 93], [91, 33, 93], [91, 97], [65], [97, 47, 98, 47, 99, 47, 100, 47, 101, 47, 102], List.replicate 41 42, List.replicate 40 42]
def globsL : List (List UInt8) := globsB ++ globsA
theorem globs_short : ∀ g ∈ globsL, g.length ≤ 41 := by decide
set_option maxHeartbeats 1000000 in
theorem l11Glob_any (rb p : Nat) (w : World) (h : Rd w rb p) (hp : p ≤ 1073741824) :
    Calls Tryd.prog 118 #[.pointer (some ⟨rb, 0, none⟩)] w (OfPost2 globsA rb (p + 1) w) := by
  go_enter Tryd.func118, Tryd.ntmps118
  go_wp2_with fail
  refine (of_lit rb p globsA w h hp (by decide) (by decide)).mono ?_
  rintro e w1 ⟨s, hs, rfl, hR, hg⟩
  go_wp2
  go_ret
  exact ⟨s, hs, rfl, hR, hg⟩
set_option maxHeartbeats 1000000 in
theorem l11AnyGlob_any (rb p : Nat) (w : World) (h : Rd w rb p) (hp : p ≤ 1073741823) :
    Calls Tryd.prog 89 #[.pointer (some ⟨rb, 0, none⟩)] w (OfPost2 globsL rb (p + 2) w) := by
  have hm1 := Lib.hid (fun w => l1Many_any 42 41 (by omega) w)
  have hm2 := Lib.hid (fun w => l1Many_any 42 40 (by omega) w)
  go_enter Tryd.func89, Tryd.ntmps89
  go_wp2_with fail
  refine (pick_any rb p 6 w h (by omega) (by omega) (by omega)).mono ?_
  rintro e w1 ⟨v, hv, rfl, hR, hg⟩
  by_cases hv0 : v = 0
  · subst hv0
    go_wp2_with fail
    refine (hm1.out _).mono ?_
    rintro e w2 ⟨rfl, rfl⟩
    go_wp2_with fail
    refine (hm2.out _).mono ?_
    rintro e w2 ⟨rfl, rfl⟩
    go_wp2_with fail
    refine (of_lit rb (p + 1) globsB w1 hR (by omega) (by decide) (by decide)).mono ?_
    rintro e w2 ⟨s, hs, rfl, hR2, hg2⟩
    go_wp2
    go_ret
    exact ⟨s, List.mem_append_left _ hs, rfl, hR2, grown_trans hg hg2⟩
  · have hv1 : ((v : Int) == 0) = false := by simp; omega
    have hv0 := Lib.hid hv0
    go_wp2_with fail
    refine (l11Glob_any rb (p + 1) w1 hR (by omega)).mono ?_
    rintro e w2 ⟨s, hs, rfl, hR2, hg2⟩
    go_wp2
    go_ret
    exact ⟨s, List.mem_append_right _ hs, rfl, hR2, grown_trans hg hg2⟩
end Go.Proofs.YtjihpbioofikcaaDoor
