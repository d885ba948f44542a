/-
  A text to be summed is drawn.
-/
import Derived.Test.YtcgnoohllfbmcaaDoorDrawP
import Derived.Test.YtcgnoohllfbmcaaDoorMany
namespace Go.Proofs.YtcgnoohllfbmcaaDoor
open Go.RowKit
set_option linter.unusedVariables false
set_option linter.unusedSimpArgs false
attribute [local go_sem] mkB_size mkB_extract mkB_append mkB_append_raw raw_append_mkB mkB_toList

def Txt (rb p : Nat) (w : World) (e : Ending) (w' : World) : Prop := ∃ s : List UInt8, s.length ≤ 80 ∧ e = .returned (.string (mkB s)) ∧ Rd w' rb p ∧ w.grownBy w' (some rb)
set_option maxHeartbeats 2000000 in
theorem l11Text_sm (rb p : Nat) (w : World) (h : Rd w rb p) (hp : p ≤ 1073741824) :
    Calls Tryd.prog 15 #[.pointer (some ⟨rb, 0, none⟩)] w (Txt rb (p + 1) w) := by
  go_enter Tryd.func15, Tryd.ntmps15
  go_wp2_with fail
  refine (l1Many_any 116 80 (by omega) _).mono ?_
  rintro e w1 ⟨rfl, rfl⟩
  obtain ⟨x, hx⟩ : ∃ x, List.replicate 80 (116 : UInt8) = x := ⟨_, rfl⟩
  have hxp : x.length ≤ 80 := by rw [← hx]; decide
  rw [hx]
  clear hx
  go_wp2_with fail
  refine (of_lit rb p [[], [111, 110, 101, 10], [111, 110, 101, 10, 116, 119, 111, 10, 116, 104, 114, 101, 101, 10], [110, 111, 32, 101, 110, 100], [97, 10, 98, 10, 99, 10, 100, 10, 101, 10, 102, 10, 103, 10], x] w h hp (by simp) (by simp)).mono ?_
  rintro e w2 ⟨s, hs, rfl, hR, hg⟩
  have hsl : s.length ≤ 80 := by
    simp only [List.mem_cons, List.mem_nil_iff, or_false] at hs
    rcases hs with rfl | rfl | rfl | rfl | rfl | rfl
    · decide
    · decide
    · decide
    · decide
    · decide
    · exact hxp
  go_wp2
  go_ret
  exact ⟨s, hsl, rfl, hR, hg⟩
set_option maxHeartbeats 2000000 in
theorem DrawSum_any (A : Option Addr) (n c : Nat) (w : World) (h : IsBytes w A n c) :
    Calls Tryd.prog 7 #[.slice A n c] w fun e w' => ∃ s : List UInt8, s.length ≤ 80 ∧ e = .returned (.string (mkB s)) ∧ Below w.heap.size w w' := by
  go_enter Tryd.func7, Tryd.ntmps7
  go_wp2_with fail
  refine (l1Open_any A n c w h).mono ?_
  rintro e w1 ⟨rb, hr, rfl, hR, hB⟩
  go_wp2_with fail
  refine (l11Text_sm rb 0 w1 hR (by omega)).mono ?_
  rintro e w2 ⟨t, ht, rfl, hR2, hg⟩
  go_wp2_with fail
  refine (l1Many_any 120 55 (by omega) _).mono ?_
  rintro e w3 ⟨rfl, rfl⟩
  obtain ⟨x, hx⟩ : ∃ x, List.replicate 55 (120 : UInt8) = x := ⟨_, rfl⟩
  have hxl : x.length ≤ 80 := by rw [← hx]; decide
  rw [hx]
  clear hx
  go_wp2_with fail
  refine (l1Many_any 120 64 (by omega) _).mono ?_
  rintro e w3 ⟨rfl, rfl⟩
  obtain ⟨y, hy⟩ : ∃ x, List.replicate 64 (120 : UInt8) = x := ⟨_, rfl⟩
  have hyl : y.length ≤ 80 := by rw [← hy]; decide
  rw [hy]
  clear hy
  go_wp2_with fail
  refine (of_lit rb (0 + 1) [[], [97, 98, 99], t, x, y] w2 hR2 (by omega) (by simp) (by simp)).mono ?_
  rintro e w4 ⟨s, hs, rfl, hR4, hg4⟩
  have hsl : s.length ≤ 80 := by
    simp only [List.mem_cons, List.mem_nil_iff, or_false] at hs
    rcases hs with rfl | rfl | rfl | rfl | rfl
    · decide
    · decide
    · exact ht
    · exact hxl
    · exact hyl
  go_wp2
  go_ret
  exact ⟨s, hsl, rfl, hB.grown (grown_trans hg hg4) hB.size (fun k hk => by cases hk; exact hr)⟩
end Go.Proofs.YtcgnoohllfbmcaaDoor
