/-
  A tree and a pattern are drawn.
-/
import Derived.Test.YtjihpbioofikcaaDoorGH
import Derived.Test.YtjihpbioofikcaaDoorDrawGl
namespace Go.Proofs.YtjihpbioofikcaaDoor
open Go.RowKit
set_option linter.unusedVariables false
set_option linter.unusedSimpArgs false
attribute [local go_sem] mkB_size mkB_extract mkB_get mkB_append mkB_append_raw raw_append_mkB mkB_toList

theorem globB (rb b : Nat) (w : World) (h : RdB w rb b) (hb : b ≤ 1000000) :
    Calls Tryd.prog 89 #[.pointer (some ⟨rb, 0, none⟩)] w fun e w' => ∃ s, s ∈ globsL ∧ e = .returned (.string (mkB s)) ∧ RdB w' rb (b + 2) ∧ w.grownBy w' (some rb) := by
  obtain ⟨p, hp, h⟩ := h
  exact (l11AnyGlob_any rb p w h (by omega)).mono fun e w' ⟨s, hs, he, hR, hg⟩ => ⟨s, hs, he, ⟨p + 2, by omega, hR⟩, hg⟩
def DTreeG (w : World) (e : Ending) (w' : World) : Prop := ∃ es g c s, DrT es ∧ s ∈ globsL ∧ e = .returned (.tuple #[.slice (some ⟨g, 0, none⟩) es.length c, .string (mkB s)]) ∧ OwnR w' w.heap.size g c es ∧ Below w.heap.size w w'
set_option maxHeartbeats 2000000 in
theorem DrawTreePart_any (A : Option Addr) (n c : Nat) (w : World) (h : IsBytes w A n c) :
    Calls Tryd.prog 50 #[.slice A n c] w (DTreeG w) := by
  go_enter Tryd.func50, Tryd.ntmps50
  go_wp2_with fail
  with_reducible refine (l1Open_any A n c w h).mono ?_
  rintro e w1 ⟨rb, hr, rfl, hR, hB⟩
  have hs1 := hB.size
  have hrl := hR.lt
  go_wp2_with fail
  with_reducible refine (l11AnyTree_any rb 0 w1 (RdB.of hR) (by omega)).mono ?_
  rintro e w2 ⟨es, g, c', hT, rfl, hO, hR2, hg⟩
  have hB2 := below_gr hB hr hg
  go_wp2_with fail
  with_reducible refine (globB rb (0 + 50) w2 hR2 (by omega)).mono ?_
  rintro e w3 ⟨s, hs, rfl, hR3, hg3⟩
  have hO3 := own_gr hO hg3 hrl
  go_wp2
  refine bodyPost_ret (v := .tuple #[.slice (some ⟨g, 0, none⟩) es.length c', .string (mkB s)]) (by simp [results, Tryd.results50, go_sem]) rfl ?_
  exact ⟨es, g, c', s, hT, hs, rfl, hO3.lower hs1, below_gr hB2 hr hg3⟩
end Go.Proofs.YtjihpbioofikcaaDoor
