/-
  The walk of jsTree, at trees that are the same.
-/
import Derived.Test.YtiknkjhdieepbaaDoorLawD
import Derived.Test.YtiknkjhdieepbaaDoorResE
namespace Go.Proofs.YtiknkjhdieepbaaDoor
open Go.RowKit
set_option linter.unusedVariables false
set_option linter.unusedSimpArgs false
attribute [local go_sem] mkB_size mkB_extract mkB_get mkB_append mkB_append_raw raw_append_mkB mkB_toList

set_option maxRecDepth 1000000 in
set_option maxHeartbeats 4000000 in
theorem jsTree_ents (es : List En) (g1 g2 c1 c2 : Nat) (w : World) (hE1 : Ents w g1 es) (hE2 : Ents w g2 es) (hlen : es.length ≤ 1048576) :
    Calls Tryd.prog 7 #[.slice (some ⟨g1, 0, none⟩) es.length c1, .slice (some ⟨g2, 0, none⟩) es.length c2] w fun r w' => r = .returned (.bool true) ∧ Below w.heap.size w w' := by
  have h1 := Lib.hid hE1
  have h2 := Lib.hid hE2
  have hg1 := hE1.1
  have hg2 := hE2.1
  clear hE1 hE2
  go_enter Tryd.func7, Tryd.ntmps7
  go_wp2
  go_loopw [5] (fun i wr => ∃ k : Nat, k ≤ es.length ∧ i = .int .i64 k ∧ Below w.heap.size w wr) (fun i _ => es.length - (intOf i).toNat)
  case atStart => exact ⟨0, Nat.zero_le _, rfl, Below.refl _ _⟩
  case round =>
    obtain ⟨k, hk, rfl, hB1⟩ := hrel
    by_cases hlt : k < es.length
    · obtain ⟨c0, c1, c2, c3⟩ := (h1.out.below hB1 hg1).2 k hlt
      obtain ⟨d0, d1, d2, d3⟩ := (h2.out.below hB1 hg2).2 k hlt
      have hkI : (k : Int) < (es.length : Int) := by omega
      have hnq := neqD_cells es[k].path es[k].path es[k].kind es[k].mode es[k].kind es[k].mode es[k].text es[k].text (sameE_refl _)
      have hgd := fun op x y => guardD_cells op x y es[k].path es[k].path es[k].kind es[k].mode es[k].kind es[k].mode es[k].text es[k].text
      go_wp2_with fail
      go_region
      all_goals go_wp2
      all_goals go_round
      all_goals first
        | exact ⟨k + 1, by omega, by go_num, hB1.drew⟩
        | (simp [intOf]; omega)
    · go_wp2
      go_ret
      exact ⟨rfl, hB1⟩
set_option maxHeartbeats 1000000 in
theorem jsTree_nil (A B : Option Addr) (c d : Nat) (w : World) :
    Calls Tryd.prog 7 #[.slice A 0 c, .slice B 0 d] w fun r w' => r = .returned (.bool true) ∧ Below w.heap.size w w' := by
  go_enter Tryd.func7, Tryd.ntmps7
  go_wp2
  go_loopw [5] (fun i wr => i = .int .i64 0 ∧ w = wr) (fun i _ => 0)
  case atStart => exact ⟨rfl, rfl⟩
  case round =>
    obtain ⟨rfl, rfl⟩ := hrel
    go_wp2
    go_ret
    exact ⟨rfl, Below.refl _ _⟩
theorem jsTree_sl (es : List En) (A B : Option Addr) (c d : Nat) (w : World) (hA : SlE w A es) (hB : SlE w B es) (hlen : es.length ≤ 1048576) :
    Calls Tryd.prog 7 #[.slice A es.length c, .slice B es.length d] w fun r w' => r = .returned (.bool true) ∧ Below w.heap.size w w' := by
  by_cases he : es = []
  · subst he
    exact jsTree_nil A B c d w
  · rcases hA with h | ⟨g1, rfl, h1⟩
    · exact absurd h he
    rcases hB with h | ⟨g2, rfl, h2⟩
    · exact absurd h he
    exact jsTree_ents es g1 g2 c d w h1 h2 hlen
end Go.Proofs.YtiknkjhdieepbaaDoor
