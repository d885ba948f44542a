/-
  Two trees are drawn.
-/
import Derived.Test.YtiknkjhdieepbaaDoorDrawX
import Derived.Test.YtiknkjhdieepbaaDoorPartS
namespace Go.Proofs.YtiknkjhdieepbaaDoor
open Go.RowKit
set_option linter.unusedVariables false
set_option linter.unusedSimpArgs false
attribute [local go_sem] mkB_size mkB_extract mkB_get mkB_append mkB_append_raw raw_append_mkB mkB_toList

def partL : List (List UInt8) := [[100, 111, 99, 47, 42, 42], [98, 105, 110, 47, 42, 42], [98, 42]]
theorem partL_short : ∀ s ∈ partL, s.length ≤ 6 := by decide
theorem dr_part {es : List En} (h : Dr16 es) (l : List UInt8) : DrT (treePart es l) := by
  refine ⟨by have := treePart_len es l; have := h.1; omega, fun e he => h.2 e ?_⟩
  cases ht : treeOk es with
  | true => rw [treePart_ok ht] at he; exact (List.mem_filter.1 he).1
  | false => rw [treePart_bad ht] at he; cases he
def DTreeTT (w : World) (e : Ending) (w' : World) : Prop := ∃ es g c fs gb cb, DrT es ∧ DrT fs ∧ e = .returned (.tuple #[.slice (some ⟨g, 0, none⟩) es.length c, .slice (some ⟨gb, 0, none⟩) fs.length cb]) ∧ OwnR w' w.heap.size g c es ∧ OwnR w' w.heap.size gb cb fs ∧ Below w.heap.size w w'
set_option maxHeartbeats 4000000 in
theorem DrawTreeJoin_any (A : Option Addr) (n c : Nat) (w : World) (h : IsBytes w A n c) :
    Calls Tryd.prog 4 #[.slice A n c] w (DTreeTT w) := by
  go_enter Tryd.func4, Tryd.ntmps4
  go_wp2_with fail
  with_reducible refine (l1Open_any A n c w h).mono ?_
  rintro e w1 ⟨rb, hr, rfl, hR, hB⟩
  have hs1 := hB.size
  have hrl := hR.lt
  go_wp2_with fail
  with_reducible refine (l11AnyTree_any rb 0 w1 (RdB.of hR) (by omega)).mono ?_
  rintro e w2 ⟨es, g, c', hT, rfl, hO, hR2, hg⟩
  have hB2 := below_gr hB hr hg
  replace hT := Lib.hid hT
  go_wp2_with fail
  with_reducible refine (pick_b rb (0 + 50) 3 w2 hR2 (by omega) (by omega) (by omega)).mono ?_
  rintro e w3 ⟨v, hv, rfl, hR3, hg3⟩
  have hO3 := Lib.hid (own_gr hO hg3 hrl)
  have hB3 := Lib.hid (below_gr hB2 hr hg3)
  have hs3 := hB3.out.size
  have hr3 := hR3.lt
  clear hO hB2
  by_cases hv0 : v = 0
  · subst hv0
    go_wp2_with fail
    with_reducible refine (l11Tree_any rb (0 + 50 + 1) w3 hR3 (by omega)).mono ?_
    rintro e w4 ⟨ts, g1, c1, hT1, rfl, hO1, hR4, hg4⟩
    have hO4 := Lib.hid (own_gr hO3.out hg4 hrl)
    have hB4 := Lib.hid (below_gr hB3.out hr hg4)
    replace hO1 := Lib.hid hO1
    replace hT1 := Lib.hid hT1
    go_wp2_with fail
    refine (of_b rb (0 + 50 + 1 + 40) partL (fun s => s.length ≤ 6) w4 hR4 (by omega) (by decide) (by decide) partL_short).mono ?_
    rintro e w5 ⟨s, hs, rfl, hR5, hg5⟩
    have hO5 := Lib.hid (own_gr hO4.out hg5 hrl)
    have hB5 := Lib.hid (below_gr hB4.out hr hg5)
    have hO1' := Lib.hid (own_gr hO1.out hg5 hr3)
    have hs5 := hB5.out.size
    have hts : Small ts := by
      have h2 : ts.length ≤ 16 ∧ ∀ e ∈ ts, DrE e := hT1.out
      exact dr_small h2.2 (by omega)
    replace hts := Lib.hid hts
    go_wp2_with fail
    with_reducible refine (specTreePart_row ts s g1 c1 w5 hO1'.out.parts.1.ents hts.out (by omega)).mono ?_
    rintro e w6 ⟨g2, c2, rfl, hP, hB6⟩
    have hO6 := Lib.hid (hO5.out.below hB6 hO5.out.lt)
    replace hP := Lib.hid hP
    go_wp2
    refine bodyPost_ret (v := .tuple #[.slice (some ⟨g, 0, none⟩) es.length c', .slice (some ⟨g2, 0, none⟩) (treePart ts s).length c2]) (by simp [results, Tryd.results4, go_sem]) rfl ?_
    exact ⟨es, g, c', treePart ts s, g2, c2, hT.out, dr_part hT1.out s, rfl, hO6.out.lower hs1, hP.out.lower hs5, hB5.out.trans (hB6.mono hs5)⟩
  · have hv1 : ((v : Int) == 0) = false := by simp; omega
    replace hv0 := Lib.hid hv0
    go_wp2_with fail
    with_reducible refine (l11AnyTree_any rb (0 + 50 + 1) w3 hR3 (by omega)).mono ?_
    rintro e w4 ⟨fs, gb, cb, hT1, rfl, hO1, hR4, hg4⟩
    have hO4 := Lib.hid (own_gr hO3.out hg4 hrl)
    have hB4 := below_gr hB3.out hr hg4
    replace hO1 := Lib.hid hO1
    go_wp2
    refine bodyPost_ret (v := .tuple #[.slice (some ⟨g, 0, none⟩) es.length c', .slice (some ⟨gb, 0, none⟩) fs.length cb]) (by simp [results, Tryd.results4, go_sem]) rfl ?_
    exact ⟨es, g, c', fs, gb, cb, hT.out, hT1, rfl, hO4.out.lower hs1, hO1.out.lower hs3, hB4⟩
end Go.Proofs.YtiknkjhdieepbaaDoor
