/-
  GlobK, GlobL: merged.
-/
import Derived.Test.YtjihpbioofikcaaDoorGL
/-
  The walk of the program's namesHave.
-/
namespace Go.Proofs.YtjihpbioofikcaaDoor
open Go.RowKit
set_option linter.unusedVariables false
set_option linter.unusedSimpArgs false
attribute [local go_sem] mkB_size mkB_extract mkB_get mkB_toList

theorem HasFn.below {W W' : World} {f : Value} {ps : List Pt} (h : HasFn W f ps) (hB : Below W.heap.size W W') : HasFn W' f ps := by
  obtain ⟨gf, bs, hf, eg, hc⟩ := h
  exact ⟨gf, bs, hf, eg, fun s W'' hs hB' => hc s W'' hs (hB.trans (hB'.mono hB.size))⟩
/-- names of a pattern, as they are read, from a place on -/
def NamesRow (W : World) (g o : Nat) (ys : List (Gn × Value)) : Prop := g < W.heap.size ∧ ∀ i (h : i < ys.length), W.cell? ⟨g, o + i * 2, none⟩ = some (.bool ys[i].1.many) ∧ W.cell? ⟨g, o + (i * 2 + 1), none⟩ = some ys[i].2 ∧ HasFn W ys[i].2 ys[i].1.ps
theorem NamesRow.below {W W' : World} {g o : Nat} {ys : List (Gn × Value)} (h : NamesRow W g o ys) (hB : Below W.heap.size W W') : NamesRow W' g o ys := by
  obtain ⟨h1, h2⟩ := h
  exact ⟨Nat.lt_of_lt_of_le h1 hB.size, fun i hi => ⟨(hB.cell (p := ⟨g, o + i * 2, none⟩) h1).trans (h2 i hi).1, (hB.cell (p := ⟨g, o + (i * 2 + 1), none⟩) h1).trans (h2 i hi).2.1, (h2 i hi).2.2.below hB⟩⟩
theorem NamesRow.head {W : World} {g o : Nat} {y : Gn × Value} {ys : List (Gn × Value)} (h : NamesRow W g o (y :: ys)) : W.cell? ⟨g, o, none⟩ = some (.bool y.1.many) ∧ W.cell? ⟨g, o + 1, none⟩ = some y.2 ∧ HasFn W y.2 y.1.ps := by
  have := h.2 0 (by simp)
  simpa using this
theorem NamesRow.tail {W : World} {g o : Nat} {y : Gn × Value} {ys : List (Gn × Value)} (h : NamesRow W g o (y :: ys)) : NamesRow W g (o + 2) ys := by
  refine ⟨h.1, fun i hi => ?_⟩
  have := h.2 (i + 1) (by simp; omega)
  rw [show o + (i + 1) * 2 = o + 2 + i * 2 by omega, show o + ((i + 1) * 2 + 1) = o + 2 + (i * 2 + 1) by omega] at this
  simpa using this
theorem NamesRow.nil {W : World} {g : Nat} (hg : g < W.heap.size) (o : Nat) : NamesRow W g o [] := ⟨hg, fun i hi => by simp at hi⟩
theorem cellsN_at : ∀ (xs : List (Gn × Value)) (i : Nat) (h : i < xs.length), (cellsN xs)[i * 2]? = some (.bool xs[i].1.many) ∧ (cellsN xs)[i * 2 + 1]? = some xs[i].2
  | x :: xs, 0, _ => by simp [cellsN]
  | x :: xs, i + 1, h => by
    have ih := cellsN_at xs i (by simpa using h)
    have e : cellsN (x :: xs) = .bool x.1.many :: x.2 :: cellsN xs := by simp [cellsN]
    rw [e, show (i + 1) * 2 = i * 2 + 1 + 1 by omega, show i * 2 + 1 + 1 + 1 = (i * 2 + 1) + 1 + 1 by omega]
    simpa using ih
theorem NamesRow.own {W : World} {lo lo2 g cap : Nat} {xs : List (Gn × Value)} (h : W.ownsRow lo 112 2 (.slice (some ⟨g, 0, none⟩) xs.length cap) xs.length (cellsN xs)) (hT : HasAll lo2 W xs) : NamesRow W g 0 xs ∧ xs.length ≤ cap := by
  obtain ⟨hl, h | ⟨g', cap', cur, hv, hb, hh, hn, hm, hs, ht⟩⟩ := h
  · cases h.1
  · cases hv
    refine ⟨⟨(Array.getElem?_eq_some_iff.1 hh).1, fun i hi => ?_⟩, hn⟩
    obtain ⟨c0, c1⟩ := cellsN_at xs i hi
    rw [cell_of_row _ _ _ _ _ _ hh, cell_of_row _ _ _ _ _ _ hh]
    rw [← ht, List.getElem?_take_of_lt (by omega)] at c0 c1
    rw [← Array.getElem?_toList, ← Array.getElem?_toList]
    simp only [Nat.zero_add]
    exact ⟨c0, c1, has_fn (hT _ (List.getElem_mem hi))⟩
def Grows (b : Bool) (w : World) (e : Ending) (w' : World) : Prop := e = .returned (.bool b) ∧ Below w.heap.size w w'
theorem StrsAt.belowW {w w' : World} {g o : Nat} {l : List (List UInt8)} (h : StrsAt w g o l) (hg : g < w.heap.size) (hB : Below w.heap.size w w') : StrsAt w' g o l := h.below hB hg
set_option maxRecDepth 1000000 in
set_option maxHeartbeats 8000000 in
theorem namesHave_yes00 (b : Bool) (x d : List UInt8) (gf : Nat) (bs : Array Value) (g o c g' o' c' n m : Nat) (w : World) (eg : ∀ args w, (callFunc gf args).run Tryd.prog w = .ok (.enter gf args) w)
    (q2 : w.cell? ⟨g, o, none⟩ = some (.bool false)) (q0 : w.cell? ⟨g, o + 1, none⟩ = some (.func (.func gf) #[] bs)) (q1 : w.cell? ⟨g', o', none⟩ = some (.string (mkB d))) (hgl : g < w.heap.size) (hgl' : g' < w.heap.size)
    (hc : ¬ c = 1) (hc0 : n + 1 ≤ c) (hc' : ¬ c' = 1) (hc0' : m + 1 ≤ c') (hn : n ≤ 2097152) (hm : m ≤ 2097152)
    (hcl : ∀ W', Below w.heap.size w W' → Calls Tryd.prog gf (#[.string (mkB d)] ++ bs) W' (Grows true W'))
    (hnx : ∀ W', Below w.heap.size w W' → Calls Tryd.prog 91 #[.slice (some ⟨g, o + 2, none⟩) n (c - 1), .slice (some ⟨g', o' + 1, none⟩) m (c' - 1)] W' (Grows b W')) :
    Calls Tryd.prog 91 #[.slice (some ⟨g, o, none⟩) (n + 1) c, .slice (some ⟨g', o', none⟩) (m + 1) c'] w (Grows b w) := by
  have hlI : (0 : Int) < (m : Int) + 1 := by omega
  have hlI2 : decide ((0 : Int) < (m : Int) + 1) = true := by simp
  replace hcl := Lib.hid hcl
  have hnI : (1 : Int) ≤ (n : Int) + 1 := by omega
  have hmI : (1 : Int) ≤ (m : Int) + 1 := by omega
  replace hnx := Lib.hid hnx
  go_enter Tryd.func91, Tryd.ntmps91
  go_wp2_with fail
  first | refine wp_region_noPanic ?_ | skip
  refine wp_region_held_drew (S := (fun W' => W'.cell? ⟨g, o + 1, none⟩ = some (.func (.func gf) #[] bs) ∧ W'.cell? ⟨g', o', none⟩ = some (.string (mkB d)))) (by kernel_rfl) ?_ (fun hHeld => ?_)
  · exact ⟨q0, q1⟩
  refine wpAnyH_take (i := 0) (v := ?_) rfl (by kernel_rfl) (by kernel_rfl) (by kernel_rfl) (fun _ _ _ h => h) (Or.inl ⟨by rfl, ?_⟩) (by assumption) ?_
  rotate_left
  · (intro w hSw; (try dsimp only at hSw); go_simp; try with_reducible rfl)
  try simp only [Array.reduceGetElem, Act.put, List.setIfInBounds_toArray, List.set_cons_zero, List.set_cons_succ]
  refine wpAnyH_take (i := 1) (v := ?_) rfl (by kernel_rfl) (by kernel_rfl) (by kernel_rfl) (fun _ _ _ h => h) (Or.inl ⟨by rfl, ?_⟩) (by assumption) ?_
  rotate_left
  · (intro w hSw; (try dsimp only at hSw); go_simp; try with_reducible rfl)
  try simp only [Array.reduceGetElem, Act.put, List.setIfInBounds_toArray, List.set_cons_zero, List.set_cons_succ]
  refine wpAnyH_take (i := 2) (v := ?_) rfl (by kernel_rfl) (by kernel_rfl) (by kernel_rfl) (fun _ _ _ h => h) (Or.inl ⟨by rfl, ?_⟩) (by assumption) ?_
  rotate_left
  · (intro w hSw; (try dsimp only at hSw); go_simp; try with_reducible rfl)
  try simp only [Array.reduceGetElem, Act.put, List.setIfInBounds_toArray, List.set_cons_zero, List.set_cons_succ]
  refine wpAnyH_take (i := 3) (v := ?_) rfl (by kernel_rfl) (by kernel_rfl) (by kernel_rfl) (fun _ _ _ h => h) (Or.inl ⟨by rfl, ?_⟩) (by assumption) ?_
  rotate_left
  · (intro w hSw; (try dsimp only at hSw); go_simp; try with_reducible rfl)
  try simp only [Array.reduceGetElem, Act.put, List.setIfInBounds_toArray, List.set_cons_zero, List.set_cons_succ]
  refine wpAnyH_take (i := 4) (v := ?_) rfl (by kernel_rfl) (by kernel_rfl) (by kernel_rfl) (fun _ _ _ h => h) (Or.inl ⟨by rfl, ?_⟩) (by assumption) ?_
  rotate_left
  · (intro w hSw; (try dsimp only at hSw); go_simp; try with_reducible rfl)
  try simp only [Array.reduceGetElem, Act.put, List.setIfInBounds_toArray, List.set_cons_zero, List.set_cons_succ]
  refine wpAnyH_take (i := 5) (v := ?_) rfl (by kernel_rfl) (by kernel_rfl) (by kernel_rfl) (fun _ _ _ h => h) (Or.inl ⟨by rfl, ?_⟩) (by assumption) ?_
  rotate_left
  · (intro w hSw; (try dsimp only at hSw); go_simp; try with_reducible rfl)
  try simp only [Array.reduceGetElem, Act.put, List.setIfInBounds_toArray, List.set_cons_zero, List.set_cons_succ]
  refine wpAnyH_take (i := 6) (v := ?_) rfl (by kernel_rfl) (by kernel_rfl) (by kernel_rfl) (fun _ _ _ h => h) (Or.inl ⟨by rfl, ?_⟩) (by assumption) ?_
  rotate_left
  · (intro w hSw; (try dsimp only at hSw); go_simp; try with_reducible rfl)
  try simp only [Array.reduceGetElem, Act.put, List.setIfInBounds_toArray, List.set_cons_zero, List.set_cons_succ]
  refine wpAnyH_take (i := 7) (v := ?_) rfl (by kernel_rfl) (by kernel_rfl) (by kernel_rfl) (fun _ _ _ h => h) (Or.inl ⟨by rfl, ?_⟩) (by assumption) ?_
  rotate_left
  · (intro w hSw; (try dsimp only at hSw); go_simp; try with_reducible rfl)
  try simp only [Array.reduceGetElem, Act.put, List.setIfInBounds_toArray, List.set_cons_zero, List.set_cons_succ]
  refine wpAnyH_take (i := 8) (v := ?_) rfl (by kernel_rfl) (by kernel_rfl) (by kernel_rfl) (fun _ _ _ h => h) (Or.inl ⟨by rfl, ?_⟩) (by assumption) ?_
  rotate_left
  · (intro w hSw; (try dsimp only at hSw); go_simp; try with_reducible rfl)
  try simp only [Array.reduceGetElem, Act.put, List.setIfInBounds_toArray, List.set_cons_zero, List.set_cons_succ]
  refine wpAnyH_take (i := 9) (v := ?_) rfl (by kernel_rfl) (by kernel_rfl) (by kernel_rfl) (fun _ _ _ h => h) (Or.inl ⟨by rfl, ?_⟩) (by assumption) ?_
  rotate_left
  · (intro w hSw; (try dsimp only at hSw); go_simp; try with_reducible rfl)
  try simp only [Array.reduceGetElem, Act.put, List.setIfInBounds_toArray, List.set_cons_zero, List.set_cons_succ]
  refine wpAnyH_take (i := 10) (v := ?_) rfl (by kernel_rfl) (by kernel_rfl) (by kernel_rfl) (fun _ _ _ h => h) (Or.inl ⟨by rfl, ?_⟩) (by assumption) ?_
  rotate_left
  · (intro w hSw; (try dsimp only at hSw); go_simp; try with_reducible rfl)
  try simp only [Array.reduceGetElem, Act.put, List.setIfInBounds_toArray, List.set_cons_zero, List.set_cons_succ]
  refine wpAnyH_ready (rs := [11]) (by kernel_rfl) (by simp) ?_
  refine AllReadyH.cons rfl (fun K hK => ?_) AllReadyH.nil
  go_simp
  refine (hcl.out w.drew ⟨rfl, rfl, rfl, Nat.le_refl _, fun _ _ => rfl⟩).mono ?_
  rintro e W3 ⟨rfl, hB3⟩
  refine hK.out _ _ ?_ (fun hHeld => ?_)
  · (try dsimp only); first | exact ⟨q0, q1⟩ | exact ⟨(hB3.cell (p := ⟨g, o + 1, none⟩) hgl).trans q0, (hB3.cell (p := ⟨g', o', none⟩) hgl').trans q1⟩ | exact ⟨(hB4.cell (p := ⟨g, o + 1, none⟩) hgl).trans q0, (hB4.cell (p := ⟨g', o', none⟩) hgl').trans q1⟩
  clear hK K
  try simp only [Array.reduceGetElem, Act.put, List.setIfInBounds_toArray, List.set_cons_zero, List.set_cons_succ]
  refine wpAnyH_take (i := 12) (v := ?_) rfl (by kernel_rfl) (by kernel_rfl) (by kernel_rfl) (fun _ _ _ h => h) (Or.inl ⟨by rfl, ?_⟩) (by assumption) ?_
  rotate_left
  · (intro w hSw; (try dsimp only at hSw); go_simp; try with_reducible rfl)
  try simp only [Array.reduceGetElem, Act.put, List.setIfInBounds_toArray, List.set_cons_zero, List.set_cons_succ]
  refine wpAnyH_take (i := 13) (v := ?_) rfl (by kernel_rfl) (by kernel_rfl) (by kernel_rfl) (fun _ _ _ h => h) (Or.inl ⟨by rfl, ?_⟩) (by assumption) ?_
  rotate_left
  · (intro w hSw; (try dsimp only at hSw); go_simp; try with_reducible rfl)
  try simp only [Array.reduceGetElem, Act.put, List.setIfInBounds_toArray, List.set_cons_zero, List.set_cons_succ]
  refine wpAnyH_take (i := 14) (v := ?_) rfl (by kernel_rfl) (by kernel_rfl) (by kernel_rfl) (fun _ _ _ h => h) (Or.inl ⟨by rfl, ?_⟩) (by assumption) ?_
  rotate_left
  · (intro w hSw; (try dsimp only at hSw); go_simp; try with_reducible rfl)
  try simp only [Array.reduceGetElem, Act.put, List.setIfInBounds_toArray, List.set_cons_zero, List.set_cons_succ]
  refine wpAnyH_take (i := 15) (v := ?_) rfl (by kernel_rfl) (by kernel_rfl) (by kernel_rfl) (fun _ _ _ h => h) (Or.inl ⟨by rfl, ?_⟩) (by assumption) ?_
  rotate_left
  · (intro w hSw; (try dsimp only at hSw); go_simp; try with_reducible rfl)
  try simp only [Array.reduceGetElem, Act.put, List.setIfInBounds_toArray, List.set_cons_zero, List.set_cons_succ]
  refine wpAnyH_take (i := 16) (v := ?_) rfl (by kernel_rfl) (by kernel_rfl) (by kernel_rfl) (fun _ _ _ h => h) (Or.inl ⟨by rfl, ?_⟩) (by assumption) ?_
  rotate_left
  · (intro w hSw; (try dsimp only at hSw); go_simp; try with_reducible rfl)
  try simp only [Array.reduceGetElem, Act.put, List.setIfInBounds_toArray, List.set_cons_zero, List.set_cons_succ]
  refine wpAnyH_take (i := 17) (v := ?_) rfl (by kernel_rfl) (by kernel_rfl) (by kernel_rfl) (fun _ _ _ h => h) (Or.inl ⟨by rfl, ?_⟩) (by assumption) ?_
  rotate_left
  · (intro w hSw; (try dsimp only at hSw); go_simp; try with_reducible rfl)
  try simp only [Array.reduceGetElem, Act.put, List.setIfInBounds_toArray, List.set_cons_zero, List.set_cons_succ]
  refine wpAnyH_ready (rs := [18]) (by kernel_rfl) (by simp) ?_
  refine AllReadyH.cons rfl (fun K hK => ?_) AllReadyH.nil
  go_simp
  refine (hnx.out _ (Below.trans (⟨rfl, rfl, rfl, Nat.le_refl _, fun _ _ => rfl⟩ : Below w.heap.size w w.drew) hB3)).mono ?_
  rintro e W4 ⟨rfl, hB4'⟩
  have hB4 := hB3.trans (hB4'.mono hB3.size)
  refine hK.out _ _ ?_ (fun hHeld => ?_)
  · (try dsimp only); first | exact ⟨q0, q1⟩ | exact ⟨(hB3.cell (p := ⟨g, o + 1, none⟩) hgl).trans q0, (hB3.cell (p := ⟨g', o', none⟩) hgl').trans q1⟩ | exact ⟨(hB4.cell (p := ⟨g, o + 1, none⟩) hgl).trans q0, (hB4.cell (p := ⟨g', o', none⟩) hgl').trans q1⟩
  clear hK K
  try simp only [Array.reduceGetElem, Act.put, List.setIfInBounds_toArray, List.set_cons_zero, List.set_cons_succ]
  refine wpAnyH_take (i := 19) (v := ?_) rfl (by kernel_rfl) (by kernel_rfl) (by kernel_rfl) (fun _ _ _ h => h) (Or.inl ⟨by rfl, ?_⟩) (by assumption) ?_
  rotate_left
  · (intro w hSw; (try dsimp only at hSw); go_simp; try with_reducible rfl)
  try simp only [Array.reduceGetElem, Act.put, List.setIfInBounds_toArray, List.set_cons_zero, List.set_cons_succ]
  refine wpAnyH_take (i := 20) (v := ?_) rfl (by kernel_rfl) (by kernel_rfl) (by kernel_rfl) (fun _ _ _ h => h) (Or.inl ⟨by rfl, ?_⟩) (by assumption) ?_
  rotate_left
  · (intro w hSw; (try dsimp only at hSw); go_simp; try with_reducible rfl)
  try simp only [Array.reduceGetElem, Act.put, List.setIfInBounds_toArray, List.set_cons_zero, List.set_cons_succ]
  refine wpAnyH_done (by kernel_rfl) ?_ _
  try refine NoPanic.normal ?_
  (try dsimp only)
  go_wp2
  go_ret
  exact ⟨rfl, Below.trans (⟨rfl, rfl, rfl, Nat.le_refl _, fun _ _ => rfl⟩ : Below w.heap.size w w.drew) hB4⟩
set_option maxRecDepth 1000000 in
set_option maxHeartbeats 8000000 in
theorem namesHave_yes01 (b : Bool) (x d : List UInt8) (gf : Nat) (bs : Array Value) (g o c g' o' n m : Nat) (w : World) (eg : ∀ args w, (callFunc gf args).run Tryd.prog w = .ok (.enter gf args) w)
    (q2 : w.cell? ⟨g, o, none⟩ = some (.bool false)) (q0 : w.cell? ⟨g, o + 1, none⟩ = some (.func (.func gf) #[] bs)) (q1 : w.cell? ⟨g', o', none⟩ = some (.string (mkB d))) (hgl : g < w.heap.size) (hgl' : g' < w.heap.size)
    (hc : ¬ c = 1) (hc0 : n + 1 ≤ c) (hm0 : m = 0) (hn : n ≤ 2097152) (hm : m ≤ 2097152)
    (hcl : ∀ W', Below w.heap.size w W' → Calls Tryd.prog gf (#[.string (mkB d)] ++ bs) W' (Grows true W'))
    (hnx : ∀ W', Below w.heap.size w W' → Calls Tryd.prog 91 #[.slice (some ⟨g, o + 2, none⟩) n (c - 1), .slice (some ⟨g', o', none⟩) m 0] W' (Grows b W')) :
    Calls Tryd.prog 91 #[.slice (some ⟨g, o, none⟩) (n + 1) c, .slice (some ⟨g', o', none⟩) (m + 1) 1] w (Grows b w) := by
  have hlI : (0 : Int) < (m : Int) + 1 := by omega
  have hlI2 : decide ((0 : Int) < (m : Int) + 1) = true := by simp
  replace hcl := Lib.hid hcl
  replace hm0 := Lib.hid hm0
  have hnI : (1 : Int) ≤ (n : Int) + 1 := by omega
  have hmI : (1 : Int) ≤ (m : Int) + 1 := by omega
  replace hnx := Lib.hid hnx
  go_enter Tryd.func91, Tryd.ntmps91
  go_wp2_with fail
  first | refine wp_region_noPanic ?_ | skip
  refine wp_region_held_drew (S := (fun W' => W'.cell? ⟨g, o + 1, none⟩ = some (.func (.func gf) #[] bs) ∧ W'.cell? ⟨g', o', none⟩ = some (.string (mkB d)))) (by kernel_rfl) ?_ (fun hHeld => ?_)
  · exact ⟨q0, q1⟩
  refine wpAnyH_take (i := 0) (v := ?_) rfl (by kernel_rfl) (by kernel_rfl) (by kernel_rfl) (fun _ _ _ h => h) (Or.inl ⟨by rfl, ?_⟩) (by assumption) ?_
  rotate_left
  · (intro w hSw; (try dsimp only at hSw); go_simp; try with_reducible rfl)
  try simp only [Array.reduceGetElem, Act.put, List.setIfInBounds_toArray, List.set_cons_zero, List.set_cons_succ]
  refine wpAnyH_take (i := 1) (v := ?_) rfl (by kernel_rfl) (by kernel_rfl) (by kernel_rfl) (fun _ _ _ h => h) (Or.inl ⟨by rfl, ?_⟩) (by assumption) ?_
  rotate_left
  · (intro w hSw; (try dsimp only at hSw); go_simp; try with_reducible rfl)
  try simp only [Array.reduceGetElem, Act.put, List.setIfInBounds_toArray, List.set_cons_zero, List.set_cons_succ]
  refine wpAnyH_take (i := 2) (v := ?_) rfl (by kernel_rfl) (by kernel_rfl) (by kernel_rfl) (fun _ _ _ h => h) (Or.inl ⟨by rfl, ?_⟩) (by assumption) ?_
  rotate_left
  · (intro w hSw; (try dsimp only at hSw); go_simp; try with_reducible rfl)
  try simp only [Array.reduceGetElem, Act.put, List.setIfInBounds_toArray, List.set_cons_zero, List.set_cons_succ]
  refine wpAnyH_take (i := 3) (v := ?_) rfl (by kernel_rfl) (by kernel_rfl) (by kernel_rfl) (fun _ _ _ h => h) (Or.inl ⟨by rfl, ?_⟩) (by assumption) ?_
  rotate_left
  · (intro w hSw; (try dsimp only at hSw); go_simp; try with_reducible rfl)
  try simp only [Array.reduceGetElem, Act.put, List.setIfInBounds_toArray, List.set_cons_zero, List.set_cons_succ]
  refine wpAnyH_take (i := 4) (v := ?_) rfl (by kernel_rfl) (by kernel_rfl) (by kernel_rfl) (fun _ _ _ h => h) (Or.inl ⟨by rfl, ?_⟩) (by assumption) ?_
  rotate_left
  · (intro w hSw; (try dsimp only at hSw); go_simp; try with_reducible rfl)
  try simp only [Array.reduceGetElem, Act.put, List.setIfInBounds_toArray, List.set_cons_zero, List.set_cons_succ]
  refine wpAnyH_take (i := 5) (v := ?_) rfl (by kernel_rfl) (by kernel_rfl) (by kernel_rfl) (fun _ _ _ h => h) (Or.inl ⟨by rfl, ?_⟩) (by assumption) ?_
  rotate_left
  · (intro w hSw; (try dsimp only at hSw); go_simp; try with_reducible rfl)
  try simp only [Array.reduceGetElem, Act.put, List.setIfInBounds_toArray, List.set_cons_zero, List.set_cons_succ]
  refine wpAnyH_take (i := 6) (v := ?_) rfl (by kernel_rfl) (by kernel_rfl) (by kernel_rfl) (fun _ _ _ h => h) (Or.inl ⟨by rfl, ?_⟩) (by assumption) ?_
  rotate_left
  · (intro w hSw; (try dsimp only at hSw); go_simp; try with_reducible rfl)
  try simp only [Array.reduceGetElem, Act.put, List.setIfInBounds_toArray, List.set_cons_zero, List.set_cons_succ]
  refine wpAnyH_take (i := 7) (v := ?_) rfl (by kernel_rfl) (by kernel_rfl) (by kernel_rfl) (fun _ _ _ h => h) (Or.inl ⟨by rfl, ?_⟩) (by assumption) ?_
  rotate_left
  · (intro w hSw; (try dsimp only at hSw); go_simp; try with_reducible rfl)
  try simp only [Array.reduceGetElem, Act.put, List.setIfInBounds_toArray, List.set_cons_zero, List.set_cons_succ]
  refine wpAnyH_take (i := 8) (v := ?_) rfl (by kernel_rfl) (by kernel_rfl) (by kernel_rfl) (fun _ _ _ h => h) (Or.inl ⟨by rfl, ?_⟩) (by assumption) ?_
  rotate_left
  · (intro w hSw; (try dsimp only at hSw); go_simp; try with_reducible rfl)
  try simp only [Array.reduceGetElem, Act.put, List.setIfInBounds_toArray, List.set_cons_zero, List.set_cons_succ]
  refine wpAnyH_take (i := 9) (v := ?_) rfl (by kernel_rfl) (by kernel_rfl) (by kernel_rfl) (fun _ _ _ h => h) (Or.inl ⟨by rfl, ?_⟩) (by assumption) ?_
  rotate_left
  · (intro w hSw; (try dsimp only at hSw); go_simp; try with_reducible rfl)
  try simp only [Array.reduceGetElem, Act.put, List.setIfInBounds_toArray, List.set_cons_zero, List.set_cons_succ]
  refine wpAnyH_take (i := 10) (v := ?_) rfl (by kernel_rfl) (by kernel_rfl) (by kernel_rfl) (fun _ _ _ h => h) (Or.inl ⟨by rfl, ?_⟩) (by assumption) ?_
  rotate_left
  · (intro w hSw; (try dsimp only at hSw); go_simp; try with_reducible rfl)
  try simp only [Array.reduceGetElem, Act.put, List.setIfInBounds_toArray, List.set_cons_zero, List.set_cons_succ]
  refine wpAnyH_ready (rs := [11]) (by kernel_rfl) (by simp) ?_
  refine AllReadyH.cons rfl (fun K hK => ?_) AllReadyH.nil
  go_simp
  refine (hcl.out w.drew ⟨rfl, rfl, rfl, Nat.le_refl _, fun _ _ => rfl⟩).mono ?_
  rintro e W3 ⟨rfl, hB3⟩
  refine hK.out _ _ ?_ (fun hHeld => ?_)
  · (try dsimp only); first | exact ⟨q0, q1⟩ | exact ⟨(hB3.cell (p := ⟨g, o + 1, none⟩) hgl).trans q0, (hB3.cell (p := ⟨g', o', none⟩) hgl').trans q1⟩ | exact ⟨(hB4.cell (p := ⟨g, o + 1, none⟩) hgl).trans q0, (hB4.cell (p := ⟨g', o', none⟩) hgl').trans q1⟩
  clear hK K
  try simp only [Array.reduceGetElem, Act.put, List.setIfInBounds_toArray, List.set_cons_zero, List.set_cons_succ]
  refine wpAnyH_take (i := 12) (v := ?_) rfl (by kernel_rfl) (by kernel_rfl) (by kernel_rfl) (fun _ _ _ h => h) (Or.inl ⟨by rfl, ?_⟩) (by assumption) ?_
  rotate_left
  · (intro w hSw; (try dsimp only at hSw); go_simp; try with_reducible rfl)
  try simp only [Array.reduceGetElem, Act.put, List.setIfInBounds_toArray, List.set_cons_zero, List.set_cons_succ]
  refine wpAnyH_take (i := 13) (v := ?_) rfl (by kernel_rfl) (by kernel_rfl) (by kernel_rfl) (fun _ _ _ h => h) (Or.inl ⟨by rfl, ?_⟩) (by assumption) ?_
  rotate_left
  · (intro w hSw; (try dsimp only at hSw); go_simp; try with_reducible rfl)
  try simp only [Array.reduceGetElem, Act.put, List.setIfInBounds_toArray, List.set_cons_zero, List.set_cons_succ]
  refine wpAnyH_take (i := 14) (v := ?_) rfl (by kernel_rfl) (by kernel_rfl) (by kernel_rfl) (fun _ _ _ h => h) (Or.inl ⟨by rfl, ?_⟩) (by assumption) ?_
  rotate_left
  · (intro w hSw; (try dsimp only at hSw); go_simp; try with_reducible rfl)
  try simp only [Array.reduceGetElem, Act.put, List.setIfInBounds_toArray, List.set_cons_zero, List.set_cons_succ]
  refine wpAnyH_take (i := 15) (v := ?_) rfl (by kernel_rfl) (by kernel_rfl) (by kernel_rfl) (fun _ _ _ h => h) (Or.inl ⟨by rfl, ?_⟩) (by assumption) ?_
  rotate_left
  · (intro w hSw; (try dsimp only at hSw); go_simp; try with_reducible rfl)
  try simp only [Array.reduceGetElem, Act.put, List.setIfInBounds_toArray, List.set_cons_zero, List.set_cons_succ]
  refine wpAnyH_take (i := 16) (v := ?_) rfl (by kernel_rfl) (by kernel_rfl) (by kernel_rfl) (fun _ _ _ h => h) (Or.inl ⟨by rfl, ?_⟩) (by assumption) ?_
  rotate_left
  · (intro w hSw; (try dsimp only at hSw); go_simp; try with_reducible rfl)
  try simp only [Array.reduceGetElem, Act.put, List.setIfInBounds_toArray, List.set_cons_zero, List.set_cons_succ]
  refine wpAnyH_take (i := 17) (v := ?_) rfl (by kernel_rfl) (by kernel_rfl) (by kernel_rfl) (fun _ _ _ h => h) (Or.inl ⟨by rfl, ?_⟩) (by assumption) ?_
  rotate_left
  · (intro w hSw; (try dsimp only at hSw); go_simp; try with_reducible rfl)
  try simp only [Array.reduceGetElem, Act.put, List.setIfInBounds_toArray, List.set_cons_zero, List.set_cons_succ]
  refine wpAnyH_ready (rs := [18]) (by kernel_rfl) (by simp) ?_
  refine AllReadyH.cons rfl (fun K hK => ?_) AllReadyH.nil
  go_simp
  refine (hnx.out _ (Below.trans (⟨rfl, rfl, rfl, Nat.le_refl _, fun _ _ => rfl⟩ : Below w.heap.size w w.drew) hB3)).mono ?_
  rintro e W4 ⟨rfl, hB4'⟩
  have hB4 := hB3.trans (hB4'.mono hB3.size)
  refine hK.out _ _ ?_ (fun hHeld => ?_)
  · (try dsimp only); first | exact ⟨q0, q1⟩ | exact ⟨(hB3.cell (p := ⟨g, o + 1, none⟩) hgl).trans q0, (hB3.cell (p := ⟨g', o', none⟩) hgl').trans q1⟩ | exact ⟨(hB4.cell (p := ⟨g, o + 1, none⟩) hgl).trans q0, (hB4.cell (p := ⟨g', o', none⟩) hgl').trans q1⟩
  clear hK K
  try simp only [Array.reduceGetElem, Act.put, List.setIfInBounds_toArray, List.set_cons_zero, List.set_cons_succ]
  refine wpAnyH_take (i := 19) (v := ?_) rfl (by kernel_rfl) (by kernel_rfl) (by kernel_rfl) (fun _ _ _ h => h) (Or.inl ⟨by rfl, ?_⟩) (by assumption) ?_
  rotate_left
  · (intro w hSw; (try dsimp only at hSw); go_simp; try with_reducible rfl)
  try simp only [Array.reduceGetElem, Act.put, List.setIfInBounds_toArray, List.set_cons_zero, List.set_cons_succ]
  refine wpAnyH_take (i := 20) (v := ?_) rfl (by kernel_rfl) (by kernel_rfl) (by kernel_rfl) (fun _ _ _ h => h) (Or.inl ⟨by rfl, ?_⟩) (by assumption) ?_
  rotate_left
  · (intro w hSw; (try dsimp only at hSw); go_simp; try with_reducible rfl)
  try simp only [Array.reduceGetElem, Act.put, List.setIfInBounds_toArray, List.set_cons_zero, List.set_cons_succ]
  refine wpAnyH_done (by kernel_rfl) ?_ _
  try refine NoPanic.normal ?_
  (try dsimp only)
  go_wp2
  go_ret
  exact ⟨rfl, Below.trans (⟨rfl, rfl, rfl, Nat.le_refl _, fun _ _ => rfl⟩ : Below w.heap.size w w.drew) hB4⟩
set_option maxRecDepth 1000000 in
set_option maxHeartbeats 8000000 in
theorem namesHave_yes10 (b : Bool) (x d : List UInt8) (gf : Nat) (bs : Array Value) (g o g' o' c' n m : Nat) (w : World) (eg : ∀ args w, (callFunc gf args).run Tryd.prog w = .ok (.enter gf args) w)
    (q2 : w.cell? ⟨g, o, none⟩ = some (.bool false)) (q0 : w.cell? ⟨g, o + 1, none⟩ = some (.func (.func gf) #[] bs)) (q1 : w.cell? ⟨g', o', none⟩ = some (.string (mkB d))) (hgl : g < w.heap.size) (hgl' : g' < w.heap.size)
    (hn0 : n = 0) (hc' : ¬ c' = 1) (hc0' : m + 1 ≤ c') (hn : n ≤ 2097152) (hm : m ≤ 2097152)
    (hcl : ∀ W', Below w.heap.size w W' → Calls Tryd.prog gf (#[.string (mkB d)] ++ bs) W' (Grows true W'))
    (hnx : ∀ W', Below w.heap.size w W' → Calls Tryd.prog 91 #[.slice (some ⟨g, o, none⟩) n 0, .slice (some ⟨g', o' + 1, none⟩) m (c' - 1)] W' (Grows b W')) :
    Calls Tryd.prog 91 #[.slice (some ⟨g, o, none⟩) (n + 1) 1, .slice (some ⟨g', o', none⟩) (m + 1) c'] w (Grows b w) := by
  have hlI : (0 : Int) < (m : Int) + 1 := by omega
  have hlI2 : decide ((0 : Int) < (m : Int) + 1) = true := by simp
  replace hcl := Lib.hid hcl
  replace hn0 := Lib.hid hn0
  have hnI : (1 : Int) ≤ (n : Int) + 1 := by omega
  have hmI : (1 : Int) ≤ (m : Int) + 1 := by omega
  replace hnx := Lib.hid hnx
  go_enter Tryd.func91, Tryd.ntmps91
  go_wp2_with fail
  first | refine wp_region_noPanic ?_ | skip
  refine wp_region_held_drew (S := (fun W' => W'.cell? ⟨g, o + 1, none⟩ = some (.func (.func gf) #[] bs) ∧ W'.cell? ⟨g', o', none⟩ = some (.string (mkB d)))) (by kernel_rfl) ?_ (fun hHeld => ?_)
  · exact ⟨q0, q1⟩
  refine wpAnyH_take (i := 0) (v := ?_) rfl (by kernel_rfl) (by kernel_rfl) (by kernel_rfl) (fun _ _ _ h => h) (Or.inl ⟨by rfl, ?_⟩) (by assumption) ?_
  rotate_left
  · (intro w hSw; (try dsimp only at hSw); go_simp; try with_reducible rfl)
  try simp only [Array.reduceGetElem, Act.put, List.setIfInBounds_toArray, List.set_cons_zero, List.set_cons_succ]
  refine wpAnyH_take (i := 1) (v := ?_) rfl (by kernel_rfl) (by kernel_rfl) (by kernel_rfl) (fun _ _ _ h => h) (Or.inl ⟨by rfl, ?_⟩) (by assumption) ?_
  rotate_left
  · (intro w hSw; (try dsimp only at hSw); go_simp; try with_reducible rfl)
  try simp only [Array.reduceGetElem, Act.put, List.setIfInBounds_toArray, List.set_cons_zero, List.set_cons_succ]
  refine wpAnyH_take (i := 2) (v := ?_) rfl (by kernel_rfl) (by kernel_rfl) (by kernel_rfl) (fun _ _ _ h => h) (Or.inl ⟨by rfl, ?_⟩) (by assumption) ?_
  rotate_left
  · (intro w hSw; (try dsimp only at hSw); go_simp; try with_reducible rfl)
  try simp only [Array.reduceGetElem, Act.put, List.setIfInBounds_toArray, List.set_cons_zero, List.set_cons_succ]
  refine wpAnyH_take (i := 3) (v := ?_) rfl (by kernel_rfl) (by kernel_rfl) (by kernel_rfl) (fun _ _ _ h => h) (Or.inl ⟨by rfl, ?_⟩) (by assumption) ?_
  rotate_left
  · (intro w hSw; (try dsimp only at hSw); go_simp; try with_reducible rfl)
  try simp only [Array.reduceGetElem, Act.put, List.setIfInBounds_toArray, List.set_cons_zero, List.set_cons_succ]
  refine wpAnyH_take (i := 4) (v := ?_) rfl (by kernel_rfl) (by kernel_rfl) (by kernel_rfl) (fun _ _ _ h => h) (Or.inl ⟨by rfl, ?_⟩) (by assumption) ?_
  rotate_left
  · (intro w hSw; (try dsimp only at hSw); go_simp; try with_reducible rfl)
  try simp only [Array.reduceGetElem, Act.put, List.setIfInBounds_toArray, List.set_cons_zero, List.set_cons_succ]
  refine wpAnyH_take (i := 5) (v := ?_) rfl (by kernel_rfl) (by kernel_rfl) (by kernel_rfl) (fun _ _ _ h => h) (Or.inl ⟨by rfl, ?_⟩) (by assumption) ?_
  rotate_left
  · (intro w hSw; (try dsimp only at hSw); go_simp; try with_reducible rfl)
  try simp only [Array.reduceGetElem, Act.put, List.setIfInBounds_toArray, List.set_cons_zero, List.set_cons_succ]
  refine wpAnyH_take (i := 6) (v := ?_) rfl (by kernel_rfl) (by kernel_rfl) (by kernel_rfl) (fun _ _ _ h => h) (Or.inl ⟨by rfl, ?_⟩) (by assumption) ?_
  rotate_left
  · (intro w hSw; (try dsimp only at hSw); go_simp; try with_reducible rfl)
  try simp only [Array.reduceGetElem, Act.put, List.setIfInBounds_toArray, List.set_cons_zero, List.set_cons_succ]
  refine wpAnyH_take (i := 7) (v := ?_) rfl (by kernel_rfl) (by kernel_rfl) (by kernel_rfl) (fun _ _ _ h => h) (Or.inl ⟨by rfl, ?_⟩) (by assumption) ?_
  rotate_left
  · (intro w hSw; (try dsimp only at hSw); go_simp; try with_reducible rfl)
  try simp only [Array.reduceGetElem, Act.put, List.setIfInBounds_toArray, List.set_cons_zero, List.set_cons_succ]
  refine wpAnyH_take (i := 8) (v := ?_) rfl (by kernel_rfl) (by kernel_rfl) (by kernel_rfl) (fun _ _ _ h => h) (Or.inl ⟨by rfl, ?_⟩) (by assumption) ?_
  rotate_left
  · (intro w hSw; (try dsimp only at hSw); go_simp; try with_reducible rfl)
  try simp only [Array.reduceGetElem, Act.put, List.setIfInBounds_toArray, List.set_cons_zero, List.set_cons_succ]
  refine wpAnyH_take (i := 9) (v := ?_) rfl (by kernel_rfl) (by kernel_rfl) (by kernel_rfl) (fun _ _ _ h => h) (Or.inl ⟨by rfl, ?_⟩) (by assumption) ?_
  rotate_left
  · (intro w hSw; (try dsimp only at hSw); go_simp; try with_reducible rfl)
  try simp only [Array.reduceGetElem, Act.put, List.setIfInBounds_toArray, List.set_cons_zero, List.set_cons_succ]
  refine wpAnyH_take (i := 10) (v := ?_) rfl (by kernel_rfl) (by kernel_rfl) (by kernel_rfl) (fun _ _ _ h => h) (Or.inl ⟨by rfl, ?_⟩) (by assumption) ?_
  rotate_left
  · (intro w hSw; (try dsimp only at hSw); go_simp; try with_reducible rfl)
  try simp only [Array.reduceGetElem, Act.put, List.setIfInBounds_toArray, List.set_cons_zero, List.set_cons_succ]
  refine wpAnyH_ready (rs := [11]) (by kernel_rfl) (by simp) ?_
  refine AllReadyH.cons rfl (fun K hK => ?_) AllReadyH.nil
  go_simp
  refine (hcl.out w.drew ⟨rfl, rfl, rfl, Nat.le_refl _, fun _ _ => rfl⟩).mono ?_
  rintro e W3 ⟨rfl, hB3⟩
  refine hK.out _ _ ?_ (fun hHeld => ?_)
  · (try dsimp only); first | exact ⟨q0, q1⟩ | exact ⟨(hB3.cell (p := ⟨g, o + 1, none⟩) hgl).trans q0, (hB3.cell (p := ⟨g', o', none⟩) hgl').trans q1⟩ | exact ⟨(hB4.cell (p := ⟨g, o + 1, none⟩) hgl).trans q0, (hB4.cell (p := ⟨g', o', none⟩) hgl').trans q1⟩
  clear hK K
  try simp only [Array.reduceGetElem, Act.put, List.setIfInBounds_toArray, List.set_cons_zero, List.set_cons_succ]
  refine wpAnyH_take (i := 12) (v := ?_) rfl (by kernel_rfl) (by kernel_rfl) (by kernel_rfl) (fun _ _ _ h => h) (Or.inl ⟨by rfl, ?_⟩) (by assumption) ?_
  rotate_left
  · (intro w hSw; (try dsimp only at hSw); go_simp; try with_reducible rfl)
  try simp only [Array.reduceGetElem, Act.put, List.setIfInBounds_toArray, List.set_cons_zero, List.set_cons_succ]
  refine wpAnyH_take (i := 13) (v := ?_) rfl (by kernel_rfl) (by kernel_rfl) (by kernel_rfl) (fun _ _ _ h => h) (Or.inl ⟨by rfl, ?_⟩) (by assumption) ?_
  rotate_left
  · (intro w hSw; (try dsimp only at hSw); go_simp; try with_reducible rfl)
  try simp only [Array.reduceGetElem, Act.put, List.setIfInBounds_toArray, List.set_cons_zero, List.set_cons_succ]
  refine wpAnyH_take (i := 14) (v := ?_) rfl (by kernel_rfl) (by kernel_rfl) (by kernel_rfl) (fun _ _ _ h => h) (Or.inl ⟨by rfl, ?_⟩) (by assumption) ?_
  rotate_left
  · (intro w hSw; (try dsimp only at hSw); go_simp; try with_reducible rfl)
  try simp only [Array.reduceGetElem, Act.put, List.setIfInBounds_toArray, List.set_cons_zero, List.set_cons_succ]
  refine wpAnyH_take (i := 15) (v := ?_) rfl (by kernel_rfl) (by kernel_rfl) (by kernel_rfl) (fun _ _ _ h => h) (Or.inl ⟨by rfl, ?_⟩) (by assumption) ?_
  rotate_left
  · (intro w hSw; (try dsimp only at hSw); go_simp; try with_reducible rfl)
  try simp only [Array.reduceGetElem, Act.put, List.setIfInBounds_toArray, List.set_cons_zero, List.set_cons_succ]
  refine wpAnyH_take (i := 16) (v := ?_) rfl (by kernel_rfl) (by kernel_rfl) (by kernel_rfl) (fun _ _ _ h => h) (Or.inl ⟨by rfl, ?_⟩) (by assumption) ?_
  rotate_left
  · (intro w hSw; (try dsimp only at hSw); go_simp; try with_reducible rfl)
  try simp only [Array.reduceGetElem, Act.put, List.setIfInBounds_toArray, List.set_cons_zero, List.set_cons_succ]
  refine wpAnyH_take (i := 17) (v := ?_) rfl (by kernel_rfl) (by kernel_rfl) (by kernel_rfl) (fun _ _ _ h => h) (Or.inl ⟨by rfl, ?_⟩) (by assumption) ?_
  rotate_left
  · (intro w hSw; (try dsimp only at hSw); go_simp; try with_reducible rfl)
  try simp only [Array.reduceGetElem, Act.put, List.setIfInBounds_toArray, List.set_cons_zero, List.set_cons_succ]
  refine wpAnyH_ready (rs := [18]) (by kernel_rfl) (by simp) ?_
  refine AllReadyH.cons rfl (fun K hK => ?_) AllReadyH.nil
  go_simp
  refine (hnx.out _ (Below.trans (⟨rfl, rfl, rfl, Nat.le_refl _, fun _ _ => rfl⟩ : Below w.heap.size w w.drew) hB3)).mono ?_
  rintro e W4 ⟨rfl, hB4'⟩
  have hB4 := hB3.trans (hB4'.mono hB3.size)
  refine hK.out _ _ ?_ (fun hHeld => ?_)
  · (try dsimp only); first | exact ⟨q0, q1⟩ | exact ⟨(hB3.cell (p := ⟨g, o + 1, none⟩) hgl).trans q0, (hB3.cell (p := ⟨g', o', none⟩) hgl').trans q1⟩ | exact ⟨(hB4.cell (p := ⟨g, o + 1, none⟩) hgl).trans q0, (hB4.cell (p := ⟨g', o', none⟩) hgl').trans q1⟩
  clear hK K
  try simp only [Array.reduceGetElem, Act.put, List.setIfInBounds_toArray, List.set_cons_zero, List.set_cons_succ]
  refine wpAnyH_take (i := 19) (v := ?_) rfl (by kernel_rfl) (by kernel_rfl) (by kernel_rfl) (fun _ _ _ h => h) (Or.inl ⟨by rfl, ?_⟩) (by assumption) ?_
  rotate_left
  · (intro w hSw; (try dsimp only at hSw); go_simp; try with_reducible rfl)
  try simp only [Array.reduceGetElem, Act.put, List.setIfInBounds_toArray, List.set_cons_zero, List.set_cons_succ]
  refine wpAnyH_take (i := 20) (v := ?_) rfl (by kernel_rfl) (by kernel_rfl) (by kernel_rfl) (fun _ _ _ h => h) (Or.inl ⟨by rfl, ?_⟩) (by assumption) ?_
  rotate_left
  · (intro w hSw; (try dsimp only at hSw); go_simp; try with_reducible rfl)
  try simp only [Array.reduceGetElem, Act.put, List.setIfInBounds_toArray, List.set_cons_zero, List.set_cons_succ]
  refine wpAnyH_done (by kernel_rfl) ?_ _
  try refine NoPanic.normal ?_
  (try dsimp only)
  go_wp2
  go_ret
  exact ⟨rfl, Below.trans (⟨rfl, rfl, rfl, Nat.le_refl _, fun _ _ => rfl⟩ : Below w.heap.size w w.drew) hB4⟩
set_option maxRecDepth 1000000 in
set_option maxHeartbeats 8000000 in
theorem namesHave_yes11 (b : Bool) (x d : List UInt8) (gf : Nat) (bs : Array Value) (g o g' o' n m : Nat) (w : World) (eg : ∀ args w, (callFunc gf args).run Tryd.prog w = .ok (.enter gf args) w)
    (q2 : w.cell? ⟨g, o, none⟩ = some (.bool false)) (q0 : w.cell? ⟨g, o + 1, none⟩ = some (.func (.func gf) #[] bs)) (q1 : w.cell? ⟨g', o', none⟩ = some (.string (mkB d))) (hgl : g < w.heap.size) (hgl' : g' < w.heap.size)
    (hn0 : n = 0) (hm0 : m = 0) (hn : n ≤ 2097152) (hm : m ≤ 2097152)
    (hcl : ∀ W', Below w.heap.size w W' → Calls Tryd.prog gf (#[.string (mkB d)] ++ bs) W' (Grows true W'))
    (hnx : ∀ W', Below w.heap.size w W' → Calls Tryd.prog 91 #[.slice (some ⟨g, o, none⟩) n 0, .slice (some ⟨g', o', none⟩) m 0] W' (Grows b W')) :
    Calls Tryd.prog 91 #[.slice (some ⟨g, o, none⟩) (n + 1) 1, .slice (some ⟨g', o', none⟩) (m + 1) 1] w (Grows b w) := by
  have hlI : (0 : Int) < (m : Int) + 1 := by omega
  have hlI2 : decide ((0 : Int) < (m : Int) + 1) = true := by simp
  replace hcl := Lib.hid hcl
  replace hn0 := Lib.hid hn0
  replace hm0 := Lib.hid hm0
  have hnI : (1 : Int) ≤ (n : Int) + 1 := by omega
  have hmI : (1 : Int) ≤ (m : Int) + 1 := by omega
  replace hnx := Lib.hid hnx
  go_enter Tryd.func91, Tryd.ntmps91
  go_wp2_with fail
  first | refine wp_region_noPanic ?_ | skip
  refine wp_region_held_drew (S := (fun W' => W'.cell? ⟨g, o + 1, none⟩ = some (.func (.func gf) #[] bs) ∧ W'.cell? ⟨g', o', none⟩ = some (.string (mkB d)))) (by kernel_rfl) ?_ (fun hHeld => ?_)
  · exact ⟨q0, q1⟩
  refine wpAnyH_take (i := 0) (v := ?_) rfl (by kernel_rfl) (by kernel_rfl) (by kernel_rfl) (fun _ _ _ h => h) (Or.inl ⟨by rfl, ?_⟩) (by assumption) ?_
  rotate_left
  · (intro w hSw; (try dsimp only at hSw); go_simp; try with_reducible rfl)
  try simp only [Array.reduceGetElem, Act.put, List.setIfInBounds_toArray, List.set_cons_zero, List.set_cons_succ]
  refine wpAnyH_take (i := 1) (v := ?_) rfl (by kernel_rfl) (by kernel_rfl) (by kernel_rfl) (fun _ _ _ h => h) (Or.inl ⟨by rfl, ?_⟩) (by assumption) ?_
  rotate_left
  · (intro w hSw; (try dsimp only at hSw); go_simp; try with_reducible rfl)
  try simp only [Array.reduceGetElem, Act.put, List.setIfInBounds_toArray, List.set_cons_zero, List.set_cons_succ]
  refine wpAnyH_take (i := 2) (v := ?_) rfl (by kernel_rfl) (by kernel_rfl) (by kernel_rfl) (fun _ _ _ h => h) (Or.inl ⟨by rfl, ?_⟩) (by assumption) ?_
  rotate_left
  · (intro w hSw; (try dsimp only at hSw); go_simp; try with_reducible rfl)
  try simp only [Array.reduceGetElem, Act.put, List.setIfInBounds_toArray, List.set_cons_zero, List.set_cons_succ]
  refine wpAnyH_take (i := 3) (v := ?_) rfl (by kernel_rfl) (by kernel_rfl) (by kernel_rfl) (fun _ _ _ h => h) (Or.inl ⟨by rfl, ?_⟩) (by assumption) ?_
  rotate_left
  · (intro w hSw; (try dsimp only at hSw); go_simp; try with_reducible rfl)
  try simp only [Array.reduceGetElem, Act.put, List.setIfInBounds_toArray, List.set_cons_zero, List.set_cons_succ]
  refine wpAnyH_take (i := 4) (v := ?_) rfl (by kernel_rfl) (by kernel_rfl) (by kernel_rfl) (fun _ _ _ h => h) (Or.inl ⟨by rfl, ?_⟩) (by assumption) ?_
  rotate_left
  · (intro w hSw; (try dsimp only at hSw); go_simp; try with_reducible rfl)
  try simp only [Array.reduceGetElem, Act.put, List.setIfInBounds_toArray, List.set_cons_zero, List.set_cons_succ]
  refine wpAnyH_take (i := 5) (v := ?_) rfl (by kernel_rfl) (by kernel_rfl) (by kernel_rfl) (fun _ _ _ h => h) (Or.inl ⟨by rfl, ?_⟩) (by assumption) ?_
  rotate_left
  · (intro w hSw; (try dsimp only at hSw); go_simp; try with_reducible rfl)
  try simp only [Array.reduceGetElem, Act.put, List.setIfInBounds_toArray, List.set_cons_zero, List.set_cons_succ]
  refine wpAnyH_take (i := 6) (v := ?_) rfl (by kernel_rfl) (by kernel_rfl) (by kernel_rfl) (fun _ _ _ h => h) (Or.inl ⟨by rfl, ?_⟩) (by assumption) ?_
  rotate_left
  · (intro w hSw; (try dsimp only at hSw); go_simp; try with_reducible rfl)
  try simp only [Array.reduceGetElem, Act.put, List.setIfInBounds_toArray, List.set_cons_zero, List.set_cons_succ]
  refine wpAnyH_take (i := 7) (v := ?_) rfl (by kernel_rfl) (by kernel_rfl) (by kernel_rfl) (fun _ _ _ h => h) (Or.inl ⟨by rfl, ?_⟩) (by assumption) ?_
  rotate_left
  · (intro w hSw; (try dsimp only at hSw); go_simp; try with_reducible rfl)
  try simp only [Array.reduceGetElem, Act.put, List.setIfInBounds_toArray, List.set_cons_zero, List.set_cons_succ]
  refine wpAnyH_take (i := 8) (v := ?_) rfl (by kernel_rfl) (by kernel_rfl) (by kernel_rfl) (fun _ _ _ h => h) (Or.inl ⟨by rfl, ?_⟩) (by assumption) ?_
  rotate_left
  · (intro w hSw; (try dsimp only at hSw); go_simp; try with_reducible rfl)
  try simp only [Array.reduceGetElem, Act.put, List.setIfInBounds_toArray, List.set_cons_zero, List.set_cons_succ]
  refine wpAnyH_take (i := 9) (v := ?_) rfl (by kernel_rfl) (by kernel_rfl) (by kernel_rfl) (fun _ _ _ h => h) (Or.inl ⟨by rfl, ?_⟩) (by assumption) ?_
  rotate_left
  · (intro w hSw; (try dsimp only at hSw); go_simp; try with_reducible rfl)
  try simp only [Array.reduceGetElem, Act.put, List.setIfInBounds_toArray, List.set_cons_zero, List.set_cons_succ]
  refine wpAnyH_take (i := 10) (v := ?_) rfl (by kernel_rfl) (by kernel_rfl) (by kernel_rfl) (fun _ _ _ h => h) (Or.inl ⟨by rfl, ?_⟩) (by assumption) ?_
  rotate_left
  · (intro w hSw; (try dsimp only at hSw); go_simp; try with_reducible rfl)
  try simp only [Array.reduceGetElem, Act.put, List.setIfInBounds_toArray, List.set_cons_zero, List.set_cons_succ]
  refine wpAnyH_ready (rs := [11]) (by kernel_rfl) (by simp) ?_
  refine AllReadyH.cons rfl (fun K hK => ?_) AllReadyH.nil
  go_simp
  refine (hcl.out w.drew ⟨rfl, rfl, rfl, Nat.le_refl _, fun _ _ => rfl⟩).mono ?_
  rintro e W3 ⟨rfl, hB3⟩
  refine hK.out _ _ ?_ (fun hHeld => ?_)
  · (try dsimp only); first | exact ⟨q0, q1⟩ | exact ⟨(hB3.cell (p := ⟨g, o + 1, none⟩) hgl).trans q0, (hB3.cell (p := ⟨g', o', none⟩) hgl').trans q1⟩ | exact ⟨(hB4.cell (p := ⟨g, o + 1, none⟩) hgl).trans q0, (hB4.cell (p := ⟨g', o', none⟩) hgl').trans q1⟩
  clear hK K
  try simp only [Array.reduceGetElem, Act.put, List.setIfInBounds_toArray, List.set_cons_zero, List.set_cons_succ]
  refine wpAnyH_take (i := 12) (v := ?_) rfl (by kernel_rfl) (by kernel_rfl) (by kernel_rfl) (fun _ _ _ h => h) (Or.inl ⟨by rfl, ?_⟩) (by assumption) ?_
  rotate_left
  · (intro w hSw; (try dsimp only at hSw); go_simp; try with_reducible rfl)
  try simp only [Array.reduceGetElem, Act.put, List.setIfInBounds_toArray, List.set_cons_zero, List.set_cons_succ]
  refine wpAnyH_take (i := 13) (v := ?_) rfl (by kernel_rfl) (by kernel_rfl) (by kernel_rfl) (fun _ _ _ h => h) (Or.inl ⟨by rfl, ?_⟩) (by assumption) ?_
  rotate_left
  · (intro w hSw; (try dsimp only at hSw); go_simp; try with_reducible rfl)
  try simp only [Array.reduceGetElem, Act.put, List.setIfInBounds_toArray, List.set_cons_zero, List.set_cons_succ]
  refine wpAnyH_take (i := 14) (v := ?_) rfl (by kernel_rfl) (by kernel_rfl) (by kernel_rfl) (fun _ _ _ h => h) (Or.inl ⟨by rfl, ?_⟩) (by assumption) ?_
  rotate_left
  · (intro w hSw; (try dsimp only at hSw); go_simp; try with_reducible rfl)
  try simp only [Array.reduceGetElem, Act.put, List.setIfInBounds_toArray, List.set_cons_zero, List.set_cons_succ]
  refine wpAnyH_take (i := 15) (v := ?_) rfl (by kernel_rfl) (by kernel_rfl) (by kernel_rfl) (fun _ _ _ h => h) (Or.inl ⟨by rfl, ?_⟩) (by assumption) ?_
  rotate_left
  · (intro w hSw; (try dsimp only at hSw); go_simp; try with_reducible rfl)
  try simp only [Array.reduceGetElem, Act.put, List.setIfInBounds_toArray, List.set_cons_zero, List.set_cons_succ]
  refine wpAnyH_take (i := 16) (v := ?_) rfl (by kernel_rfl) (by kernel_rfl) (by kernel_rfl) (fun _ _ _ h => h) (Or.inl ⟨by rfl, ?_⟩) (by assumption) ?_
  rotate_left
  · (intro w hSw; (try dsimp only at hSw); go_simp; try with_reducible rfl)
  try simp only [Array.reduceGetElem, Act.put, List.setIfInBounds_toArray, List.set_cons_zero, List.set_cons_succ]
  refine wpAnyH_take (i := 17) (v := ?_) rfl (by kernel_rfl) (by kernel_rfl) (by kernel_rfl) (fun _ _ _ h => h) (Or.inl ⟨by rfl, ?_⟩) (by assumption) ?_
  rotate_left
  · (intro w hSw; (try dsimp only at hSw); go_simp; try with_reducible rfl)
  try simp only [Array.reduceGetElem, Act.put, List.setIfInBounds_toArray, List.set_cons_zero, List.set_cons_succ]
  refine wpAnyH_ready (rs := [18]) (by kernel_rfl) (by simp) ?_
  refine AllReadyH.cons rfl (fun K hK => ?_) AllReadyH.nil
  go_simp
  refine (hnx.out _ (Below.trans (⟨rfl, rfl, rfl, Nat.le_refl _, fun _ _ => rfl⟩ : Below w.heap.size w w.drew) hB3)).mono ?_
  rintro e W4 ⟨rfl, hB4'⟩
  have hB4 := hB3.trans (hB4'.mono hB3.size)
  refine hK.out _ _ ?_ (fun hHeld => ?_)
  · (try dsimp only); first | exact ⟨q0, q1⟩ | exact ⟨(hB3.cell (p := ⟨g, o + 1, none⟩) hgl).trans q0, (hB3.cell (p := ⟨g', o', none⟩) hgl').trans q1⟩ | exact ⟨(hB4.cell (p := ⟨g, o + 1, none⟩) hgl).trans q0, (hB4.cell (p := ⟨g', o', none⟩) hgl').trans q1⟩
  clear hK K
  try simp only [Array.reduceGetElem, Act.put, List.setIfInBounds_toArray, List.set_cons_zero, List.set_cons_succ]
  refine wpAnyH_take (i := 19) (v := ?_) rfl (by kernel_rfl) (by kernel_rfl) (by kernel_rfl) (fun _ _ _ h => h) (Or.inl ⟨by rfl, ?_⟩) (by assumption) ?_
  rotate_left
  · (intro w hSw; (try dsimp only at hSw); go_simp; try with_reducible rfl)
  try simp only [Array.reduceGetElem, Act.put, List.setIfInBounds_toArray, List.set_cons_zero, List.set_cons_succ]
  refine wpAnyH_take (i := 20) (v := ?_) rfl (by kernel_rfl) (by kernel_rfl) (by kernel_rfl) (fun _ _ _ h => h) (Or.inl ⟨by rfl, ?_⟩) (by assumption) ?_
  rotate_left
  · (intro w hSw; (try dsimp only at hSw); go_simp; try with_reducible rfl)
  try simp only [Array.reduceGetElem, Act.put, List.setIfInBounds_toArray, List.set_cons_zero, List.set_cons_succ]
  refine wpAnyH_done (by kernel_rfl) ?_ _
  try refine NoPanic.normal ?_
  (try dsimp only)
  go_wp2
  go_ret
  exact ⟨rfl, Below.trans (⟨rfl, rfl, rfl, Nat.le_refl _, fun _ _ => rfl⟩ : Below w.heap.size w w.drew) hB4⟩
set_option maxRecDepth 1000000 in
set_option maxHeartbeats 8000000 in
theorem namesHave_not (b : Bool) (x d : List UInt8) (gf : Nat) (bs : Array Value) (g o c g' o' c' n m : Nat) (w : World) (eg : ∀ args w, (callFunc gf args).run Tryd.prog w = .ok (.enter gf args) w)
    (q2 : w.cell? ⟨g, o, none⟩ = some (.bool false)) (q0 : w.cell? ⟨g, o + 1, none⟩ = some (.func (.func gf) #[] bs)) (q1 : w.cell? ⟨g', o', none⟩ = some (.string (mkB d))) (hgl : g < w.heap.size) (hgl' : g' < w.heap.size)
    (b0 : b = b) (hn : n ≤ 2097152) (hm : m ≤ 2097152)
    (hcl : ∀ W', Below w.heap.size w W' → Calls Tryd.prog gf (#[.string (mkB d)] ++ bs) W' (Grows false W')) :
    Calls Tryd.prog 91 #[.slice (some ⟨g, o, none⟩) (n + 1) c, .slice (some ⟨g', o', none⟩) (m + 1) c'] w (Grows false w) := by
  have hlI : (0 : Int) < (m : Int) + 1 := by omega
  have hlI2 : decide ((0 : Int) < (m : Int) + 1) = true := by simp
  replace hcl := Lib.hid hcl
  have hnI : (1 : Int) ≤ (n : Int) + 1 := by omega
  have hmI : (1 : Int) ≤ (m : Int) + 1 := by omega
  go_enter Tryd.func91, Tryd.ntmps91
  go_wp2_with fail
  first | refine wp_region_noPanic ?_ | skip
  refine wp_region_held_drew (S := (fun W' => W'.cell? ⟨g, o + 1, none⟩ = some (.func (.func gf) #[] bs) ∧ W'.cell? ⟨g', o', none⟩ = some (.string (mkB d)))) (by kernel_rfl) ?_ (fun hHeld => ?_)
  · exact ⟨q0, q1⟩
  refine wpAnyH_take (i := 0) (v := ?_) rfl (by kernel_rfl) (by kernel_rfl) (by kernel_rfl) (fun _ _ _ h => h) (Or.inl ⟨by rfl, ?_⟩) (by assumption) ?_
  rotate_left
  · (intro w hSw; (try dsimp only at hSw); go_simp; try with_reducible rfl)
  try simp only [Array.reduceGetElem, Act.put, List.setIfInBounds_toArray, List.set_cons_zero, List.set_cons_succ]
  refine wpAnyH_take (i := 1) (v := ?_) rfl (by kernel_rfl) (by kernel_rfl) (by kernel_rfl) (fun _ _ _ h => h) (Or.inl ⟨by rfl, ?_⟩) (by assumption) ?_
  rotate_left
  · (intro w hSw; (try dsimp only at hSw); go_simp; try with_reducible rfl)
  try simp only [Array.reduceGetElem, Act.put, List.setIfInBounds_toArray, List.set_cons_zero, List.set_cons_succ]
  refine wpAnyH_take (i := 2) (v := ?_) rfl (by kernel_rfl) (by kernel_rfl) (by kernel_rfl) (fun _ _ _ h => h) (Or.inl ⟨by rfl, ?_⟩) (by assumption) ?_
  rotate_left
  · (intro w hSw; (try dsimp only at hSw); go_simp; try with_reducible rfl)
  try simp only [Array.reduceGetElem, Act.put, List.setIfInBounds_toArray, List.set_cons_zero, List.set_cons_succ]
  refine wpAnyH_take (i := 3) (v := ?_) rfl (by kernel_rfl) (by kernel_rfl) (by kernel_rfl) (fun _ _ _ h => h) (Or.inl ⟨by rfl, ?_⟩) (by assumption) ?_
  rotate_left
  · (intro w hSw; (try dsimp only at hSw); go_simp; try with_reducible rfl)
  try simp only [Array.reduceGetElem, Act.put, List.setIfInBounds_toArray, List.set_cons_zero, List.set_cons_succ]
  refine wpAnyH_take (i := 4) (v := ?_) rfl (by kernel_rfl) (by kernel_rfl) (by kernel_rfl) (fun _ _ _ h => h) (Or.inl ⟨by rfl, ?_⟩) (by assumption) ?_
  rotate_left
  · (intro w hSw; (try dsimp only at hSw); go_simp; try with_reducible rfl)
  try simp only [Array.reduceGetElem, Act.put, List.setIfInBounds_toArray, List.set_cons_zero, List.set_cons_succ]
  refine wpAnyH_take (i := 5) (v := ?_) rfl (by kernel_rfl) (by kernel_rfl) (by kernel_rfl) (fun _ _ _ h => h) (Or.inl ⟨by rfl, ?_⟩) (by assumption) ?_
  rotate_left
  · (intro w hSw; (try dsimp only at hSw); go_simp; try with_reducible rfl)
  try simp only [Array.reduceGetElem, Act.put, List.setIfInBounds_toArray, List.set_cons_zero, List.set_cons_succ]
  refine wpAnyH_take (i := 6) (v := ?_) rfl (by kernel_rfl) (by kernel_rfl) (by kernel_rfl) (fun _ _ _ h => h) (Or.inl ⟨by rfl, ?_⟩) (by assumption) ?_
  rotate_left
  · (intro w hSw; (try dsimp only at hSw); go_simp; try with_reducible rfl)
  try simp only [Array.reduceGetElem, Act.put, List.setIfInBounds_toArray, List.set_cons_zero, List.set_cons_succ]
  refine wpAnyH_take (i := 7) (v := ?_) rfl (by kernel_rfl) (by kernel_rfl) (by kernel_rfl) (fun _ _ _ h => h) (Or.inl ⟨by rfl, ?_⟩) (by assumption) ?_
  rotate_left
  · (intro w hSw; (try dsimp only at hSw); go_simp; try with_reducible rfl)
  try simp only [Array.reduceGetElem, Act.put, List.setIfInBounds_toArray, List.set_cons_zero, List.set_cons_succ]
  refine wpAnyH_take (i := 8) (v := ?_) rfl (by kernel_rfl) (by kernel_rfl) (by kernel_rfl) (fun _ _ _ h => h) (Or.inl ⟨by rfl, ?_⟩) (by assumption) ?_
  rotate_left
  · (intro w hSw; (try dsimp only at hSw); go_simp; try with_reducible rfl)
  try simp only [Array.reduceGetElem, Act.put, List.setIfInBounds_toArray, List.set_cons_zero, List.set_cons_succ]
  refine wpAnyH_take (i := 9) (v := ?_) rfl (by kernel_rfl) (by kernel_rfl) (by kernel_rfl) (fun _ _ _ h => h) (Or.inl ⟨by rfl, ?_⟩) (by assumption) ?_
  rotate_left
  · (intro w hSw; (try dsimp only at hSw); go_simp; try with_reducible rfl)
  try simp only [Array.reduceGetElem, Act.put, List.setIfInBounds_toArray, List.set_cons_zero, List.set_cons_succ]
  refine wpAnyH_take (i := 10) (v := ?_) rfl (by kernel_rfl) (by kernel_rfl) (by kernel_rfl) (fun _ _ _ h => h) (Or.inl ⟨by rfl, ?_⟩) (by assumption) ?_
  rotate_left
  · (intro w hSw; (try dsimp only at hSw); go_simp; try with_reducible rfl)
  try simp only [Array.reduceGetElem, Act.put, List.setIfInBounds_toArray, List.set_cons_zero, List.set_cons_succ]
  refine wpAnyH_ready (rs := [11]) (by kernel_rfl) (by simp) ?_
  refine AllReadyH.cons rfl (fun K hK => ?_) AllReadyH.nil
  go_simp
  refine (hcl.out w.drew ⟨rfl, rfl, rfl, Nat.le_refl _, fun _ _ => rfl⟩).mono ?_
  rintro e W3 ⟨rfl, hB3⟩
  refine hK.out _ _ ?_ (fun hHeld => ?_)
  · (try dsimp only); first | exact ⟨q0, q1⟩ | exact ⟨(hB3.cell (p := ⟨g, o + 1, none⟩) hgl).trans q0, (hB3.cell (p := ⟨g', o', none⟩) hgl').trans q1⟩ | exact ⟨(hB4.cell (p := ⟨g, o + 1, none⟩) hgl).trans q0, (hB4.cell (p := ⟨g', o', none⟩) hgl').trans q1⟩
  clear hK K
  try simp only [Array.reduceGetElem, Act.put, List.setIfInBounds_toArray, List.set_cons_zero, List.set_cons_succ]
  refine wpAnyH_take (i := 12) (v := ?_) rfl (by kernel_rfl) (by kernel_rfl) (by kernel_rfl) (fun _ _ _ h => h) (Or.inl ⟨by rfl, ?_⟩) (by assumption) ?_
  rotate_left
  · (intro w hSw; (try dsimp only at hSw); go_simp; try with_reducible rfl)
  try simp only [Array.reduceGetElem, Act.put, List.setIfInBounds_toArray, List.set_cons_zero, List.set_cons_succ]
  refine wpAnyH_take (i := 13) (v := ?_) rfl (by kernel_rfl) (by kernel_rfl) (by kernel_rfl) (fun _ _ _ h => h) (Or.inl ⟨by rfl, ?_⟩) (by assumption) ?_
  rotate_left
  · (intro w hSw; (try dsimp only at hSw); go_simp; try with_reducible rfl)
  try simp only [Array.reduceGetElem, Act.put, List.setIfInBounds_toArray, List.set_cons_zero, List.set_cons_succ]
  refine wpAnyH_take (i := 14) (v := undef) rfl (by kernel_rfl) (by kernel_rfl) (by kernel_rfl) (fun _ _ _ h => h) (Or.inr ⟨by rfl, rfl⟩) (by assumption) ?_
  try simp only [Array.reduceGetElem, Act.put, List.setIfInBounds_toArray, List.set_cons_zero, List.set_cons_succ]
  refine wpAnyH_take (i := 15) (v := undef) rfl (by kernel_rfl) (by kernel_rfl) (by kernel_rfl) (fun _ _ _ h => h) (Or.inr ⟨by rfl, rfl⟩) (by assumption) ?_
  try simp only [Array.reduceGetElem, Act.put, List.setIfInBounds_toArray, List.set_cons_zero, List.set_cons_succ]
  refine wpAnyH_take (i := 16) (v := undef) rfl (by kernel_rfl) (by kernel_rfl) (by kernel_rfl) (fun _ _ _ h => h) (Or.inr ⟨by rfl, rfl⟩) (by assumption) ?_
  try simp only [Array.reduceGetElem, Act.put, List.setIfInBounds_toArray, List.set_cons_zero, List.set_cons_succ]
  refine wpAnyH_take (i := 17) (v := undef) rfl (by kernel_rfl) (by kernel_rfl) (by kernel_rfl) (fun _ _ _ h => h) (Or.inr ⟨by rfl, rfl⟩) (by assumption) ?_
  try simp only [Array.reduceGetElem, Act.put, List.setIfInBounds_toArray, List.set_cons_zero, List.set_cons_succ]
  refine wpAnyH_take (i := 18) (v := undef) rfl (by kernel_rfl) (by kernel_rfl) (by kernel_rfl) (fun _ _ _ h => h) (Or.inr ⟨by rfl, rfl⟩) (by assumption) ?_
  try simp only [Array.reduceGetElem, Act.put, List.setIfInBounds_toArray, List.set_cons_zero, List.set_cons_succ]
  refine wpAnyH_take (i := 19) (v := ?_) rfl (by kernel_rfl) (by kernel_rfl) (by kernel_rfl) (fun _ _ _ h => h) (Or.inl ⟨by rfl, ?_⟩) (by assumption) ?_
  rotate_left
  · (intro w hSw; (try dsimp only at hSw); go_simp; try with_reducible rfl)
  try simp only [Array.reduceGetElem, Act.put, List.setIfInBounds_toArray, List.set_cons_zero, List.set_cons_succ]
  refine wpAnyH_take (i := 20) (v := ?_) rfl (by kernel_rfl) (by kernel_rfl) (by kernel_rfl) (fun _ _ _ h => h) (Or.inl ⟨by rfl, ?_⟩) (by assumption) ?_
  rotate_left
  · (intro w hSw; (try dsimp only at hSw); go_simp; try with_reducible rfl)
  try simp only [Array.reduceGetElem, Act.put, List.setIfInBounds_toArray, List.set_cons_zero, List.set_cons_succ]
  refine wpAnyH_done (by kernel_rfl) ?_ _
  try refine NoPanic.normal ?_
  (try dsimp only)
  go_wp2
  go_ret
  exact ⟨rfl, Below.trans (⟨rfl, rfl, rfl, Nat.le_refl _, fun _ _ => rfl⟩ : Below w.heap.size w w.drew) hB3⟩
end Go.Proofs.YtjihpbioofikcaaDoor

/-
  The walks of the program's namesHave and GlobHas.
-/
namespace Go.Proofs.YtjihpbioofikcaaDoor
open Go.RowKit
set_option linter.unusedVariables false
set_option linter.unusedSimpArgs false
attribute [local go_sem] mkB_size mkB_extract mkB_get mkB_toList

set_option maxRecDepth 1000000 in
set_option maxHeartbeats 8000000 in
theorem namesHave_any : ∀ (N : Nat) (ys : List (Gn × Value)) (ns : List (List UInt8)) (g o c g' o' c' n m : Nat) (w : World), ys.length = n → ns.length = m → n + m ≤ N → n ≤ c → m ≤ c' → N ≤ 2097152 → Short ns → NamesRow w g o ys → g' < w.heap.size → StrsAt w g' o' ns →
    Calls Tryd.prog 91 #[.slice (some ⟨g, o, none⟩) n c, .slice (some ⟨g', o', none⟩) m c'] w (Grows (meets (names ys) ns) w) := by
  intro N
  induction N with
  | zero =>
    intro ys ns g o c g' o' c' n m w hn hm' hN hc hc' h20 hsn hG hgl' hS
    subst hn
    subst hm'
    obtain rfl : ys = [] := List.eq_nil_of_length_eq_zero (by omega)
    obtain rfl : ns = [] := List.eq_nil_of_length_eq_zero (by omega)
    clear hG hS
    go_enter Tryd.func91, Tryd.ntmps91
    go_wp2
    go_ret
    exact ⟨rfl, Below.refl _ _⟩
  | succ N ih =>
    intro ys ns g o c g' o' c' n m w hn hm' hN hc hc' h20 hsn hG hgl' hS
    subst hn
    subst hm'
    replace ih := Lib.hid ih
    have hgl := hG.1
    cases ys with
    | nil =>
      clear hG hS
      cases ns with
      | nil =>
        go_enter Tryd.func91, Tryd.ntmps91
        go_wp2
        go_ret
        exact ⟨rfl, Below.refl _ _⟩
      | cons d t =>
        have hlI : (((d :: t).length : Int) == 0) = false := by simp; omega
        go_enter Tryd.func91, Tryd.ntmps91
        go_wp2
        go_ret
        exact ⟨rfl, Below.refl _ _⟩
    | cons y r =>
      obtain ⟨⟨mn, qs⟩, f⟩ := y
      obtain ⟨q2, q0, hfn⟩ := hG.head
      simp only at q2 q0 hfn
      have hG' := Lib.hid hG.tail
      have hnil : r.length = 0 → NamesRow w g o r := fun h => by
        rw [List.eq_nil_of_length_eq_zero h]; exact NamesRow.nil hgl _
      simp only [List.length_cons] at hN hc ⊢
      have hGG := Lib.hid hG
      clear hG
      replace hnil := Lib.hid hnil
      replace hS := Lib.hid hS
      replace hsn := Lib.hid hsn
      have hnm : names ((⟨mn, qs⟩, f) :: r) = ⟨mn, qs⟩ :: names r := rfl
      rw [hnm]
      clear hnm
      cases mn with
      | true =>
        replace hfn := Lib.hid hfn
        cases ns with
        | nil =>
          rw [meets_many_nil]
          rcases boolOf (meets (names r) []) with hb | hb
          all_goals rw [hb.out]
          all_goals go_enter Tryd.func91, Tryd.ntmps91
          all_goals go_wp2_with fail
          all_goals first
            | with_reducible refine (ih.out r [] g (o + 2) _ g' _ _ r.length 0 _ rfl List.length_nil (by simp at hN; omega) (by omega) (by omega) (by omega) hsn.out hG'.out hgl' (StrsAt.nil _ _ _)).mono ?_
            | with_reducible refine (ih.out r [] g o _ g' _ _ r.length 0 _ rfl List.length_nil (by simp at hN; omega) (by omega) (by omega) (by omega) hsn.out (hnil.out (by omega)) hgl' (StrsAt.nil _ _ _)).mono ?_
          all_goals rintro e w1 ⟨rfl, hB1⟩
          all_goals rw [hb.out]
          all_goals go_wp2
          all_goals go_ret
          all_goals exact ⟨rfl, hB1⟩
        | cons d t =>
          rw [meets_many_cons]
          simp only [List.length_cons] at hN hc' ⊢
          have hN2 : r.length + 1 + t.length ≤ N := by omega
          have hsn2 : Short t := fun y hy => hsn.out y (by simp [hy])
          have hS2 := Lib.hid hS.out.tail
          have hSn : t.length = 0 → StrsAt w g' o' t := fun h => by
            rw [List.eq_nil_of_length_eq_zero h]; exact StrsAt.nil _ _ _
          replace hSn := Lib.hid hSn
          replace hsn2 := Lib.hid hsn2
          have hnm : meets (⟨true, qs⟩ :: names r) t = meets (names ((⟨true, qs⟩, f) :: r)) t := rfl
          rcases boolOf (meets (names r) (d :: t)) with hb | hb
          case inr =>
            rw [hb.out]
            clear hnm
            go_enter Tryd.func91, Tryd.ntmps91
            go_wp2_with fail
            all_goals first
              | with_reducible refine (ih.out r (d :: t) g (o + 2) _ g' _ _ r.length (t.length + 1) _ rfl List.length_cons (by omega) (by omega) (by omega) (by omega) hsn.out hG'.out hgl' hS.out).mono ?_
              | with_reducible refine (ih.out r (d :: t) g o _ g' _ _ r.length (t.length + 1) _ rfl List.length_cons (by omega) (by omega) (by omega) (by omega) hsn.out (hnil.out (by omega)) hgl' hS.out).mono ?_
            all_goals rintro e w1 ⟨rfl, hB1⟩
            all_goals rw [hb.out]
            all_goals go_wp2
            all_goals go_ret
            all_goals exact ⟨rfl, hB1⟩
          rw [hb.out, hnm]
          clear hnm
          rcases boolOf (meets (names ((⟨true, qs⟩, f) :: r)) t) with hb2 | hb2
          all_goals rw [hb2.out]
          all_goals go_enter Tryd.func91, Tryd.ntmps91
          all_goals go_wp2_with fail
          all_goals first
            | with_reducible refine (ih.out r (d :: t) g (o + 2) _ g' _ _ r.length (t.length + 1) _ rfl List.length_cons (by omega) (by omega) (by omega) (by omega) hsn.out hG'.out hgl' hS.out).mono ?_
            | with_reducible refine (ih.out r (d :: t) g o _ g' _ _ r.length (t.length + 1) _ rfl List.length_cons (by omega) (by omega) (by omega) (by omega) hsn.out (hnil.out (by omega)) hgl' hS.out).mono ?_
          all_goals rintro e w1 ⟨rfl, hB1⟩
          all_goals have hS3 := Lib.hid (hS2.out.belowW hgl' hB1)
          all_goals have hSn3 := Lib.hid (fun h => (hSn.out h).belowW hgl' hB1)
          all_goals have hG3 := Lib.hid (hGG.out.below hB1)
          all_goals have hgl3 := Nat.lt_of_lt_of_le hgl' hB1.size
          all_goals rw [hb.out]
          all_goals go_wp2_with fail
          all_goals first
            | with_reducible refine (ih.out ((⟨true, qs⟩, f) :: r) t g o _ g' (o' + 1) _ (r.length + 1) t.length _ List.length_cons rfl (by omega) (by omega) (by omega) (by omega) hsn2.out hG3.out hgl3 hS3.out).mono ?_
            | with_reducible refine (ih.out ((⟨true, qs⟩, f) :: r) t g o _ g' o' _ (r.length + 1) t.length _ List.length_cons rfl (by omega) (by omega) (by omega) (by omega) hsn2.out hG3.out hgl3 (hSn3.out (by omega))).mono ?_
          all_goals rintro e w2 ⟨rfl, hB2⟩
          all_goals rw [hb2.out]
          all_goals go_wp2
          all_goals go_ret
          all_goals exact ⟨rfl, hB1.trans (hB2.mono hB1.size)⟩
      | false =>
        cases ns with
        | nil =>
          rw [meets_one_nil]
          replace hfn := Lib.hid hfn
          go_enter Tryd.func91, Tryd.ntmps91
          go_wp2_with fail
          go_quiet (fail)
          go_wp2
          go_ret
          exact ⟨rfl, ⟨rfl, rfl, rfl, Nat.le_refl _, fun _ _ => rfl⟩⟩
        | cons d t =>
          rw [meets_one_cons]
          simp only [List.length_cons] at hN hc' ⊢
          have q1 := hS.out.head
          have hsn2 : Short t := fun y hy => hsn.out y (by simp [hy])
          have hdl : d.length ≤ 1048576 := hsn.out d (by simp)
          obtain ⟨gf, bs, rfl, eg, hcall⟩ := hfn
          have hcl := fun W' hW => hcall d W' hdl hW
          rcases boolOf (fits qs d) with hb | hb
          · rw [hb.out, Bool.false_and]
            rw [hb.out] at hcl
            exact namesHave_not false d d gf bs g o c g' o' c' _ _ w eg q2 q0 q1 hgl hgl' rfl (by omega) (by omega) hcl
          · rw [hb.out, Bool.true_and]
            rw [hb.out] at hcl
            have hS2 := hS.out.tail
            have hSn : t.length = 0 → StrsAt w g' o' t := fun h => by
              rw [List.eq_nil_of_length_eq_zero h]; exact StrsAt.nil _ _ _
            have hnx := fun g2 o2 c2 g3 o3 c3 w3 => ih.out r t g2 o2 c2 g3 o3 c3 r.length t.length w3 rfl rfl (by omega)
            by_cases hc1 : c = 1 <;> by_cases hc2 : c' = 1
            · subst hc1
              subst hc2
              exact namesHave_yes11 _ d d gf bs g o g' o' _ _ w eg q2 q0 q1 hgl hgl' (by omega) (by omega) (by omega) (by omega) hcl (fun W' hW => hnx g o 0 g' o' 0 W' (by omega) (by omega) (by omega) hsn2 ((hnil.out (by omega)).below hW) (Nat.lt_of_lt_of_le hgl' hW.size) ((hSn (by omega)).belowW hgl' hW))
            · subst hc1
              exact namesHave_yes10 _ d d gf bs g o g' o' c' _ _ w eg q2 q0 q1 hgl hgl' (by omega) hc2 hc' (by omega) (by omega) hcl (fun W' hW => hnx g o 0 g' (o' + 1) (c' - 1) W' (by omega) (by omega) (by omega) hsn2 ((hnil.out (by omega)).below hW) (Nat.lt_of_lt_of_le hgl' hW.size) (hS2.belowW hgl' hW))
            · subst hc2
              exact namesHave_yes01 _ d d gf bs g o c g' o' _ _ w eg q2 q0 q1 hgl hgl' hc1 hc (by omega) (by omega) (by omega) hcl (fun W' hW => hnx g (o + 2) (c - 1) g' o' 0 W' (by omega) (by omega) (by omega) hsn2 (hG'.out.below hW) (Nat.lt_of_lt_of_le hgl' hW.size) ((hSn (by omega)).belowW hgl' hW))
            · exact namesHave_yes00 _ d d gf bs g o c g' o' c' _ _ w eg q2 q0 q1 hgl hgl' hc1 hc hc2 hc' (by omega) (by omega) hcl (fun W' hW => hnx g (o + 2) (c - 1) g' (o' + 1) (c' - 1) W' (by omega) (by omega) (by omega) hsn2 (hG'.out.below hW) (Nat.lt_of_lt_of_le hgl' hW.size) (hS2.belowW hgl' hW))
set_option maxRecDepth 1000000 in
set_option maxHeartbeats 4000000 in
theorem GlobHas_any (l s : List UInt8) (hl : l.length ≤ 1048576) (hs : s.length ≤ 1048576) (w : World) :
    Calls Tryd.prog 51 #[.string (mkB l), .string (mkB s)] w fun e w' => e = .returned (.bool (globHas l s)) ∧ Below w.heap.size w w' := by
  have hsz : (mkB s).size ≤ 140737488355328 := by rw [mkB_size]; omega
  go_enter Tryd.func51, Tryd.ntmps51
  go_wp2_with fail
  refine (globNames_any l hl _).mono ?_
  rintro e w1 ⟨hB, ⟨hbad, v, rfl⟩ | ⟨ys, g, cap, hgood, rfl, hown, hall⟩⟩
  · have hk : globHas l s = false := globHas_no (by unfold globOk; rw [hbad]; rfl)
    replace hbad := Lib.hid hbad
    replace hk := Lib.hid hk
    go_wp2
    go_ret
    exact ⟨ret_bool (by rw [hk.out]), hB⟩
  obtain ⟨hN, hcap⟩ := NamesRow.own hown hall
  have hgood' := Lib.hid hgood
  have hyl : ys.length ≤ 5 := by
    obtain ⟨ps, h1, h2, h3, h4⟩ := globOk_parts (g := l) (by unfold globOk; rw [hgood]; rfl)
    rw [hgood] at h1
    cases h1
    have := globAll_length h2
    simp [names] at this
    omega
  clear hgood hown hall
  replace hN := Lib.hid hN
  rcases boolOf (pathOk s) with hp | hp
  · have hk := Lib.hid (globHas_path (g := l) hp.out)
    go_wp2_with fail
    refine (PathOk_any (mkB s) hsz _).mono ?_
    rintro e w2 ⟨rfl, hB2⟩
    rw [mkB_data, hp.out]
    go_wp2
    go_ret
    exact ⟨ret_bool (by rw [hk.out]), hB.trans (hB2.mono hB.size)⟩
  have hk := Lib.hid (globHas_is hgood'.out hp.out)
  go_wp2_with fail
  refine (PathOk_any (mkB s) hsz _).mono ?_
  rintro e w2 ⟨rfl, hB2⟩
  rw [mkB_data, hp.out]
  replace hN := Lib.hid (hN.out.below hB2)
  replace hB2 := hB.trans (hB2.mono hB.size)
  clear hB
  go_wp2_with fail
  refine (SplitSeq_any _ _ _).mono ?_
  rintro e w3 ⟨rfl, hw3⟩
  obtain ⟨z, hz0⟩ : ∃ z, w2.heap.size = z := ⟨_, rfl⟩
  rw [hz0]
  have hz : w3.heap.size = z + 3 := by rw [← hw3]; simp [hz0]
  have b3 : Boxed w3 z 9 (.string (mkB s)) := by rw [← hw3, ← hz0]; exact ((Boxed.new w2 _ _).alloc _).alloc _
  have b4 : Boxed w3 (z + 1) 9 (.string (mkB [47])) := by
    rw [← hw3, ← hz0]
    have h := Boxed.new (w2.alloc (.cells #[.string (mkB s)] 9)) 9 (.string (mkB [47]))
    simp only [World.size_alloc] at h
    exact h.alloc _
  have b5 : Boxed w3 (z + 1 + 1) 3 (.int .i64 0) := by
    rw [← hw3, ← hz0]
    have h := Boxed.new ((w2.alloc (.cells #[.string (mkB s)] 9)).alloc (.cells #[.string (mkB [47])] 9)) 3 (.int .i64 0)
    simp only [World.size_alloc] at h
    exact h
  have hB23 : Below z w2 w3 := by rw [← hw3, ← hz0]; exact (((Below.refl _ w2).alloc (Nat.le_refl _) _).alloc (by simp) _).alloc (by simp; omega) _
  clear hw3
  replace hz := Lib.hid hz
  have hcol := Lib.hid (Collect_any s hs z w3 b3 b4 b5)
  clear b3 b4 b5
  go_wp2_with fail
  refine hcol.out.mono ?_
  rintro e w4 ⟨⟨g2, cap2, rfl, hown2⟩, hB4⟩
  have hS := Lib.hid (strs_own hown2)
  obtain ⟨hcap2, hgl2⟩ := own_cap hown2
  have hB24 : Below w2.heap.size w2 w4 := by rw [hz0]; exact hB23.trans hB4
  have hN4 := Lib.hid (hN.out.below hB24)
  have hcs := Lib.hid (cut_sum 47 s)
  clear hown2 hB4 hB23
  have hBw : Below w.heap.size w w4 := hB2.trans (hB24.mono hB2.size)
  go_wp2_with fail
  refine (namesHave_any 1048582 ys (cut 47 s) g 0 cap g2 0 cap2 _ _ _ rfl rfl (by have := hcs.out; omega) hcap hcap2 (by omega) (short_cut hs) hN4.out hgl2 hS.out).mono ?_
  rintro e w5 ⟨rfl, hB5⟩
  go_wp2
  go_ret
  exact ⟨ret_bool (by rw [hk.out]), hBw.trans (hB5.mono hBw.size)⟩
end Go.Proofs.YtjihpbioofikcaaDoor

