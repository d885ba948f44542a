/-
  The walks of markEntryS, heldEntryS, and of eqEntryS at slices that may be empty.
-/
import Derived.Test.YtjihpbioofikcaaDoorMark
namespace Go.Proofs.YtjihpbioofikcaaDoor
open Go.RowKit
set_option linter.unusedVariables false
set_option linter.unusedSimpArgs false
attribute [local go_sem] mkB_size mkB_extract mkB_get mkB_append mkB_append_raw raw_append_mkB mkB_toList

theorem gr_below {w a b : World} {g : Nat} (h : w.grownBy a (some g)) (hB : Below a.heap.size a b) : w.grownBy b (some g) :=
  ⟨hB.os.trans h.os, hB.tape.trans h.tape, hB.output.trans h.output, Nat.le_trans h.size hB.size, fun k hk hne => (hB.block k (Nat.lt_of_lt_of_le hk h.size)).trans (h.block k hk hne)⟩
theorem gr_set {w a : World} {g : Nat} (h : w.grownBy a (some g)) (j : Nat) (v : Value) : w.grownBy (a.setCell ⟨g, j, none⟩ v) (some g) :=
  ⟨h.os, h.tape, h.output, by have := h.size; simp; omega, fun k hk hne => (Below.heap_setCell _ _ _ k (fun e => hne (by rw [e]))).trans (h.block k hk hne)⟩
theorem RowE.putA {w : World} {g n k : Nat} {es : List En} {cur : Array Value}
    (hh : w.heap[g]? = some (.cells ((((cur.setIfInBounds (k * 4) (.string (mkB (es.getD k ⟨[], 0, 0, []⟩).path))).setIfInBounds (k * 4 + 1) (.int .i64 (es.getD k ⟨[], 0, 0, []⟩).kind)).setIfInBounds (k * 4 + 2) (.int .i64 (es.getD k ⟨[], 0, 0, []⟩).mode)).setIfInBounds (k * 4 + 3) (.string (mkB (es.getD k ⟨[], 0, 0, []⟩).text))) 31 (0, 0)))
    (hs : cur.size = n * 4) (hc : ∀ i (h : i < es.length), i < k → cur[i * 4]? = some (.string (mkB es[i].path)) ∧ cur[i * 4 + 1]? = some (.int .i64 es[i].kind) ∧ cur[i * 4 + 2]? = some (.int .i64 es[i].mode) ∧ cur[i * 4 + 3]? = some (.string (mkB es[i].text)))
    (hk : k < es.length) (hn : es.length ≤ n) : RowE w g n (k + 1) es := by
  refine ⟨_, hh, by simp [hs], fun i hi hik => ?_⟩
  simp only [Array.getElem?_setIfInBounds, Array.size_setIfInBounds, hs]
  rcases Nat.lt_or_ge i k with h1 | h1
  · obtain ⟨c0, c1, c2, c3⟩ := hc i hi h1
    refine ⟨?_, ?_, ?_, ?_⟩
    · rw [if_neg (by omega), if_neg (by omega), if_neg (by omega), if_neg (by omega)]; exact c0
    · rw [if_neg (by omega), if_neg (by omega), if_neg (by omega), if_neg (by omega)]; exact c1
    · rw [if_neg (by omega), if_neg (by omega), if_neg (by omega), if_neg (by omega)]; exact c2
    · rw [if_neg (by omega), if_neg (by omega), if_neg (by omega), if_neg (by omega)]; exact c3
  · obtain rfl : i = k := by omega
    have hg : es.getD i ⟨[], 0, 0, []⟩ = es[i] := by rw [List.getD_eq_getElem?_getD, List.getElem?_eq_getElem hi]; rfl
    rw [hg]
    refine ⟨?_, ?_, ?_, ?_⟩
    · rw [if_neg (by omega), if_neg (by omega), if_neg (by omega), if_pos rfl, if_pos (by omega)]
    · rw [if_neg (by omega), if_neg (by omega), if_pos rfl, if_pos (by omega)]
    · rw [if_neg (by omega), if_pos rfl, if_pos (by omega)]
    · rw [if_pos rfl, if_pos (by omega)]
theorem marks_getD {n k i : Nat} (h : i < n) : (marks n k).getD i ⟨[], 0, 0, []⟩ = markEn (k + 4 * i) := by
  rw [List.getD_eq_getElem?_getD, List.getElem?_eq_getElem (by rw [marks_length]; exact h), marks_get]; rfl

set_option maxRecDepth 1000000 in
set_option maxHeartbeats 8000000 in
theorem markEntryS_any (n g m c k : Nat) (w : World) (hR : RowE w g m 0 (marks n k)) (hnm : n ≤ m) (hn : n ≤ 1048576) (hk1 : 1 ≤ k) (hk2 : k + 4 * n ≤ 16777000) :
    Calls Tryd.prog 26 #[.slice (some ⟨g, 0, none⟩) n c, .int .i64 k] w fun r w' => r = .returned (.int .i64 ((k + 4 * n : Nat) : Int)) ∧ RowE w' g m n (marks n k) ∧ w.grownBy w' (some g) := by
  have hRh := Lib.hid hR
  have hml := Lib.hid (marks_length n k)
  clear hR
  go_enter Tryd.func26, Tryd.ntmps26
  go_wp2
  go_loopw [1, 5] (fun kk ii wr => ∃ i q : Nat, i ≤ n ∧ ii = .int .i64 i ∧ kk = .int .i64 q ∧ Hid (q = k + 4 * i) ∧ q ≤ 16777000 ∧ 1 ≤ q ∧ Hid (RowE wr g m i (marks n k)) ∧ Hid (w.grownBy wr (some g))) (fun _ ii _ => n - (intOf ii).toNat)
  case atStart => exact ⟨0, k, Nat.zero_le _, rfl, rfl, Lib.hid (by omega), by omega, hk1, hRh, Lib.hid (World.grownBy.refl _ _)⟩
  case round =>
    obtain ⟨i, q, hi, rfl, rfl, hq, hq2, hq1, hRr, hgr⟩ := hrel
    by_cases hlt : i < n
    · obtain ⟨cur, hh, hs, hc⟩ := hRr.out
      have hgl := hRr.out.lt
      have hiI : (i : Int) < (n : Int) := by omega
      replace hh := Lib.hid hh
      replace hs := Lib.hid hs
      replace hc := Lib.hid hc
      go_wp2_with fail
      refine (markText_any q hq1 (by omega) _).mono ?_
      rintro e w2 ⟨rfl, hB2⟩
      have hh2 : Hid (w2.heap[g]? = some (.cells cur 31 (0, 0))) := Lib.hid ((hB2.block g hgl).trans hh.out)
      have hfr2 : ∀ j, w2.frozen? ⟨g, j, none⟩ = false := fun j => by have := hh2.out; simp [World.frozen?, this]
      have hce2 : ∀ j, j < m * 4 → ∃ v, w2.cell? ⟨g, j, none⟩ = some v := fun j hj => ⟨cur[j]'(by rw [hs.out]; exact hj), by rw [row_cell _ _ _ _ _ _ hh2.out, Array.getElem?_eq_getElem (by rw [hs.out]; exact hj)]⟩
      obtain ⟨r0, x0⟩ := hce2 (i * 4) (by omega)
      obtain ⟨r1, x1⟩ := hce2 (i * 4 + 1) (by omega)
      obtain ⟨r2, x2⟩ := hce2 (i * 4 + 2) (by omega)
      have f0 := hfr2 (i * 4)
      have f1 := hfr2 (i * 4 + 1)
      have f2 := hfr2 (i * 4 + 2)
      clear hfr2 hce2
      have hgr2 := Lib.hid (gr_below hgr.out hB2)
      go_wp2_with fail
      obtain ⟨W3, hW3⟩ : ∃ X, (((w2.setCell ⟨g, i * 4, none⟩ (.string (mkB (markT q)))).setCell ⟨g, i * 4 + 1, none⟩ (.int .i64 ((q : Int) + 1))).setCell ⟨g, i * 4 + 2, none⟩ (.int .i64 ((q : Int) + 1 + 1))) = X := ⟨_, rfl⟩
      have hh3 := heap_set (j := i * 4 + 2) (v := .int .i64 ((q : Int) + 1 + 1)) (heap_set (j := i * 4 + 1) (v := .int .i64 ((q : Int) + 1)) (heap_set (j := i * 4) (v := .string (mkB (markT q))) hh2.out))
      have hgr3 := gr_set (gr_set (gr_set hgr2.out (i * 4) (.string (mkB (markT q)))) (i * 4 + 1) (.int .i64 ((q : Int) + 1))) (i * 4 + 2) (.int .i64 ((q : Int) + 1 + 1))
      rw [hW3] at hh3 hgr3
      rw [hW3]
      clear hW3 x0 x1 x2 f0 f1 f2
      have hgl3 : g < W3.heap.size := (Array.getElem?_eq_some_iff.1 hh3).1
      replace hh3 := Lib.hid hh3
      replace hgr3 := Lib.hid hgr3
      have hc2 := markText_any (q + 3) (by omega) (by omega) W3
      rw [show ((q + 3 : Nat) : Int) = (q : Int) + 1 + 1 + 1 by omega] at hc2
      refine hc2.mono ?_
      clear hc2
      rintro e w5 ⟨rfl, hB5⟩
      have hh5 : Hid (w5.heap[g]? = some (.cells (((cur.setIfInBounds (i * 4) (.string (mkB (markT q)))).setIfInBounds (i * 4 + 1) (.int .i64 ((q : Int) + 1))).setIfInBounds (i * 4 + 2) (.int .i64 ((q : Int) + 1 + 1))) 31 (0, 0))) := Lib.hid ((hB5.block g hgl3).trans hh3.out)
      have hgr5 := Lib.hid (gr_below hgr3.out hB5)
      have f3 : w5.frozen? ⟨g, i * 4 + 3, none⟩ = false := by have := hh5.out; simp [World.frozen?, this]
      obtain ⟨r3, x3⟩ : ∃ v, w5.cell? ⟨g, i * 4 + 3, none⟩ = some v := ⟨_, by rw [row_cell _ _ _ _ _ _ hh5.out, Array.getElem?_eq_getElem (by simp [hs.out]; omega)]⟩
      go_wp2
      go_round
      case rel =>
        refine ⟨i + 1, q + 4, by omega, by go_num, int_eq (by omega), Lib.hid (by have := hq.out; omega), by have := hq.out; omega, by omega, Lib.hid ?_, Lib.hid (gr_set hgr5.out _ _)⟩
        refine RowE.putA (cur := cur) ?_ hs.out hc.out (by rw [hml.out]; exact hlt) (by rw [hml.out]; exact hnm)
        rw [marks_getD hlt, ← hq.out]
        exact heap_set hh5.out
      case measure => simp [intOf]; omega
    · obtain rfl : i = n := by omega
      go_wp2
      go_ret
      exact ⟨ret_int (by rw [hq.out]), hRr.out, hgr.out⟩

set_option maxRecDepth 1000000 in
set_option maxHeartbeats 8000000 in
theorem heldEntryS_any (n g c k : Nat) (w : World) (hE : Ents w g (marks n k)) (hn : n ≤ 1048576) (hk1 : 1 ≤ k) (hk2 : k + 4 * n ≤ 16777000) :
    Calls Tryd.prog 27 #[.slice (some ⟨g, 0, none⟩) n c, .int .i64 k] w fun r w' => r = .returned (.int .i64 ((k + 4 * n : Nat) : Int)) ∧ Below w.heap.size w w' := by
  have hEh := Lib.hid hE
  have hg := hE.1
  have hml := Lib.hid (marks_length n k)
  clear hE
  go_enter Tryd.func27, Tryd.ntmps27
  go_wp2
  go_loopw [1, 5] (fun kk ii wr => ∃ i q : Nat, i ≤ n ∧ ii = .int .i64 i ∧ kk = .int .i64 q ∧ Hid (q = k + 4 * i) ∧ q ≤ 16777000 ∧ 1 ≤ q ∧ Below w.heap.size w wr) (fun _ ii _ => n - (intOf ii).toNat)
  case atStart => exact ⟨0, k, Nat.zero_le _, rfl, rfl, Lib.hid (by omega), by omega, hk1, Below.refl _ _⟩
  case round =>
    obtain ⟨i, q, hi, rfl, rfl, hq, hq2, hq1, hB1⟩ := hrel
    by_cases hlt : i < n
    · have hiI : (i : Int) < (n : Int) := by omega
      have hi0 : (0 : Int) ≤ (i : Int) := by omega
      have hE1 := Lib.hid (hEh.out.below hB1 hg)
      have hg1 := hE1.out.1
      have key : ∀ W, Ents W g (marks n k) → W.cell? ⟨g, i * 4, none⟩ = some (.string (mkB (markT q))) ∧ W.cell? ⟨g, i * 4 + 1, none⟩ = some (.int .i64 ((q : Int) + 1)) ∧ W.cell? ⟨g, i * 4 + 2, none⟩ = some (.int .i64 ((q : Int) + 1 + 1)) ∧ W.cell? ⟨g, i * 4 + 3, none⟩ = some (.string (mkB (markT (q + 3)))) := fun W hW => by
        have h := hW.2 i (by rw [hml.out]; exact hlt)
        rw [marks_get, ← hq.out] at h
        exact h
      replace key := Lib.hid key
      obtain ⟨c0, c1, c2, c3⟩ := key.out wr hE1.out
      have hzd : wr.drew.heap.size = wr.heap.size := rfl
      have hc3 : ∀ W, Calls Tryd.prog 59 #[.int .i64 ((q : Int) + 1 + 1 + 1)] W fun r w' => r = .returned (.string (mkB (markT (q + 3)))) ∧ Below W.heap.size W w' := fun W => by
        have h := markText_any (q + 3) (by omega) (by omega) W
        rwa [show ((q + 3 : Nat) : Int) = (q : Int) + 1 + 1 + 1 by omega] at h
      replace hc3 := Lib.hid hc3
      have hbs1 := hB1.size
      go_wp2_with fail
      first
        | skip
          go_region_held3 (fun W' => W'.cell? ⟨g, i * 4, none⟩ = some (.string (mkB (markT q)))) (first | exact d0 | exact c0 | go_keep)
            (first | (go_at_call 59; refine (markText_any q hq1 (by omega) _).mono ?_; rintro e w2 ⟨rfl, hB⟩; have hB2 := Below.trans hB1.drew (hB.mono (by omega)); have hE2 := Ents.below (Ents.drew hE1.out) hB hg1; obtain ⟨d0, d1, d2, d3⟩ := key.out w2 hE2))
        | fail
      have hg2 := hE2.1
      have hzd2 : w2.drew.heap.size = w2.heap.size := rfl
      have hbs2 := hB2.size
      go_wp2_with fail
      first
        | skip
          go_region_held3 (fun W' => W'.cell? ⟨g, i * 4 + 3, none⟩ = some (.string (mkB (markT (q + 3))))) (first | exact e3 | exact d3 | go_keep)
            (first | (go_at_call 59; refine (hc3.out _).mono ?_; rintro e w3 ⟨rfl, hB⟩; have hB3 := Below.trans hB2.drew (hB.mono (by omega)); have hE3 := Ents.below (Ents.drew hE2) hB hg2; obtain ⟨e0, e1, e2, e3⟩ := key.out w3 hE3))
        | fail
      go_wp2
      go_round
      case rel => exact ⟨i + 1, q + 4, by omega, by go_num, int_eq (by omega), Lib.hid (by have := hq.out; omega), by have := hq.out; omega, by omega, hB3⟩
      case measure => simp [intOf]; omega
    · obtain rfl : i = n := by omega
      go_wp2
      go_ret
      exact ⟨ret_int (by rw [hq.out]), hB1⟩

/-! ### slices that may be empty -/
set_option maxRecDepth 1000000 in
set_option maxHeartbeats 2000000 in
theorem eqEntryS_nil (A B : Option Addr) (c d : Nat) (w : World) :
    Calls Tryd.prog 25 #[.slice A 0 c, .slice B 0 d] w fun r w' => r = .returned (.bool true) ∧ Below w.heap.size w w' := by
  go_enter Tryd.func25, Tryd.ntmps25
  go_wp2
  go_loopw [5] (fun i wr => i = .int .i64 0 ∧ w = wr) (fun _ _ => 0)
  case atStart => exact ⟨rfl, rfl⟩
  case round =>
    obtain ⟨rfl, rfl⟩ := hrel
    go_wp2
    go_ret
    exact ⟨rfl, Below.refl _ _⟩
theorem eqEntryS_sl (es : List En) (A B : Option Addr) (n1 n2 c d : Nat) (w : World) (hA : SlE w A es) (hB : SlE w B es) (hn1 : n1 = es.length) (hn2 : n2 = es.length) (hlen : es.length ≤ 1048576) :
    Calls Tryd.prog 25 #[.slice A n1 c, .slice B n2 d] w fun r w' => r = .returned (.bool true) ∧ Below w.heap.size w w' := by
  by_cases he : es = []
  · subst he
    subst hn1
    subst hn2
    exact eqEntryS_nil A B c d w
  · rcases hA with h | ⟨g1, rfl, h1⟩
    · exact absurd h he
    rcases hB with h | ⟨g2, rfl, h2⟩
    · exact absurd h he
    exact eqEntryS_any es g1 g2 n1 n2 c d w h1 h2 hn1 hn2 hlen
set_option maxRecDepth 1000000 in
set_option maxHeartbeats 2000000 in
theorem markEntryS_nil (A : Option Addr) (c k : Nat) (w : World) :
    Calls Tryd.prog 26 #[.slice A 0 c, .int .i64 k] w fun r w' => r = .returned (.int .i64 k) ∧ w = w' := by
  go_enter Tryd.func26, Tryd.ntmps26
  go_wp2
  go_loopw [1, 5] (fun kk i wr => kk = .int .i64 k ∧ i = .int .i64 0 ∧ w = wr) (fun _ _ _ => 0)
  case atStart => exact ⟨rfl, rfl, rfl⟩
  case round =>
    obtain ⟨rfl, rfl, rfl⟩ := hrel
    go_wp2
    go_ret
    exact ⟨rfl, rfl⟩
set_option maxRecDepth 1000000 in
set_option maxHeartbeats 2000000 in
theorem heldEntryS_nil (A : Option Addr) (c k : Nat) (w : World) :
    Calls Tryd.prog 27 #[.slice A 0 c, .int .i64 k] w fun r w' => r = .returned (.int .i64 k) ∧ w = w' := by
  go_enter Tryd.func27, Tryd.ntmps27
  go_wp2
  go_loopw [1, 5] (fun kk i wr => kk = .int .i64 k ∧ i = .int .i64 0 ∧ w = wr) (fun _ _ _ => 0)
  case atStart => exact ⟨rfl, rfl, rfl⟩
  case round =>
    obtain ⟨rfl, rfl, rfl⟩ := hrel
    go_wp2
    go_ret
    exact ⟨rfl, rfl⟩
end Go.Proofs.YtjihpbioofikcaaDoor
