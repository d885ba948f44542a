/-
  The walks of toEntryS and eqEntryS.
-/
import Derived.Test.YtjihpbioofikcaaDoorTreeL
import Derived.Deep.RegionHeld3
namespace Go.Proofs.YtjihpbioofikcaaDoor
open Go.RowKit
set_option linter.unusedVariables false
set_option linter.unusedSimpArgs false
attribute [local go_sem] mkB_size mkB_extract mkB_get mkB_append mkB_append_raw raw_append_mkB mkB_toList

theorem infoE : (Tryd.prog.info? 31).map (fun i => (i.zero, i.size, i.bytes)) = some (some (.agg #[.string { data := #[] }, .int .i64 0, .int .i64 0, .string { data := #[] }]), 4, 48) := by kernel_rfl
/-- a row of room for n entries, of which the first k are laid -/
def RowE (w : World) (g n k : Nat) (es : List En) : Prop := ∃ cur : Array Value, w.heap[g]? = some (.cells cur 31 (0, 0)) ∧ cur.size = n * 4 ∧ ∀ i (h : i < es.length), i < k →
  cur[i * 4]? = some (.string (mkB es[i].path)) ∧ cur[i * 4 + 1]? = some (.int .i64 es[i].kind) ∧ cur[i * 4 + 2]? = some (.int .i64 es[i].mode) ∧ cur[i * 4 + 3]? = some (.string (mkB es[i].text))
theorem RowE.lt {w : World} {g n k : Nat} {es : List En} (h : RowE w g n k es) : g < w.heap.size := by
  obtain ⟨cur, hh, _⟩ := h
  exact (Array.getElem?_eq_some_iff.1 hh).1
theorem RowE.room {w : World} {g n k : Nat} {es : List En} (h : RowE w g n k es) {j : Nat} (hj : j < n * 4) : ∃ v, w.cell? ⟨g, j, none⟩ = some v := by
  obtain ⟨cur, hh, hs, _⟩ := h
  exact ⟨cur[j]'(by omega), by rw [row_cell _ _ _ _ _ _ hh, Array.getElem?_eq_getElem (by omega)]⟩
theorem RowE.frozen {w : World} {g n k : Nat} {es : List En} (h : RowE w g n k es) (j : Nat) : w.frozen? ⟨g, j, none⟩ = false := by
  obtain ⟨cur, hh, hs, _⟩ := h
  simp [World.frozen?, hh]
theorem RowE.below {w w' : World} {g n k m : Nat} {es : List En} (h : RowE w g n k es) (hB : Below m w w') (hg : g < m) : RowE w' g n k es := by
  obtain ⟨cur, hh, hs⟩ := h
  exact ⟨cur, (hB.block g hg).trans hh, hs⟩
theorem RowE.ents {w : World} {g n : Nat} {es : List En} (h : RowE w g n es.length es) : Ents w g es := by
  have hl := h.lt
  obtain ⟨cur, hh, hs, hc⟩ := h
  refine ⟨hl, fun i hi => ?_⟩
  obtain ⟨c0, c1, c2, c3⟩ := hc i hi hi
  exact ⟨by rw [row_cell _ _ _ _ _ _ hh]; exact c0, by rw [row_cell _ _ _ _ _ _ hh]; exact c1, by rw [row_cell _ _ _ _ _ _ hh]; exact c2, by rw [row_cell _ _ _ _ _ _ hh]; exact c3⟩
theorem heap_set {w : World} {g j : Nat} {cur : Array Value} {t : TypeId} {v : Value} (h : w.heap[g]? = some (.cells cur t (0, 0))) : (w.setCell ⟨g, j, none⟩ v).heap[g]? = some (.cells (cur.setIfInBounds j v) t (0, 0)) := by
  simp [World.setCell, Array.getElem?_modify, h]
theorem RowE.put {w : World} {g n k : Nat} {es : List En} (h : RowE w g n k es) (hk : k < es.length) (hn : es.length ≤ n) :
    RowE ((((w.setCell ⟨g, k * 4, none⟩ (.string (mkB es[k].path))).setCell ⟨g, k * 4 + 1, none⟩ (.int .i64 es[k].kind)).setCell ⟨g, k * 4 + 2, none⟩ (.int .i64 es[k].mode)).setCell ⟨g, k * 4 + 3, none⟩ (.string (mkB es[k].text))) g n (k + 1) es := by
  obtain ⟨cur, hh, hs, hc⟩ := h
  refine ⟨_, heap_set (heap_set (heap_set (heap_set hh))), by simp [hs], fun i hi hik => ?_⟩
  simp only [Array.getElem?_setIfInBounds, Array.size_setIfInBounds, hs]
  rcases Nat.lt_or_ge i k with h1 | h1
  · obtain ⟨c0, c1, c2, c3⟩ := hc i hi h1
    refine ⟨?_, ?_, ?_, ?_⟩
    · rw [if_neg (by omega), if_neg (by omega), if_neg (by omega), if_neg (by omega)]; exact c0
    · rw [if_neg (by omega), if_neg (by omega), if_neg (by omega), if_neg (by omega)]; exact c1
    · rw [if_neg (by omega), if_neg (by omega), if_neg (by omega), if_neg (by omega)]; exact c2
    · rw [if_neg (by omega), if_neg (by omega), if_neg (by omega), if_neg (by omega)]; exact c3
  · obtain rfl : i = k := by omega
    refine ⟨?_, ?_, ?_, ?_⟩
    · rw [if_neg (by omega), if_neg (by omega), if_neg (by omega), if_pos rfl, if_pos (by omega)]
    · rw [if_neg (by omega), if_neg (by omega), if_pos rfl, if_pos (by omega)]
    · rw [if_neg (by omega), if_pos rfl, if_pos (by omega)]
    · rw [if_pos rfl, if_pos (by omega)]
theorem RowE.made {w : World} {base g n c : Nat} {xs : List Value} {es : List En} (h : w.ownsRow base 31 4 (.slice (some ⟨g, 0, none⟩) c n) c xs) : RowE w g n 0 es := by
  obtain ⟨_, h | ⟨g', cap, cur, hv, _, hh, _, _, hs, _⟩⟩ := h
  · cases h.1
  · cases hv
    exact ⟨cur, hh, hs, fun i _ hi => by omega⟩

set_option maxHeartbeats 4000000 in
theorem toEntryS_row (es : List En) (A : Option Addr) (n c : Nat) (w : World) (hE : ArgE w A n c es) (hsm : Small es) :
    Calls Tryd.prog 22 #[.slice A n c] w fun r w' => r = .returned (.slice (some ⟨w.heap.size, 0, none⟩) es.length es.length) ∧ RowE w' w.heap.size es.length es.length es ∧ Below w.heap.size w w' := by
  obtain rfl : n = es.length := hE.1
  have hEh := Lib.hid hE
  have hlen := hsm.1
  clear hE hsm
  obtain ⟨i0, hi, hz0, hz1, hz2⟩ := info_parts infoE
  have hib : i0.bytes * es.length ≤ 281474976710656 := by rw [hz2]; omega
  replace hi := Lib.hid hi
  replace hz0 := Lib.hid hz0
  replace hz1 := Lib.hid hz1
  replace hz2 := Lib.hid hz2
  go_enter Tryd.func22, Tryd.ntmps22
  have hml : es.length ≤ maxLen := by unfold maxLen; omega
  go_wp2_with (at_make; refine wpList_make_full _ rfl _ _ _ rfl w.heap.size 31 i0 _ 4 Tryd.underlying27 hi.out hz0.out hz1.out _ _ _ _ es.length rfl rfl rfl rfl hib hml (Nat.le_refl _) ?_; intro W0 hown hgr; have hR0 : Hid (RowE W0 w.heap.size es.length 0 es) := Lib.hid (RowE.made hown); have hB0 : Below w.heap.size w W0 := (Below.refl _ _).grown hgr (Nat.le_refl _) (fun k e => by cases e); clear hown hgr)
  go_loopw [4] (fun i wr => ∃ k : Nat, k ≤ es.length ∧ i = .int .i64 k ∧ Hid (RowE wr w.heap.size es.length k es) ∧ Below w.heap.size w wr) (fun i _ => es.length - (intOf i).toNat)
  case atStart => exact ⟨0, Nat.zero_le _, rfl, hR0, hB0⟩
  case round =>
    clear hR0 hB0
    obtain ⟨k, hk, rfl, hR1, hB1⟩ := hrel
    by_cases hlt : k < es.length
    · obtain ⟨-, -, -, hrow⟩ := hEh.out.below hB1
      rcases hrow with he | ⟨b, off, hA, hb, hrow⟩
      · rw [he] at hlt; simp at hlt
      subst hA
      obtain ⟨c0, c1, c2, c3⟩ := hrow k hlt
      clear hrow
      have hkI : (k : Int) < (es.length : Int) := by omega
      have hg1 := hR1.out.lt
      go_wp2_with fail
      refine (toEntry_any es[k] _).mono ?_
      rintro e w2 ⟨rfl, hB2⟩
      have hR2 := Lib.hid (hR1.out.below hB2 hg1)
      have hB3 := hB1.trans (hB2.mono hB1.size)
      obtain ⟨r0, x0⟩ := hR2.out.room (j := k * 4) (by omega)
      obtain ⟨r1, x1⟩ := hR2.out.room (j := k * 4 + 1) (by omega)
      obtain ⟨r2, x2⟩ := hR2.out.room (j := k * 4 + 2) (by omega)
      obtain ⟨r3, x3⟩ := hR2.out.room (j := k * 4 + 3) (by omega)
      have f0 := hR2.out.frozen (k * 4)
      have f1 := hR2.out.frozen (k * 4 + 1)
      have f2 := hR2.out.frozen (k * 4 + 2)
      have f3 := hR2.out.frozen (k * 4 + 3)
      go_wp2
      go_round
      case rel => exact ⟨k + 1, by omega, by go_num, Lib.hid (hR2.out.put hlt (Nat.le_refl _)), (((hB3.setCell (p := ⟨w.heap.size, k * 4, none⟩) (Nat.le_refl _) _).setCell (p := ⟨w.heap.size, k * 4 + 1, none⟩) (Nat.le_refl _) _).setCell (p := ⟨w.heap.size, k * 4 + 2, none⟩) (Nat.le_refl _) _).setCell (p := ⟨w.heap.size, k * 4 + 3, none⟩) (Nat.le_refl _) _⟩
      case measure => simp [intOf]; omega
    · obtain rfl : k = es.length := by omega
      go_wp2
      go_ret
      exact ⟨rfl, hR1.out, hB1⟩
theorem toEntryS_any (es : List En) (A : Option Addr) (n c : Nat) (w : World) (hE : ArgE w A n c es) (hsm : Small es) :
    Calls Tryd.prog 22 #[.slice A n c] w fun r w' => r = .returned (.slice (some ⟨w.heap.size, 0, none⟩) es.length es.length) ∧ Ents w' w.heap.size es ∧ Below w.heap.size w w' :=
  (toEntryS_row es A n c w hE hsm).mono fun r w' h => ⟨h.1, h.2.1.ents, h.2.2⟩

set_option maxHeartbeats 4000000 in
theorem eqEntryS_any (es : List En) (g1 g2 n1 n2 c1 c2 : Nat) (w : World) (hE1 : Ents w g1 es) (hE2 : Ents w g2 es) (hn1 : n1 = es.length) (hn2 : n2 = es.length) (hlen : es.length ≤ 1048576) :
    Calls Tryd.prog 25 #[.slice (some ⟨g1, 0, none⟩) n1 c1, .slice (some ⟨g2, 0, none⟩) n2 c2] w fun r w' => r = .returned (.bool true) ∧ Below w.heap.size w w' := by
  subst hn1
  subst hn2
  have h1 := Lib.hid hE1
  have h2 := Lib.hid hE2
  have hg1 := hE1.1
  have hg2 := hE2.1
  clear hE1 hE2
  go_enter Tryd.func25, Tryd.ntmps25
  go_wp2
  go_loopw [5] (fun i wr => ∃ k : Nat, k ≤ es.length ∧ i = .int .i64 k ∧ Below w.heap.size w wr) (fun i _ => es.length - (intOf i).toNat)
  case atStart => exact ⟨0, Nat.zero_le _, rfl, Below.refl _ _⟩
  case round =>
    obtain ⟨k, hk, rfl, hB1⟩ := hrel
    by_cases hlt : k < es.length
    · obtain ⟨c0, c1, c2, c3⟩ := (h1.out.below hB1 hg1).2 k hlt
      obtain ⟨d0, d1, d2, d3⟩ := (h2.out.below hB1 hg2).2 k hlt
      have hkI : (k : Int) < (es.length : Int) := by omega
      have hk0 : (0 : Int) ≤ (k : Int) := by omega
      have hzd : wr.drew.heap.size = wr.heap.size := rfl
      go_wp2_with fail
      first
        | skip
          go_region_held3 (fun W' => W'.cell? ⟨g1, k * 4, none⟩ = some (.string (mkB es[k].path)) ∧ W'.cell? ⟨g1, k * 4 + 1, none⟩ = some (.int .i64 es[k].kind) ∧ W'.cell? ⟨g1, k * 4 + 2, none⟩ = some (.int .i64 es[k].mode) ∧ W'.cell? ⟨g1, k * 4 + 3, none⟩ = some (.string (mkB es[k].text)) ∧ W'.cell? ⟨g2, k * 4, none⟩ = some (.string (mkB es[k].path)) ∧ W'.cell? ⟨g2, k * 4 + 1, none⟩ = some (.int .i64 es[k].kind) ∧ W'.cell? ⟨g2, k * 4 + 2, none⟩ = some (.int .i64 es[k].mode) ∧ W'.cell? ⟨g2, k * 4 + 3, none⟩ = some (.string (mkB es[k].text)))
            (first | exact ⟨e0, e1, e2, e3, f0, f1, f2, f3⟩ | exact ⟨c0, c1, c2, c3, d0, d1, d2, d3⟩ | go_keep)
            (first | (go_at_call 58; refine (eqEntry_any es[k] _).mono ?_; rintro e w2 ⟨rfl, hB⟩; have hB2 := Below.trans hB1.drew (hB.mono (by have := hB1.size; omega)); obtain ⟨e0, e1, e2, e3⟩ := (h1.out.below hB2 hg1).2 k hlt; obtain ⟨f0, f1, f2, f3⟩ := (h2.out.below hB2 hg2).2 k hlt))
        | fail
      go_wp2
      go_round
      case rel => exact ⟨k + 1, by omega, by go_num, hB2⟩
      case measure => simp [intOf]; omega
    · go_wp2
      go_ret
      exact ⟨rfl, hB1⟩
end Go.Proofs.YtjihpbioofikcaaDoor
