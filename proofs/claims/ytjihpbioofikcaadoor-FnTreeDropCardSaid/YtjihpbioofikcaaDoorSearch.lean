/-
  The walks of slices.BinarySearchFunc at entries, and of findEntry.
-/
import Derived.Test.YtjihpbioofikcaaDoorGB
import Derived.Deep.RegionHeld3
namespace Go.Proofs.YtjihpbioofikcaaDoor
open Go.RowKit
set_option linter.unusedVariables false
attribute [local go_sem] mkB_size mkB_extract mkB_get mkB_append mkB_append_raw raw_append_mkB mkB_toList

theorem there_yes {es : List En} {p : List UInt8} {k : Nat} (hk : k < es.length) (ha : atGo es p = k) (h : es[k].path = p) : there es p = true := by
  subst ha
  exact there_iff.2 ⟨hk, h⟩
theorem there_no {es : List En} {p : List UInt8} {k : Nat} (hk : k < es.length) (ha : atGo es p = k) (h : Op.bytesLess p es[k].path = true) : there es p = false := by
  subst ha
  cases ht : there es p with
  | false => rfl
  | true => obtain ⟨_, e⟩ := there_iff.1 ht; rw [e, lt_irrefl] at h; cases h
theorem there_end {es : List En} {p : List UInt8} (ha : atGo es p = es.length) : there es p = false := by
  cases ht : there es p with
  | false => rfl
  | true => obtain ⟨h, e⟩ := there_iff.1 ht; omega

/-- what is known of both sides -/
def Sides (es : List En) (p : List UInt8) (lo hi : Nat) : Prop := (∀ k (h : k < es.length), k < lo → Op.bytesLess es[k].path p = true) ∧ (∀ k (h : k < es.length), hi ≤ k → Op.bytesLess es[k].path p = false)
theorem Sides.at {es : List En} {p : List UInt8} {k : Nat} (h : Sides es p k k) (hk : k ≤ es.length) : atGo es p = k := atGo_is hk (fun i hi => h.1 i hi) (fun hk => h.2 k hk (Nat.le_refl _))
theorem Sides.up {es : List En} {p : List UInt8} {lo hi m : Nat} (h : Sides es p lo hi) (hs : Sorted es) (hm : m < es.length) (hl : Op.bytesLess es[m].path p = true) : Sides es p (m + 1) hi :=
  ⟨fun k hk hkm => hs.mono hm (by omega) hl, h.2⟩
theorem Sides.down {es : List En} {p : List UInt8} {lo hi m : Nat} (h : Sides es p lo hi) (hs : Sorted es) (hm : m < es.length) (hl : Op.bytesLess es[m].path p = false) : Sides es p lo m :=
  ⟨h.1, fun k hk hkm => by
    cases hc : Op.bytesLess es[k].path p with
    | false => rfl
    | true => have := hs.mono hk hkm hc; rw [this] at hl; cases hl⟩

set_option maxHeartbeats 8000000 in
theorem search_any (es : List En) (p : List UInt8) (g c : Nat) (w : World) (hE : Ents w g es) (hs : Sorted es) (hlen : es.length ≤ 1048576) :
    Calls Tryd.prog 96 #[.slice (some ⟨g, 0, none⟩) es.length c, .agg #[.string (mkB p), .int .i64 0, .int .i64 0, .string { data := #[] }], .func (.func 64) #[] #[]] w
      fun e w' => e = .returned (.tuple #[.int .i64 (atGo es p), .bool (there es p)]) ∧ Below w.heap.size w w' := by
  have hS0 := Lib.hid (show Sides es p 0 es.length from ⟨fun k h hk => by omega, fun k h hk => by omega⟩)
  have hEh := Lib.hid hE
  have hsh := Lib.hid hs
  have hg := hE.1
  clear hE hs
  go_enter Tryd.func96, Tryd.ntmps96
  go_wp2_with fail
  obtain ⟨W0, hW0⟩ : ∃ W0, w.alloc (.cells #[.string (mkB p), .int .i64 0, .int .i64 0, .string { data := #[] }] 31) = W0 := ⟨_, rfl⟩
  have hb0 : Box4 W0 w.heap.size 31 (.string (mkB p)) (.int .i64 0) (.int .i64 0) (.string { data := #[] }) := by rw [← hW0]; exact Box4.new _ _ _ _ _ _
  have hB0 : Below w.heap.size w W0 := by rw [← hW0]; exact (Below.refl _ _).alloc (Nat.le_refl _) _
  rw [hW0]
  clear hW0
  go_loopw [9, 10] (fun i j wr => ∃ lo hi : Nat, i = .int .i64 lo ∧ j = .int .i64 hi ∧ lo ≤ hi ∧ hi ≤ es.length ∧ Hid (Sides es p lo hi) ∧ Box4 wr w.heap.size 31 (.string (mkB p)) (.int .i64 0) (.int .i64 0) (.string { data := #[] }) ∧ Below w.heap.size w wr) (fun i j _ => (intOf j).toNat - (intOf i).toNat)
  case atStart => exact ⟨0, es.length, rfl, rfl, Nat.zero_le _, Nat.le_refl _, hS0, hb0, hB0⟩
  case round =>
    clear hb0 hB0 hS0
    obtain ⟨lo, hi, rfl, rfl, hlh, hin, hSd, hb1, hB1⟩ := hrel
    have hE1 := hEh.out.below hB1 hg
    have b0 := hb1.cell0
    have b1 := hb1.cell1
    have b2 := hb1.cell2
    have b3 := hb1.cell3
    by_cases hlt : lo < hi
    · obtain ⟨m, hm⟩ : ∃ m : Nat, (lo + hi) / 2 = m := ⟨_, rfl⟩
      have hmI : ((lo : Int) + (hi : Int)) / 2 = (m : Int) := by omega
      have hm1 : lo ≤ m := by omega
      have hm2 : m < hi := by omega
      have hm3 : m < es.length := by omega
      have hm4 : (m : Int) < (es.length : Int) := by omega
      have hm5 : (0 : Int) ≤ (m : Int) := by omega
      replace hm := Lib.hid hm
      obtain ⟨c0, c1, c2, c3⟩ := hE1.2 m hm3
      have hzd : wr.drew.heap.size = wr.heap.size := rfl
      have hsz := hB1.size
      have hbl := hb1.lt
      rcases lt_tri es[m].path p with hc | hc | hc
      · have hv := Lib.hid (show cmpT es[m].path p = -1 by exact cmpT_lt hc)
        have hS2 := Lib.hid (hSd.out.up hsh.out hm3 hc)
        replace hc := Lib.hid hc
        go_wp2_with fail
        first
          | skip
            go_region_held3 (fun W' => W'.cell? ⟨g, m * 4, none⟩ = some (.string (mkB es[m].path)) ∧ W'.cell? ⟨g, m * 4 + 1, none⟩ = some (.int .i64 es[m].kind) ∧ W'.cell? ⟨g, m * 4 + 2, none⟩ = some (.int .i64 es[m].mode) ∧ W'.cell? ⟨g, m * 4 + 3, none⟩ = some (.string (mkB es[m].text)) ∧ W'.cell? ⟨w.heap.size, 0, none⟩ = some (.string (mkB p)) ∧ W'.cell? ⟨w.heap.size, 1, none⟩ = some (.int .i64 0) ∧ W'.cell? ⟨w.heap.size, 2, none⟩ = some (.int .i64 0) ∧ W'.cell? ⟨w.heap.size, 3, none⟩ = some (.string { data := #[] })) (first | exact ⟨d0, d1, d2, d3, e0, e1, e2, e3⟩ | exact ⟨c0, c1, c2, c3, b0, b1, b2, b3⟩ | go_keep) (first | (go_at_call 64; refine (byPath_any es[m].path p _ _ _ _ _ _ _).mono ?_; rintro e w2 ⟨rfl, hB⟩; rw [hv.out]; have hb2 := Box4.below (Box4.drew hb1) hB (by omega); have hB2 := Below.trans hB1.drew (hB.mono (by omega)); have hE2 := Ents.below (Ents.drew hE1) hB (by omega); obtain ⟨d0, d1, d2, d3⟩ := hE2.2 m hm3; have e0 := hb2.cell0; have e1 := hb2.cell1; have e2 := hb2.cell2; have e3 := hb2.cell3))
          | fail
        go_wp2
        go_round
        case rel => exact ⟨m + 1, hi, by go_num, rfl, by omega, hin, hS2, hb2, hB2⟩
        case measure => simp [intOf]; omega
      · have hv := Lib.hid (show cmpT es[m].path p = 0 by rw [hc]; exact cmpT_eq p)
        have hS2 := Lib.hid (hSd.out.down hsh.out hm3 (by rw [hc]; exact lt_irrefl p))
        replace hc := Lib.hid hc
        go_wp2_with fail
        first
          | skip
            go_region_held3 (fun W' => W'.cell? ⟨g, m * 4, none⟩ = some (.string (mkB es[m].path)) ∧ W'.cell? ⟨g, m * 4 + 1, none⟩ = some (.int .i64 es[m].kind) ∧ W'.cell? ⟨g, m * 4 + 2, none⟩ = some (.int .i64 es[m].mode) ∧ W'.cell? ⟨g, m * 4 + 3, none⟩ = some (.string (mkB es[m].text)) ∧ W'.cell? ⟨w.heap.size, 0, none⟩ = some (.string (mkB p)) ∧ W'.cell? ⟨w.heap.size, 1, none⟩ = some (.int .i64 0) ∧ W'.cell? ⟨w.heap.size, 2, none⟩ = some (.int .i64 0) ∧ W'.cell? ⟨w.heap.size, 3, none⟩ = some (.string { data := #[] })) (first | exact ⟨d0, d1, d2, d3, e0, e1, e2, e3⟩ | exact ⟨c0, c1, c2, c3, b0, b1, b2, b3⟩ | go_keep) (first | (go_at_call 64; refine (byPath_any es[m].path p _ _ _ _ _ _ _).mono ?_; rintro e w2 ⟨rfl, hB⟩; rw [hv.out]; have hb2 := Box4.below (Box4.drew hb1) hB (by omega); have hB2 := Below.trans hB1.drew (hB.mono (by omega)); have hE2 := Ents.below (Ents.drew hE1) hB (by omega); obtain ⟨d0, d1, d2, d3⟩ := hE2.2 m hm3; have e0 := hb2.cell0; have e1 := hb2.cell1; have e2 := hb2.cell2; have e3 := hb2.cell3))
          | fail
        go_wp2
        go_round
        case rel => exact ⟨lo, m, rfl, rfl, hm1, by omega, hS2, hb2, hB2⟩
        case measure => simp [intOf]; omega
      · have hv := Lib.hid (show cmpT es[m].path p = 1 by exact cmpT_gt hc)
        have hS2 := Lib.hid (hSd.out.down hsh.out hm3 (lt_asymm hc))
        replace hc := Lib.hid hc
        go_wp2_with fail
        first
          | skip
            go_region_held3 (fun W' => W'.cell? ⟨g, m * 4, none⟩ = some (.string (mkB es[m].path)) ∧ W'.cell? ⟨g, m * 4 + 1, none⟩ = some (.int .i64 es[m].kind) ∧ W'.cell? ⟨g, m * 4 + 2, none⟩ = some (.int .i64 es[m].mode) ∧ W'.cell? ⟨g, m * 4 + 3, none⟩ = some (.string (mkB es[m].text)) ∧ W'.cell? ⟨w.heap.size, 0, none⟩ = some (.string (mkB p)) ∧ W'.cell? ⟨w.heap.size, 1, none⟩ = some (.int .i64 0) ∧ W'.cell? ⟨w.heap.size, 2, none⟩ = some (.int .i64 0) ∧ W'.cell? ⟨w.heap.size, 3, none⟩ = some (.string { data := #[] })) (first | exact ⟨d0, d1, d2, d3, e0, e1, e2, e3⟩ | exact ⟨c0, c1, c2, c3, b0, b1, b2, b3⟩ | go_keep) (first | (go_at_call 64; refine (byPath_any es[m].path p _ _ _ _ _ _ _).mono ?_; rintro e w2 ⟨rfl, hB⟩; rw [hv.out]; have hb2 := Box4.below (Box4.drew hb1) hB (by omega); have hB2 := Below.trans hB1.drew (hB.mono (by omega)); have hE2 := Ents.below (Ents.drew hE1) hB (by omega); obtain ⟨d0, d1, d2, d3⟩ := hE2.2 m hm3; have e0 := hb2.cell0; have e1 := hb2.cell1; have e2 := hb2.cell2; have e3 := hb2.cell3))
          | fail
        go_wp2
        go_round
        case rel => exact ⟨lo, m, rfl, rfl, hm1, by omega, hS2, hb2, hB2⟩
        case measure => simp [intOf]; omega
    · obtain rfl : hi = lo := by omega
      have hat := Lib.hid (hSd.out.at hin)
      by_cases hm3 : hi < es.length
      · obtain ⟨c0, c1, c2, c3⟩ := hE1.2 hi hm3
        have hm4 : (hi : Int) < (es.length : Int) := by omega
        have hm5 : (0 : Int) ≤ (hi : Int) := by omega
        have hzd : wr.drew.heap.size = wr.heap.size := rfl
        have hsz := hB1.size
        have hbl := hb1.lt
        have hnl := hSd.out.2 hi hm3 (Nat.le_refl _)
        rcases lt_tri es[hi].path p with hc | hc | hc
        · rw [hc] at hnl; cases hnl
        · have hv := Lib.hid (show cmpT es[hi].path p = 0 by rw [hc]; exact cmpT_eq p)
          have hth := Lib.hid (there_yes hm3 hat.out hc)
          replace hc := Lib.hid hc
          replace hnl := Lib.hid hnl
          go_wp2_with fail
          first
            | skip
              go_region_held3 (fun W' => W'.cell? ⟨g, hi * 4, none⟩ = some (.string (mkB es[hi].path)) ∧ W'.cell? ⟨g, hi * 4 + 1, none⟩ = some (.int .i64 es[hi].kind) ∧ W'.cell? ⟨g, hi * 4 + 2, none⟩ = some (.int .i64 es[hi].mode) ∧ W'.cell? ⟨g, hi * 4 + 3, none⟩ = some (.string (mkB es[hi].text)) ∧ W'.cell? ⟨w.heap.size, 0, none⟩ = some (.string (mkB p)) ∧ W'.cell? ⟨w.heap.size, 1, none⟩ = some (.int .i64 0) ∧ W'.cell? ⟨w.heap.size, 2, none⟩ = some (.int .i64 0) ∧ W'.cell? ⟨w.heap.size, 3, none⟩ = some (.string { data := #[] })) (first | exact ⟨d0, d1, d2, d3, e0, e1, e2, e3⟩ | exact ⟨c0, c1, c2, c3, b0, b1, b2, b3⟩ | go_keep) (first | (go_at_call 64; refine (byPath_any es[hi].path p _ _ _ _ _ _ _).mono ?_; rintro e w2 ⟨rfl, hB⟩; rw [hv.out]; have hb2 := Box4.below (Box4.drew hb1) hB (by omega); have hB2 := Below.trans hB1.drew (hB.mono (by omega)); have hE2 := Ents.below (Ents.drew hE1) hB (by omega); obtain ⟨d0, d1, d2, d3⟩ := hE2.2 hi hm3; have e0 := hb2.cell0; have e1 := hb2.cell1; have e2 := hb2.cell2; have e3 := hb2.cell3))
            | fail
          all_goals go_wp2
          all_goals
            refine bodyPost_ret (v := .tuple #[.int .i64 hi, .bool true]) (by simp [results, Tryd.results96, go_sem]) rfl ⟨by rw [hat.out, hth.out], hB2⟩
        · have hv := Lib.hid (show cmpT es[hi].path p = 1 by exact cmpT_gt hc)
          have hth := Lib.hid (there_no hm3 hat.out hc)
          replace hc := Lib.hid hc
          replace hnl := Lib.hid hnl
          go_wp2_with fail
          first
            | skip
              go_region_held3 (fun W' => W'.cell? ⟨g, hi * 4, none⟩ = some (.string (mkB es[hi].path)) ∧ W'.cell? ⟨g, hi * 4 + 1, none⟩ = some (.int .i64 es[hi].kind) ∧ W'.cell? ⟨g, hi * 4 + 2, none⟩ = some (.int .i64 es[hi].mode) ∧ W'.cell? ⟨g, hi * 4 + 3, none⟩ = some (.string (mkB es[hi].text)) ∧ W'.cell? ⟨w.heap.size, 0, none⟩ = some (.string (mkB p)) ∧ W'.cell? ⟨w.heap.size, 1, none⟩ = some (.int .i64 0) ∧ W'.cell? ⟨w.heap.size, 2, none⟩ = some (.int .i64 0) ∧ W'.cell? ⟨w.heap.size, 3, none⟩ = some (.string { data := #[] })) (first | exact ⟨d0, d1, d2, d3, e0, e1, e2, e3⟩ | exact ⟨c0, c1, c2, c3, b0, b1, b2, b3⟩ | go_keep) (first | (go_at_call 64; refine (byPath_any es[hi].path p _ _ _ _ _ _ _).mono ?_; rintro e w2 ⟨rfl, hB⟩; rw [hv.out]; have hb2 := Box4.below (Box4.drew hb1) hB (by omega); have hB2 := Below.trans hB1.drew (hB.mono (by omega)); have hE2 := Ents.below (Ents.drew hE1) hB (by omega); obtain ⟨d0, d1, d2, d3⟩ := hE2.2 hi hm3; have e0 := hb2.cell0; have e1 := hb2.cell1; have e2 := hb2.cell2; have e3 := hb2.cell3))
            | fail
          all_goals go_wp2
          all_goals
            refine bodyPost_ret (v := .tuple #[.int .i64 hi, .bool false]) (by simp [results, Tryd.results96, go_sem]) rfl ⟨by rw [hat.out, hth.out], hB2⟩
      · have hie : hi = es.length := by omega
        have hth := Lib.hid (there_end (hat.out.trans hie))
        replace hie := Lib.hid hie
        go_wp2_with fail
        first | refine wp_region_noPanic ?_ | skip
        refine wp_region_held_drew (S := (fun W' => True)) (by kernel_rfl) ?_ (fun hHeld => ?_)
        · trivial
        refine wpAnyH_take (i := 0) (v := ?_) rfl (by kernel_rfl) (by kernel_rfl) (by kernel_rfl) (fun _ _ _ h => h) (Or.inl ⟨by rfl, ?_⟩) (by assumption) ?_
        rotate_left
        · (intro w hSw; (try dsimp only at hSw); go_simp; try with_reducible rfl)
        try simp only [Array.reduceGetElem, Act.put, List.setIfInBounds_toArray, List.set_cons_zero, List.set_cons_succ]
        refine wpAnyH_take (i := 1) (v := ?_) rfl (by kernel_rfl) (by kernel_rfl) (by kernel_rfl) (fun _ _ _ h => h) (Or.inl ⟨by rfl, ?_⟩) (by assumption) ?_
        rotate_left
        · (intro w hSw; (try dsimp only at hSw); go_simp; try with_reducible rfl)
        try simp only [Array.reduceGetElem, Act.put, List.setIfInBounds_toArray, List.set_cons_zero, List.set_cons_succ]
        refine wpAnyH_take (i := 2) (v := ?_) rfl (by kernel_rfl) (by kernel_rfl) (by kernel_rfl) (fun _ _ _ h => h) (Or.inl ⟨by rfl, ?_⟩) (by assumption) ?_
        rotate_left
        · (intro w hSw; (try dsimp only at hSw); go_simp; try with_reducible rfl)
        try simp only [Array.reduceGetElem, Act.put, List.setIfInBounds_toArray, List.set_cons_zero, List.set_cons_succ]
        refine wpAnyH_take (i := 3) (v := ?_) rfl (by kernel_rfl) (by kernel_rfl) (by kernel_rfl) (fun _ _ _ h => h) (Or.inl ⟨by rfl, ?_⟩) (by assumption) ?_
        rotate_left
        · (intro w hSw; (try dsimp only at hSw); go_simp; try with_reducible rfl)
        try simp only [Array.reduceGetElem, Act.put, List.setIfInBounds_toArray, List.set_cons_zero, List.set_cons_succ]
        refine wpAnyH_take (i := 4) (v := ?_) rfl (by kernel_rfl) (by kernel_rfl) (by kernel_rfl) (fun _ _ _ h => h) (Or.inl ⟨by rfl, ?_⟩) (by assumption) ?_
        rotate_left
        · (intro w hSw; (try dsimp only at hSw); go_simp; try with_reducible rfl)
        try simp only [Array.reduceGetElem, Act.put, List.setIfInBounds_toArray, List.set_cons_zero, List.set_cons_succ]
        refine wpAnyH_take (i := 5) (v := undef) rfl (by kernel_rfl) (by kernel_rfl) (by kernel_rfl) (fun _ _ _ h => h) (Or.inr ⟨by rfl, rfl⟩) (by assumption) ?_
        try simp only [Array.reduceGetElem, Act.put, List.setIfInBounds_toArray, List.set_cons_zero, List.set_cons_succ]
        refine wpAnyH_take (i := 6) (v := undef) rfl (by kernel_rfl) (by kernel_rfl) (by kernel_rfl) (fun _ _ _ h => h) (Or.inr ⟨by rfl, rfl⟩) (by assumption) ?_
        try simp only [Array.reduceGetElem, Act.put, List.setIfInBounds_toArray, List.set_cons_zero, List.set_cons_succ]
        refine wpAnyH_take (i := 7) (v := undef) rfl (by kernel_rfl) (by kernel_rfl) (by kernel_rfl) (fun _ _ _ h => h) (Or.inr ⟨by rfl, rfl⟩) (by assumption) ?_
        try simp only [Array.reduceGetElem, Act.put, List.setIfInBounds_toArray, List.set_cons_zero, List.set_cons_succ]
        refine wpAnyH_take (i := 8) (v := undef) rfl (by kernel_rfl) (by kernel_rfl) (by kernel_rfl) (fun _ _ _ h => h) (Or.inr ⟨by rfl, rfl⟩) (by assumption) ?_
        try simp only [Array.reduceGetElem, Act.put, List.setIfInBounds_toArray, List.set_cons_zero, List.set_cons_succ]
        refine wpAnyH_take (i := 9) (v := undef) rfl (by kernel_rfl) (by kernel_rfl) (by kernel_rfl) (fun _ _ _ h => h) (Or.inr ⟨by rfl, rfl⟩) (by assumption) ?_
        try simp only [Array.reduceGetElem, Act.put, List.setIfInBounds_toArray, List.set_cons_zero, List.set_cons_succ]
        refine wpAnyH_take (i := 10) (v := undef) rfl (by kernel_rfl) (by kernel_rfl) (by kernel_rfl) (fun _ _ _ h => h) (Or.inr ⟨by rfl, rfl⟩) (by assumption) ?_
        try simp only [Array.reduceGetElem, Act.put, List.setIfInBounds_toArray, List.set_cons_zero, List.set_cons_succ]
        refine wpAnyH_take (i := 11) (v := undef) rfl (by kernel_rfl) (by kernel_rfl) (by kernel_rfl) (fun _ _ _ h => h) (Or.inr ⟨by rfl, rfl⟩) (by assumption) ?_
        try simp only [Array.reduceGetElem, Act.put, List.setIfInBounds_toArray, List.set_cons_zero, List.set_cons_succ]
        refine wpAnyH_take (i := 12) (v := undef) rfl (by kernel_rfl) (by kernel_rfl) (by kernel_rfl) (fun _ _ _ h => h) (Or.inr ⟨by rfl, rfl⟩) (by assumption) ?_
        try simp only [Array.reduceGetElem, Act.put, List.setIfInBounds_toArray, List.set_cons_zero, List.set_cons_succ]
        refine wpAnyH_take (i := 13) (v := ?_) rfl (by kernel_rfl) (by kernel_rfl) (by kernel_rfl) (fun _ _ _ h => h) (Or.inl ⟨by rfl, ?_⟩) (by assumption) ?_
        rotate_left
        · (intro w hSw; (try dsimp only at hSw); go_simp; try with_reducible rfl)
        try simp only [Array.reduceGetElem, Act.put, List.setIfInBounds_toArray, List.set_cons_zero, List.set_cons_succ]
        refine wpAnyH_take (i := 14) (v := ?_) rfl (by kernel_rfl) (by kernel_rfl) (by kernel_rfl) (fun _ _ _ h => h) (Or.inl ⟨by rfl, ?_⟩) (by assumption) ?_
        rotate_left
        · (intro w hSw; (try dsimp only at hSw); go_simp; try with_reducible rfl)
        try simp only [Array.reduceGetElem, Act.put, List.setIfInBounds_toArray, List.set_cons_zero, List.set_cons_succ]
        refine wpAnyH_take (i := 15) (v := ?_) rfl (by kernel_rfl) (by kernel_rfl) (by kernel_rfl) (fun _ _ _ h => h) (Or.inl ⟨by rfl, ?_⟩) (by assumption) ?_
        rotate_left
        · (intro w hSw; (try dsimp only at hSw); go_simp; try with_reducible rfl)
        try simp only [Array.reduceGetElem, Act.put, List.setIfInBounds_toArray, List.set_cons_zero, List.set_cons_succ]
        refine wpAnyH_done (by kernel_rfl) ?_ _
        try refine NoPanic.normal ?_
        go_wp2
        refine bodyPost_ret (v := .tuple #[.int .i64 hi, .bool false]) (by simp [results, Tryd.results96, go_sem]) rfl ⟨by rw [hat.out, hth.out], hB1.drew⟩
end Go.Proofs.YtjihpbioofikcaaDoor
