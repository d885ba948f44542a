/-
  Search, TreeE, TreeS, TreeF, TreeOk, TreeL, TreeM: merged.
-/
import Derived.Test.YtiknkjhdieepbaaDoorGB
import Derived.Deep.RegionHeld3
import Derived.OwnWalk
/-
  The walks of slices.BinarySearchFunc at entries, and of findEntry.
-/
namespace Go.Proofs.YtiknkjhdieepbaaDoor
open Go.RowKit
set_option linter.unusedVariables false
attribute [local go_sem] mkB_size mkB_extract mkB_get mkB_append mkB_append_raw raw_append_mkB mkB_toList

theorem there_yes {es : List En} {p : List UInt8} {k : Nat} (hk : k < es.length) (ha : atGo es p = k) (h : es[k].path = p) : there es p = true := by
  subst ha
  exact there_iff.2 ⟨hk, h⟩
theorem there_no {es : List En} {p : List UInt8} {k : Nat} (hk : k < es.length) (ha : atGo es p = k) (h : Op.bytesLess p es[k].path = true) : there es p = false := by
  subst ha
  cases ht : there es p with
  | false => rfl
  | true => obtain ⟨_, e⟩ := there_iff.1 ht; rw [e, lt_irrefl] at h; cases h
theorem there_end {es : List En} {p : List UInt8} (ha : atGo es p = es.length) : there es p = false := by
  cases ht : there es p with
  | false => rfl
  | true => obtain ⟨h, e⟩ := there_iff.1 ht; omega

/-- what is known of both sides -/
def Sides (es : List En) (p : List UInt8) (lo hi : Nat) : Prop := (∀ k (h : k < es.length), k < lo → Op.bytesLess es[k].path p = true) ∧ (∀ k (h : k < es.length), hi ≤ k → Op.bytesLess es[k].path p = false)
theorem Sides.at {es : List En} {p : List UInt8} {k : Nat} (h : Sides es p k k) (hk : k ≤ es.length) : atGo es p = k := atGo_is hk (fun i hi => h.1 i hi) (fun hk => h.2 k hk (Nat.le_refl _))
theorem Sides.up {es : List En} {p : List UInt8} {lo hi m : Nat} (h : Sides es p lo hi) (hs : Sorted es) (hm : m < es.length) (hl : Op.bytesLess es[m].path p = true) : Sides es p (m + 1) hi :=
  ⟨fun k hk hkm => hs.mono hm (by omega) hl, h.2⟩
theorem Sides.down {es : List En} {p : List UInt8} {lo hi m : Nat} (h : Sides es p lo hi) (hs : Sorted es) (hm : m < es.length) (hl : Op.bytesLess es[m].path p = false) : Sides es p lo m :=
  ⟨h.1, fun k hk hkm => by
    cases hc : Op.bytesLess es[k].path p with
    | false => rfl
    | true => have := hs.mono hk hkm hc; rw [this] at hl; cases hl⟩

set_option maxHeartbeats 8000000 in
theorem search_any (es : List En) (p : List UInt8) (g c : Nat) (w : World) (hE : Ents w g es) (hs : Sorted es) (hlen : es.length ≤ 1048576) :
    Calls Tryd.prog 30 #[.slice (some ⟨g, 0, none⟩) es.length c, .agg #[.string (mkB p), .int .i64 0, .int .i64 0, .string { data := #[] }], .func (.func 31) #[] #[]] w
      fun e w' => e = .returned (.tuple #[.int .i64 (atGo es p), .bool (there es p)]) ∧ Below w.heap.size w w' := by
  have hS0 := Lib.hid (show Sides es p 0 es.length from ⟨fun k h hk => by omega, fun k h hk => by omega⟩)
  have hEh := Lib.hid hE
  have hsh := Lib.hid hs
  have hg := hE.1
  clear hE hs
  go_enter Tryd.func30, Tryd.ntmps30
  go_wp2_with fail
  obtain ⟨W0, hW0⟩ : ∃ W0, w.alloc (.cells #[.string (mkB p), .int .i64 0, .int .i64 0, .string { data := #[] }] 30) = W0 := ⟨_, rfl⟩
  have hb0 : Box4 W0 w.heap.size 30 (.string (mkB p)) (.int .i64 0) (.int .i64 0) (.string { data := #[] }) := by rw [← hW0]; exact Box4.new _ _ _ _ _ _
  have hB0 : Below w.heap.size w W0 := by rw [← hW0]; exact (Below.refl _ _).alloc (Nat.le_refl _) _
  rw [hW0]
  clear hW0
  go_loopw [9, 10] (fun i j wr => ∃ lo hi : Nat, i = .int .i64 lo ∧ j = .int .i64 hi ∧ lo ≤ hi ∧ hi ≤ es.length ∧ Hid (Sides es p lo hi) ∧ Box4 wr w.heap.size 30 (.string (mkB p)) (.int .i64 0) (.int .i64 0) (.string { data := #[] }) ∧ Below w.heap.size w wr) (fun i j _ => (intOf j).toNat - (intOf i).toNat)
  case atStart => exact ⟨0, es.length, rfl, rfl, Nat.zero_le _, Nat.le_refl _, hS0, hb0, hB0⟩
  case round =>
    clear hb0 hB0 hS0
    obtain ⟨lo, hi, rfl, rfl, hlh, hin, hSd, hb1, hB1⟩ := hrel
    have hE1 := hEh.out.below hB1 hg
    have b0 := hb1.cell0
    have b1 := hb1.cell1
    have b2 := hb1.cell2
    have b3 := hb1.cell3
    by_cases hlt : lo < hi
    · obtain ⟨m, hm⟩ : ∃ m : Nat, (lo + hi) / 2 = m := ⟨_, rfl⟩
      have hmI : ((lo : Int) + (hi : Int)) / 2 = (m : Int) := by omega
      have hm1 : lo ≤ m := by omega
      have hm2 : m < hi := by omega
      have hm3 : m < es.length := by omega
      have hm4 : (m : Int) < (es.length : Int) := by omega
      have hm5 : (0 : Int) ≤ (m : Int) := by omega
      replace hm := Lib.hid hm
      obtain ⟨c0, c1, c2, c3⟩ := hE1.2 m hm3
      have hzd : wr.drew.heap.size = wr.heap.size := rfl
      have hsz := hB1.size
      have hbl := hb1.lt
      rcases lt_tri es[m].path p with hc | hc | hc
      · have hv := Lib.hid (show cmpT es[m].path p = -1 by exact cmpT_lt hc)
        have hS2 := Lib.hid (hSd.out.up hsh.out hm3 hc)
        replace hc := Lib.hid hc
        go_wp2_with fail
        first
          | skip
            go_region_held3 (fun W' => W'.cell? ⟨g, m * 4, none⟩ = some (.string (mkB es[m].path)) ∧ W'.cell? ⟨g, m * 4 + 1, none⟩ = some (.int .i64 es[m].kind) ∧ W'.cell? ⟨g, m * 4 + 2, none⟩ = some (.int .i64 es[m].mode) ∧ W'.cell? ⟨g, m * 4 + 3, none⟩ = some (.string (mkB es[m].text)) ∧ W'.cell? ⟨w.heap.size, 0, none⟩ = some (.string (mkB p)) ∧ W'.cell? ⟨w.heap.size, 1, none⟩ = some (.int .i64 0) ∧ W'.cell? ⟨w.heap.size, 2, none⟩ = some (.int .i64 0) ∧ W'.cell? ⟨w.heap.size, 3, none⟩ = some (.string { data := #[] })) (first | exact ⟨d0, d1, d2, d3, e0, e1, e2, e3⟩ | exact ⟨c0, c1, c2, c3, b0, b1, b2, b3⟩ | go_keep) (first | (go_at_call 31; refine (byPath_any es[m].path p _ _ _ _ _ _ _).mono ?_; rintro e w2 ⟨rfl, hB⟩; rw [hv.out]; have hb2 := Box4.below (Box4.drew hb1) hB (by omega); have hB2 := Below.trans hB1.drew (hB.mono (by omega)); have hE2 := Ents.below (Ents.drew hE1) hB (by omega); obtain ⟨d0, d1, d2, d3⟩ := hE2.2 m hm3; have e0 := hb2.cell0; have e1 := hb2.cell1; have e2 := hb2.cell2; have e3 := hb2.cell3))
          | fail
        go_wp2
        go_round
        case rel => exact ⟨m + 1, hi, by go_num, rfl, by omega, hin, hS2, hb2, hB2⟩
        case measure => simp [intOf]; omega
      · have hv := Lib.hid (show cmpT es[m].path p = 0 by rw [hc]; exact cmpT_eq p)
        have hS2 := Lib.hid (hSd.out.down hsh.out hm3 (by rw [hc]; exact lt_irrefl p))
        replace hc := Lib.hid hc
        go_wp2_with fail
        first
          | skip
            go_region_held3 (fun W' => W'.cell? ⟨g, m * 4, none⟩ = some (.string (mkB es[m].path)) ∧ W'.cell? ⟨g, m * 4 + 1, none⟩ = some (.int .i64 es[m].kind) ∧ W'.cell? ⟨g, m * 4 + 2, none⟩ = some (.int .i64 es[m].mode) ∧ W'.cell? ⟨g, m * 4 + 3, none⟩ = some (.string (mkB es[m].text)) ∧ W'.cell? ⟨w.heap.size, 0, none⟩ = some (.string (mkB p)) ∧ W'.cell? ⟨w.heap.size, 1, none⟩ = some (.int .i64 0) ∧ W'.cell? ⟨w.heap.size, 2, none⟩ = some (.int .i64 0) ∧ W'.cell? ⟨w.heap.size, 3, none⟩ = some (.string { data := #[] })) (first | exact ⟨d0, d1, d2, d3, e0, e1, e2, e3⟩ | exact ⟨c0, c1, c2, c3, b0, b1, b2, b3⟩ | go_keep) (first | (go_at_call 31; refine (byPath_any es[m].path p _ _ _ _ _ _ _).mono ?_; rintro e w2 ⟨rfl, hB⟩; rw [hv.out]; have hb2 := Box4.below (Box4.drew hb1) hB (by omega); have hB2 := Below.trans hB1.drew (hB.mono (by omega)); have hE2 := Ents.below (Ents.drew hE1) hB (by omega); obtain ⟨d0, d1, d2, d3⟩ := hE2.2 m hm3; have e0 := hb2.cell0; have e1 := hb2.cell1; have e2 := hb2.cell2; have e3 := hb2.cell3))
          | fail
        go_wp2
        go_round
        case rel => exact ⟨lo, m, rfl, rfl, hm1, by omega, hS2, hb2, hB2⟩
        case measure => simp [intOf]; omega
      · have hv := Lib.hid (show cmpT es[m].path p = 1 by exact cmpT_gt hc)
        have hS2 := Lib.hid (hSd.out.down hsh.out hm3 (lt_asymm hc))
        replace hc := Lib.hid hc
        go_wp2_with fail
        first
          | skip
            go_region_held3 (fun W' => W'.cell? ⟨g, m * 4, none⟩ = some (.string (mkB es[m].path)) ∧ W'.cell? ⟨g, m * 4 + 1, none⟩ = some (.int .i64 es[m].kind) ∧ W'.cell? ⟨g, m * 4 + 2, none⟩ = some (.int .i64 es[m].mode) ∧ W'.cell? ⟨g, m * 4 + 3, none⟩ = some (.string (mkB es[m].text)) ∧ W'.cell? ⟨w.heap.size, 0, none⟩ = some (.string (mkB p)) ∧ W'.cell? ⟨w.heap.size, 1, none⟩ = some (.int .i64 0) ∧ W'.cell? ⟨w.heap.size, 2, none⟩ = some (.int .i64 0) ∧ W'.cell? ⟨w.heap.size, 3, none⟩ = some (.string { data := #[] })) (first | exact ⟨d0, d1, d2, d3, e0, e1, e2, e3⟩ | exact ⟨c0, c1, c2, c3, b0, b1, b2, b3⟩ | go_keep) (first | (go_at_call 31; refine (byPath_any es[m].path p _ _ _ _ _ _ _).mono ?_; rintro e w2 ⟨rfl, hB⟩; rw [hv.out]; have hb2 := Box4.below (Box4.drew hb1) hB (by omega); have hB2 := Below.trans hB1.drew (hB.mono (by omega)); have hE2 := Ents.below (Ents.drew hE1) hB (by omega); obtain ⟨d0, d1, d2, d3⟩ := hE2.2 m hm3; have e0 := hb2.cell0; have e1 := hb2.cell1; have e2 := hb2.cell2; have e3 := hb2.cell3))
          | fail
        go_wp2
        go_round
        case rel => exact ⟨lo, m, rfl, rfl, hm1, by omega, hS2, hb2, hB2⟩
        case measure => simp [intOf]; omega
    · obtain rfl : hi = lo := by omega
      have hat := Lib.hid (hSd.out.at hin)
      by_cases hm3 : hi < es.length
      · obtain ⟨c0, c1, c2, c3⟩ := hE1.2 hi hm3
        have hm4 : (hi : Int) < (es.length : Int) := by omega
        have hm5 : (0 : Int) ≤ (hi : Int) := by omega
        have hzd : wr.drew.heap.size = wr.heap.size := rfl
        have hsz := hB1.size
        have hbl := hb1.lt
        have hnl := hSd.out.2 hi hm3 (Nat.le_refl _)
        rcases lt_tri es[hi].path p with hc | hc | hc
        · rw [hc] at hnl; cases hnl
        · have hv := Lib.hid (show cmpT es[hi].path p = 0 by rw [hc]; exact cmpT_eq p)
          have hth := Lib.hid (there_yes hm3 hat.out hc)
          replace hc := Lib.hid hc
          replace hnl := Lib.hid hnl
          go_wp2_with fail
          first
            | skip
              go_region_held3 (fun W' => W'.cell? ⟨g, hi * 4, none⟩ = some (.string (mkB es[hi].path)) ∧ W'.cell? ⟨g, hi * 4 + 1, none⟩ = some (.int .i64 es[hi].kind) ∧ W'.cell? ⟨g, hi * 4 + 2, none⟩ = some (.int .i64 es[hi].mode) ∧ W'.cell? ⟨g, hi * 4 + 3, none⟩ = some (.string (mkB es[hi].text)) ∧ W'.cell? ⟨w.heap.size, 0, none⟩ = some (.string (mkB p)) ∧ W'.cell? ⟨w.heap.size, 1, none⟩ = some (.int .i64 0) ∧ W'.cell? ⟨w.heap.size, 2, none⟩ = some (.int .i64 0) ∧ W'.cell? ⟨w.heap.size, 3, none⟩ = some (.string { data := #[] })) (first | exact ⟨d0, d1, d2, d3, e0, e1, e2, e3⟩ | exact ⟨c0, c1, c2, c3, b0, b1, b2, b3⟩ | go_keep) (first | (go_at_call 31; refine (byPath_any es[hi].path p _ _ _ _ _ _ _).mono ?_; rintro e w2 ⟨rfl, hB⟩; rw [hv.out]; have hb2 := Box4.below (Box4.drew hb1) hB (by omega); have hB2 := Below.trans hB1.drew (hB.mono (by omega)); have hE2 := Ents.below (Ents.drew hE1) hB (by omega); obtain ⟨d0, d1, d2, d3⟩ := hE2.2 hi hm3; have e0 := hb2.cell0; have e1 := hb2.cell1; have e2 := hb2.cell2; have e3 := hb2.cell3))
            | fail
          all_goals go_wp2
          all_goals
            refine bodyPost_ret (v := .tuple #[.int .i64 hi, .bool true]) (by simp [results, Tryd.results30, go_sem]) rfl ⟨by rw [hat.out, hth.out], hB2⟩
        · have hv := Lib.hid (show cmpT es[hi].path p = 1 by exact cmpT_gt hc)
          have hth := Lib.hid (there_no hm3 hat.out hc)
          replace hc := Lib.hid hc
          replace hnl := Lib.hid hnl
          go_wp2_with fail
          first
            | skip
              go_region_held3 (fun W' => W'.cell? ⟨g, hi * 4, none⟩ = some (.string (mkB es[hi].path)) ∧ W'.cell? ⟨g, hi * 4 + 1, none⟩ = some (.int .i64 es[hi].kind) ∧ W'.cell? ⟨g, hi * 4 + 2, none⟩ = some (.int .i64 es[hi].mode) ∧ W'.cell? ⟨g, hi * 4 + 3, none⟩ = some (.string (mkB es[hi].text)) ∧ W'.cell? ⟨w.heap.size, 0, none⟩ = some (.string (mkB p)) ∧ W'.cell? ⟨w.heap.size, 1, none⟩ = some (.int .i64 0) ∧ W'.cell? ⟨w.heap.size, 2, none⟩ = some (.int .i64 0) ∧ W'.cell? ⟨w.heap.size, 3, none⟩ = some (.string { data := #[] })) (first | exact ⟨d0, d1, d2, d3, e0, e1, e2, e3⟩ | exact ⟨c0, c1, c2, c3, b0, b1, b2, b3⟩ | go_keep) (first | (go_at_call 31; refine (byPath_any es[hi].path p _ _ _ _ _ _ _).mono ?_; rintro e w2 ⟨rfl, hB⟩; rw [hv.out]; have hb2 := Box4.below (Box4.drew hb1) hB (by omega); have hB2 := Below.trans hB1.drew (hB.mono (by omega)); have hE2 := Ents.below (Ents.drew hE1) hB (by omega); obtain ⟨d0, d1, d2, d3⟩ := hE2.2 hi hm3; have e0 := hb2.cell0; have e1 := hb2.cell1; have e2 := hb2.cell2; have e3 := hb2.cell3))
            | fail
          all_goals go_wp2
          all_goals
            refine bodyPost_ret (v := .tuple #[.int .i64 hi, .bool false]) (by simp [results, Tryd.results30, go_sem]) rfl ⟨by rw [hat.out, hth.out], hB2⟩
      · have hie : hi = es.length := by omega
        have hth := Lib.hid (there_end (hat.out.trans hie))
        replace hie := Lib.hid hie
        go_wp2_with fail
        first | refine wp_region_noPanic ?_ | skip
        refine wp_region_held_drew (S := (fun W' => True)) (by kernel_rfl) ?_ (fun hHeld => ?_)
        · trivial
        refine wpAnyH_take (i := 0) (v := ?_) rfl (by kernel_rfl) (by kernel_rfl) (by kernel_rfl) (fun _ _ _ h => h) (Or.inl ⟨by rfl, ?_⟩) (by assumption) ?_
        rotate_left
        · (intro w hSw; (try dsimp only at hSw); go_simp; try with_reducible rfl)
        try simp only [Array.reduceGetElem, Act.put, List.setIfInBounds_toArray, List.set_cons_zero, List.set_cons_succ]
        refine wpAnyH_take (i := 1) (v := ?_) rfl (by kernel_rfl) (by kernel_rfl) (by kernel_rfl) (fun _ _ _ h => h) (Or.inl ⟨by rfl, ?_⟩) (by assumption) ?_
        rotate_left
        · (intro w hSw; (try dsimp only at hSw); go_simp; try with_reducible rfl)
        try simp only [Array.reduceGetElem, Act.put, List.setIfInBounds_toArray, List.set_cons_zero, List.set_cons_succ]
        refine wpAnyH_take (i := 2) (v := ?_) rfl (by kernel_rfl) (by kernel_rfl) (by kernel_rfl) (fun _ _ _ h => h) (Or.inl ⟨by rfl, ?_⟩) (by assumption) ?_
        rotate_left
        · (intro w hSw; (try dsimp only at hSw); go_simp; try with_reducible rfl)
        try simp only [Array.reduceGetElem, Act.put, List.setIfInBounds_toArray, List.set_cons_zero, List.set_cons_succ]
        refine wpAnyH_take (i := 3) (v := ?_) rfl (by kernel_rfl) (by kernel_rfl) (by kernel_rfl) (fun _ _ _ h => h) (Or.inl ⟨by rfl, ?_⟩) (by assumption) ?_
        rotate_left
        · (intro w hSw; (try dsimp only at hSw); go_simp; try with_reducible rfl)
        try simp only [Array.reduceGetElem, Act.put, List.setIfInBounds_toArray, List.set_cons_zero, List.set_cons_succ]
        refine wpAnyH_take (i := 4) (v := ?_) rfl (by kernel_rfl) (by kernel_rfl) (by kernel_rfl) (fun _ _ _ h => h) (Or.inl ⟨by rfl, ?_⟩) (by assumption) ?_
        rotate_left
        · (intro w hSw; (try dsimp only at hSw); go_simp; try with_reducible rfl)
        try simp only [Array.reduceGetElem, Act.put, List.setIfInBounds_toArray, List.set_cons_zero, List.set_cons_succ]
        refine wpAnyH_take (i := 5) (v := undef) rfl (by kernel_rfl) (by kernel_rfl) (by kernel_rfl) (fun _ _ _ h => h) (Or.inr ⟨by rfl, rfl⟩) (by assumption) ?_
        try simp only [Array.reduceGetElem, Act.put, List.setIfInBounds_toArray, List.set_cons_zero, List.set_cons_succ]
        refine wpAnyH_take (i := 6) (v := undef) rfl (by kernel_rfl) (by kernel_rfl) (by kernel_rfl) (fun _ _ _ h => h) (Or.inr ⟨by rfl, rfl⟩) (by assumption) ?_
        try simp only [Array.reduceGetElem, Act.put, List.setIfInBounds_toArray, List.set_cons_zero, List.set_cons_succ]
        refine wpAnyH_take (i := 7) (v := undef) rfl (by kernel_rfl) (by kernel_rfl) (by kernel_rfl) (fun _ _ _ h => h) (Or.inr ⟨by rfl, rfl⟩) (by assumption) ?_
        try simp only [Array.reduceGetElem, Act.put, List.setIfInBounds_toArray, List.set_cons_zero, List.set_cons_succ]
        refine wpAnyH_take (i := 8) (v := undef) rfl (by kernel_rfl) (by kernel_rfl) (by kernel_rfl) (fun _ _ _ h => h) (Or.inr ⟨by rfl, rfl⟩) (by assumption) ?_
        try simp only [Array.reduceGetElem, Act.put, List.setIfInBounds_toArray, List.set_cons_zero, List.set_cons_succ]
        refine wpAnyH_take (i := 9) (v := undef) rfl (by kernel_rfl) (by kernel_rfl) (by kernel_rfl) (fun _ _ _ h => h) (Or.inr ⟨by rfl, rfl⟩) (by assumption) ?_
        try simp only [Array.reduceGetElem, Act.put, List.setIfInBounds_toArray, List.set_cons_zero, List.set_cons_succ]
        refine wpAnyH_take (i := 10) (v := undef) rfl (by kernel_rfl) (by kernel_rfl) (by kernel_rfl) (fun _ _ _ h => h) (Or.inr ⟨by rfl, rfl⟩) (by assumption) ?_
        try simp only [Array.reduceGetElem, Act.put, List.setIfInBounds_toArray, List.set_cons_zero, List.set_cons_succ]
        refine wpAnyH_take (i := 11) (v := undef) rfl (by kernel_rfl) (by kernel_rfl) (by kernel_rfl) (fun _ _ _ h => h) (Or.inr ⟨by rfl, rfl⟩) (by assumption) ?_
        try simp only [Array.reduceGetElem, Act.put, List.setIfInBounds_toArray, List.set_cons_zero, List.set_cons_succ]
        refine wpAnyH_take (i := 12) (v := undef) rfl (by kernel_rfl) (by kernel_rfl) (by kernel_rfl) (fun _ _ _ h => h) (Or.inr ⟨by rfl, rfl⟩) (by assumption) ?_
        try simp only [Array.reduceGetElem, Act.put, List.setIfInBounds_toArray, List.set_cons_zero, List.set_cons_succ]
        refine wpAnyH_take (i := 13) (v := ?_) rfl (by kernel_rfl) (by kernel_rfl) (by kernel_rfl) (fun _ _ _ h => h) (Or.inl ⟨by rfl, ?_⟩) (by assumption) ?_
        rotate_left
        · (intro w hSw; (try dsimp only at hSw); go_simp; try with_reducible rfl)
        try simp only [Array.reduceGetElem, Act.put, List.setIfInBounds_toArray, List.set_cons_zero, List.set_cons_succ]
        refine wpAnyH_take (i := 14) (v := ?_) rfl (by kernel_rfl) (by kernel_rfl) (by kernel_rfl) (fun _ _ _ h => h) (Or.inl ⟨by rfl, ?_⟩) (by assumption) ?_
        rotate_left
        · (intro w hSw; (try dsimp only at hSw); go_simp; try with_reducible rfl)
        try simp only [Array.reduceGetElem, Act.put, List.setIfInBounds_toArray, List.set_cons_zero, List.set_cons_succ]
        refine wpAnyH_take (i := 15) (v := ?_) rfl (by kernel_rfl) (by kernel_rfl) (by kernel_rfl) (fun _ _ _ h => h) (Or.inl ⟨by rfl, ?_⟩) (by assumption) ?_
        rotate_left
        · (intro w hSw; (try dsimp only at hSw); go_simp; try with_reducible rfl)
        try simp only [Array.reduceGetElem, Act.put, List.setIfInBounds_toArray, List.set_cons_zero, List.set_cons_succ]
        refine wpAnyH_done (by kernel_rfl) ?_ _
        try refine NoPanic.normal ?_
        go_wp2
        refine bodyPost_ret (v := .tuple #[.int .i64 hi, .bool false]) (by simp [results, Tryd.results30, go_sem]) rfl ⟨by rw [hat.out, hth.out], hB1.drew⟩
end Go.Proofs.YtiknkjhdieepbaaDoor

/-
  The walks of what says whether an entry is valid by itself: the program's and the reference's.
-/
namespace Go.Proofs.YtiknkjhdieepbaaDoor
open Go.RowKit
set_option linter.unusedVariables false
attribute [local go_sem] mkB_size mkB_extract mkB_get mkB_append mkB_append_raw raw_append_mkB mkB_toList

theorem tk_ok {α : Type} {l : List α} {k : Nat} (hk : k < l.length) {p : α → Bool} (h : (l.take k).all p = true) (hx : p l[k] = true) : (l.take (k + 1)).all p = true := by
  rw [List.take_succ_eq_append_getElem hk, List.all_append, h]; simp [hx]
theorem tk_no {α : Type} {l : List α} {k : Nat} (hk : k < l.length) {p : α → Bool} (hx : p l[k] = false) : l.all p = false := by
  rw [List.all_eq_false]; exact ⟨l[k], List.getElem_mem hk, by simp [hx]⟩
theorem tk_end {α : Type} {l : List α} {k : Nat} (hk : l.length ≤ k) {p : α → Bool} (h : (l.take k).all p = true) : l.all p = true := by
  rwa [List.take_of_length_le hk] at h

def seenI (c : Int) : Bool := decide (32 ≤ c ∧ c ≤ 126)
theorem seenI_eq (c : UInt8) : seenI (c.toNat : Int) = seen c := by
  unfold seenI seen; rw [Bool.eq_iff_iff]; simp only [decide_eq_true_eq]; omega
theorem plainByte_int (c : Int) (h0 : 0 ≤ c) (h1 : c ≤ 255) (w : World) :
    Calls Tryd.prog 57 #[.int .u8 c] w fun e w' => e = .returned (.bool (seenI c)) ∧ w = w' := by
  go_enter Tryd.func57, Tryd.ntmps57
  go_wp2
  all_goals go_ret
  all_goals refine ⟨ret_bool ?_, rfl⟩
  all_goals (unfold seenI; rw [Bool.eq_iff_iff]; first | (simp; done) | (simp; omega))
theorem plainByte_any (c : UInt8) (w : World) :
    Calls Tryd.prog 57 #[.int .u8 (c.toNat : Int)] w fun e w' => e = .returned (.bool (seen c)) ∧ w = w' := by
  have h := plainByte_int (c.toNat : Int) (by omega) (by have := c.toNat_lt; omega) w
  rwa [seenI_eq] at h

theorem fileByte_seen {c : UInt8} (h : seen c = true) : fileByte c = true := by unfold fileByte; rw [h]; rfl
theorem fileByte_line {c : UInt8} (h : c = 10) : fileByte c = true := by subst h; rfl
theorem fileByte_no {c : UInt8} (h : seen c = false) (h2 : ¬ c = 10) : fileByte c = false := by
  unfold fileByte; rw [h]; simp [h2]
theorem fileTextOk_long {l : List UInt8} (h : ¬ l.length ≤ 80) : fileTextOk l = false := by unfold fileTextOk; rw [decide_eq_false h]; rfl
theorem fileTextOk_short {l : List UInt8} (h : l.length ≤ 80) : fileTextOk l = l.all fileByte := by unfold fileTextOk; rw [decide_eq_true h]; rfl

set_option maxHeartbeats 2000000 in
theorem fileText_any (l : List UInt8) (hl : l.length ≤ 9223372036854775807) (w : World) :
    Calls Tryd.prog 39 #[.string (mkB l)] w fun e w' => e = .returned (.bool (fileTextOk l)) ∧ w = w' := by
  by_cases h80 : l.length ≤ 80
  case neg =>
    have hres := Lib.hid (fileTextOk_long h80)
    go_enter Tryd.func39, Tryd.ntmps39
    go_wp2
    go_ret
    exact ⟨ret_bool (by rw [hres.out]), rfl⟩
  have hres := Lib.hid (fileTextOk_short h80)
  go_enter Tryd.func39, Tryd.ntmps39
  go_wp2
  go_loop [9] (fun i => ∃ k : Nat, k ≤ l.length ∧ i = .int .i64 k ∧ Hid ((l.take k).all fileByte = true)) (fun i => l.length - (intOf i).toNat)
  case atStart => exact ⟨0, Nat.zero_le _, rfl, Lib.hid (by simp)⟩
  case round =>
    obtain ⟨k, hk, rfl, hall⟩ := hrel
    by_cases hlt : k < l.length
    · rcases boolOf (seen l[k]) with hb | hb
      · by_cases h10 : l[k] = 10
        · have h10' : ((l[k].toNat : Int) != 10) = false := by rw [h10]; rfl
          have hf := Lib.hid (fileByte_line h10)
          replace h10 := Lib.hid h10
          go_wp2_with (go_at_call 57; refine (plainByte_any _ _).mono ?_; rintro e w' ⟨rfl, rfl⟩; rw [hb.out])
          go_round
          case rel => exact ⟨k + 1, by omega, by go_num, Lib.hid (tk_ok hlt hall.out hf.out)⟩
          case measure => simp [intOf]; omega
        · have h10' : ((l[k].toNat : Int) != 10) = true := by
            have := u8_ne (b := 10) h10
            rw [bne]; rw [show ((10 : UInt8).toNat : Int) = 10 from rfl] at this; rw [this]; rfl
          have hf := Lib.hid (fileByte_no hb.out h10)
          replace h10 := Lib.hid h10
          go_wp2_with (go_at_call 57; refine (plainByte_any _ _).mono ?_; rintro e w' ⟨rfl, rfl⟩; rw [hb.out])
          go_ret
          exact ⟨ret_bool (by rw [hres.out, tk_no hlt hf.out]), rfl⟩
      · go_wp2_with (go_at_call 57; refine (plainByte_any _ _).mono ?_; rintro e w' ⟨rfl, rfl⟩; rw [hb.out])
        go_round
        case rel => exact ⟨k + 1, by omega, by go_num, Lib.hid (tk_ok hlt hall.out (fileByte_seen hb.out))⟩
        case measure => simp [intOf]; omega
    · go_wp2
      go_ret
      exact ⟨ret_bool (by rw [hres.out, tk_end (by omega) hall.out]), rfl⟩

theorem cells4 {w w1 : World} {a b c d : Value} {t : TypeId} (hB : Below (w.alloc (.cells #[a, b, c, d] t)).heap.size (w.alloc (.cells #[a, b, c, d] t)) w1) :
    w1.cell? ⟨w.heap.size, 0, none⟩ = some a ∧ w1.cell? ⟨w.heap.size, 1, none⟩ = some b ∧ w1.cell? ⟨w.heap.size, 2, none⟩ = some c ∧ w1.cell? ⟨w.heap.size, 3, none⟩ = some d := by
  have h : Box4 w1 w.heap.size t a b c d := (Box4.new w t a b c d).below hB (by simp)
  exact ⟨h.cell0, h.cell1, h.cell2, h.cell3⟩

theorem entryOk_bad {e : En} (h : pathOk e.path = false) : entryOk e = false := by unfold entryOk; rw [h]; rfl
theorem entryOk_mode {e : En} (h : inI e.mode 0 7 = false) : entryOk e = false := by unfold entryOk; rw [h]; simp
theorem entryOk_dir {e : En} (h : pathOk e.path = true) (h2 : inI e.mode 0 7 = true) (hk : e.kind = 1) : entryOk e = e.text.isEmpty := by unfold entryOk; rw [h, h2, if_pos hk]; rfl
theorem entryOk_file {e : En} (h : pathOk e.path = true) (h2 : inI e.mode 0 7 = true) (hk : e.kind = 2) : entryOk e = fileTextOk e.text := by unfold entryOk; rw [h, h2, if_neg (by omega), if_pos hk]; rfl
theorem entryOk_link {e : En} (h : pathOk e.path = true) (h2 : inI e.mode 0 7 = true) (hk : e.kind = 3) : entryOk e = (decide (e.mode = 0) && pathOk e.text) := by unfold entryOk; rw [h, h2, if_neg (by omega), if_neg (by omega), if_pos hk]; rfl
theorem entryOk_none {e : En} (h1 : ¬ e.kind = 1) (h2 : ¬ e.kind = 2) (h3 : ¬ e.kind = 3) : entryOk e = false := by unfold entryOk; rw [if_neg h1, if_neg h2, if_neg h3]; simp
theorem inI_no {n lo hi : Int} (h : n < lo ∨ hi < n) : inI n lo hi = false := by
  unfold inI; rw [Bool.and_eq_false_iff]; rcases h with h | h
  · exact .inl (decide_eq_false (by omega))
  · exact .inr (decide_eq_false (by omega))
theorem inI_yes {n lo hi : Int} (h : lo ≤ n) (h2 : n ≤ hi) : inI n lo hi = true := by unfold inI; rw [decide_eq_true h, decide_eq_true h2]; rfl

set_option maxHeartbeats 4000000 in
theorem entryOk_any (e : En) (hp : e.path.length ≤ 1048576) (ht : e.text.length ≤ 1048576) (w : World) :
    Calls Tryd.prog 21 #[enV e] w fun r w' => r = .returned (.bool (entryOk e)) ∧ Below w.heap.size w w' := by
  obtain ⟨p, kind, mode, t⟩ := e
  simp only at hp ht ⊢
  have hpm : (mkB p).size ≤ 140737488355328 := by rw [mkB_size]; omega
  have htm : (mkB t).size ≤ 140737488355328 := by rw [mkB_size]; omega
  rcases boolOf (pathOk p) with h1 | h1
  · have hres := Lib.hid (entryOk_bad (e := ⟨p, kind, mode, t⟩) h1.out)
    go_enter Tryd.func21, Tryd.ntmps21
    go_wp2_with (go_at_call 38; refine (PathOk_any _ hpm _).mono ?_; rintro e w1 ⟨rfl, hB⟩; rw [mkB_data, h1.out]; obtain ⟨c0, c1, c2, c3⟩ := cells4 hB)
    go_ret
    exact ⟨ret_bool (by rw [hres.out]), ((Below.refl _ _).alloc (Nat.le_refl _) _).trans (hB.mono (by simp))⟩
  by_cases hm0 : mode < 0
  · have hres := Lib.hid (entryOk_mode (e := ⟨p, kind, mode, t⟩) (inI_no (.inl hm0)))
    go_enter Tryd.func21, Tryd.ntmps21
    go_wp2_with (go_at_call 38; refine (PathOk_any _ hpm _).mono ?_; rintro e w1 ⟨rfl, hB⟩; rw [mkB_data, h1.out]; obtain ⟨c0, c1, c2, c3⟩ := cells4 hB)
    go_ret
    exact ⟨ret_bool (by rw [hres.out]), ((Below.refl _ _).alloc (Nat.le_refl _) _).trans (hB.mono (by simp))⟩
  by_cases hm7 : 7 < mode
  · have hres := Lib.hid (entryOk_mode (e := ⟨p, kind, mode, t⟩) (inI_no (.inr hm7)))
    go_enter Tryd.func21, Tryd.ntmps21
    go_wp2_with (go_at_call 38; refine (PathOk_any _ hpm _).mono ?_; rintro e w1 ⟨rfl, hB⟩; rw [mkB_data, h1.out]; obtain ⟨c0, c1, c2, c3⟩ := cells4 hB)
    go_ret
    exact ⟨ret_bool (by rw [hres.out]), ((Below.refl _ _).alloc (Nat.le_refl _) _).trans (hB.mono (by simp))⟩
  have hin : inI mode 0 7 = true := inI_yes (by omega) (by omega)
  by_cases hk1 : kind = 1
  · subst hk1
    have hres := Lib.hid (entryOk_dir (e := ⟨p, 1, mode, t⟩) h1.out hin rfl)
    clear hin
    go_enter Tryd.func21, Tryd.ntmps21
    go_wp2_with (go_at_call 38; refine (PathOk_any _ hpm _).mono ?_; rintro e w1 ⟨rfl, hB⟩; rw [mkB_data, h1.out]; obtain ⟨c0, c1, c2, c3⟩ := cells4 hB)
    go_ret
    refine ⟨ret_bool ?_, ((Below.refl _ _).alloc (Nat.le_refl _) _).trans (hB.mono (by simp))⟩
    rw [hres.out]
  have hb1 : (kind == 1) = false := by rw [beq_eq_false_iff_ne]; exact hk1
  by_cases hk2 : kind = 2
  · subst hk2
    have hres := Lib.hid (entryOk_file (e := ⟨p, 2, mode, t⟩) h1.out hin rfl)
    clear hin hk1
    go_enter Tryd.func21, Tryd.ntmps21
    go_wp2_with (first
      | (go_at_call 38; refine (PathOk_any _ hpm _).mono ?_; rintro e w1 ⟨rfl, hB⟩; rw [mkB_data, h1.out]; obtain ⟨c0, c1, c2, c3⟩ := cells4 hB)
      | (go_at_call 39; refine (fileText_any t (by omega) _).mono ?_; rintro e w2 ⟨rfl, rfl⟩))
    go_ret
    exact ⟨ret_bool (by rw [hres.out]), ((Below.refl _ _).alloc (Nat.le_refl _) _).trans (hB.mono (by simp))⟩
  have hb2 : (kind == 2) = false := by rw [beq_eq_false_iff_ne]; exact hk2
  by_cases hk3 : kind = 3
  · subst hk3
    have hres := Lib.hid (entryOk_link (e := ⟨p, 3, mode, t⟩) h1.out hin rfl)
    clear hin hk1 hk2
    by_cases hz : mode = 0
    · subst hz
      go_enter Tryd.func21, Tryd.ntmps21
      go_wp2_with fail
      refine (PathOk_any _ hpm _).mono ?_
      rintro e w1 ⟨rfl, hB⟩
      rw [mkB_data, h1.out]
      obtain ⟨c0, c1, c2, c3⟩ := cells4 hB
      go_wp2_with fail
      refine (PathOk_any _ htm _).mono ?_
      rintro e w2 ⟨rfl, hB2⟩
      rw [mkB_data]
      go_wp2
      go_ret
      refine ⟨ret_bool (by rw [hres.out]; rfl), (((Below.refl _ _).alloc (Nat.le_refl _) _).trans (hB.mono (by simp))).trans (hB2.mono ?_)⟩
      have := hB.size
      simp at this
      omega
    · have hz2 : (mode == 0) = false := by rw [beq_eq_false_iff_ne]; exact hz
      go_enter Tryd.func21, Tryd.ntmps21
      go_wp2_with (go_at_call 38; refine (PathOk_any _ hpm _).mono ?_; rintro e w1 ⟨rfl, hB⟩; rw [mkB_data, h1.out]; obtain ⟨c0, c1, c2, c3⟩ := cells4 hB)
      go_ret
      exact ⟨ret_bool (by rw [hres.out]; simp [hz]), ((Below.refl _ _).alloc (Nat.le_refl _) _).trans (hB.mono (by simp))⟩
  have hb3 : (kind == 3) = false := by rw [beq_eq_false_iff_ne]; exact hk3
  have hres := Lib.hid (entryOk_none (e := ⟨p, kind, mode, t⟩) hk1 hk2 hk3)
  clear hin
  go_enter Tryd.func21, Tryd.ntmps21
  go_wp2_with (go_at_call 38; refine (PathOk_any _ hpm _).mono ?_; rintro e w1 ⟨rfl, hB⟩; rw [mkB_data, h1.out]; obtain ⟨c0, c1, c2, c3⟩ := cells4 hB)
  go_ret
  exact ⟨ret_bool (by rw [hres.out]), ((Below.refl _ _).alloc (Nat.le_refl _) _).trans (hB.mono (by simp))⟩
end Go.Proofs.YtiknkjhdieepbaaDoor

/-
  The walks of the reference's l2Text, l2Entry, l2At, l2Dir.
-/
namespace Go.Proofs.YtiknkjhdieepbaaDoor
open Go.RowKit
set_option linter.unusedVariables false
attribute [local go_sem] mkB_size mkB_extract mkB_get mkB_append mkB_append_raw raw_append_mkB mkB_toList

theorem inI_seen (c : UInt8) : inI (c.toNat : Int) 32 126 = seen c := by
  unfold inI seen; rw [Bool.eq_iff_iff]; simp only [Bool.and_eq_true, decide_eq_true_eq]; omega
theorem fileTextOk_all {l : List UInt8} (h : l.all fileByte = true) : fileTextOk l = decide (l.length ≤ 80) := by unfold fileTextOk; rw [h]; simp
theorem fileTextOk_bad {l : List UInt8} (h : l.all fileByte = false) : fileTextOk l = false := by unfold fileTextOk; rw [h]; simp

set_option maxHeartbeats 2000000 in
theorem l2Text_any (l : List UInt8) (hl : l.length ≤ 9223372036854775807) (w : World) :
    Calls Tryd.prog 54 #[.string (mkB l)] w fun e w' => e = .returned (.bool (fileTextOk l)) ∧ w = w' := by
  go_enter Tryd.func54, Tryd.ntmps54
  go_wp2
  go_loop [3] (fun i => ∃ k : Nat, k ≤ l.length ∧ i = .int .i64 k ∧ Hid ((l.take k).all fileByte = true)) (fun i => l.length - (intOf i).toNat)
  case atStart => exact ⟨0, Nat.zero_le _, rfl, Lib.hid (by simp)⟩
  case round =>
    obtain ⟨k, hk, rfl, hall⟩ := hrel
    by_cases hlt : k < l.length
    · by_cases h10 : l[k] = 10
      · have h10' : ((l[k].toNat : Int) != 10) = false := by rw [h10]; rfl
        have hf := Lib.hid (fileByte_line h10)
        replace h10 := Lib.hid h10
        go_wp2
        go_round
        case rel => exact ⟨k + 1, by omega, by go_num, Lib.hid (tk_ok hlt hall.out hf.out)⟩
        case measure => simp [intOf]; omega
      · have hcb : (l[k].toNat : Int) ≤ 255 := by have := l[k].toNat_lt; omega
        have h10' : ((l[k].toNat : Int) != 10) = true := by
          have := u8_ne (b := 10) h10
          rw [bne]; rw [show ((10 : UInt8).toNat : Int) = 10 from rfl] at this; rw [this]; rfl
        rcases boolOf (seen l[k]) with hb | hb
        · have hf := Lib.hid (fileByte_no hb.out h10)
          replace h10 := Lib.hid h10
          go_wp2_with (go_at_call 53; refine (l1In_any _ _ _ _).mono ?_; rintro e w' ⟨rfl, rfl⟩; rw [inI_seen, hb.out])
          go_ret
          exact ⟨ret_bool (by rw [fileTextOk_bad (tk_no hlt hf.out)]), rfl⟩
        · have hf := Lib.hid (fileByte_seen hb.out)
          replace h10 := Lib.hid h10
          go_wp2_with (go_at_call 53; refine (l1In_any _ _ _ _).mono ?_; rintro e w' ⟨rfl, rfl⟩; rw [inI_seen, hb.out])
          go_round
          case rel => exact ⟨k + 1, by omega, by go_num, Lib.hid (tk_ok hlt hall.out hf.out)⟩
          case measure => simp [intOf]; omega
    · go_wp2
      go_ret
      exact ⟨ret_bool (by rw [fileTextOk_all (tk_end (by omega) hall.out), Bool.eq_iff_iff]; first | (simp; done) | (simp; omega)), rfl⟩

set_option maxHeartbeats 4000000 in
theorem l2Entry_any (e : En) (hp : e.path.length ≤ 1048576) (ht : e.text.length ≤ 1048576) (w : World) :
    Calls Tryd.prog 34 #[enV e] w fun r w' => r = .returned (.bool (entryOk e)) ∧ Below w.heap.size w w' := by
  obtain ⟨p, kind, mode, t⟩ := e
  simp only at hp ht ⊢
  rcases boolOf (pathOk p) with h1 | h1
  · have hres := Lib.hid (entryOk_bad (e := ⟨p, kind, mode, t⟩) h1.out)
    go_enter Tryd.func34, Tryd.ntmps34
    go_wp2_with (go_at_call 45; refine (l1Path_any p (by omega) _).mono ?_; rintro e w1 ⟨rfl, hB⟩; rw [h1.out]; obtain ⟨c0, c1, c2, c3⟩ := cells4 hB)
    go_ret
    exact ⟨ret_bool (by rw [hres.out]), ((Below.refl _ _).alloc (Nat.le_refl _) _).trans (hB.mono (by simp))⟩
  by_cases hk1 : kind = 1
  · subst hk1
    rcases boolOf (inI mode 0 7) with hin | hin
    · have hres := Lib.hid (entryOk_mode (e := ⟨p, 1, mode, t⟩) hin.out)
      go_enter Tryd.func34, Tryd.ntmps34
      go_wp2_with (first
        | (go_at_call 45; refine (l1Path_any p (by omega) _).mono ?_; rintro e w1 ⟨rfl, hB⟩; rw [h1.out]; obtain ⟨c0, c1, c2, c3⟩ := cells4 hB)
        | (go_at_call 53; refine (l1In_any _ _ _ _).mono ?_; rintro e w' ⟨rfl, rfl⟩; rw [hin.out]))
      go_ret
      exact ⟨ret_bool (by rw [hres.out]), ((Below.refl _ _).alloc (Nat.le_refl _) _).trans (hB.mono (by simp))⟩
    · have hres := Lib.hid (entryOk_dir (e := ⟨p, 1, mode, t⟩) h1.out hin.out rfl)
      go_enter Tryd.func34, Tryd.ntmps34
      go_wp2_with (first
        | (go_at_call 45; refine (l1Path_any p (by omega) _).mono ?_; rintro e w1 ⟨rfl, hB⟩; rw [h1.out]; obtain ⟨c0, c1, c2, c3⟩ := cells4 hB)
        | (go_at_call 53; refine (l1In_any _ _ _ _).mono ?_; rintro e w' ⟨rfl, rfl⟩; rw [hin.out]))
      go_ret
      exact ⟨ret_bool (by rw [hres.out]; first | done | (cases t <;> rfl)), ((Below.refl _ _).alloc (Nat.le_refl _) _).trans (hB.mono (by simp))⟩
  have hb1 : (kind == 1) = false := by rw [beq_eq_false_iff_ne]; exact hk1
  by_cases hk2 : kind = 2
  · subst hk2
    rcases boolOf (inI mode 0 7) with hin | hin
    · have hres := Lib.hid (entryOk_mode (e := ⟨p, 2, mode, t⟩) hin.out)
      go_enter Tryd.func34, Tryd.ntmps34
      go_wp2_with (first
        | (go_at_call 45; refine (l1Path_any p (by omega) _).mono ?_; rintro e w1 ⟨rfl, hB⟩; rw [h1.out]; obtain ⟨c0, c1, c2, c3⟩ := cells4 hB)
        | (go_at_call 53; refine (l1In_any _ _ _ _).mono ?_; rintro e w' ⟨rfl, rfl⟩; rw [hin.out]))
      go_ret
      exact ⟨ret_bool (by rw [hres.out]), ((Below.refl _ _).alloc (Nat.le_refl _) _).trans (hB.mono (by simp))⟩
    · have hres := Lib.hid (entryOk_file (e := ⟨p, 2, mode, t⟩) h1.out hin.out rfl)
      go_enter Tryd.func34, Tryd.ntmps34
      go_wp2_with (first
        | (go_at_call 45; refine (l1Path_any p (by omega) _).mono ?_; rintro e w1 ⟨rfl, hB⟩; rw [h1.out]; obtain ⟨c0, c1, c2, c3⟩ := cells4 hB)
        | (go_at_call 53; refine (l1In_any _ _ _ _).mono ?_; rintro e w' ⟨rfl, rfl⟩; rw [hin.out])
        | (go_at_call 54; refine (l2Text_any t (by omega) _).mono ?_; rintro e w2 ⟨rfl, rfl⟩))
      go_ret
      exact ⟨ret_bool (by rw [hres.out]), ((Below.refl _ _).alloc (Nat.le_refl _) _).trans (hB.mono (by simp))⟩
  have hb2 : (kind == 2) = false := by rw [beq_eq_false_iff_ne]; exact hk2
  by_cases hk3 : kind = 3
  · subst hk3
    clear hk1 hk2
    by_cases hz : mode = 0
    · subst hz
      have hres := Lib.hid (entryOk_link (e := ⟨p, 3, 0, t⟩) h1.out rfl rfl)
      go_enter Tryd.func34, Tryd.ntmps34
      go_wp2_with fail
      refine (l1Path_any p (by omega) _).mono ?_
      rintro e w1 ⟨rfl, hB⟩
      rw [h1.out]
      obtain ⟨c0, c1, c2, c3⟩ := cells4 hB
      go_wp2_with fail
      refine (l1Path_any t (by omega) _).mono ?_
      rintro e w2 ⟨rfl, hB2⟩
      go_wp2
      go_ret
      refine ⟨ret_bool (by rw [hres.out]; rfl), (((Below.refl _ _).alloc (Nat.le_refl _) _).trans (hB.mono (by simp))).trans (hB2.mono ?_)⟩
      have := hB.size
      simp at this
      omega
    · have hz2 : (mode == 0) = false := by rw [beq_eq_false_iff_ne]; exact hz
      have hres : entryOk ⟨p, 3, mode, t⟩ = false := by unfold entryOk; simp [hz]
      replace hres := Lib.hid hres
      go_enter Tryd.func34, Tryd.ntmps34
      go_wp2_with (go_at_call 45; refine (l1Path_any p (by omega) _).mono ?_; rintro e w1 ⟨rfl, hB⟩; rw [h1.out]; obtain ⟨c0, c1, c2, c3⟩ := cells4 hB)
      go_ret
      exact ⟨ret_bool (by rw [hres.out]), ((Below.refl _ _).alloc (Nat.le_refl _) _).trans (hB.mono (by simp))⟩
  have hb3 : (kind == 3) = false := by rw [beq_eq_false_iff_ne]; exact hk3
  have hres := Lib.hid (entryOk_none (e := ⟨p, kind, mode, t⟩) hk1 hk2 hk3)
  go_enter Tryd.func34, Tryd.ntmps34
  go_wp2_with (go_at_call 45; refine (l1Path_any p (by omega) _).mono ?_; rintro e w1 ⟨rfl, hB⟩; rw [h1.out]; obtain ⟨c0, c1, c2, c3⟩ := cells4 hB)
  go_ret
  exact ⟨ret_bool (by rw [hres.out]), ((Below.refl _ _).alloc (Nat.le_refl _) _).trans (hB.mono (by simp))⟩
end Go.Proofs.YtiknkjhdieepbaaDoor

/-
  The walks of findEntry, hasPlaceFor, l2At, l2Dir.
-/
namespace Go.Proofs.YtiknkjhdieepbaaDoor
open Go.RowKit
set_option linter.unusedVariables false
attribute [local go_sem] mkB_size mkB_extract mkB_get mkB_append mkB_append_raw raw_append_mkB mkB_toList

set_option maxHeartbeats 1000000 in
theorem findEntry_any (es : List En) (p : List UInt8) (g c : Nat) (w : World) (hE : Ents w g es) (hs : Sorted es) (hlen : es.length ≤ 1048576) :
    Calls Tryd.prog 17 #[.slice (some ⟨g, 0, none⟩) es.length c, .string (mkB p)] w
      fun e w' => e = .returned (.tuple #[.int .i64 (atGo es p), .bool (there es p)]) ∧ Below w.heap.size w w' := by
  have hcall := Lib.hid (search_any es p g c w hE hs hlen)
  go_enter Tryd.func17, Tryd.ntmps17
  go_wp2_with fail
  refine hcall.out.mono ?_
  rintro e w1 ⟨rfl, hB⟩
  go_wp2
  exact bodyPost_ret (v := .tuple #[.int .i64 (atGo es p), .bool (there es p)]) (by simp [results, Tryd.results17, go_sem]) rfl ⟨rfl, hB⟩

theorem dirAt_no {es : List En} {p : List UInt8} (h : there es p = false) : dirAt es p = false := by
  unfold there at h; unfold dirAt
  split at h
  · rw [h]; rfl
  · rfl
theorem dirAt_yes {es : List En} {p : List UInt8} {k : Nat} (hk : k < es.length) (ha : atGo es p = k) (h : there es p = true) : dirAt es p = (es[k].kind == 1) := by
  subst ha
  obtain ⟨_, he⟩ := there_iff.1 h
  unfold dirAt
  rw [List.getElem?_eq_getElem hk]
  simp [he]
theorem placeOk_nil (es : List En) : placeOk es [] = true := rfl
theorem placeOk_ne {es : List En} {p : List UInt8} (h : p ≠ []) : placeOk es p = dirAt es p := by
  unfold placeOk; cases p with
  | nil => exact absurd rfl h
  | cons => rfl

set_option maxHeartbeats 4000000 in
theorem hasPlaceFor_any (es : List En) (p : List UInt8) (g c : Nat) (w : World) (hE : Ents w g es) (hs : Sorted es) (hlen : es.length ≤ 1048576) (hp : p.length ≤ 1048576) :
    Calls Tryd.prog 22 #[.slice (some ⟨g, 0, none⟩) es.length c, .string (mkB p)] w
      fun e w' => e = .returned (.bool (placeOk es (pathUp p))) ∧ Below w.heap.size w w' := by
  obtain ⟨u, hu⟩ : ∃ u, pathUp p = u := ⟨_, rfl⟩
  rw [hu]
  replace hu := Lib.hid hu
  have hEh := Lib.hid hE
  have hsh := Lib.hid hs
  have hg := hE.1
  clear hE hs
  by_cases hn : u = []
  · subst hn
    have hres := Lib.hid (placeOk_nil es)
    go_enter Tryd.func22, Tryd.ntmps22
    go_wp2_with fail
    refine (PathUp_any p (by omega) _).mono ?_
    rintro e w1 ⟨rfl, hB⟩
    rw [hu.out]
    go_wp2
    go_ret
    exact ⟨ret_bool (by rw [hres.out]), hB⟩
  have hne : (u == []) = false := by rw [beq_eq_false_iff_ne]; exact hn
  have hres := Lib.hid (placeOk_ne (es := es) hn)
  replace hn := Lib.hid hn
  rcases boolOf (there es u) with ht | ht
  · have hd := Lib.hid (dirAt_no ht.out)
    go_enter Tryd.func22, Tryd.ntmps22
    go_wp2_with fail
    refine (PathUp_any p (by omega) _).mono ?_
    rintro e w1 ⟨rfl, hB⟩
    rw [hu.out]
    have hE1 := Lib.hid (hEh.out.below hB hg)
    go_wp2_with fail
    refine (findEntry_any es u g c _ hE1.out hsh.out hlen).mono ?_
    rintro e w2 ⟨rfl, hB2⟩
    rw [ht.out]
    go_wp2
    go_ret
    exact ⟨ret_bool (by rw [hres.out, hd.out]), hB.trans (hB2.mono hB.size)⟩
  · obtain ⟨k, ha⟩ : ∃ k, atGo es u = k := ⟨_, rfl⟩
    obtain ⟨hk0, -⟩ := there_iff.1 ht.out
    have hk : k < es.length := by omega
    have hkI : (k : Int) < (es.length : Int) := by omega
    clear hk0
    have hd := Lib.hid (dirAt_yes hk ha ht.out)
    replace ha := Lib.hid ha
    go_enter Tryd.func22, Tryd.ntmps22
    go_wp2_with fail
    refine (PathUp_any p (by omega) _).mono ?_
    rintro e w1 ⟨rfl, hB⟩
    rw [hu.out]
    have hE1 := Lib.hid (hEh.out.below hB hg)
    go_wp2_with fail
    refine (findEntry_any es u g c _ hE1.out hsh.out hlen).mono ?_
    rintro e w2 ⟨rfl, hB2⟩
    rw [ht.out, ha.out]
    have hg1 : g < w1.heap.size := Nat.lt_of_lt_of_le hg hB.size
    obtain ⟨c0, c1, c2, c3⟩ := (hE1.out.below hB2 hg1).2 k hk
    go_wp2
    go_ret
    exact ⟨ret_bool (by rw [hres.out, hd.out]), hB.trans (hB2.mono hB.size)⟩

set_option maxHeartbeats 4000000 in
theorem l2At_any (es : List En) (p : List UInt8) (g c : Nat) (w : World) (hE : Ents w g es) (hlen : es.length ≤ 1048576) :
    Calls Tryd.prog 37 #[.slice (some ⟨g, 0, none⟩) es.length c, .string (mkB p)] w
      fun e w' => e = .returned (.tuple #[.int .i64 (atGo es p), .bool (there es p)]) ∧ Below w.heap.size w w' := by
  have hEh := Lib.hid hE
  clear hE
  go_enter Tryd.func37, Tryd.ntmps37
  go_wp2
  go_loop [6] (fun i => ∃ k : Nat, k ≤ es.length ∧ i = .int .i64 k ∧ Hid (∀ j (h : j < es.length), j < k → Op.bytesLess es[j].path p = true)) (fun i => es.length - (intOf i).toNat)
  case atStart => exact ⟨0, Nat.zero_le _, rfl, Lib.hid (fun j h hk => by omega)⟩
  case round =>
    obtain ⟨k, hk, rfl, hall⟩ := hrel
    by_cases hlt : k < es.length
    · have hkI : (k : Int) < (es.length : Int) := by omega
      obtain ⟨c0, c1, c2, c3⟩ := hEh.out.2 k hlt
      rcases boolOf (Op.bytesLess es[k].path p) with hb | hb
      · have hat := Lib.hid (atGo_is hk hall.out (fun _ => hb.out))
        have hbb := hb.out
        rcases lt_tri es[k].path p with hc | hc | hc
        · rw [hc] at hbb; cases hbb
        · have hth := Lib.hid (there_yes hlt hat.out hc)
          have heq : (es[k].path == p) = true := by rw [hc]; simp
          replace hc := Lib.hid hc
          go_wp2_with fail
          go_region
          all_goals go_wp2
          all_goals exact bodyPost_ret (v := .tuple #[.int .i64 k, .bool true]) (by simp [results, Tryd.results37, go_sem]) rfl ⟨by rw [hat.out, hth.out], (Below.refl _ _).drew⟩
        · have hth := Lib.hid (there_no hlt hat.out hc)
          have heq : (es[k].path == p) = false := by rw [beq_eq_false_iff_ne]; intro e; rw [e, lt_irrefl] at hc; cases hc
          replace hc := Lib.hid hc
          go_wp2_with fail
          go_region
          all_goals go_wp2
          all_goals exact bodyPost_ret (v := .tuple #[.int .i64 k, .bool false]) (by simp [results, Tryd.results37, go_sem]) rfl ⟨by rw [hat.out, hth.out], (Below.refl _ _).drew⟩
      · have hbb := hb.out
        go_wp2
        go_round
        case rel => exact ⟨k + 1, by omega, by go_num, Lib.hid (fun j h hj => by
          rcases Nat.lt_or_ge j k with h1 | h1
          · exact hall.out j h h1
          · obtain rfl : j = k := by omega
            exact hb.out)⟩
        case measure => simp [intOf]; omega
    · have hat := Lib.hid (atGo_is hk hall.out (fun h => absurd h hlt))
      have hke : k = es.length := by omega
      have hth := Lib.hid (there_end (hat.out.trans hke))
      replace hke := Lib.hid hke
      go_wp2_with fail
      go_region
      all_goals go_wp2
      all_goals exact bodyPost_ret (v := .tuple #[.int .i64 k, .bool false]) (by simp [results, Tryd.results37, go_sem]) rfl ⟨by rw [hat.out, hth.out], (Below.refl _ _).drew⟩

set_option maxHeartbeats 4000000 in
theorem l2Dir_any (es : List En) (p : List UInt8) (g c : Nat) (w : World) (hE : Ents w g es) (hlen : es.length ≤ 1048576) :
    Calls Tryd.prog 35 #[.slice (some ⟨g, 0, none⟩) es.length c, .string (mkB p)] w
      fun e w' => e = .returned (.bool (placeOk es p)) ∧ Below w.heap.size w w' := by
  have hcall := Lib.hid (l2At_any es p g c w hE hlen)
  have hEh := Lib.hid hE
  have hg := hE.1
  clear hE
  by_cases hn : p = []
  · subst hn
    have hres := Lib.hid (placeOk_nil es)
    go_enter Tryd.func35, Tryd.ntmps35
    go_wp2_with fail
    refine hcall.out.mono ?_
    rintro e w1 ⟨rfl, hB⟩
    go_wp2
    go_ret
    exact ⟨ret_bool (by rw [hres.out]), hB⟩
  have hne : (p == []) = false := by rw [beq_eq_false_iff_ne]; exact hn
  have hres := Lib.hid (placeOk_ne (es := es) hn)
  replace hn := Lib.hid hn
  rcases boolOf (there es p) with ht | ht
  · have hd := Lib.hid (dirAt_no ht.out)
    go_enter Tryd.func35, Tryd.ntmps35
    go_wp2_with fail
    refine hcall.out.mono ?_
    rintro e w1 ⟨rfl, hB⟩
    rw [ht.out]
    go_wp2
    go_ret
    exact ⟨ret_bool (by rw [hres.out, hd.out]), hB⟩
  · obtain ⟨k, ha⟩ : ∃ k, atGo es p = k := ⟨_, rfl⟩
    obtain ⟨hk0, -⟩ := there_iff.1 ht.out
    have hk : k < es.length := by omega
    have hkI : (k : Int) < (es.length : Int) := by omega
    clear hk0
    have hd := Lib.hid (dirAt_yes hk ha ht.out)
    replace ha := Lib.hid ha
    go_enter Tryd.func35, Tryd.ntmps35
    go_wp2_with fail
    refine hcall.out.mono ?_
    rintro e w1 ⟨rfl, hB⟩
    rw [ht.out, ha.out]
    obtain ⟨c0, c1, c2, c3⟩ := (hEh.out.below hB hg).2 k hk
    go_wp2
    go_ret
    exact ⟨ret_bool (by rw [hres.out, hd.out]), hB⟩
end Go.Proofs.YtiknkjhdieepbaaDoor

/-
  The walks of TreeOk: the reference's and the program's.
-/
namespace Go.Proofs.YtiknkjhdieepbaaDoor
open Go.RowKit
set_option linter.unusedVariables false
set_option linter.unusedSimpArgs false
attribute [local go_sem] mkB_size mkB_extract mkB_get mkB_append mkB_append_raw raw_append_mkB mkB_toList

theorem wrap_small (j : Nat) (h : j ≤ 1048576) : IntKind.i64.wrap (j : Int) = (j : Int) := by simp [IntKind.wrap, IntKind.bits, IntKind.signed]; omega
theorem tree_bad_entry {es : List En} {k : Nat} (hk : k < es.length) (h : entryOk es[k] = false) : treeOk es = false := treeOk_no (fun t => by have := t.ok k hk; rw [h] at this; cases this)
theorem tree_bad_order {es : List En} {j k : Nat} (hk : k < es.length) (hj : j + 1 = k) (hjl : j < es.length) (h : Op.bytesLess es[j].path es[k].path = false) : treeOk es = false := treeOk_no (fun t => by subst hj; have := t.sorted j hk; rw [h] at this; cases this)
theorem tree_bad_place {es : List En} {k : Nat} (hk : k < es.length) (h : placeOk es (upL es[k].path) = false) : treeOk es = false := treeOk_no (fun t => by have := t.place k hk; rw [h] at this; cases this)
/-- the first k are valid by themselves, and ascend -/
def First (es : List En) (k : Nat) : Prop := (∀ j (h : j < es.length), j < k → entryOk es[j] = true) ∧ (∀ j (h : j + 1 < es.length), j + 1 < k → Op.bytesLess es[j].path es[j + 1].path = true)
theorem First.zero (es : List En) : First es 0 := ⟨fun j h hk => by omega, fun j h hk => by omega⟩
theorem First.one {es : List En} {k : Nat} (hk0 : k = 0) (hk : k < es.length) (h : entryOk es[k] = true) : First es (k + 1) := by
  subst hk0
  refine ⟨fun j hj hk1 => ?_, fun j hj hk1 => by omega⟩
  obtain rfl : j = 0 := by omega
  exact h
theorem First.next {es : List En} {j k : Nat} (hf : First es k) (hk : k < es.length) (hj : j + 1 = k) (hjl : j < es.length) (h : entryOk es[k] = true) (h2 : Op.bytesLess es[j].path es[k].path = true) : First es (k + 1) := by
  refine ⟨fun i hi hik => ?_, fun i hi hik => ?_⟩
  · rcases Nat.lt_or_ge i k with h1 | h1
    · exact hf.1 i hi h1
    · obtain rfl : i = k := by omega
      exact h
  · rcases Nat.lt_or_ge (i + 1) k with h1 | h1
    · exact hf.2 i hi h1
    · subst hj
      obtain rfl : i = j := by omega
      exact h2
theorem First.sorted {es : List En} {k : Nat} (hf : First es k) : Sorted (es.take k) := by
  intro i h
  simp only [List.length_take] at h
  simpa using hf.2 i (by omega) (by omega)
/-- the first k lie in dirs -/
def Placed (es : List En) (k : Nat) : Prop := ∀ j (h : j < es.length), j < k → placeOk es (upL es[j].path) = true
theorem Placed.zero (es : List En) : Placed es 0 := fun j h hk => by omega
theorem Placed.next {es : List En} {k : Nat} (hf : Placed es k) (hk : k < es.length) (h : placeOk es (upL es[k].path) = true) : Placed es (k + 1) := fun i hi hik => by
  rcases Nat.lt_or_ge i k with h1 | h1
  · exact hf i hi h1
  · obtain rfl : i = k := by omega
    exact h
theorem tree_good {es : List En} (hf : First es es.length) (hp : Placed es es.length) (hl : es.length ≤ 16) : treeOk es = true :=
  treeOk_yes ⟨hl, fun i h => hf.1 i h h, fun i h => hf.2 i h h, fun i h => hp i h h⟩
theorem tree_long {es : List En} (hl : ¬ es.length ≤ 16) : treeOk es = false := treeOk_no (fun t => hl t.len)
theorem hasPlaceFor_take (es : List En) (k : Nat) (hk : k < es.length) (g c : Nat) (w : World) (hE : Ents w g es) (hf : First es (k + 1)) (hsm : Small es) :
    Calls Tryd.prog 22 #[.slice (some ⟨g, 0, none⟩) k c, .string (mkB es[k].path)] w
      fun e w' => e = .returned (.bool (placeOk es (upL es[k].path))) ∧ Below w.heap.size w w' := by
  have hs : Sorted (es.take k) := by
    intro i h
    simp only [List.length_take] at h
    simpa using hf.2 i (by omega) (by omega)
  have h := hasPlaceFor_any (es.take k) es[k].path g c w (hE.take k) hs (by have := hsm.1; simp; omega) (hsm.2 k hk).1
  have hl : (es.take k).length = k := by simp; omega
  have hu : pathUp es[k].path = upL es[k].path := by unfold pathUp; rw [entryOk_path (hf.1 k hk (by omega))]; rfl
  rw [hl, hu, place_take hk] at h
  exact h

set_option maxHeartbeats 16000000 in
theorem specTreeOk_any (es : List En) (g c : Nat) (w : World) (hE : Ents w g es) (hsm : Small es) :
    Calls Tryd.prog 19 #[.slice (some ⟨g, 0, none⟩) es.length c] w fun e w' => e = .returned (.bool (treeOk es)) ∧ Below w.heap.size w w' := by
  have hEh := Lib.hid hE
  have hsh := Lib.hid hsm
  have hg := hE.1
  have hlen := hsm.1
  clear hE hsm
  go_enter Tryd.func19, Tryd.ntmps19
  go_wp2
  go_loopw [3] (fun i wr => ∃ k : Nat, k ≤ es.length ∧ i = .int .i64 k ∧ Hid (First es k) ∧ Below w.heap.size w wr) (fun i _ => es.length - (intOf i).toNat)
  case atStart => exact ⟨0, Nat.zero_le _, rfl, Lib.hid (First.zero es), Below.refl _ _⟩
  case round =>
    obtain ⟨k, hk, rfl, hfst, hB1⟩ := hrel
    by_cases hlt : k < es.length
    · have hE1 := Lib.hid (hEh.out.below hB1 hg)
      have hg1 : g < wr.heap.size := Nat.lt_of_lt_of_le hg hB1.size
      obtain ⟨c0, c1, c2, c3⟩ := hE1.out.2 k hlt
      have hkI : (k : Int) < (es.length : Int) := by omega
      have hpl := (hsh.out.2 k hlt).1
      have htl := (hsh.out.2 k hlt).2
      have hzd : wr.drew.heap.size = wr.heap.size := rfl
      rcases boolOf (entryOk es[k]) with he | he
      · have hres := Lib.hid (tree_bad_entry hlt he.out)
        go_wp2_with fail
        first | refine wp_region_noPanic ?_ | skip
        refine wp_region_held_drew (S := (fun W' => W'.cell? ⟨g, k * 4, none⟩ = some (.string (mkB es[k].path)) ∧ W'.cell? ⟨g, k * 4 + 1, none⟩ = some (.int .i64 es[k].kind) ∧ W'.cell? ⟨g, k * 4 + 2, none⟩ = some (.int .i64 es[k].mode) ∧ W'.cell? ⟨g, k * 4 + 3, none⟩ = some (.string (mkB es[k].text)))) (by kernel_rfl) ?_ (fun hHeld => ?_)
        · exact ⟨c0, c1, c2, c3⟩
        refine wpAnyH_take (i := 0) (v := ?_) rfl (by kernel_rfl) (by kernel_rfl) (by kernel_rfl) (fun _ _ _ h => h) (Or.inl ⟨by rfl, ?_⟩) (by assumption) ?_
        rotate_left
        · (intro w hSw; (try dsimp only at hSw); go_simp; try with_reducible rfl)
        try simp only [Array.reduceGetElem, Act.put, List.setIfInBounds_toArray, List.set_cons_zero, List.set_cons_succ]
        refine wpAnyH_take (i := 1) (v := ?_) rfl (by kernel_rfl) (by kernel_rfl) (by kernel_rfl) (fun _ _ _ h => h) (Or.inl ⟨by rfl, ?_⟩) (by assumption) ?_
        rotate_left
        · (intro w hSw; (try dsimp only at hSw); go_simp; try with_reducible rfl)
        try simp only [Array.reduceGetElem, Act.put, List.setIfInBounds_toArray, List.set_cons_zero, List.set_cons_succ]
        refine wpAnyH_take (i := 2) (v := ?_) rfl (by kernel_rfl) (by kernel_rfl) (by kernel_rfl) (fun _ _ _ h => h) (Or.inl ⟨by rfl, ?_⟩) (by assumption) ?_
        rotate_left
        · (intro w hSw; (try dsimp only at hSw); go_simp; try with_reducible rfl)
        try simp only [Array.reduceGetElem, Act.put, List.setIfInBounds_toArray, List.set_cons_zero, List.set_cons_succ]
        refine wpAnyH_take (i := 3) (v := ?_) rfl (by kernel_rfl) (by kernel_rfl) (by kernel_rfl) (fun _ _ _ h => h) (Or.inl ⟨by rfl, ?_⟩) (by assumption) ?_
        rotate_left
        · (intro w hSw; (try dsimp only at hSw); go_simp; try with_reducible rfl)
        try simp only [Array.reduceGetElem, Act.put, List.setIfInBounds_toArray, List.set_cons_zero, List.set_cons_succ]
        refine wpAnyH_ready (rs := [4]) (by kernel_rfl) (by simp) ?_
        refine AllReadyH.cons rfl (fun K hK => ?_) AllReadyH.nil
        go_simp
        (go_at_call 34; refine (l2Entry_any es[k] hpl htl _).mono ?_; rintro e w2 ⟨rfl, hB⟩; rw [he.out]; have hB2 := Below.trans hB1.drew (hB.mono (by have := hB1.size; omega)); have hE2 := Ents.below (Ents.drew hE1.out) hB hg1; obtain ⟨d0, d1, d2, d3⟩ := hE2.2 k hlt)
        refine hK.out _ _ ?_ (fun hHeld => ?_)
        · (try dsimp only); first | exact ⟨d0, d1, d2, d3⟩ | exact ⟨c0, c1, c2, c3⟩ | go_keep
        clear hK K
        try simp only [Array.reduceGetElem, Act.put, List.setIfInBounds_toArray, List.set_cons_zero, List.set_cons_succ]
        refine wpAnyH_take (i := 5) (v := ?_) rfl (by kernel_rfl) (by kernel_rfl) (by kernel_rfl) (fun _ _ _ h => h) (Or.inl ⟨by rfl, ?_⟩) (by assumption) ?_
        rotate_left
        · (intro w hSw; (try dsimp only at hSw); go_simp; try with_reducible rfl)
        try simp only [Array.reduceGetElem, Act.put, List.setIfInBounds_toArray, List.set_cons_zero, List.set_cons_succ]
        refine wpAnyH_take (i := 6) (v := ?_) rfl (by kernel_rfl) (by kernel_rfl) (by kernel_rfl) (fun _ _ _ h => h) (Or.inl ⟨by rfl, ?_⟩) (by assumption) ?_
        rotate_left
        · (intro w hSw; (try dsimp only at hSw); go_simp; try with_reducible rfl)
        try simp only [Array.reduceGetElem, Act.put, List.setIfInBounds_toArray, List.set_cons_zero, List.set_cons_succ]
        refine wpAnyH_take (i := 7) (v := undef) rfl (by kernel_rfl) (by kernel_rfl) (by kernel_rfl) (fun _ _ _ h => h) (Or.inr ⟨by rfl, rfl⟩) (by assumption) ?_
        try simp only [Array.reduceGetElem, Act.put, List.setIfInBounds_toArray, List.set_cons_zero, List.set_cons_succ]
        refine wpAnyH_take (i := 8) (v := undef) rfl (by kernel_rfl) (by kernel_rfl) (by kernel_rfl) (fun _ _ _ h => h) (Or.inr ⟨by rfl, rfl⟩) (by assumption) ?_
        try simp only [Array.reduceGetElem, Act.put, List.setIfInBounds_toArray, List.set_cons_zero, List.set_cons_succ]
        refine wpAnyH_take (i := 9) (v := undef) rfl (by kernel_rfl) (by kernel_rfl) (by kernel_rfl) (fun _ _ _ h => h) (Or.inr ⟨by rfl, rfl⟩) (by assumption) ?_
        try simp only [Array.reduceGetElem, Act.put, List.setIfInBounds_toArray, List.set_cons_zero, List.set_cons_succ]
        refine wpAnyH_take (i := 10) (v := undef) rfl (by kernel_rfl) (by kernel_rfl) (by kernel_rfl) (fun _ _ _ h => h) (Or.inr ⟨by rfl, rfl⟩) (by assumption) ?_
        try simp only [Array.reduceGetElem, Act.put, List.setIfInBounds_toArray, List.set_cons_zero, List.set_cons_succ]
        refine wpAnyH_take (i := 11) (v := undef) rfl (by kernel_rfl) (by kernel_rfl) (by kernel_rfl) (fun _ _ _ h => h) (Or.inr ⟨by rfl, rfl⟩) (by assumption) ?_
        try simp only [Array.reduceGetElem, Act.put, List.setIfInBounds_toArray, List.set_cons_zero, List.set_cons_succ]
        refine wpAnyH_take (i := 12) (v := undef) rfl (by kernel_rfl) (by kernel_rfl) (by kernel_rfl) (fun _ _ _ h => h) (Or.inr ⟨by rfl, rfl⟩) (by assumption) ?_
        try simp only [Array.reduceGetElem, Act.put, List.setIfInBounds_toArray, List.set_cons_zero, List.set_cons_succ]
        refine wpAnyH_take (i := 13) (v := undef) rfl (by kernel_rfl) (by kernel_rfl) (by kernel_rfl) (fun _ _ _ h => h) (Or.inr ⟨by rfl, rfl⟩) (by assumption) ?_
        try simp only [Array.reduceGetElem, Act.put, List.setIfInBounds_toArray, List.set_cons_zero, List.set_cons_succ]
        refine wpAnyH_take (i := 14) (v := undef) rfl (by kernel_rfl) (by kernel_rfl) (by kernel_rfl) (fun _ _ _ h => h) (Or.inr ⟨by rfl, rfl⟩) (by assumption) ?_
        try simp only [Array.reduceGetElem, Act.put, List.setIfInBounds_toArray, List.set_cons_zero, List.set_cons_succ]
        refine wpAnyH_take (i := 15) (v := undef) rfl (by kernel_rfl) (by kernel_rfl) (by kernel_rfl) (fun _ _ _ h => h) (Or.inr ⟨by rfl, rfl⟩) (by assumption) ?_
        try simp only [Array.reduceGetElem, Act.put, List.setIfInBounds_toArray, List.set_cons_zero, List.set_cons_succ]
        refine wpAnyH_take (i := 16) (v := undef) rfl (by kernel_rfl) (by kernel_rfl) (by kernel_rfl) (fun _ _ _ h => h) (Or.inr ⟨by rfl, rfl⟩) (by assumption) ?_
        try simp only [Array.reduceGetElem, Act.put, List.setIfInBounds_toArray, List.set_cons_zero, List.set_cons_succ]
        refine wpAnyH_take (i := 17) (v := undef) rfl (by kernel_rfl) (by kernel_rfl) (by kernel_rfl) (fun _ _ _ h => h) (Or.inr ⟨by rfl, rfl⟩) (by assumption) ?_
        try simp only [Array.reduceGetElem, Act.put, List.setIfInBounds_toArray, List.set_cons_zero, List.set_cons_succ]
        refine wpAnyH_take (i := 18) (v := undef) rfl (by kernel_rfl) (by kernel_rfl) (by kernel_rfl) (fun _ _ _ h => h) (Or.inr ⟨by rfl, rfl⟩) (by assumption) ?_
        try simp only [Array.reduceGetElem, Act.put, List.setIfInBounds_toArray, List.set_cons_zero, List.set_cons_succ]
        refine wpAnyH_take (i := 19) (v := undef) rfl (by kernel_rfl) (by kernel_rfl) (by kernel_rfl) (fun _ _ _ h => h) (Or.inr ⟨by rfl, rfl⟩) (by assumption) ?_
        try simp only [Array.reduceGetElem, Act.put, List.setIfInBounds_toArray, List.set_cons_zero, List.set_cons_succ]
        refine wpAnyH_take (i := 20) (v := undef) rfl (by kernel_rfl) (by kernel_rfl) (by kernel_rfl) (fun _ _ _ h => h) (Or.inr ⟨by rfl, rfl⟩) (by assumption) ?_
        try simp only [Array.reduceGetElem, Act.put, List.setIfInBounds_toArray, List.set_cons_zero, List.set_cons_succ]
        refine wpAnyH_take (i := 21) (v := undef) rfl (by kernel_rfl) (by kernel_rfl) (by kernel_rfl) (fun _ _ _ h => h) (Or.inr ⟨by rfl, rfl⟩) (by assumption) ?_
        try simp only [Array.reduceGetElem, Act.put, List.setIfInBounds_toArray, List.set_cons_zero, List.set_cons_succ]
        refine wpAnyH_take (i := 22) (v := undef) rfl (by kernel_rfl) (by kernel_rfl) (by kernel_rfl) (fun _ _ _ h => h) (Or.inr ⟨by rfl, rfl⟩) (by assumption) ?_
        try simp only [Array.reduceGetElem, Act.put, List.setIfInBounds_toArray, List.set_cons_zero, List.set_cons_succ]
        refine wpAnyH_take (i := 23) (v := ?_) rfl (by kernel_rfl) (by kernel_rfl) (by kernel_rfl) (fun _ _ _ h => h) (Or.inl ⟨by rfl, ?_⟩) (by assumption) ?_
        rotate_left
        · (intro w hSw; (try dsimp only at hSw); go_simp; try with_reducible rfl)
        try simp only [Array.reduceGetElem, Act.put, List.setIfInBounds_toArray, List.set_cons_zero, List.set_cons_succ]
        refine wpAnyH_done (by kernel_rfl) ?_ _
        try refine NoPanic.normal ?_
        go_wp2
        go_ret
        exact ⟨ret_bool (by rw [hres.out]), hB2⟩
      · by_cases hk0 : k = 0
        · have hnx := Lib.hid (First.one hk0 hlt he.out)
          have hkn : decide ((0 : Int) < (k : Int)) = false := decide_eq_false (by omega)
          have hkn2 : decide (0 < k) = false := decide_eq_false (by omega)
          replace hk0 := Lib.hid hk0
          go_wp2_with fail
          first | refine wp_region_noPanic ?_ | skip
          refine wp_region_held_drew (S := (fun W' => W'.cell? ⟨g, k * 4, none⟩ = some (.string (mkB es[k].path)) ∧ W'.cell? ⟨g, k * 4 + 1, none⟩ = some (.int .i64 es[k].kind) ∧ W'.cell? ⟨g, k * 4 + 2, none⟩ = some (.int .i64 es[k].mode) ∧ W'.cell? ⟨g, k * 4 + 3, none⟩ = some (.string (mkB es[k].text)))) (by kernel_rfl) ?_ (fun hHeld => ?_)
          · exact ⟨c0, c1, c2, c3⟩
          refine wpAnyH_take (i := 0) (v := ?_) rfl (by kernel_rfl) (by kernel_rfl) (by kernel_rfl) (fun _ _ _ h => h) (Or.inl ⟨by rfl, ?_⟩) (by assumption) ?_
          rotate_left
          · (intro w hSw; (try dsimp only at hSw); go_simp; try with_reducible rfl)
          try simp only [Array.reduceGetElem, Act.put, List.setIfInBounds_toArray, List.set_cons_zero, List.set_cons_succ]
          refine wpAnyH_take (i := 1) (v := ?_) rfl (by kernel_rfl) (by kernel_rfl) (by kernel_rfl) (fun _ _ _ h => h) (Or.inl ⟨by rfl, ?_⟩) (by assumption) ?_
          rotate_left
          · (intro w hSw; (try dsimp only at hSw); go_simp; try with_reducible rfl)
          try simp only [Array.reduceGetElem, Act.put, List.setIfInBounds_toArray, List.set_cons_zero, List.set_cons_succ]
          refine wpAnyH_take (i := 2) (v := ?_) rfl (by kernel_rfl) (by kernel_rfl) (by kernel_rfl) (fun _ _ _ h => h) (Or.inl ⟨by rfl, ?_⟩) (by assumption) ?_
          rotate_left
          · (intro w hSw; (try dsimp only at hSw); go_simp; try with_reducible rfl)
          try simp only [Array.reduceGetElem, Act.put, List.setIfInBounds_toArray, List.set_cons_zero, List.set_cons_succ]
          refine wpAnyH_take (i := 3) (v := ?_) rfl (by kernel_rfl) (by kernel_rfl) (by kernel_rfl) (fun _ _ _ h => h) (Or.inl ⟨by rfl, ?_⟩) (by assumption) ?_
          rotate_left
          · (intro w hSw; (try dsimp only at hSw); go_simp; try with_reducible rfl)
          try simp only [Array.reduceGetElem, Act.put, List.setIfInBounds_toArray, List.set_cons_zero, List.set_cons_succ]
          refine wpAnyH_ready (rs := [4]) (by kernel_rfl) (by simp) ?_
          refine AllReadyH.cons rfl (fun K hK => ?_) AllReadyH.nil
          go_simp
          (go_at_call 34; refine (l2Entry_any es[k] hpl htl _).mono ?_; rintro e w2 ⟨rfl, hB⟩; rw [he.out]; have hB2 := Below.trans hB1.drew (hB.mono (by have := hB1.size; omega)); have hE2 := Ents.below (Ents.drew hE1.out) hB hg1; obtain ⟨d0, d1, d2, d3⟩ := hE2.2 k hlt)
          refine hK.out _ _ ?_ (fun hHeld => ?_)
          · (try dsimp only); first | exact ⟨d0, d1, d2, d3⟩ | exact ⟨c0, c1, c2, c3⟩ | go_keep
          clear hK K
          try simp only [Array.reduceGetElem, Act.put, List.setIfInBounds_toArray, List.set_cons_zero, List.set_cons_succ]
          refine wpAnyH_take (i := 5) (v := ?_) rfl (by kernel_rfl) (by kernel_rfl) (by kernel_rfl) (fun _ _ _ h => h) (Or.inl ⟨by rfl, ?_⟩) (by assumption) ?_
          rotate_left
          · (intro w hSw; (try dsimp only at hSw); go_simp; try with_reducible rfl)
          try simp only [Array.reduceGetElem, Act.put, List.setIfInBounds_toArray, List.set_cons_zero, List.set_cons_succ]
          refine wpAnyH_take (i := 6) (v := ?_) rfl (by kernel_rfl) (by kernel_rfl) (by kernel_rfl) (fun _ _ _ h => h) (Or.inl ⟨by rfl, ?_⟩) (by assumption) ?_
          rotate_left
          · (intro w hSw; (try dsimp only at hSw); go_simp; try with_reducible rfl)
          try simp only [Array.reduceGetElem, Act.put, List.setIfInBounds_toArray, List.set_cons_zero, List.set_cons_succ]
          refine wpAnyH_take (i := 7) (v := ?_) rfl (by kernel_rfl) (by kernel_rfl) (by kernel_rfl) (fun _ _ _ h => h) (Or.inl ⟨by rfl, ?_⟩) (by assumption) ?_
          rotate_left
          · (intro w hSw; (try dsimp only at hSw); go_simp; try with_reducible rfl)
          try simp only [Array.reduceGetElem, Act.put, List.setIfInBounds_toArray, List.set_cons_zero, List.set_cons_succ]
          refine wpAnyH_take (i := 8) (v := ?_) rfl (by kernel_rfl) (by kernel_rfl) (by kernel_rfl) (fun _ _ _ h => h) (Or.inl ⟨by rfl, ?_⟩) (by assumption) ?_
          rotate_left
          · (intro w hSw; (try dsimp only at hSw); go_simp; try with_reducible rfl)
          try simp only [Array.reduceGetElem, Act.put, List.setIfInBounds_toArray, List.set_cons_zero, List.set_cons_succ]
          refine wpAnyH_take (i := 9) (v := ?_) rfl (by kernel_rfl) (by kernel_rfl) (by kernel_rfl) (fun _ _ _ h => h) (Or.inl ⟨by rfl, ?_⟩) (by assumption) ?_
          rotate_left
          · (intro w hSw; (try dsimp only at hSw); go_simp; try with_reducible rfl)
          try simp only [Array.reduceGetElem, Act.put, List.setIfInBounds_toArray, List.set_cons_zero, List.set_cons_succ]
          refine wpAnyH_take (i := 10) (v := undef) rfl (by kernel_rfl) (by kernel_rfl) (by kernel_rfl) (fun _ _ _ h => h) (Or.inr ⟨by rfl, rfl⟩) (by assumption) ?_
          try simp only [Array.reduceGetElem, Act.put, List.setIfInBounds_toArray, List.set_cons_zero, List.set_cons_succ]
          refine wpAnyH_take (i := 11) (v := undef) rfl (by kernel_rfl) (by kernel_rfl) (by kernel_rfl) (fun _ _ _ h => h) (Or.inr ⟨by rfl, rfl⟩) (by assumption) ?_
          try simp only [Array.reduceGetElem, Act.put, List.setIfInBounds_toArray, List.set_cons_zero, List.set_cons_succ]
          refine wpAnyH_take (i := 12) (v := undef) rfl (by kernel_rfl) (by kernel_rfl) (by kernel_rfl) (fun _ _ _ h => h) (Or.inr ⟨by rfl, rfl⟩) (by assumption) ?_
          try simp only [Array.reduceGetElem, Act.put, List.setIfInBounds_toArray, List.set_cons_zero, List.set_cons_succ]
          refine wpAnyH_take (i := 13) (v := undef) rfl (by kernel_rfl) (by kernel_rfl) (by kernel_rfl) (fun _ _ _ h => h) (Or.inr ⟨by rfl, rfl⟩) (by assumption) ?_
          try simp only [Array.reduceGetElem, Act.put, List.setIfInBounds_toArray, List.set_cons_zero, List.set_cons_succ]
          refine wpAnyH_take (i := 14) (v := undef) rfl (by kernel_rfl) (by kernel_rfl) (by kernel_rfl) (fun _ _ _ h => h) (Or.inr ⟨by rfl, rfl⟩) (by assumption) ?_
          try simp only [Array.reduceGetElem, Act.put, List.setIfInBounds_toArray, List.set_cons_zero, List.set_cons_succ]
          refine wpAnyH_take (i := 15) (v := undef) rfl (by kernel_rfl) (by kernel_rfl) (by kernel_rfl) (fun _ _ _ h => h) (Or.inr ⟨by rfl, rfl⟩) (by assumption) ?_
          try simp only [Array.reduceGetElem, Act.put, List.setIfInBounds_toArray, List.set_cons_zero, List.set_cons_succ]
          refine wpAnyH_take (i := 16) (v := undef) rfl (by kernel_rfl) (by kernel_rfl) (by kernel_rfl) (fun _ _ _ h => h) (Or.inr ⟨by rfl, rfl⟩) (by assumption) ?_
          try simp only [Array.reduceGetElem, Act.put, List.setIfInBounds_toArray, List.set_cons_zero, List.set_cons_succ]
          refine wpAnyH_take (i := 17) (v := undef) rfl (by kernel_rfl) (by kernel_rfl) (by kernel_rfl) (fun _ _ _ h => h) (Or.inr ⟨by rfl, rfl⟩) (by assumption) ?_
          try simp only [Array.reduceGetElem, Act.put, List.setIfInBounds_toArray, List.set_cons_zero, List.set_cons_succ]
          refine wpAnyH_take (i := 18) (v := undef) rfl (by kernel_rfl) (by kernel_rfl) (by kernel_rfl) (fun _ _ _ h => h) (Or.inr ⟨by rfl, rfl⟩) (by assumption) ?_
          try simp only [Array.reduceGetElem, Act.put, List.setIfInBounds_toArray, List.set_cons_zero, List.set_cons_succ]
          refine wpAnyH_take (i := 19) (v := undef) rfl (by kernel_rfl) (by kernel_rfl) (by kernel_rfl) (fun _ _ _ h => h) (Or.inr ⟨by rfl, rfl⟩) (by assumption) ?_
          try simp only [Array.reduceGetElem, Act.put, List.setIfInBounds_toArray, List.set_cons_zero, List.set_cons_succ]
          refine wpAnyH_take (i := 20) (v := undef) rfl (by kernel_rfl) (by kernel_rfl) (by kernel_rfl) (fun _ _ _ h => h) (Or.inr ⟨by rfl, rfl⟩) (by assumption) ?_
          try simp only [Array.reduceGetElem, Act.put, List.setIfInBounds_toArray, List.set_cons_zero, List.set_cons_succ]
          refine wpAnyH_take (i := 21) (v := undef) rfl (by kernel_rfl) (by kernel_rfl) (by kernel_rfl) (fun _ _ _ h => h) (Or.inr ⟨by rfl, rfl⟩) (by assumption) ?_
          try simp only [Array.reduceGetElem, Act.put, List.setIfInBounds_toArray, List.set_cons_zero, List.set_cons_succ]
          refine wpAnyH_take (i := 22) (v := ?_) rfl (by kernel_rfl) (by kernel_rfl) (by kernel_rfl) (fun _ _ _ h => h) (Or.inl ⟨by rfl, ?_⟩) (by assumption) ?_
          rotate_left
          · (intro w hSw; (try dsimp only at hSw); go_simp; try with_reducible rfl)
          try simp only [Array.reduceGetElem, Act.put, List.setIfInBounds_toArray, List.set_cons_zero, List.set_cons_succ]
          refine wpAnyH_take (i := 23) (v := ?_) rfl (by kernel_rfl) (by kernel_rfl) (by kernel_rfl) (fun _ _ _ h => h) (Or.inl ⟨by rfl, ?_⟩) (by assumption) ?_
          rotate_left
          · (intro w hSw; (try dsimp only at hSw); go_simp; try with_reducible rfl)
          try simp only [Array.reduceGetElem, Act.put, List.setIfInBounds_toArray, List.set_cons_zero, List.set_cons_succ]
          refine wpAnyH_done (by kernel_rfl) ?_ _
          try refine NoPanic.normal ?_
          go_wp2
          go_round
          case rel => exact ⟨k + 1, by omega, by go_num, hnx, hB2⟩
          case measure => simp [intOf]; omega
        · obtain ⟨j, hj⟩ : ∃ j, j + 1 = k := ⟨k - 1, by omega⟩
          have hjl : j < es.length := by omega
          have hjI : (k : Int) - 1 = (j : Int) := by omega
          have hjI2 : (j : Int) < (es.length : Int) := by omega
          have hj0 : (0 : Int) ≤ (j : Int) := by omega
          have hkn : decide ((0 : Int) < (k : Int)) = true := decide_eq_true (by omega)
          have hkn2 : decide (0 < k) = true := decide_eq_true (by omega)
          obtain ⟨e0, e1, e2, e3⟩ := hE1.out.2 j hjl
          rcases boolOf (Op.bytesLess es[j].path es[k].path) with hb | hb
          · have hres := Lib.hid (tree_bad_order hlt hj hjl hb.out)
            have hbb := hb.out
            replace hj := Lib.hid hj
            clear hk0
            go_wp2_with fail
            first | refine wp_region_noPanic ?_ | skip
            refine wp_region_held_drew (S := (fun W' => W'.cell? ⟨g, k * 4, none⟩ = some (.string (mkB es[k].path)) ∧ W'.cell? ⟨g, k * 4 + 1, none⟩ = some (.int .i64 es[k].kind) ∧ W'.cell? ⟨g, k * 4 + 2, none⟩ = some (.int .i64 es[k].mode) ∧ W'.cell? ⟨g, k * 4 + 3, none⟩ = some (.string (mkB es[k].text)) ∧ W'.cell? ⟨g, j * 4, none⟩ = some (.string (mkB es[j].path)))) (by kernel_rfl) ?_ (fun hHeld => ?_)
            · exact ⟨c0, c1, c2, c3, e0⟩
            refine wpAnyH_take (i := 0) (v := ?_) rfl (by kernel_rfl) (by kernel_rfl) (by kernel_rfl) (fun _ _ _ h => h) (Or.inl ⟨by rfl, ?_⟩) (by assumption) ?_
            rotate_left
            · (intro w hSw; (try dsimp only at hSw); go_simp; try with_reducible rfl)
            try simp only [Array.reduceGetElem, Act.put, List.setIfInBounds_toArray, List.set_cons_zero, List.set_cons_succ]
            refine wpAnyH_take (i := 1) (v := ?_) rfl (by kernel_rfl) (by kernel_rfl) (by kernel_rfl) (fun _ _ _ h => h) (Or.inl ⟨by rfl, ?_⟩) (by assumption) ?_
            rotate_left
            · (intro w hSw; (try dsimp only at hSw); go_simp; try with_reducible rfl)
            try simp only [Array.reduceGetElem, Act.put, List.setIfInBounds_toArray, List.set_cons_zero, List.set_cons_succ]
            refine wpAnyH_take (i := 2) (v := ?_) rfl (by kernel_rfl) (by kernel_rfl) (by kernel_rfl) (fun _ _ _ h => h) (Or.inl ⟨by rfl, ?_⟩) (by assumption) ?_
            rotate_left
            · (intro w hSw; (try dsimp only at hSw); go_simp; try with_reducible rfl)
            try simp only [Array.reduceGetElem, Act.put, List.setIfInBounds_toArray, List.set_cons_zero, List.set_cons_succ]
            refine wpAnyH_take (i := 3) (v := ?_) rfl (by kernel_rfl) (by kernel_rfl) (by kernel_rfl) (fun _ _ _ h => h) (Or.inl ⟨by rfl, ?_⟩) (by assumption) ?_
            rotate_left
            · (intro w hSw; (try dsimp only at hSw); go_simp; try with_reducible rfl)
            try simp only [Array.reduceGetElem, Act.put, List.setIfInBounds_toArray, List.set_cons_zero, List.set_cons_succ]
            refine wpAnyH_ready (rs := [4]) (by kernel_rfl) (by simp) ?_
            refine AllReadyH.cons rfl (fun K hK => ?_) AllReadyH.nil
            go_simp
            (go_at_call 34; refine (l2Entry_any es[k] hpl htl _).mono ?_; rintro e w2 ⟨rfl, hB⟩; rw [he.out]; have hB2 := Below.trans hB1.drew (hB.mono (by have := hB1.size; omega)); have hE2 := Ents.below (Ents.drew hE1.out) hB hg1; obtain ⟨d0, d1, d2, d3⟩ := hE2.2 k hlt; obtain ⟨f0, f1, f2, f3⟩ := hE2.2 j hjl)
            refine hK.out _ _ ?_ (fun hHeld => ?_)
            · (try dsimp only); first | exact ⟨d0, d1, d2, d3, f0⟩ | exact ⟨c0, c1, c2, c3, e0⟩ | go_keep
            clear hK K
            try simp only [Array.reduceGetElem, Act.put, List.setIfInBounds_toArray, List.set_cons_zero, List.set_cons_succ]
            refine wpAnyH_take (i := 5) (v := ?_) rfl (by kernel_rfl) (by kernel_rfl) (by kernel_rfl) (fun _ _ _ h => h) (Or.inl ⟨by rfl, ?_⟩) (by assumption) ?_
            rotate_left
            · (intro w hSw; (try dsimp only at hSw); go_simp; try with_reducible rfl)
            try simp only [Array.reduceGetElem, Act.put, List.setIfInBounds_toArray, List.set_cons_zero, List.set_cons_succ]
            refine wpAnyH_take (i := 6) (v := ?_) rfl (by kernel_rfl) (by kernel_rfl) (by kernel_rfl) (fun _ _ _ h => h) (Or.inl ⟨by rfl, ?_⟩) (by assumption) ?_
            rotate_left
            · (intro w hSw; (try dsimp only at hSw); go_simp; try with_reducible rfl)
            try simp only [Array.reduceGetElem, Act.put, List.setIfInBounds_toArray, List.set_cons_zero, List.set_cons_succ]
            refine wpAnyH_take (i := 7) (v := ?_) rfl (by kernel_rfl) (by kernel_rfl) (by kernel_rfl) (fun _ _ _ h => h) (Or.inl ⟨by rfl, ?_⟩) (by assumption) ?_
            rotate_left
            · (intro w hSw; (try dsimp only at hSw); go_simp; try with_reducible rfl)
            try simp only [Array.reduceGetElem, Act.put, List.setIfInBounds_toArray, List.set_cons_zero, List.set_cons_succ]
            refine wpAnyH_take (i := 8) (v := ?_) rfl (by kernel_rfl) (by kernel_rfl) (by kernel_rfl) (fun _ _ _ h => h) (Or.inl ⟨by rfl, ?_⟩) (by assumption) ?_
            rotate_left
            · (intro w hSw; (try dsimp only at hSw); go_simp; try with_reducible rfl)
            try simp only [Array.reduceGetElem, Act.put, List.setIfInBounds_toArray, List.set_cons_zero, List.set_cons_succ]
            refine wpAnyH_take (i := 9) (v := ?_) rfl (by kernel_rfl) (by kernel_rfl) (by kernel_rfl) (fun _ _ _ h => h) (Or.inl ⟨by rfl, ?_⟩) (by assumption) ?_
            rotate_left
            · (intro w hSw; (try dsimp only at hSw); go_simp; try with_reducible rfl)
            try simp only [Array.reduceGetElem, Act.put, List.setIfInBounds_toArray, List.set_cons_zero, List.set_cons_succ]
            refine wpAnyH_take (i := 10) (v := ?_) rfl (by kernel_rfl) (by kernel_rfl) (by kernel_rfl) (fun _ _ _ h => h) (Or.inl ⟨by rfl, ?_⟩) (by assumption) ?_
            rotate_left
            · (intro w hSw; (try dsimp only at hSw); go_simp; try with_reducible rfl)
            try simp only [Array.reduceGetElem, Act.put, List.setIfInBounds_toArray, List.set_cons_zero, List.set_cons_succ]
            refine wpAnyH_take (i := 11) (v := ?_) rfl (by kernel_rfl) (by kernel_rfl) (by kernel_rfl) (fun _ _ _ h => h) (Or.inl ⟨by rfl, ?_⟩) (by assumption) ?_
            rotate_left
            · (intro w hSw; (try dsimp only at hSw); go_simp; try with_reducible rfl)
            try simp only [Array.reduceGetElem, Act.put, List.setIfInBounds_toArray, List.set_cons_zero, List.set_cons_succ]
            refine wpAnyH_take (i := 12) (v := (.int .i64 (j : Int))) rfl (by kernel_rfl) (by kernel_rfl) (by kernel_rfl) (fun _ _ _ h => h) (Or.inl ⟨by rfl, ?_⟩) (by assumption) ?_
            · (intro w hSw; (try dsimp only at hSw); go_simp; exact wrap_small j (by omega))
            try simp only [Array.reduceGetElem, Act.put, List.setIfInBounds_toArray, List.set_cons_zero, List.set_cons_succ]
            refine wpAnyH_take (i := 13) (v := ?_) rfl (by kernel_rfl) (by kernel_rfl) (by kernel_rfl) (fun _ _ _ h => h) (Or.inl ⟨by rfl, ?_⟩) (by assumption) ?_
            rotate_left
            · (intro w hSw; (try dsimp only at hSw); go_simp; try with_reducible rfl)
            try simp only [Array.reduceGetElem, Act.put, List.setIfInBounds_toArray, List.set_cons_zero, List.set_cons_succ]
            refine wpAnyH_take (i := 14) (v := ?_) rfl (by kernel_rfl) (by kernel_rfl) (by kernel_rfl) (fun _ _ _ h => h) (Or.inl ⟨by rfl, ?_⟩) (by assumption) ?_
            rotate_left
            · (intro w hSw; (try dsimp only at hSw); go_simp; try with_reducible rfl)
            try simp only [Array.reduceGetElem, Act.put, List.setIfInBounds_toArray, List.set_cons_zero, List.set_cons_succ]
            refine wpAnyH_take (i := 15) (v := ?_) rfl (by kernel_rfl) (by kernel_rfl) (by kernel_rfl) (fun _ _ _ h => h) (Or.inl ⟨by rfl, ?_⟩) (by assumption) ?_
            rotate_left
            · (intro w hSw; (try dsimp only at hSw); go_simp; try with_reducible rfl)
            try simp only [Array.reduceGetElem, Act.put, List.setIfInBounds_toArray, List.set_cons_zero, List.set_cons_succ]
            refine wpAnyH_take (i := 16) (v := ?_) rfl (by kernel_rfl) (by kernel_rfl) (by kernel_rfl) (fun _ _ _ h => h) (Or.inl ⟨by rfl, ?_⟩) (by assumption) ?_
            rotate_left
            · (intro w hSw; (try dsimp only at hSw); go_simp; try with_reducible rfl)
            try simp only [Array.reduceGetElem, Act.put, List.setIfInBounds_toArray, List.set_cons_zero, List.set_cons_succ]
            refine wpAnyH_take (i := 17) (v := ?_) rfl (by kernel_rfl) (by kernel_rfl) (by kernel_rfl) (fun _ _ _ h => h) (Or.inl ⟨by rfl, ?_⟩) (by assumption) ?_
            rotate_left
            · (intro w hSw; (try dsimp only at hSw); go_simp; try with_reducible rfl)
            try simp only [Array.reduceGetElem, Act.put, List.setIfInBounds_toArray, List.set_cons_zero, List.set_cons_succ]
            refine wpAnyH_take (i := 18) (v := ?_) rfl (by kernel_rfl) (by kernel_rfl) (by kernel_rfl) (fun _ _ _ h => h) (Or.inl ⟨by rfl, ?_⟩) (by assumption) ?_
            rotate_left
            · (intro w hSw; (try dsimp only at hSw); go_simp; try with_reducible rfl)
            try simp only [Array.reduceGetElem, Act.put, List.setIfInBounds_toArray, List.set_cons_zero, List.set_cons_succ]
            refine wpAnyH_take (i := 19) (v := ?_) rfl (by kernel_rfl) (by kernel_rfl) (by kernel_rfl) (fun _ _ _ h => h) (Or.inl ⟨by rfl, ?_⟩) (by assumption) ?_
            rotate_left
            · (intro w hSw; (try dsimp only at hSw); go_simp; try with_reducible rfl)
            try simp only [Array.reduceGetElem, Act.put, List.setIfInBounds_toArray, List.set_cons_zero, List.set_cons_succ]
            refine wpAnyH_take (i := 20) (v := ?_) rfl (by kernel_rfl) (by kernel_rfl) (by kernel_rfl) (fun _ _ _ h => h) (Or.inl ⟨by rfl, ?_⟩) (by assumption) ?_
            rotate_left
            · (intro w hSw; (try dsimp only at hSw); go_simp; try with_reducible rfl)
            try simp only [Array.reduceGetElem, Act.put, List.setIfInBounds_toArray, List.set_cons_zero, List.set_cons_succ]
            refine wpAnyH_take (i := 21) (v := ?_) rfl (by kernel_rfl) (by kernel_rfl) (by kernel_rfl) (fun _ _ _ h => h) (Or.inl ⟨by rfl, ?_⟩) (by assumption) ?_
            rotate_left
            · (intro w hSw; (try dsimp only at hSw); go_simp; try with_reducible rfl)
            try simp only [Array.reduceGetElem, Act.put, List.setIfInBounds_toArray, List.set_cons_zero, List.set_cons_succ]
            refine wpAnyH_take (i := 22) (v := ?_) rfl (by kernel_rfl) (by kernel_rfl) (by kernel_rfl) (fun _ _ _ h => h) (Or.inl ⟨by rfl, ?_⟩) (by assumption) ?_
            rotate_left
            · (intro w hSw; (try dsimp only at hSw); go_simp; try with_reducible rfl)
            try simp only [Array.reduceGetElem, Act.put, List.setIfInBounds_toArray, List.set_cons_zero, List.set_cons_succ]
            refine wpAnyH_take (i := 23) (v := ?_) rfl (by kernel_rfl) (by kernel_rfl) (by kernel_rfl) (fun _ _ _ h => h) (Or.inl ⟨by rfl, ?_⟩) (by assumption) ?_
            rotate_left
            · (intro w hSw; (try dsimp only at hSw); go_simp; try with_reducible rfl)
            try simp only [Array.reduceGetElem, Act.put, List.setIfInBounds_toArray, List.set_cons_zero, List.set_cons_succ]
            refine wpAnyH_done (by kernel_rfl) ?_ _
            try refine NoPanic.normal ?_
            go_wp2
            go_ret
            exact ⟨ret_bool (by rw [hres.out]), hB2⟩
          · have hnx := Lib.hid (hfst.out.next hlt hj hjl he.out hb.out)
            have hbb := hb.out
            replace hj := Lib.hid hj
            clear hk0
            go_wp2_with fail
            first | refine wp_region_noPanic ?_ | skip
            refine wp_region_held_drew (S := (fun W' => W'.cell? ⟨g, k * 4, none⟩ = some (.string (mkB es[k].path)) ∧ W'.cell? ⟨g, k * 4 + 1, none⟩ = some (.int .i64 es[k].kind) ∧ W'.cell? ⟨g, k * 4 + 2, none⟩ = some (.int .i64 es[k].mode) ∧ W'.cell? ⟨g, k * 4 + 3, none⟩ = some (.string (mkB es[k].text)) ∧ W'.cell? ⟨g, j * 4, none⟩ = some (.string (mkB es[j].path)))) (by kernel_rfl) ?_ (fun hHeld => ?_)
            · exact ⟨c0, c1, c2, c3, e0⟩
            refine wpAnyH_take (i := 0) (v := ?_) rfl (by kernel_rfl) (by kernel_rfl) (by kernel_rfl) (fun _ _ _ h => h) (Or.inl ⟨by rfl, ?_⟩) (by assumption) ?_
            rotate_left
            · (intro w hSw; (try dsimp only at hSw); go_simp; try with_reducible rfl)
            try simp only [Array.reduceGetElem, Act.put, List.setIfInBounds_toArray, List.set_cons_zero, List.set_cons_succ]
            refine wpAnyH_take (i := 1) (v := ?_) rfl (by kernel_rfl) (by kernel_rfl) (by kernel_rfl) (fun _ _ _ h => h) (Or.inl ⟨by rfl, ?_⟩) (by assumption) ?_
            rotate_left
            · (intro w hSw; (try dsimp only at hSw); go_simp; try with_reducible rfl)
            try simp only [Array.reduceGetElem, Act.put, List.setIfInBounds_toArray, List.set_cons_zero, List.set_cons_succ]
            refine wpAnyH_take (i := 2) (v := ?_) rfl (by kernel_rfl) (by kernel_rfl) (by kernel_rfl) (fun _ _ _ h => h) (Or.inl ⟨by rfl, ?_⟩) (by assumption) ?_
            rotate_left
            · (intro w hSw; (try dsimp only at hSw); go_simp; try with_reducible rfl)
            try simp only [Array.reduceGetElem, Act.put, List.setIfInBounds_toArray, List.set_cons_zero, List.set_cons_succ]
            refine wpAnyH_take (i := 3) (v := ?_) rfl (by kernel_rfl) (by kernel_rfl) (by kernel_rfl) (fun _ _ _ h => h) (Or.inl ⟨by rfl, ?_⟩) (by assumption) ?_
            rotate_left
            · (intro w hSw; (try dsimp only at hSw); go_simp; try with_reducible rfl)
            try simp only [Array.reduceGetElem, Act.put, List.setIfInBounds_toArray, List.set_cons_zero, List.set_cons_succ]
            refine wpAnyH_ready (rs := [4]) (by kernel_rfl) (by simp) ?_
            refine AllReadyH.cons rfl (fun K hK => ?_) AllReadyH.nil
            go_simp
            (go_at_call 34; refine (l2Entry_any es[k] hpl htl _).mono ?_; rintro e w2 ⟨rfl, hB⟩; rw [he.out]; have hB2 := Below.trans hB1.drew (hB.mono (by have := hB1.size; omega)); have hE2 := Ents.below (Ents.drew hE1.out) hB hg1; obtain ⟨d0, d1, d2, d3⟩ := hE2.2 k hlt; obtain ⟨f0, f1, f2, f3⟩ := hE2.2 j hjl)
            refine hK.out _ _ ?_ (fun hHeld => ?_)
            · (try dsimp only); first | exact ⟨d0, d1, d2, d3, f0⟩ | exact ⟨c0, c1, c2, c3, e0⟩ | go_keep
            clear hK K
            try simp only [Array.reduceGetElem, Act.put, List.setIfInBounds_toArray, List.set_cons_zero, List.set_cons_succ]
            refine wpAnyH_take (i := 5) (v := ?_) rfl (by kernel_rfl) (by kernel_rfl) (by kernel_rfl) (fun _ _ _ h => h) (Or.inl ⟨by rfl, ?_⟩) (by assumption) ?_
            rotate_left
            · (intro w hSw; (try dsimp only at hSw); go_simp; try with_reducible rfl)
            try simp only [Array.reduceGetElem, Act.put, List.setIfInBounds_toArray, List.set_cons_zero, List.set_cons_succ]
            refine wpAnyH_take (i := 6) (v := ?_) rfl (by kernel_rfl) (by kernel_rfl) (by kernel_rfl) (fun _ _ _ h => h) (Or.inl ⟨by rfl, ?_⟩) (by assumption) ?_
            rotate_left
            · (intro w hSw; (try dsimp only at hSw); go_simp; try with_reducible rfl)
            try simp only [Array.reduceGetElem, Act.put, List.setIfInBounds_toArray, List.set_cons_zero, List.set_cons_succ]
            refine wpAnyH_take (i := 7) (v := ?_) rfl (by kernel_rfl) (by kernel_rfl) (by kernel_rfl) (fun _ _ _ h => h) (Or.inl ⟨by rfl, ?_⟩) (by assumption) ?_
            rotate_left
            · (intro w hSw; (try dsimp only at hSw); go_simp; try with_reducible rfl)
            try simp only [Array.reduceGetElem, Act.put, List.setIfInBounds_toArray, List.set_cons_zero, List.set_cons_succ]
            refine wpAnyH_take (i := 8) (v := ?_) rfl (by kernel_rfl) (by kernel_rfl) (by kernel_rfl) (fun _ _ _ h => h) (Or.inl ⟨by rfl, ?_⟩) (by assumption) ?_
            rotate_left
            · (intro w hSw; (try dsimp only at hSw); go_simp; try with_reducible rfl)
            try simp only [Array.reduceGetElem, Act.put, List.setIfInBounds_toArray, List.set_cons_zero, List.set_cons_succ]
            refine wpAnyH_take (i := 9) (v := ?_) rfl (by kernel_rfl) (by kernel_rfl) (by kernel_rfl) (fun _ _ _ h => h) (Or.inl ⟨by rfl, ?_⟩) (by assumption) ?_
            rotate_left
            · (intro w hSw; (try dsimp only at hSw); go_simp; try with_reducible rfl)
            try simp only [Array.reduceGetElem, Act.put, List.setIfInBounds_toArray, List.set_cons_zero, List.set_cons_succ]
            refine wpAnyH_take (i := 10) (v := ?_) rfl (by kernel_rfl) (by kernel_rfl) (by kernel_rfl) (fun _ _ _ h => h) (Or.inl ⟨by rfl, ?_⟩) (by assumption) ?_
            rotate_left
            · (intro w hSw; (try dsimp only at hSw); go_simp; try with_reducible rfl)
            try simp only [Array.reduceGetElem, Act.put, List.setIfInBounds_toArray, List.set_cons_zero, List.set_cons_succ]
            refine wpAnyH_take (i := 11) (v := ?_) rfl (by kernel_rfl) (by kernel_rfl) (by kernel_rfl) (fun _ _ _ h => h) (Or.inl ⟨by rfl, ?_⟩) (by assumption) ?_
            rotate_left
            · (intro w hSw; (try dsimp only at hSw); go_simp; try with_reducible rfl)
            try simp only [Array.reduceGetElem, Act.put, List.setIfInBounds_toArray, List.set_cons_zero, List.set_cons_succ]
            refine wpAnyH_take (i := 12) (v := (.int .i64 (j : Int))) rfl (by kernel_rfl) (by kernel_rfl) (by kernel_rfl) (fun _ _ _ h => h) (Or.inl ⟨by rfl, ?_⟩) (by assumption) ?_
            · (intro w hSw; (try dsimp only at hSw); go_simp; exact wrap_small j (by omega))
            try simp only [Array.reduceGetElem, Act.put, List.setIfInBounds_toArray, List.set_cons_zero, List.set_cons_succ]
            refine wpAnyH_take (i := 13) (v := ?_) rfl (by kernel_rfl) (by kernel_rfl) (by kernel_rfl) (fun _ _ _ h => h) (Or.inl ⟨by rfl, ?_⟩) (by assumption) ?_
            rotate_left
            · (intro w hSw; (try dsimp only at hSw); go_simp; try with_reducible rfl)
            try simp only [Array.reduceGetElem, Act.put, List.setIfInBounds_toArray, List.set_cons_zero, List.set_cons_succ]
            refine wpAnyH_take (i := 14) (v := ?_) rfl (by kernel_rfl) (by kernel_rfl) (by kernel_rfl) (fun _ _ _ h => h) (Or.inl ⟨by rfl, ?_⟩) (by assumption) ?_
            rotate_left
            · (intro w hSw; (try dsimp only at hSw); go_simp; try with_reducible rfl)
            try simp only [Array.reduceGetElem, Act.put, List.setIfInBounds_toArray, List.set_cons_zero, List.set_cons_succ]
            refine wpAnyH_take (i := 15) (v := ?_) rfl (by kernel_rfl) (by kernel_rfl) (by kernel_rfl) (fun _ _ _ h => h) (Or.inl ⟨by rfl, ?_⟩) (by assumption) ?_
            rotate_left
            · (intro w hSw; (try dsimp only at hSw); go_simp; try with_reducible rfl)
            try simp only [Array.reduceGetElem, Act.put, List.setIfInBounds_toArray, List.set_cons_zero, List.set_cons_succ]
            refine wpAnyH_take (i := 16) (v := ?_) rfl (by kernel_rfl) (by kernel_rfl) (by kernel_rfl) (fun _ _ _ h => h) (Or.inl ⟨by rfl, ?_⟩) (by assumption) ?_
            rotate_left
            · (intro w hSw; (try dsimp only at hSw); go_simp; try with_reducible rfl)
            try simp only [Array.reduceGetElem, Act.put, List.setIfInBounds_toArray, List.set_cons_zero, List.set_cons_succ]
            refine wpAnyH_take (i := 17) (v := ?_) rfl (by kernel_rfl) (by kernel_rfl) (by kernel_rfl) (fun _ _ _ h => h) (Or.inl ⟨by rfl, ?_⟩) (by assumption) ?_
            rotate_left
            · (intro w hSw; (try dsimp only at hSw); go_simp; try with_reducible rfl)
            try simp only [Array.reduceGetElem, Act.put, List.setIfInBounds_toArray, List.set_cons_zero, List.set_cons_succ]
            refine wpAnyH_take (i := 18) (v := ?_) rfl (by kernel_rfl) (by kernel_rfl) (by kernel_rfl) (fun _ _ _ h => h) (Or.inl ⟨by rfl, ?_⟩) (by assumption) ?_
            rotate_left
            · (intro w hSw; (try dsimp only at hSw); go_simp; try with_reducible rfl)
            try simp only [Array.reduceGetElem, Act.put, List.setIfInBounds_toArray, List.set_cons_zero, List.set_cons_succ]
            refine wpAnyH_take (i := 19) (v := ?_) rfl (by kernel_rfl) (by kernel_rfl) (by kernel_rfl) (fun _ _ _ h => h) (Or.inl ⟨by rfl, ?_⟩) (by assumption) ?_
            rotate_left
            · (intro w hSw; (try dsimp only at hSw); go_simp; try with_reducible rfl)
            try simp only [Array.reduceGetElem, Act.put, List.setIfInBounds_toArray, List.set_cons_zero, List.set_cons_succ]
            refine wpAnyH_take (i := 20) (v := ?_) rfl (by kernel_rfl) (by kernel_rfl) (by kernel_rfl) (fun _ _ _ h => h) (Or.inl ⟨by rfl, ?_⟩) (by assumption) ?_
            rotate_left
            · (intro w hSw; (try dsimp only at hSw); go_simp; try with_reducible rfl)
            try simp only [Array.reduceGetElem, Act.put, List.setIfInBounds_toArray, List.set_cons_zero, List.set_cons_succ]
            refine wpAnyH_take (i := 21) (v := ?_) rfl (by kernel_rfl) (by kernel_rfl) (by kernel_rfl) (fun _ _ _ h => h) (Or.inl ⟨by rfl, ?_⟩) (by assumption) ?_
            rotate_left
            · (intro w hSw; (try dsimp only at hSw); go_simp; try with_reducible rfl)
            try simp only [Array.reduceGetElem, Act.put, List.setIfInBounds_toArray, List.set_cons_zero, List.set_cons_succ]
            refine wpAnyH_take (i := 22) (v := ?_) rfl (by kernel_rfl) (by kernel_rfl) (by kernel_rfl) (fun _ _ _ h => h) (Or.inl ⟨by rfl, ?_⟩) (by assumption) ?_
            rotate_left
            · (intro w hSw; (try dsimp only at hSw); go_simp; try with_reducible rfl)
            try simp only [Array.reduceGetElem, Act.put, List.setIfInBounds_toArray, List.set_cons_zero, List.set_cons_succ]
            refine wpAnyH_take (i := 23) (v := ?_) rfl (by kernel_rfl) (by kernel_rfl) (by kernel_rfl) (fun _ _ _ h => h) (Or.inl ⟨by rfl, ?_⟩) (by assumption) ?_
            rotate_left
            · (intro w hSw; (try dsimp only at hSw); go_simp; try with_reducible rfl)
            try simp only [Array.reduceGetElem, Act.put, List.setIfInBounds_toArray, List.set_cons_zero, List.set_cons_succ]
            refine wpAnyH_done (by kernel_rfl) ?_ _
            try refine NoPanic.normal ?_
            go_wp2
            go_round
            case rel => exact ⟨k + 1, by omega, by go_num, hnx, hB2⟩
            case measure => simp [intOf]; omega
    · obtain rfl : k = es.length := by omega
      go_wp2
      go_loopw [4] (fun i wr => ∃ k : Nat, k ≤ es.length ∧ i = .int .i64 k ∧ Hid (Placed es k) ∧ Below w.heap.size w wr) (fun i _ => es.length - (intOf i).toNat)
      case atStart => exact ⟨0, Nat.zero_le _, rfl, Lib.hid (Placed.zero es), hB1⟩
      case round =>
        clear hB1
        obtain ⟨k, hk2, rfl, hpl, hB1⟩ := hrel
        by_cases hlt2 : k < es.length
        · have hE1 := Lib.hid (hEh.out.below hB1 hg)
          obtain ⟨c0, c1, c2, c3⟩ := hE1.out.2 k hlt2
          have hkI : (k : Int) < (es.length : Int) := by omega
          have hpl2 := (hsh.out.2 k hlt2).1
          rcases boolOf (placeOk es (upL es[k].path)) with hb | hb
          · have hres := Lib.hid (tree_bad_place hlt2 hb.out)
            go_wp2_with (first
              | (go_at_call 36; refine (l1Up_any es[k].path (by omega) _).mono ?_; rintro e w' ⟨rfl, rfl⟩)
              | (go_at_call 35; refine (l2Dir_any es (upL es[k].path) g c _ hE1.out hlen).mono ?_; rintro e w2 ⟨rfl, hB2⟩; rw [hb.out]))
            go_ret
            exact ⟨ret_bool (by rw [hres.out]), hB1.trans (hB2.mono hB1.size)⟩
          · have hnx := Lib.hid (hpl.out.next hlt2 hb.out)
            go_wp2_with (first
              | (go_at_call 36; refine (l1Up_any es[k].path (by omega) _).mono ?_; rintro e w' ⟨rfl, rfl⟩)
              | (go_at_call 35; refine (l2Dir_any es (upL es[k].path) g c _ hE1.out hlen).mono ?_; rintro e w2 ⟨rfl, hB2⟩; rw [hb.out]))
            go_round
            case rel => exact ⟨k + 1, by omega, by go_num, hnx, hB1.trans (hB2.mono hB1.size)⟩
            case measure => simp [intOf]; omega
        · obtain rfl : k = es.length := by omega
          by_cases hl16 : es.length ≤ 16
          · have hres := Lib.hid (tree_good hfst.out hpl.out hl16)
            go_wp2
            go_ret
            exact ⟨ret_bool (by rw [hres.out]; first | done | (simp; done) | (simp; omega)), hB1⟩
          · have hres := Lib.hid (tree_long hl16)
            go_wp2
            go_ret
            exact ⟨ret_bool (by rw [hres.out]; first | done | (simp; done) | (simp; omega)), hB1⟩

set_option maxHeartbeats 16000000 in
theorem TreeOk_any (es : List En) (g c : Nat) (w : World) (hE : Ents w g es) (hsm : Small es) (hcap : es.length ≤ c) :
    Calls Tryd.prog 9 #[.slice (some ⟨g, 0, none⟩) es.length c] w fun e w' => e = .returned (.bool (treeOk es)) ∧ Below w.heap.size w w' := by
  have hEh := Lib.hid hE
  have hsh := Lib.hid hsm
  have hg := hE.1
  have hlen := hsm.1
  clear hE hsm
  by_cases hl16 : es.length ≤ 16
  case neg =>
    have hres := Lib.hid (tree_long hl16)
    go_enter Tryd.func9, Tryd.ntmps9
    go_wp2
    go_ret
    exact ⟨ret_bool (by rw [hres.out]), Below.refl _ _⟩
  go_enter Tryd.func9, Tryd.ntmps9
  go_wp2
  go_loopw [10] (fun i wr => ∃ k : Nat, k ≤ es.length ∧ i = .int .i64 k ∧ Hid (First es k) ∧ Hid (Placed es k) ∧ Below w.heap.size w wr) (fun i _ => es.length - (intOf i).toNat)
  case atStart => exact ⟨0, Nat.zero_le _, rfl, Lib.hid (First.zero es), Lib.hid (Placed.zero es), Below.refl _ _⟩
  case round =>
    obtain ⟨k, hk, rfl, hfst, hplc, hB0⟩ := hrel
    by_cases hlt : k < es.length
    · have hE0 := Lib.hid (hEh.out.below hB0 hg)
      obtain ⟨c0, c1, c2, c3⟩ := hE0.out.2 k hlt
      have hkI : (k : Int) < (es.length : Int) := by omega
      have hkc : (k : Int) ≤ (c : Int) := by omega
      have hpl := (hsh.out.2 k hlt).1
      have htl := (hsh.out.2 k hlt).2
      rcases boolOf (entryOk es[k]) with he | he
      · have hres := Lib.hid (tree_bad_entry hlt he.out)
        go_wp2_with fail
        obtain ⟨Wb, hWb⟩ : ∃ X, wr.alloc (.cells #[.string (mkB es[k].path), .int .i64 es[k].kind, .int .i64 es[k].mode, .string (mkB es[k].text)] 30) = X := ⟨_, rfl⟩
        have hb1 : EBox Wb wr.heap.size es[k] := by rw [← hWb]; exact Box4.new _ _ _ _ _ _
        have hB1 : Below w.heap.size w Wb := by rw [← hWb]; exact hB0.alloc hB0.size _
        have hE1 := Lib.hid (show Ents Wb g es by rw [← hWb]; exact hE0.out.alloc _)
        rw [hWb]
        clear hWb hB0 hE0 c0 c1 c2 c3
        have hg1 : g < Wb.heap.size := hE1.out.1
        have hbl := hb1.lt
        have hzd : Wb.drew.heap.size = Wb.heap.size := rfl
        have c0 := hb1.cell0
        have c1 := hb1.cell1
        have c2 := hb1.cell2
        have c3 := hb1.cell3
        first | refine wp_region_noPanic ?_ | skip
        refine wp_region_held_drew (S := (fun W' => W'.cell? ⟨wr.heap.size, 0, none⟩ = some (.string (mkB es[k].path)) ∧ W'.cell? ⟨wr.heap.size, 1, none⟩ = some (.int .i64 es[k].kind) ∧ W'.cell? ⟨wr.heap.size, 2, none⟩ = some (.int .i64 es[k].mode) ∧ W'.cell? ⟨wr.heap.size, 3, none⟩ = some (.string (mkB es[k].text)))) (by kernel_rfl) ?_ (fun hHeld => ?_)
        · exact ⟨c0, c1, c2, c3⟩
        refine wpAnyH_take (i := 0) (v := ?_) rfl (by kernel_rfl) (by kernel_rfl) (by kernel_rfl) (fun _ _ _ h => h) (Or.inl ⟨by rfl, ?_⟩) (by assumption) ?_
        rotate_left
        · (intro w hSw; (try dsimp only at hSw); go_simp; try with_reducible rfl)
        try simp only [Array.reduceGetElem, Act.put, List.setIfInBounds_toArray, List.set_cons_zero, List.set_cons_succ]
        refine wpAnyH_ready (rs := [1]) (by kernel_rfl) (by simp) ?_
        refine AllReadyH.cons rfl (fun K hK => ?_) AllReadyH.nil
        go_simp
        (go_at_call 21; refine (entryOk_any es[k] hpl htl _).mono ?_; rintro e w2 ⟨rfl, hB⟩; rw [he.out]; have hB2 := Below.trans hB1.drew (hB.mono (by have := hB1.size; omega)); have hE2 := Ents.below (Ents.drew hE1.out) hB hg1; have hb2 := Box4.below (Box4.drew hb1) hB hbl; have hbl2 := hb2.lt; have hg2 := hE2.1; have d0 := hb2.cell0; have d1 := hb2.cell1; have d2 := hb2.cell2; have d3 := hb2.cell3)
        refine hK.out _ _ ?_ (fun hHeld => ?_)
        · (try dsimp only); first | exact ⟨g0, g1, g2, g3⟩ | exact ⟨d0, d1, d2, d3⟩ | exact ⟨c0, c1, c2, c3⟩ | go_keep
        clear hK K
        try simp only [Array.reduceGetElem, Act.put, List.setIfInBounds_toArray, List.set_cons_zero, List.set_cons_succ]
        refine wpAnyH_take (i := 2) (v := ?_) rfl (by kernel_rfl) (by kernel_rfl) (by kernel_rfl) (fun _ _ _ h => h) (Or.inl ⟨by rfl, ?_⟩) (by assumption) ?_
        rotate_left
        · (intro w hSw; (try dsimp only at hSw); go_simp; try with_reducible rfl)
        try simp only [Array.reduceGetElem, Act.put, List.setIfInBounds_toArray, List.set_cons_zero, List.set_cons_succ]
        refine wpAnyH_take (i := 3) (v := ?_) rfl (by kernel_rfl) (by kernel_rfl) (by kernel_rfl) (fun _ _ _ h => h) (Or.inl ⟨by rfl, ?_⟩) (by assumption) ?_
        rotate_left
        · (intro w hSw; (try dsimp only at hSw); go_simp; try with_reducible rfl)
        try simp only [Array.reduceGetElem, Act.put, List.setIfInBounds_toArray, List.set_cons_zero, List.set_cons_succ]
        refine wpAnyH_take (i := 4) (v := undef) rfl (by kernel_rfl) (by kernel_rfl) (by kernel_rfl) (fun _ _ _ h => h) (Or.inr ⟨by rfl, rfl⟩) (by assumption) ?_
        try simp only [Array.reduceGetElem, Act.put, List.setIfInBounds_toArray, List.set_cons_zero, List.set_cons_succ]
        refine wpAnyH_take (i := 5) (v := undef) rfl (by kernel_rfl) (by kernel_rfl) (by kernel_rfl) (fun _ _ _ h => h) (Or.inr ⟨by rfl, rfl⟩) (by assumption) ?_
        try simp only [Array.reduceGetElem, Act.put, List.setIfInBounds_toArray, List.set_cons_zero, List.set_cons_succ]
        refine wpAnyH_take (i := 6) (v := undef) rfl (by kernel_rfl) (by kernel_rfl) (by kernel_rfl) (fun _ _ _ h => h) (Or.inr ⟨by rfl, rfl⟩) (by assumption) ?_
        try simp only [Array.reduceGetElem, Act.put, List.setIfInBounds_toArray, List.set_cons_zero, List.set_cons_succ]
        refine wpAnyH_take (i := 7) (v := undef) rfl (by kernel_rfl) (by kernel_rfl) (by kernel_rfl) (fun _ _ _ h => h) (Or.inr ⟨by rfl, rfl⟩) (by assumption) ?_
        try simp only [Array.reduceGetElem, Act.put, List.setIfInBounds_toArray, List.set_cons_zero, List.set_cons_succ]
        refine wpAnyH_take (i := 8) (v := undef) rfl (by kernel_rfl) (by kernel_rfl) (by kernel_rfl) (fun _ _ _ h => h) (Or.inr ⟨by rfl, rfl⟩) (by assumption) ?_
        try simp only [Array.reduceGetElem, Act.put, List.setIfInBounds_toArray, List.set_cons_zero, List.set_cons_succ]
        refine wpAnyH_take (i := 9) (v := undef) rfl (by kernel_rfl) (by kernel_rfl) (by kernel_rfl) (fun _ _ _ h => h) (Or.inr ⟨by rfl, rfl⟩) (by assumption) ?_
        try simp only [Array.reduceGetElem, Act.put, List.setIfInBounds_toArray, List.set_cons_zero, List.set_cons_succ]
        refine wpAnyH_take (i := 10) (v := undef) rfl (by kernel_rfl) (by kernel_rfl) (by kernel_rfl) (fun _ _ _ h => h) (Or.inr ⟨by rfl, rfl⟩) (by assumption) ?_
        try simp only [Array.reduceGetElem, Act.put, List.setIfInBounds_toArray, List.set_cons_zero, List.set_cons_succ]
        refine wpAnyH_take (i := 11) (v := undef) rfl (by kernel_rfl) (by kernel_rfl) (by kernel_rfl) (fun _ _ _ h => h) (Or.inr ⟨by rfl, rfl⟩) (by assumption) ?_
        try simp only [Array.reduceGetElem, Act.put, List.setIfInBounds_toArray, List.set_cons_zero, List.set_cons_succ]
        refine wpAnyH_take (i := 12) (v := undef) rfl (by kernel_rfl) (by kernel_rfl) (by kernel_rfl) (fun _ _ _ h => h) (Or.inr ⟨by rfl, rfl⟩) (by assumption) ?_
        try simp only [Array.reduceGetElem, Act.put, List.setIfInBounds_toArray, List.set_cons_zero, List.set_cons_succ]
        refine wpAnyH_take (i := 13) (v := undef) rfl (by kernel_rfl) (by kernel_rfl) (by kernel_rfl) (fun _ _ _ h => h) (Or.inr ⟨by rfl, rfl⟩) (by assumption) ?_
        try simp only [Array.reduceGetElem, Act.put, List.setIfInBounds_toArray, List.set_cons_zero, List.set_cons_succ]
        refine wpAnyH_take (i := 14) (v := undef) rfl (by kernel_rfl) (by kernel_rfl) (by kernel_rfl) (fun _ _ _ h => h) (Or.inr ⟨by rfl, rfl⟩) (by assumption) ?_
        try simp only [Array.reduceGetElem, Act.put, List.setIfInBounds_toArray, List.set_cons_zero, List.set_cons_succ]
        refine wpAnyH_take (i := 15) (v := undef) rfl (by kernel_rfl) (by kernel_rfl) (by kernel_rfl) (fun _ _ _ h => h) (Or.inr ⟨by rfl, rfl⟩) (by assumption) ?_
        try simp only [Array.reduceGetElem, Act.put, List.setIfInBounds_toArray, List.set_cons_zero, List.set_cons_succ]
        refine wpAnyH_take (i := 16) (v := undef) rfl (by kernel_rfl) (by kernel_rfl) (by kernel_rfl) (fun _ _ _ h => h) (Or.inr ⟨by rfl, rfl⟩) (by assumption) ?_
        try simp only [Array.reduceGetElem, Act.put, List.setIfInBounds_toArray, List.set_cons_zero, List.set_cons_succ]
        refine wpAnyH_take (i := 17) (v := ?_) rfl (by kernel_rfl) (by kernel_rfl) (by kernel_rfl) (fun _ _ _ h => h) (Or.inl ⟨by rfl, ?_⟩) (by assumption) ?_
        rotate_left
        · (intro w hSw; (try dsimp only at hSw); go_simp; try with_reducible rfl)
        try simp only [Array.reduceGetElem, Act.put, List.setIfInBounds_toArray, List.set_cons_zero, List.set_cons_succ]
        refine wpAnyH_take (i := 18) (v := ?_) rfl (by kernel_rfl) (by kernel_rfl) (by kernel_rfl) (fun _ _ _ h => h) (Or.inl ⟨by rfl, ?_⟩) (by assumption) ?_
        rotate_left
        · (intro w hSw; (try dsimp only at hSw); go_simp; try with_reducible rfl)
        try simp only [Array.reduceGetElem, Act.put, List.setIfInBounds_toArray, List.set_cons_zero, List.set_cons_succ]
        refine wpAnyH_take (i := 19) (v := undef) rfl (by kernel_rfl) (by kernel_rfl) (by kernel_rfl) (fun _ _ _ h => h) (Or.inr ⟨by rfl, rfl⟩) (by assumption) ?_
        try simp only [Array.reduceGetElem, Act.put, List.setIfInBounds_toArray, List.set_cons_zero, List.set_cons_succ]
        refine wpAnyH_take (i := 20) (v := undef) rfl (by kernel_rfl) (by kernel_rfl) (by kernel_rfl) (fun _ _ _ h => h) (Or.inr ⟨by rfl, rfl⟩) (by assumption) ?_
        try simp only [Array.reduceGetElem, Act.put, List.setIfInBounds_toArray, List.set_cons_zero, List.set_cons_succ]
        refine wpAnyH_take (i := 21) (v := undef) rfl (by kernel_rfl) (by kernel_rfl) (by kernel_rfl) (fun _ _ _ h => h) (Or.inr ⟨by rfl, rfl⟩) (by assumption) ?_
        try simp only [Array.reduceGetElem, Act.put, List.setIfInBounds_toArray, List.set_cons_zero, List.set_cons_succ]
        refine wpAnyH_take (i := 22) (v := undef) rfl (by kernel_rfl) (by kernel_rfl) (by kernel_rfl) (fun _ _ _ h => h) (Or.inr ⟨by rfl, rfl⟩) (by assumption) ?_
        try simp only [Array.reduceGetElem, Act.put, List.setIfInBounds_toArray, List.set_cons_zero, List.set_cons_succ]
        refine wpAnyH_take (i := 23) (v := undef) rfl (by kernel_rfl) (by kernel_rfl) (by kernel_rfl) (fun _ _ _ h => h) (Or.inr ⟨by rfl, rfl⟩) (by assumption) ?_
        try simp only [Array.reduceGetElem, Act.put, List.setIfInBounds_toArray, List.set_cons_zero, List.set_cons_succ]
        refine wpAnyH_take (i := 24) (v := undef) rfl (by kernel_rfl) (by kernel_rfl) (by kernel_rfl) (fun _ _ _ h => h) (Or.inr ⟨by rfl, rfl⟩) (by assumption) ?_
        try simp only [Array.reduceGetElem, Act.put, List.setIfInBounds_toArray, List.set_cons_zero, List.set_cons_succ]
        refine wpAnyH_take (i := 25) (v := undef) rfl (by kernel_rfl) (by kernel_rfl) (by kernel_rfl) (fun _ _ _ h => h) (Or.inr ⟨by rfl, rfl⟩) (by assumption) ?_
        try simp only [Array.reduceGetElem, Act.put, List.setIfInBounds_toArray, List.set_cons_zero, List.set_cons_succ]
        refine wpAnyH_take (i := 26) (v := ?_) rfl (by kernel_rfl) (by kernel_rfl) (by kernel_rfl) (fun _ _ _ h => h) (Or.inl ⟨by rfl, ?_⟩) (by assumption) ?_
        rotate_left
        · (intro w hSw; (try dsimp only at hSw); go_simp; try with_reducible rfl)
        try simp only [Array.reduceGetElem, Act.put, List.setIfInBounds_toArray, List.set_cons_zero, List.set_cons_succ]
        refine wpAnyH_done (by kernel_rfl) ?_ _
        try refine NoPanic.normal ?_
        go_wp2
        go_ret
        exact ⟨ret_bool (by rw [hres.out]), hB2⟩
      · by_cases hk0 : k = 0
        · have hnx := Lib.hid (First.one hk0 hlt he.out)
          have hkn : decide ((0 : Int) < (k : Int)) = false := decide_eq_false (by omega)
          have hkn2 : decide (0 < k) = false := decide_eq_false (by omega)
          replace hk0 := Lib.hid hk0
          rcases boolOf (placeOk es (upL es[k].path)) with hpk | hpk
          · have hres := Lib.hid (tree_bad_place hlt hpk.out)
            go_wp2_with fail
            obtain ⟨Wb, hWb⟩ : ∃ X, wr.alloc (.cells #[.string (mkB es[k].path), .int .i64 es[k].kind, .int .i64 es[k].mode, .string (mkB es[k].text)] 30) = X := ⟨_, rfl⟩
            have hb1 : EBox Wb wr.heap.size es[k] := by rw [← hWb]; exact Box4.new _ _ _ _ _ _
            have hB1 : Below w.heap.size w Wb := by rw [← hWb]; exact hB0.alloc hB0.size _
            have hE1 := Lib.hid (show Ents Wb g es by rw [← hWb]; exact hE0.out.alloc _)
            rw [hWb]
            clear hWb hB0 hE0 c0 c1 c2 c3
            have hg1 : g < Wb.heap.size := hE1.out.1
            have hbl := hb1.lt
            have hzd : Wb.drew.heap.size = Wb.heap.size := rfl
            have c0 := hb1.cell0
            have c1 := hb1.cell1
            have c2 := hb1.cell2
            have c3 := hb1.cell3
            first | refine wp_region_noPanic ?_ | skip
            refine wp_region_held_drew (S := (fun W' => W'.cell? ⟨wr.heap.size, 0, none⟩ = some (.string (mkB es[k].path)) ∧ W'.cell? ⟨wr.heap.size, 1, none⟩ = some (.int .i64 es[k].kind) ∧ W'.cell? ⟨wr.heap.size, 2, none⟩ = some (.int .i64 es[k].mode) ∧ W'.cell? ⟨wr.heap.size, 3, none⟩ = some (.string (mkB es[k].text)))) (by kernel_rfl) ?_ (fun hHeld => ?_)
            · exact ⟨c0, c1, c2, c3⟩
            refine wpAnyH_take (i := 0) (v := ?_) rfl (by kernel_rfl) (by kernel_rfl) (by kernel_rfl) (fun _ _ _ h => h) (Or.inl ⟨by rfl, ?_⟩) (by assumption) ?_
            rotate_left
            · (intro w hSw; (try dsimp only at hSw); go_simp; try with_reducible rfl)
            try simp only [Array.reduceGetElem, Act.put, List.setIfInBounds_toArray, List.set_cons_zero, List.set_cons_succ]
            refine wpAnyH_ready (rs := [1]) (by kernel_rfl) (by simp) ?_
            refine AllReadyH.cons rfl (fun K hK => ?_) AllReadyH.nil
            go_simp
            (go_at_call 21; refine (entryOk_any es[k] hpl htl _).mono ?_; rintro e w2 ⟨rfl, hB⟩; rw [he.out]; have hB2 := Below.trans hB1.drew (hB.mono (by have := hB1.size; omega)); have hE2 := Ents.below (Ents.drew hE1.out) hB hg1; have hb2 := Box4.below (Box4.drew hb1) hB hbl; have hbl2 := hb2.lt; have hg2 := hE2.1; have d0 := hb2.cell0; have d1 := hb2.cell1; have d2 := hb2.cell2; have d3 := hb2.cell3)
            refine hK.out _ _ ?_ (fun hHeld => ?_)
            · (try dsimp only); first | exact ⟨g0, g1, g2, g3⟩ | exact ⟨d0, d1, d2, d3⟩ | exact ⟨c0, c1, c2, c3⟩ | go_keep
            clear hK K
            try simp only [Array.reduceGetElem, Act.put, List.setIfInBounds_toArray, List.set_cons_zero, List.set_cons_succ]
            refine wpAnyH_take (i := 2) (v := ?_) rfl (by kernel_rfl) (by kernel_rfl) (by kernel_rfl) (fun _ _ _ h => h) (Or.inl ⟨by rfl, ?_⟩) (by assumption) ?_
            rotate_left
            · (intro w hSw; (try dsimp only at hSw); go_simp; try with_reducible rfl)
            try simp only [Array.reduceGetElem, Act.put, List.setIfInBounds_toArray, List.set_cons_zero, List.set_cons_succ]
            refine wpAnyH_take (i := 3) (v := ?_) rfl (by kernel_rfl) (by kernel_rfl) (by kernel_rfl) (fun _ _ _ h => h) (Or.inl ⟨by rfl, ?_⟩) (by assumption) ?_
            rotate_left
            · (intro w hSw; (try dsimp only at hSw); go_simp; try with_reducible rfl)
            try simp only [Array.reduceGetElem, Act.put, List.setIfInBounds_toArray, List.set_cons_zero, List.set_cons_succ]
            refine wpAnyH_take (i := 4) (v := ?_) rfl (by kernel_rfl) (by kernel_rfl) (by kernel_rfl) (fun _ _ _ h => h) (Or.inl ⟨by rfl, ?_⟩) (by assumption) ?_
            rotate_left
            · (intro w hSw; (try dsimp only at hSw); go_simp; try with_reducible rfl)
            try simp only [Array.reduceGetElem, Act.put, List.setIfInBounds_toArray, List.set_cons_zero, List.set_cons_succ]
            refine wpAnyH_take (i := 5) (v := ?_) rfl (by kernel_rfl) (by kernel_rfl) (by kernel_rfl) (fun _ _ _ h => h) (Or.inl ⟨by rfl, ?_⟩) (by assumption) ?_
            rotate_left
            · (intro w hSw; (try dsimp only at hSw); go_simp; try with_reducible rfl)
            try simp only [Array.reduceGetElem, Act.put, List.setIfInBounds_toArray, List.set_cons_zero, List.set_cons_succ]
            refine wpAnyH_take (i := 6) (v := ?_) rfl (by kernel_rfl) (by kernel_rfl) (by kernel_rfl) (fun _ _ _ h => h) (Or.inl ⟨by rfl, ?_⟩) (by assumption) ?_
            rotate_left
            · (intro w hSw; (try dsimp only at hSw); go_simp; try with_reducible rfl)
            try simp only [Array.reduceGetElem, Act.put, List.setIfInBounds_toArray, List.set_cons_zero, List.set_cons_succ]
            refine wpAnyH_take (i := 7) (v := undef) rfl (by kernel_rfl) (by kernel_rfl) (by kernel_rfl) (fun _ _ _ h => h) (Or.inr ⟨by rfl, rfl⟩) (by assumption) ?_
            try simp only [Array.reduceGetElem, Act.put, List.setIfInBounds_toArray, List.set_cons_zero, List.set_cons_succ]
            refine wpAnyH_take (i := 8) (v := undef) rfl (by kernel_rfl) (by kernel_rfl) (by kernel_rfl) (fun _ _ _ h => h) (Or.inr ⟨by rfl, rfl⟩) (by assumption) ?_
            try simp only [Array.reduceGetElem, Act.put, List.setIfInBounds_toArray, List.set_cons_zero, List.set_cons_succ]
            refine wpAnyH_take (i := 9) (v := undef) rfl (by kernel_rfl) (by kernel_rfl) (by kernel_rfl) (fun _ _ _ h => h) (Or.inr ⟨by rfl, rfl⟩) (by assumption) ?_
            try simp only [Array.reduceGetElem, Act.put, List.setIfInBounds_toArray, List.set_cons_zero, List.set_cons_succ]
            refine wpAnyH_take (i := 10) (v := undef) rfl (by kernel_rfl) (by kernel_rfl) (by kernel_rfl) (fun _ _ _ h => h) (Or.inr ⟨by rfl, rfl⟩) (by assumption) ?_
            try simp only [Array.reduceGetElem, Act.put, List.setIfInBounds_toArray, List.set_cons_zero, List.set_cons_succ]
            refine wpAnyH_take (i := 11) (v := undef) rfl (by kernel_rfl) (by kernel_rfl) (by kernel_rfl) (fun _ _ _ h => h) (Or.inr ⟨by rfl, rfl⟩) (by assumption) ?_
            try simp only [Array.reduceGetElem, Act.put, List.setIfInBounds_toArray, List.set_cons_zero, List.set_cons_succ]
            refine wpAnyH_take (i := 12) (v := undef) rfl (by kernel_rfl) (by kernel_rfl) (by kernel_rfl) (fun _ _ _ h => h) (Or.inr ⟨by rfl, rfl⟩) (by assumption) ?_
            try simp only [Array.reduceGetElem, Act.put, List.setIfInBounds_toArray, List.set_cons_zero, List.set_cons_succ]
            refine wpAnyH_take (i := 13) (v := undef) rfl (by kernel_rfl) (by kernel_rfl) (by kernel_rfl) (fun _ _ _ h => h) (Or.inr ⟨by rfl, rfl⟩) (by assumption) ?_
            try simp only [Array.reduceGetElem, Act.put, List.setIfInBounds_toArray, List.set_cons_zero, List.set_cons_succ]
            refine wpAnyH_take (i := 14) (v := undef) rfl (by kernel_rfl) (by kernel_rfl) (by kernel_rfl) (fun _ _ _ h => h) (Or.inr ⟨by rfl, rfl⟩) (by assumption) ?_
            try simp only [Array.reduceGetElem, Act.put, List.setIfInBounds_toArray, List.set_cons_zero, List.set_cons_succ]
            refine wpAnyH_take (i := 15) (v := undef) rfl (by kernel_rfl) (by kernel_rfl) (by kernel_rfl) (fun _ _ _ h => h) (Or.inr ⟨by rfl, rfl⟩) (by assumption) ?_
            try simp only [Array.reduceGetElem, Act.put, List.setIfInBounds_toArray, List.set_cons_zero, List.set_cons_succ]
            refine wpAnyH_take (i := 16) (v := ?_) rfl (by kernel_rfl) (by kernel_rfl) (by kernel_rfl) (fun _ _ _ h => h) (Or.inl ⟨by rfl, ?_⟩) (by assumption) ?_
            rotate_left
            · (intro w hSw; (try dsimp only at hSw); go_simp; try with_reducible rfl)
            try simp only [Array.reduceGetElem, Act.put, List.setIfInBounds_toArray, List.set_cons_zero, List.set_cons_succ]
            refine wpAnyH_take (i := 17) (v := ?_) rfl (by kernel_rfl) (by kernel_rfl) (by kernel_rfl) (fun _ _ _ h => h) (Or.inl ⟨by rfl, ?_⟩) (by assumption) ?_
            rotate_left
            · (intro w hSw; (try dsimp only at hSw); go_simp; try with_reducible rfl)
            try simp only [Array.reduceGetElem, Act.put, List.setIfInBounds_toArray, List.set_cons_zero, List.set_cons_succ]
            refine wpAnyH_take (i := 18) (v := ?_) rfl (by kernel_rfl) (by kernel_rfl) (by kernel_rfl) (fun _ _ _ h => h) (Or.inl ⟨by rfl, ?_⟩) (by assumption) ?_
            rotate_left
            · (intro w hSw; (try dsimp only at hSw); go_simp; try with_reducible rfl)
            try simp only [Array.reduceGetElem, Act.put, List.setIfInBounds_toArray, List.set_cons_zero, List.set_cons_succ]
            refine wpAnyH_take (i := 19) (v := ?_) rfl (by kernel_rfl) (by kernel_rfl) (by kernel_rfl) (fun _ _ _ h => h) (Or.inl ⟨by rfl, ?_⟩) (by assumption) ?_
            rotate_left
            · (intro w hSw; (try dsimp only at hSw); go_simp; try with_reducible rfl)
            try simp only [Array.reduceGetElem, Act.put, List.setIfInBounds_toArray, List.set_cons_zero, List.set_cons_succ]
            refine wpAnyH_take (i := 20) (v := ?_) rfl (by kernel_rfl) (by kernel_rfl) (by kernel_rfl) (fun _ _ _ h => h) (Or.inl ⟨by rfl, ?_⟩) (by assumption) ?_
            rotate_left
            · (intro w hSw; (try dsimp only at hSw); go_simp; try with_reducible rfl)
            try simp only [Array.reduceGetElem, Act.put, List.setIfInBounds_toArray, List.set_cons_zero, List.set_cons_succ]
            refine wpAnyH_take (i := 21) (v := ?_) rfl (by kernel_rfl) (by kernel_rfl) (by kernel_rfl) (fun _ _ _ h => h) (Or.inl ⟨by rfl, ?_⟩) (by assumption) ?_
            rotate_left
            · (intro w hSw; (try dsimp only at hSw); go_simp; try with_reducible rfl)
            try simp only [Array.reduceGetElem, Act.put, List.setIfInBounds_toArray, List.set_cons_zero, List.set_cons_succ]
            refine wpAnyH_take (i := 22) (v := ?_) rfl (by kernel_rfl) (by kernel_rfl) (by kernel_rfl) (fun _ _ _ h => h) (Or.inl ⟨by rfl, ?_⟩) (by assumption) ?_
            rotate_left
            · (intro w hSw; (try dsimp only at hSw); go_simp; try with_reducible rfl)
            try simp only [Array.reduceGetElem, Act.put, List.setIfInBounds_toArray, List.set_cons_zero, List.set_cons_succ]
            refine wpAnyH_take (i := 23) (v := ?_) rfl (by kernel_rfl) (by kernel_rfl) (by kernel_rfl) (fun _ _ _ h => h) (Or.inl ⟨by rfl, ?_⟩) (by assumption) ?_
            rotate_left
            · (intro w hSw; (try dsimp only at hSw); go_simp; try with_reducible rfl)
            try simp only [Array.reduceGetElem, Act.put, List.setIfInBounds_toArray, List.set_cons_zero, List.set_cons_succ]
            refine wpAnyH_ready (rs := [24]) (by kernel_rfl) (by simp) ?_
            refine AllReadyH.cons rfl (fun K hK => ?_) AllReadyH.nil
            go_simp
            (go_at_call 22; refine (hasPlaceFor_take es k hlt g c _ hE2 hnx.out hsh.out).mono ?_; rintro e w3 ⟨rfl, hB3⟩; rw [hpk.out]; have hB4 := hB2.trans (hB3.mono hB2.size); have hb3 := Box4.below hb2 hB3 hbl2; have hE3 := Ents.below hE2 hB3 hg2; have g0 := hb3.cell0; have g1 := hb3.cell1; have g2 := hb3.cell2; have g3 := hb3.cell3)
            refine hK.out _ _ ?_ (fun hHeld => ?_)
            · (try dsimp only); first | exact ⟨g0, g1, g2, g3⟩ | exact ⟨d0, d1, d2, d3⟩ | exact ⟨c0, c1, c2, c3⟩ | go_keep
            clear hK K
            try simp only [Array.reduceGetElem, Act.put, List.setIfInBounds_toArray, List.set_cons_zero, List.set_cons_succ]
            refine wpAnyH_take (i := 25) (v := ?_) rfl (by kernel_rfl) (by kernel_rfl) (by kernel_rfl) (fun _ _ _ h => h) (Or.inl ⟨by rfl, ?_⟩) (by assumption) ?_
            rotate_left
            · (intro w hSw; (try dsimp only at hSw); go_simp; try with_reducible rfl)
            try simp only [Array.reduceGetElem, Act.put, List.setIfInBounds_toArray, List.set_cons_zero, List.set_cons_succ]
            refine wpAnyH_take (i := 26) (v := ?_) rfl (by kernel_rfl) (by kernel_rfl) (by kernel_rfl) (fun _ _ _ h => h) (Or.inl ⟨by rfl, ?_⟩) (by assumption) ?_
            rotate_left
            · (intro w hSw; (try dsimp only at hSw); go_simp; try with_reducible rfl)
            try simp only [Array.reduceGetElem, Act.put, List.setIfInBounds_toArray, List.set_cons_zero, List.set_cons_succ]
            refine wpAnyH_done (by kernel_rfl) ?_ _
            try refine NoPanic.normal ?_
            go_wp2
            go_ret
            exact ⟨ret_bool (by rw [hres.out]), hB4⟩
          · have hpn := Lib.hid (hplc.out.next hlt hpk.out)
            go_wp2_with fail
            obtain ⟨Wb, hWb⟩ : ∃ X, wr.alloc (.cells #[.string (mkB es[k].path), .int .i64 es[k].kind, .int .i64 es[k].mode, .string (mkB es[k].text)] 30) = X := ⟨_, rfl⟩
            have hb1 : EBox Wb wr.heap.size es[k] := by rw [← hWb]; exact Box4.new _ _ _ _ _ _
            have hB1 : Below w.heap.size w Wb := by rw [← hWb]; exact hB0.alloc hB0.size _
            have hE1 := Lib.hid (show Ents Wb g es by rw [← hWb]; exact hE0.out.alloc _)
            rw [hWb]
            clear hWb hB0 hE0 c0 c1 c2 c3
            have hg1 : g < Wb.heap.size := hE1.out.1
            have hbl := hb1.lt
            have hzd : Wb.drew.heap.size = Wb.heap.size := rfl
            have c0 := hb1.cell0
            have c1 := hb1.cell1
            have c2 := hb1.cell2
            have c3 := hb1.cell3
            first | refine wp_region_noPanic ?_ | skip
            refine wp_region_held_drew (S := (fun W' => W'.cell? ⟨wr.heap.size, 0, none⟩ = some (.string (mkB es[k].path)) ∧ W'.cell? ⟨wr.heap.size, 1, none⟩ = some (.int .i64 es[k].kind) ∧ W'.cell? ⟨wr.heap.size, 2, none⟩ = some (.int .i64 es[k].mode) ∧ W'.cell? ⟨wr.heap.size, 3, none⟩ = some (.string (mkB es[k].text)))) (by kernel_rfl) ?_ (fun hHeld => ?_)
            · exact ⟨c0, c1, c2, c3⟩
            refine wpAnyH_take (i := 0) (v := ?_) rfl (by kernel_rfl) (by kernel_rfl) (by kernel_rfl) (fun _ _ _ h => h) (Or.inl ⟨by rfl, ?_⟩) (by assumption) ?_
            rotate_left
            · (intro w hSw; (try dsimp only at hSw); go_simp; try with_reducible rfl)
            try simp only [Array.reduceGetElem, Act.put, List.setIfInBounds_toArray, List.set_cons_zero, List.set_cons_succ]
            refine wpAnyH_ready (rs := [1]) (by kernel_rfl) (by simp) ?_
            refine AllReadyH.cons rfl (fun K hK => ?_) AllReadyH.nil
            go_simp
            (go_at_call 21; refine (entryOk_any es[k] hpl htl _).mono ?_; rintro e w2 ⟨rfl, hB⟩; rw [he.out]; have hB2 := Below.trans hB1.drew (hB.mono (by have := hB1.size; omega)); have hE2 := Ents.below (Ents.drew hE1.out) hB hg1; have hb2 := Box4.below (Box4.drew hb1) hB hbl; have hbl2 := hb2.lt; have hg2 := hE2.1; have d0 := hb2.cell0; have d1 := hb2.cell1; have d2 := hb2.cell2; have d3 := hb2.cell3)
            refine hK.out _ _ ?_ (fun hHeld => ?_)
            · (try dsimp only); first | exact ⟨g0, g1, g2, g3⟩ | exact ⟨d0, d1, d2, d3⟩ | exact ⟨c0, c1, c2, c3⟩ | go_keep
            clear hK K
            try simp only [Array.reduceGetElem, Act.put, List.setIfInBounds_toArray, List.set_cons_zero, List.set_cons_succ]
            refine wpAnyH_take (i := 2) (v := ?_) rfl (by kernel_rfl) (by kernel_rfl) (by kernel_rfl) (fun _ _ _ h => h) (Or.inl ⟨by rfl, ?_⟩) (by assumption) ?_
            rotate_left
            · (intro w hSw; (try dsimp only at hSw); go_simp; try with_reducible rfl)
            try simp only [Array.reduceGetElem, Act.put, List.setIfInBounds_toArray, List.set_cons_zero, List.set_cons_succ]
            refine wpAnyH_take (i := 3) (v := ?_) rfl (by kernel_rfl) (by kernel_rfl) (by kernel_rfl) (fun _ _ _ h => h) (Or.inl ⟨by rfl, ?_⟩) (by assumption) ?_
            rotate_left
            · (intro w hSw; (try dsimp only at hSw); go_simp; try with_reducible rfl)
            try simp only [Array.reduceGetElem, Act.put, List.setIfInBounds_toArray, List.set_cons_zero, List.set_cons_succ]
            refine wpAnyH_take (i := 4) (v := ?_) rfl (by kernel_rfl) (by kernel_rfl) (by kernel_rfl) (fun _ _ _ h => h) (Or.inl ⟨by rfl, ?_⟩) (by assumption) ?_
            rotate_left
            · (intro w hSw; (try dsimp only at hSw); go_simp; try with_reducible rfl)
            try simp only [Array.reduceGetElem, Act.put, List.setIfInBounds_toArray, List.set_cons_zero, List.set_cons_succ]
            refine wpAnyH_take (i := 5) (v := ?_) rfl (by kernel_rfl) (by kernel_rfl) (by kernel_rfl) (fun _ _ _ h => h) (Or.inl ⟨by rfl, ?_⟩) (by assumption) ?_
            rotate_left
            · (intro w hSw; (try dsimp only at hSw); go_simp; try with_reducible rfl)
            try simp only [Array.reduceGetElem, Act.put, List.setIfInBounds_toArray, List.set_cons_zero, List.set_cons_succ]
            refine wpAnyH_take (i := 6) (v := ?_) rfl (by kernel_rfl) (by kernel_rfl) (by kernel_rfl) (fun _ _ _ h => h) (Or.inl ⟨by rfl, ?_⟩) (by assumption) ?_
            rotate_left
            · (intro w hSw; (try dsimp only at hSw); go_simp; try with_reducible rfl)
            try simp only [Array.reduceGetElem, Act.put, List.setIfInBounds_toArray, List.set_cons_zero, List.set_cons_succ]
            refine wpAnyH_take (i := 7) (v := undef) rfl (by kernel_rfl) (by kernel_rfl) (by kernel_rfl) (fun _ _ _ h => h) (Or.inr ⟨by rfl, rfl⟩) (by assumption) ?_
            try simp only [Array.reduceGetElem, Act.put, List.setIfInBounds_toArray, List.set_cons_zero, List.set_cons_succ]
            refine wpAnyH_take (i := 8) (v := undef) rfl (by kernel_rfl) (by kernel_rfl) (by kernel_rfl) (fun _ _ _ h => h) (Or.inr ⟨by rfl, rfl⟩) (by assumption) ?_
            try simp only [Array.reduceGetElem, Act.put, List.setIfInBounds_toArray, List.set_cons_zero, List.set_cons_succ]
            refine wpAnyH_take (i := 9) (v := undef) rfl (by kernel_rfl) (by kernel_rfl) (by kernel_rfl) (fun _ _ _ h => h) (Or.inr ⟨by rfl, rfl⟩) (by assumption) ?_
            try simp only [Array.reduceGetElem, Act.put, List.setIfInBounds_toArray, List.set_cons_zero, List.set_cons_succ]
            refine wpAnyH_take (i := 10) (v := undef) rfl (by kernel_rfl) (by kernel_rfl) (by kernel_rfl) (fun _ _ _ h => h) (Or.inr ⟨by rfl, rfl⟩) (by assumption) ?_
            try simp only [Array.reduceGetElem, Act.put, List.setIfInBounds_toArray, List.set_cons_zero, List.set_cons_succ]
            refine wpAnyH_take (i := 11) (v := undef) rfl (by kernel_rfl) (by kernel_rfl) (by kernel_rfl) (fun _ _ _ h => h) (Or.inr ⟨by rfl, rfl⟩) (by assumption) ?_
            try simp only [Array.reduceGetElem, Act.put, List.setIfInBounds_toArray, List.set_cons_zero, List.set_cons_succ]
            refine wpAnyH_take (i := 12) (v := undef) rfl (by kernel_rfl) (by kernel_rfl) (by kernel_rfl) (fun _ _ _ h => h) (Or.inr ⟨by rfl, rfl⟩) (by assumption) ?_
            try simp only [Array.reduceGetElem, Act.put, List.setIfInBounds_toArray, List.set_cons_zero, List.set_cons_succ]
            refine wpAnyH_take (i := 13) (v := undef) rfl (by kernel_rfl) (by kernel_rfl) (by kernel_rfl) (fun _ _ _ h => h) (Or.inr ⟨by rfl, rfl⟩) (by assumption) ?_
            try simp only [Array.reduceGetElem, Act.put, List.setIfInBounds_toArray, List.set_cons_zero, List.set_cons_succ]
            refine wpAnyH_take (i := 14) (v := undef) rfl (by kernel_rfl) (by kernel_rfl) (by kernel_rfl) (fun _ _ _ h => h) (Or.inr ⟨by rfl, rfl⟩) (by assumption) ?_
            try simp only [Array.reduceGetElem, Act.put, List.setIfInBounds_toArray, List.set_cons_zero, List.set_cons_succ]
            refine wpAnyH_take (i := 15) (v := undef) rfl (by kernel_rfl) (by kernel_rfl) (by kernel_rfl) (fun _ _ _ h => h) (Or.inr ⟨by rfl, rfl⟩) (by assumption) ?_
            try simp only [Array.reduceGetElem, Act.put, List.setIfInBounds_toArray, List.set_cons_zero, List.set_cons_succ]
            refine wpAnyH_take (i := 16) (v := ?_) rfl (by kernel_rfl) (by kernel_rfl) (by kernel_rfl) (fun _ _ _ h => h) (Or.inl ⟨by rfl, ?_⟩) (by assumption) ?_
            rotate_left
            · (intro w hSw; (try dsimp only at hSw); go_simp; try with_reducible rfl)
            try simp only [Array.reduceGetElem, Act.put, List.setIfInBounds_toArray, List.set_cons_zero, List.set_cons_succ]
            refine wpAnyH_take (i := 17) (v := ?_) rfl (by kernel_rfl) (by kernel_rfl) (by kernel_rfl) (fun _ _ _ h => h) (Or.inl ⟨by rfl, ?_⟩) (by assumption) ?_
            rotate_left
            · (intro w hSw; (try dsimp only at hSw); go_simp; try with_reducible rfl)
            try simp only [Array.reduceGetElem, Act.put, List.setIfInBounds_toArray, List.set_cons_zero, List.set_cons_succ]
            refine wpAnyH_take (i := 18) (v := ?_) rfl (by kernel_rfl) (by kernel_rfl) (by kernel_rfl) (fun _ _ _ h => h) (Or.inl ⟨by rfl, ?_⟩) (by assumption) ?_
            rotate_left
            · (intro w hSw; (try dsimp only at hSw); go_simp; try with_reducible rfl)
            try simp only [Array.reduceGetElem, Act.put, List.setIfInBounds_toArray, List.set_cons_zero, List.set_cons_succ]
            refine wpAnyH_take (i := 19) (v := ?_) rfl (by kernel_rfl) (by kernel_rfl) (by kernel_rfl) (fun _ _ _ h => h) (Or.inl ⟨by rfl, ?_⟩) (by assumption) ?_
            rotate_left
            · (intro w hSw; (try dsimp only at hSw); go_simp; try with_reducible rfl)
            try simp only [Array.reduceGetElem, Act.put, List.setIfInBounds_toArray, List.set_cons_zero, List.set_cons_succ]
            refine wpAnyH_take (i := 20) (v := ?_) rfl (by kernel_rfl) (by kernel_rfl) (by kernel_rfl) (fun _ _ _ h => h) (Or.inl ⟨by rfl, ?_⟩) (by assumption) ?_
            rotate_left
            · (intro w hSw; (try dsimp only at hSw); go_simp; try with_reducible rfl)
            try simp only [Array.reduceGetElem, Act.put, List.setIfInBounds_toArray, List.set_cons_zero, List.set_cons_succ]
            refine wpAnyH_take (i := 21) (v := ?_) rfl (by kernel_rfl) (by kernel_rfl) (by kernel_rfl) (fun _ _ _ h => h) (Or.inl ⟨by rfl, ?_⟩) (by assumption) ?_
            rotate_left
            · (intro w hSw; (try dsimp only at hSw); go_simp; try with_reducible rfl)
            try simp only [Array.reduceGetElem, Act.put, List.setIfInBounds_toArray, List.set_cons_zero, List.set_cons_succ]
            refine wpAnyH_take (i := 22) (v := ?_) rfl (by kernel_rfl) (by kernel_rfl) (by kernel_rfl) (fun _ _ _ h => h) (Or.inl ⟨by rfl, ?_⟩) (by assumption) ?_
            rotate_left
            · (intro w hSw; (try dsimp only at hSw); go_simp; try with_reducible rfl)
            try simp only [Array.reduceGetElem, Act.put, List.setIfInBounds_toArray, List.set_cons_zero, List.set_cons_succ]
            refine wpAnyH_take (i := 23) (v := ?_) rfl (by kernel_rfl) (by kernel_rfl) (by kernel_rfl) (fun _ _ _ h => h) (Or.inl ⟨by rfl, ?_⟩) (by assumption) ?_
            rotate_left
            · (intro w hSw; (try dsimp only at hSw); go_simp; try with_reducible rfl)
            try simp only [Array.reduceGetElem, Act.put, List.setIfInBounds_toArray, List.set_cons_zero, List.set_cons_succ]
            refine wpAnyH_ready (rs := [24]) (by kernel_rfl) (by simp) ?_
            refine AllReadyH.cons rfl (fun K hK => ?_) AllReadyH.nil
            go_simp
            (go_at_call 22; refine (hasPlaceFor_take es k hlt g c _ hE2 hnx.out hsh.out).mono ?_; rintro e w3 ⟨rfl, hB3⟩; rw [hpk.out]; have hB4 := hB2.trans (hB3.mono hB2.size); have hb3 := Box4.below hb2 hB3 hbl2; have hE3 := Ents.below hE2 hB3 hg2; have g0 := hb3.cell0; have g1 := hb3.cell1; have g2 := hb3.cell2; have g3 := hb3.cell3)
            refine hK.out _ _ ?_ (fun hHeld => ?_)
            · (try dsimp only); first | exact ⟨g0, g1, g2, g3⟩ | exact ⟨d0, d1, d2, d3⟩ | exact ⟨c0, c1, c2, c3⟩ | go_keep
            clear hK K
            try simp only [Array.reduceGetElem, Act.put, List.setIfInBounds_toArray, List.set_cons_zero, List.set_cons_succ]
            refine wpAnyH_take (i := 25) (v := ?_) rfl (by kernel_rfl) (by kernel_rfl) (by kernel_rfl) (fun _ _ _ h => h) (Or.inl ⟨by rfl, ?_⟩) (by assumption) ?_
            rotate_left
            · (intro w hSw; (try dsimp only at hSw); go_simp; try with_reducible rfl)
            try simp only [Array.reduceGetElem, Act.put, List.setIfInBounds_toArray, List.set_cons_zero, List.set_cons_succ]
            refine wpAnyH_take (i := 26) (v := ?_) rfl (by kernel_rfl) (by kernel_rfl) (by kernel_rfl) (fun _ _ _ h => h) (Or.inl ⟨by rfl, ?_⟩) (by assumption) ?_
            rotate_left
            · (intro w hSw; (try dsimp only at hSw); go_simp; try with_reducible rfl)
            try simp only [Array.reduceGetElem, Act.put, List.setIfInBounds_toArray, List.set_cons_zero, List.set_cons_succ]
            refine wpAnyH_done (by kernel_rfl) ?_ _
            try refine NoPanic.normal ?_
            go_wp2
            go_round
            case rel => exact ⟨k + 1, by omega, by go_num, hnx, hpn, hB4⟩
            case measure => simp [intOf]; omega
        · obtain ⟨j, hj⟩ : ∃ j, j + 1 = k := ⟨k - 1, by omega⟩
          have hjl : j < es.length := by omega
          have hjI : (k : Int) - 1 = (j : Int) := by omega
          have hjI2 : (j : Int) < (es.length : Int) := by omega
          have hj0 : (0 : Int) ≤ (j : Int) := by omega
          have hkn : decide ((0 : Int) < (k : Int)) = true := decide_eq_true (by omega)
          have hkn2 : decide (0 < k) = true := decide_eq_true (by omega)
          rcases boolOf (Op.bytesLess es[j].path es[k].path) with hb | hb
          · have hres := Lib.hid (tree_bad_order hlt hj hjl hb.out)
            have hbb := hb.out
            replace hj := Lib.hid hj
            clear hk0
            go_wp2_with fail
            obtain ⟨Wb, hWb⟩ : ∃ X, wr.alloc (.cells #[.string (mkB es[k].path), .int .i64 es[k].kind, .int .i64 es[k].mode, .string (mkB es[k].text)] 30) = X := ⟨_, rfl⟩
            have hb1 : EBox Wb wr.heap.size es[k] := by rw [← hWb]; exact Box4.new _ _ _ _ _ _
            have hB1 : Below w.heap.size w Wb := by rw [← hWb]; exact hB0.alloc hB0.size _
            have hE1 := Lib.hid (show Ents Wb g es by rw [← hWb]; exact hE0.out.alloc _)
            rw [hWb]
            clear hWb hB0 hE0 c0 c1 c2 c3
            have hg1 : g < Wb.heap.size := hE1.out.1
            have hbl := hb1.lt
            have hzd : Wb.drew.heap.size = Wb.heap.size := rfl
            have c0 := hb1.cell0
            have c1 := hb1.cell1
            have c2 := hb1.cell2
            have c3 := hb1.cell3
            obtain ⟨e0, e1, e2, e3⟩ := hE1.out.2 j hjl
            first | refine wp_region_noPanic ?_ | skip
            refine wp_region_held_drew (S := (fun W' => W'.cell? ⟨wr.heap.size, 0, none⟩ = some (.string (mkB es[k].path)) ∧ W'.cell? ⟨wr.heap.size, 1, none⟩ = some (.int .i64 es[k].kind) ∧ W'.cell? ⟨wr.heap.size, 2, none⟩ = some (.int .i64 es[k].mode) ∧ W'.cell? ⟨wr.heap.size, 3, none⟩ = some (.string (mkB es[k].text)) ∧ W'.cell? ⟨g, j * 4, none⟩ = some (.string (mkB es[j].path)))) (by kernel_rfl) ?_ (fun hHeld => ?_)
            · exact ⟨c0, c1, c2, c3, e0⟩
            refine wpAnyH_take (i := 0) (v := ?_) rfl (by kernel_rfl) (by kernel_rfl) (by kernel_rfl) (fun _ _ _ h => h) (Or.inl ⟨by rfl, ?_⟩) (by assumption) ?_
            rotate_left
            · (intro w hSw; (try dsimp only at hSw); go_simp; try with_reducible rfl)
            try simp only [Array.reduceGetElem, Act.put, List.setIfInBounds_toArray, List.set_cons_zero, List.set_cons_succ]
            refine wpAnyH_ready (rs := [1]) (by kernel_rfl) (by simp) ?_
            refine AllReadyH.cons rfl (fun K hK => ?_) AllReadyH.nil
            go_simp
            (go_at_call 21; refine (entryOk_any es[k] hpl htl _).mono ?_; rintro e w2 ⟨rfl, hB⟩; rw [he.out]; have hB2 := Below.trans hB1.drew (hB.mono (by have := hB1.size; omega)); have hE2 := Ents.below (Ents.drew hE1.out) hB hg1; have hb2 := Box4.below (Box4.drew hb1) hB hbl; have hbl2 := hb2.lt; have hg2 := hE2.1; have d0 := hb2.cell0; have d1 := hb2.cell1; have d2 := hb2.cell2; have d3 := hb2.cell3; obtain ⟨f0, f1, f2, f3⟩ := hE2.2 j hjl)
            refine hK.out _ _ ?_ (fun hHeld => ?_)
            · (try dsimp only); first | exact ⟨g0, g1, g2, g3, h0⟩ | exact ⟨d0, d1, d2, d3, f0⟩ | exact ⟨c0, c1, c2, c3, e0⟩ | go_keep
            clear hK K
            try simp only [Array.reduceGetElem, Act.put, List.setIfInBounds_toArray, List.set_cons_zero, List.set_cons_succ]
            refine wpAnyH_take (i := 2) (v := ?_) rfl (by kernel_rfl) (by kernel_rfl) (by kernel_rfl) (fun _ _ _ h => h) (Or.inl ⟨by rfl, ?_⟩) (by assumption) ?_
            rotate_left
            · (intro w hSw; (try dsimp only at hSw); go_simp; try with_reducible rfl)
            try simp only [Array.reduceGetElem, Act.put, List.setIfInBounds_toArray, List.set_cons_zero, List.set_cons_succ]
            refine wpAnyH_take (i := 3) (v := ?_) rfl (by kernel_rfl) (by kernel_rfl) (by kernel_rfl) (fun _ _ _ h => h) (Or.inl ⟨by rfl, ?_⟩) (by assumption) ?_
            rotate_left
            · (intro w hSw; (try dsimp only at hSw); go_simp; try with_reducible rfl)
            try simp only [Array.reduceGetElem, Act.put, List.setIfInBounds_toArray, List.set_cons_zero, List.set_cons_succ]
            refine wpAnyH_take (i := 4) (v := ?_) rfl (by kernel_rfl) (by kernel_rfl) (by kernel_rfl) (fun _ _ _ h => h) (Or.inl ⟨by rfl, ?_⟩) (by assumption) ?_
            rotate_left
            · (intro w hSw; (try dsimp only at hSw); go_simp; try with_reducible rfl)
            try simp only [Array.reduceGetElem, Act.put, List.setIfInBounds_toArray, List.set_cons_zero, List.set_cons_succ]
            refine wpAnyH_take (i := 5) (v := ?_) rfl (by kernel_rfl) (by kernel_rfl) (by kernel_rfl) (fun _ _ _ h => h) (Or.inl ⟨by rfl, ?_⟩) (by assumption) ?_
            rotate_left
            · (intro w hSw; (try dsimp only at hSw); go_simp; try with_reducible rfl)
            try simp only [Array.reduceGetElem, Act.put, List.setIfInBounds_toArray, List.set_cons_zero, List.set_cons_succ]
            refine wpAnyH_take (i := 6) (v := ?_) rfl (by kernel_rfl) (by kernel_rfl) (by kernel_rfl) (fun _ _ _ h => h) (Or.inl ⟨by rfl, ?_⟩) (by assumption) ?_
            rotate_left
            · (intro w hSw; (try dsimp only at hSw); go_simp; try with_reducible rfl)
            try simp only [Array.reduceGetElem, Act.put, List.setIfInBounds_toArray, List.set_cons_zero, List.set_cons_succ]
            refine wpAnyH_take (i := 7) (v := ?_) rfl (by kernel_rfl) (by kernel_rfl) (by kernel_rfl) (fun _ _ _ h => h) (Or.inl ⟨by rfl, ?_⟩) (by assumption) ?_
            rotate_left
            · (intro w hSw; (try dsimp only at hSw); go_simp; try with_reducible rfl)
            try simp only [Array.reduceGetElem, Act.put, List.setIfInBounds_toArray, List.set_cons_zero, List.set_cons_succ]
            refine wpAnyH_take (i := 8) (v := ?_) rfl (by kernel_rfl) (by kernel_rfl) (by kernel_rfl) (fun _ _ _ h => h) (Or.inl ⟨by rfl, ?_⟩) (by assumption) ?_
            rotate_left
            · (intro w hSw; (try dsimp only at hSw); go_simp; try with_reducible rfl)
            try simp only [Array.reduceGetElem, Act.put, List.setIfInBounds_toArray, List.set_cons_zero, List.set_cons_succ]
            refine wpAnyH_take (i := 9) (v := (.int .i64 (j : Int))) rfl (by kernel_rfl) (by kernel_rfl) (by kernel_rfl) (fun _ _ _ h => h) (Or.inl ⟨by rfl, ?_⟩) (by assumption) ?_
            · (intro w hSw; (try dsimp only at hSw); go_simp; exact wrap_small j (by omega))
            try simp only [Array.reduceGetElem, Act.put, List.setIfInBounds_toArray, List.set_cons_zero, List.set_cons_succ]
            refine wpAnyH_take (i := 10) (v := ?_) rfl (by kernel_rfl) (by kernel_rfl) (by kernel_rfl) (fun _ _ _ h => h) (Or.inl ⟨by rfl, ?_⟩) (by assumption) ?_
            rotate_left
            · (intro w hSw; (try dsimp only at hSw); go_simp; try with_reducible rfl)
            try simp only [Array.reduceGetElem, Act.put, List.setIfInBounds_toArray, List.set_cons_zero, List.set_cons_succ]
            refine wpAnyH_take (i := 11) (v := ?_) rfl (by kernel_rfl) (by kernel_rfl) (by kernel_rfl) (fun _ _ _ h => h) (Or.inl ⟨by rfl, ?_⟩) (by assumption) ?_
            rotate_left
            · (intro w hSw; (try dsimp only at hSw); go_simp; try with_reducible rfl)
            try simp only [Array.reduceGetElem, Act.put, List.setIfInBounds_toArray, List.set_cons_zero, List.set_cons_succ]
            refine wpAnyH_take (i := 12) (v := ?_) rfl (by kernel_rfl) (by kernel_rfl) (by kernel_rfl) (fun _ _ _ h => h) (Or.inl ⟨by rfl, ?_⟩) (by assumption) ?_
            rotate_left
            · (intro w hSw; (try dsimp only at hSw); go_simp; try with_reducible rfl)
            try simp only [Array.reduceGetElem, Act.put, List.setIfInBounds_toArray, List.set_cons_zero, List.set_cons_succ]
            refine wpAnyH_take (i := 13) (v := ?_) rfl (by kernel_rfl) (by kernel_rfl) (by kernel_rfl) (fun _ _ _ h => h) (Or.inl ⟨by rfl, ?_⟩) (by assumption) ?_
            rotate_left
            · (intro w hSw; (try dsimp only at hSw); go_simp; try with_reducible rfl)
            try simp only [Array.reduceGetElem, Act.put, List.setIfInBounds_toArray, List.set_cons_zero, List.set_cons_succ]
            refine wpAnyH_take (i := 14) (v := ?_) rfl (by kernel_rfl) (by kernel_rfl) (by kernel_rfl) (fun _ _ _ h => h) (Or.inl ⟨by rfl, ?_⟩) (by assumption) ?_
            rotate_left
            · (intro w hSw; (try dsimp only at hSw); go_simp; try with_reducible rfl)
            try simp only [Array.reduceGetElem, Act.put, List.setIfInBounds_toArray, List.set_cons_zero, List.set_cons_succ]
            refine wpAnyH_take (i := 15) (v := ?_) rfl (by kernel_rfl) (by kernel_rfl) (by kernel_rfl) (fun _ _ _ h => h) (Or.inl ⟨by rfl, ?_⟩) (by assumption) ?_
            rotate_left
            · (intro w hSw; (try dsimp only at hSw); go_simp; try with_reducible rfl)
            try simp only [Array.reduceGetElem, Act.put, List.setIfInBounds_toArray, List.set_cons_zero, List.set_cons_succ]
            refine wpAnyH_take (i := 16) (v := ?_) rfl (by kernel_rfl) (by kernel_rfl) (by kernel_rfl) (fun _ _ _ h => h) (Or.inl ⟨by rfl, ?_⟩) (by assumption) ?_
            rotate_left
            · (intro w hSw; (try dsimp only at hSw); go_simp; try with_reducible rfl)
            try simp only [Array.reduceGetElem, Act.put, List.setIfInBounds_toArray, List.set_cons_zero, List.set_cons_succ]
            refine wpAnyH_take (i := 17) (v := ?_) rfl (by kernel_rfl) (by kernel_rfl) (by kernel_rfl) (fun _ _ _ h => h) (Or.inl ⟨by rfl, ?_⟩) (by assumption) ?_
            rotate_left
            · (intro w hSw; (try dsimp only at hSw); go_simp; try with_reducible rfl)
            try simp only [Array.reduceGetElem, Act.put, List.setIfInBounds_toArray, List.set_cons_zero, List.set_cons_succ]
            refine wpAnyH_take (i := 18) (v := ?_) rfl (by kernel_rfl) (by kernel_rfl) (by kernel_rfl) (fun _ _ _ h => h) (Or.inl ⟨by rfl, ?_⟩) (by assumption) ?_
            rotate_left
            · (intro w hSw; (try dsimp only at hSw); go_simp; try with_reducible rfl)
            try simp only [Array.reduceGetElem, Act.put, List.setIfInBounds_toArray, List.set_cons_zero, List.set_cons_succ]
            refine wpAnyH_take (i := 19) (v := undef) rfl (by kernel_rfl) (by kernel_rfl) (by kernel_rfl) (fun _ _ _ h => h) (Or.inr ⟨by rfl, rfl⟩) (by assumption) ?_
            try simp only [Array.reduceGetElem, Act.put, List.setIfInBounds_toArray, List.set_cons_zero, List.set_cons_succ]
            refine wpAnyH_take (i := 20) (v := undef) rfl (by kernel_rfl) (by kernel_rfl) (by kernel_rfl) (fun _ _ _ h => h) (Or.inr ⟨by rfl, rfl⟩) (by assumption) ?_
            try simp only [Array.reduceGetElem, Act.put, List.setIfInBounds_toArray, List.set_cons_zero, List.set_cons_succ]
            refine wpAnyH_take (i := 21) (v := undef) rfl (by kernel_rfl) (by kernel_rfl) (by kernel_rfl) (fun _ _ _ h => h) (Or.inr ⟨by rfl, rfl⟩) (by assumption) ?_
            try simp only [Array.reduceGetElem, Act.put, List.setIfInBounds_toArray, List.set_cons_zero, List.set_cons_succ]
            refine wpAnyH_take (i := 22) (v := undef) rfl (by kernel_rfl) (by kernel_rfl) (by kernel_rfl) (fun _ _ _ h => h) (Or.inr ⟨by rfl, rfl⟩) (by assumption) ?_
            try simp only [Array.reduceGetElem, Act.put, List.setIfInBounds_toArray, List.set_cons_zero, List.set_cons_succ]
            refine wpAnyH_take (i := 23) (v := undef) rfl (by kernel_rfl) (by kernel_rfl) (by kernel_rfl) (fun _ _ _ h => h) (Or.inr ⟨by rfl, rfl⟩) (by assumption) ?_
            try simp only [Array.reduceGetElem, Act.put, List.setIfInBounds_toArray, List.set_cons_zero, List.set_cons_succ]
            refine wpAnyH_take (i := 24) (v := undef) rfl (by kernel_rfl) (by kernel_rfl) (by kernel_rfl) (fun _ _ _ h => h) (Or.inr ⟨by rfl, rfl⟩) (by assumption) ?_
            try simp only [Array.reduceGetElem, Act.put, List.setIfInBounds_toArray, List.set_cons_zero, List.set_cons_succ]
            refine wpAnyH_take (i := 25) (v := undef) rfl (by kernel_rfl) (by kernel_rfl) (by kernel_rfl) (fun _ _ _ h => h) (Or.inr ⟨by rfl, rfl⟩) (by assumption) ?_
            try simp only [Array.reduceGetElem, Act.put, List.setIfInBounds_toArray, List.set_cons_zero, List.set_cons_succ]
            refine wpAnyH_take (i := 26) (v := ?_) rfl (by kernel_rfl) (by kernel_rfl) (by kernel_rfl) (fun _ _ _ h => h) (Or.inl ⟨by rfl, ?_⟩) (by assumption) ?_
            rotate_left
            · (intro w hSw; (try dsimp only at hSw); go_simp; try with_reducible rfl)
            try simp only [Array.reduceGetElem, Act.put, List.setIfInBounds_toArray, List.set_cons_zero, List.set_cons_succ]
            refine wpAnyH_done (by kernel_rfl) ?_ _
            try refine NoPanic.normal ?_
            go_wp2
            go_ret
            exact ⟨ret_bool (by rw [hres.out]), hB2⟩
          · have hnx := Lib.hid (hfst.out.next hlt hj hjl he.out hb.out)
            have hbb := hb.out
            replace hj := Lib.hid hj
            clear hk0
            rcases boolOf (placeOk es (upL es[k].path)) with hpk | hpk
            · have hres := Lib.hid (tree_bad_place hlt hpk.out)
              go_wp2_with fail
              obtain ⟨Wb, hWb⟩ : ∃ X, wr.alloc (.cells #[.string (mkB es[k].path), .int .i64 es[k].kind, .int .i64 es[k].mode, .string (mkB es[k].text)] 30) = X := ⟨_, rfl⟩
              have hb1 : EBox Wb wr.heap.size es[k] := by rw [← hWb]; exact Box4.new _ _ _ _ _ _
              have hB1 : Below w.heap.size w Wb := by rw [← hWb]; exact hB0.alloc hB0.size _
              have hE1 := Lib.hid (show Ents Wb g es by rw [← hWb]; exact hE0.out.alloc _)
              rw [hWb]
              clear hWb hB0 hE0 c0 c1 c2 c3
              have hg1 : g < Wb.heap.size := hE1.out.1
              have hbl := hb1.lt
              have hzd : Wb.drew.heap.size = Wb.heap.size := rfl
              have c0 := hb1.cell0
              have c1 := hb1.cell1
              have c2 := hb1.cell2
              have c3 := hb1.cell3
              obtain ⟨e0, e1, e2, e3⟩ := hE1.out.2 j hjl
              first | refine wp_region_noPanic ?_ | skip
              refine wp_region_held_drew (S := (fun W' => W'.cell? ⟨wr.heap.size, 0, none⟩ = some (.string (mkB es[k].path)) ∧ W'.cell? ⟨wr.heap.size, 1, none⟩ = some (.int .i64 es[k].kind) ∧ W'.cell? ⟨wr.heap.size, 2, none⟩ = some (.int .i64 es[k].mode) ∧ W'.cell? ⟨wr.heap.size, 3, none⟩ = some (.string (mkB es[k].text)) ∧ W'.cell? ⟨g, j * 4, none⟩ = some (.string (mkB es[j].path)))) (by kernel_rfl) ?_ (fun hHeld => ?_)
              · exact ⟨c0, c1, c2, c3, e0⟩
              refine wpAnyH_take (i := 0) (v := ?_) rfl (by kernel_rfl) (by kernel_rfl) (by kernel_rfl) (fun _ _ _ h => h) (Or.inl ⟨by rfl, ?_⟩) (by assumption) ?_
              rotate_left
              · (intro w hSw; (try dsimp only at hSw); go_simp; try with_reducible rfl)
              try simp only [Array.reduceGetElem, Act.put, List.setIfInBounds_toArray, List.set_cons_zero, List.set_cons_succ]
              refine wpAnyH_ready (rs := [1]) (by kernel_rfl) (by simp) ?_
              refine AllReadyH.cons rfl (fun K hK => ?_) AllReadyH.nil
              go_simp
              (go_at_call 21; refine (entryOk_any es[k] hpl htl _).mono ?_; rintro e w2 ⟨rfl, hB⟩; rw [he.out]; have hB2 := Below.trans hB1.drew (hB.mono (by have := hB1.size; omega)); have hE2 := Ents.below (Ents.drew hE1.out) hB hg1; have hb2 := Box4.below (Box4.drew hb1) hB hbl; have hbl2 := hb2.lt; have hg2 := hE2.1; have d0 := hb2.cell0; have d1 := hb2.cell1; have d2 := hb2.cell2; have d3 := hb2.cell3; obtain ⟨f0, f1, f2, f3⟩ := hE2.2 j hjl)
              refine hK.out _ _ ?_ (fun hHeld => ?_)
              · (try dsimp only); first | exact ⟨g0, g1, g2, g3, h0⟩ | exact ⟨d0, d1, d2, d3, f0⟩ | exact ⟨c0, c1, c2, c3, e0⟩ | go_keep
              clear hK K
              try simp only [Array.reduceGetElem, Act.put, List.setIfInBounds_toArray, List.set_cons_zero, List.set_cons_succ]
              refine wpAnyH_take (i := 2) (v := ?_) rfl (by kernel_rfl) (by kernel_rfl) (by kernel_rfl) (fun _ _ _ h => h) (Or.inl ⟨by rfl, ?_⟩) (by assumption) ?_
              rotate_left
              · (intro w hSw; (try dsimp only at hSw); go_simp; try with_reducible rfl)
              try simp only [Array.reduceGetElem, Act.put, List.setIfInBounds_toArray, List.set_cons_zero, List.set_cons_succ]
              refine wpAnyH_take (i := 3) (v := ?_) rfl (by kernel_rfl) (by kernel_rfl) (by kernel_rfl) (fun _ _ _ h => h) (Or.inl ⟨by rfl, ?_⟩) (by assumption) ?_
              rotate_left
              · (intro w hSw; (try dsimp only at hSw); go_simp; try with_reducible rfl)
              try simp only [Array.reduceGetElem, Act.put, List.setIfInBounds_toArray, List.set_cons_zero, List.set_cons_succ]
              refine wpAnyH_take (i := 4) (v := ?_) rfl (by kernel_rfl) (by kernel_rfl) (by kernel_rfl) (fun _ _ _ h => h) (Or.inl ⟨by rfl, ?_⟩) (by assumption) ?_
              rotate_left
              · (intro w hSw; (try dsimp only at hSw); go_simp; try with_reducible rfl)
              try simp only [Array.reduceGetElem, Act.put, List.setIfInBounds_toArray, List.set_cons_zero, List.set_cons_succ]
              refine wpAnyH_take (i := 5) (v := ?_) rfl (by kernel_rfl) (by kernel_rfl) (by kernel_rfl) (fun _ _ _ h => h) (Or.inl ⟨by rfl, ?_⟩) (by assumption) ?_
              rotate_left
              · (intro w hSw; (try dsimp only at hSw); go_simp; try with_reducible rfl)
              try simp only [Array.reduceGetElem, Act.put, List.setIfInBounds_toArray, List.set_cons_zero, List.set_cons_succ]
              refine wpAnyH_take (i := 6) (v := ?_) rfl (by kernel_rfl) (by kernel_rfl) (by kernel_rfl) (fun _ _ _ h => h) (Or.inl ⟨by rfl, ?_⟩) (by assumption) ?_
              rotate_left
              · (intro w hSw; (try dsimp only at hSw); go_simp; try with_reducible rfl)
              try simp only [Array.reduceGetElem, Act.put, List.setIfInBounds_toArray, List.set_cons_zero, List.set_cons_succ]
              refine wpAnyH_take (i := 7) (v := ?_) rfl (by kernel_rfl) (by kernel_rfl) (by kernel_rfl) (fun _ _ _ h => h) (Or.inl ⟨by rfl, ?_⟩) (by assumption) ?_
              rotate_left
              · (intro w hSw; (try dsimp only at hSw); go_simp; try with_reducible rfl)
              try simp only [Array.reduceGetElem, Act.put, List.setIfInBounds_toArray, List.set_cons_zero, List.set_cons_succ]
              refine wpAnyH_take (i := 8) (v := ?_) rfl (by kernel_rfl) (by kernel_rfl) (by kernel_rfl) (fun _ _ _ h => h) (Or.inl ⟨by rfl, ?_⟩) (by assumption) ?_
              rotate_left
              · (intro w hSw; (try dsimp only at hSw); go_simp; try with_reducible rfl)
              try simp only [Array.reduceGetElem, Act.put, List.setIfInBounds_toArray, List.set_cons_zero, List.set_cons_succ]
              refine wpAnyH_take (i := 9) (v := (.int .i64 (j : Int))) rfl (by kernel_rfl) (by kernel_rfl) (by kernel_rfl) (fun _ _ _ h => h) (Or.inl ⟨by rfl, ?_⟩) (by assumption) ?_
              · (intro w hSw; (try dsimp only at hSw); go_simp; exact wrap_small j (by omega))
              try simp only [Array.reduceGetElem, Act.put, List.setIfInBounds_toArray, List.set_cons_zero, List.set_cons_succ]
              refine wpAnyH_take (i := 10) (v := ?_) rfl (by kernel_rfl) (by kernel_rfl) (by kernel_rfl) (fun _ _ _ h => h) (Or.inl ⟨by rfl, ?_⟩) (by assumption) ?_
              rotate_left
              · (intro w hSw; (try dsimp only at hSw); go_simp; try with_reducible rfl)
              try simp only [Array.reduceGetElem, Act.put, List.setIfInBounds_toArray, List.set_cons_zero, List.set_cons_succ]
              refine wpAnyH_take (i := 11) (v := ?_) rfl (by kernel_rfl) (by kernel_rfl) (by kernel_rfl) (fun _ _ _ h => h) (Or.inl ⟨by rfl, ?_⟩) (by assumption) ?_
              rotate_left
              · (intro w hSw; (try dsimp only at hSw); go_simp; try with_reducible rfl)
              try simp only [Array.reduceGetElem, Act.put, List.setIfInBounds_toArray, List.set_cons_zero, List.set_cons_succ]
              refine wpAnyH_take (i := 12) (v := ?_) rfl (by kernel_rfl) (by kernel_rfl) (by kernel_rfl) (fun _ _ _ h => h) (Or.inl ⟨by rfl, ?_⟩) (by assumption) ?_
              rotate_left
              · (intro w hSw; (try dsimp only at hSw); go_simp; try with_reducible rfl)
              try simp only [Array.reduceGetElem, Act.put, List.setIfInBounds_toArray, List.set_cons_zero, List.set_cons_succ]
              refine wpAnyH_take (i := 13) (v := ?_) rfl (by kernel_rfl) (by kernel_rfl) (by kernel_rfl) (fun _ _ _ h => h) (Or.inl ⟨by rfl, ?_⟩) (by assumption) ?_
              rotate_left
              · (intro w hSw; (try dsimp only at hSw); go_simp; try with_reducible rfl)
              try simp only [Array.reduceGetElem, Act.put, List.setIfInBounds_toArray, List.set_cons_zero, List.set_cons_succ]
              refine wpAnyH_take (i := 14) (v := ?_) rfl (by kernel_rfl) (by kernel_rfl) (by kernel_rfl) (fun _ _ _ h => h) (Or.inl ⟨by rfl, ?_⟩) (by assumption) ?_
              rotate_left
              · (intro w hSw; (try dsimp only at hSw); go_simp; try with_reducible rfl)
              try simp only [Array.reduceGetElem, Act.put, List.setIfInBounds_toArray, List.set_cons_zero, List.set_cons_succ]
              refine wpAnyH_take (i := 15) (v := ?_) rfl (by kernel_rfl) (by kernel_rfl) (by kernel_rfl) (fun _ _ _ h => h) (Or.inl ⟨by rfl, ?_⟩) (by assumption) ?_
              rotate_left
              · (intro w hSw; (try dsimp only at hSw); go_simp; try with_reducible rfl)
              try simp only [Array.reduceGetElem, Act.put, List.setIfInBounds_toArray, List.set_cons_zero, List.set_cons_succ]
              refine wpAnyH_take (i := 16) (v := ?_) rfl (by kernel_rfl) (by kernel_rfl) (by kernel_rfl) (fun _ _ _ h => h) (Or.inl ⟨by rfl, ?_⟩) (by assumption) ?_
              rotate_left
              · (intro w hSw; (try dsimp only at hSw); go_simp; try with_reducible rfl)
              try simp only [Array.reduceGetElem, Act.put, List.setIfInBounds_toArray, List.set_cons_zero, List.set_cons_succ]
              refine wpAnyH_take (i := 17) (v := ?_) rfl (by kernel_rfl) (by kernel_rfl) (by kernel_rfl) (fun _ _ _ h => h) (Or.inl ⟨by rfl, ?_⟩) (by assumption) ?_
              rotate_left
              · (intro w hSw; (try dsimp only at hSw); go_simp; try with_reducible rfl)
              try simp only [Array.reduceGetElem, Act.put, List.setIfInBounds_toArray, List.set_cons_zero, List.set_cons_succ]
              refine wpAnyH_take (i := 18) (v := ?_) rfl (by kernel_rfl) (by kernel_rfl) (by kernel_rfl) (fun _ _ _ h => h) (Or.inl ⟨by rfl, ?_⟩) (by assumption) ?_
              rotate_left
              · (intro w hSw; (try dsimp only at hSw); go_simp; try with_reducible rfl)
              try simp only [Array.reduceGetElem, Act.put, List.setIfInBounds_toArray, List.set_cons_zero, List.set_cons_succ]
              refine wpAnyH_take (i := 19) (v := ?_) rfl (by kernel_rfl) (by kernel_rfl) (by kernel_rfl) (fun _ _ _ h => h) (Or.inl ⟨by rfl, ?_⟩) (by assumption) ?_
              rotate_left
              · (intro w hSw; (try dsimp only at hSw); go_simp; try with_reducible rfl)
              try simp only [Array.reduceGetElem, Act.put, List.setIfInBounds_toArray, List.set_cons_zero, List.set_cons_succ]
              refine wpAnyH_take (i := 20) (v := ?_) rfl (by kernel_rfl) (by kernel_rfl) (by kernel_rfl) (fun _ _ _ h => h) (Or.inl ⟨by rfl, ?_⟩) (by assumption) ?_
              rotate_left
              · (intro w hSw; (try dsimp only at hSw); go_simp; try with_reducible rfl)
              try simp only [Array.reduceGetElem, Act.put, List.setIfInBounds_toArray, List.set_cons_zero, List.set_cons_succ]
              refine wpAnyH_take (i := 21) (v := ?_) rfl (by kernel_rfl) (by kernel_rfl) (by kernel_rfl) (fun _ _ _ h => h) (Or.inl ⟨by rfl, ?_⟩) (by assumption) ?_
              rotate_left
              · (intro w hSw; (try dsimp only at hSw); go_simp; try with_reducible rfl)
              try simp only [Array.reduceGetElem, Act.put, List.setIfInBounds_toArray, List.set_cons_zero, List.set_cons_succ]
              refine wpAnyH_take (i := 22) (v := ?_) rfl (by kernel_rfl) (by kernel_rfl) (by kernel_rfl) (fun _ _ _ h => h) (Or.inl ⟨by rfl, ?_⟩) (by assumption) ?_
              rotate_left
              · (intro w hSw; (try dsimp only at hSw); go_simp; try with_reducible rfl)
              try simp only [Array.reduceGetElem, Act.put, List.setIfInBounds_toArray, List.set_cons_zero, List.set_cons_succ]
              refine wpAnyH_take (i := 23) (v := ?_) rfl (by kernel_rfl) (by kernel_rfl) (by kernel_rfl) (fun _ _ _ h => h) (Or.inl ⟨by rfl, ?_⟩) (by assumption) ?_
              rotate_left
              · (intro w hSw; (try dsimp only at hSw); go_simp; try with_reducible rfl)
              try simp only [Array.reduceGetElem, Act.put, List.setIfInBounds_toArray, List.set_cons_zero, List.set_cons_succ]
              refine wpAnyH_ready (rs := [24]) (by kernel_rfl) (by simp) ?_
              refine AllReadyH.cons rfl (fun K hK => ?_) AllReadyH.nil
              go_simp
              (go_at_call 22; refine (hasPlaceFor_take es k hlt g c _ hE2 hnx.out hsh.out).mono ?_; rintro e w3 ⟨rfl, hB3⟩; rw [hpk.out]; have hB4 := hB2.trans (hB3.mono hB2.size); have hb3 := Box4.below hb2 hB3 hbl2; have hE3 := Ents.below hE2 hB3 hg2; have g0 := hb3.cell0; have g1 := hb3.cell1; have g2 := hb3.cell2; have g3 := hb3.cell3; obtain ⟨h0, h1, h2, h3⟩ := hE3.2 j hjl)
              refine hK.out _ _ ?_ (fun hHeld => ?_)
              · (try dsimp only); first | exact ⟨g0, g1, g2, g3, h0⟩ | exact ⟨d0, d1, d2, d3, f0⟩ | exact ⟨c0, c1, c2, c3, e0⟩ | go_keep
              clear hK K
              try simp only [Array.reduceGetElem, Act.put, List.setIfInBounds_toArray, List.set_cons_zero, List.set_cons_succ]
              refine wpAnyH_take (i := 25) (v := ?_) rfl (by kernel_rfl) (by kernel_rfl) (by kernel_rfl) (fun _ _ _ h => h) (Or.inl ⟨by rfl, ?_⟩) (by assumption) ?_
              rotate_left
              · (intro w hSw; (try dsimp only at hSw); go_simp; try with_reducible rfl)
              try simp only [Array.reduceGetElem, Act.put, List.setIfInBounds_toArray, List.set_cons_zero, List.set_cons_succ]
              refine wpAnyH_take (i := 26) (v := ?_) rfl (by kernel_rfl) (by kernel_rfl) (by kernel_rfl) (fun _ _ _ h => h) (Or.inl ⟨by rfl, ?_⟩) (by assumption) ?_
              rotate_left
              · (intro w hSw; (try dsimp only at hSw); go_simp; try with_reducible rfl)
              try simp only [Array.reduceGetElem, Act.put, List.setIfInBounds_toArray, List.set_cons_zero, List.set_cons_succ]
              refine wpAnyH_done (by kernel_rfl) ?_ _
              try refine NoPanic.normal ?_
              go_wp2
              go_ret
              exact ⟨ret_bool (by rw [hres.out]), hB4⟩
            · have hpn := Lib.hid (hplc.out.next hlt hpk.out)
              go_wp2_with fail
              obtain ⟨Wb, hWb⟩ : ∃ X, wr.alloc (.cells #[.string (mkB es[k].path), .int .i64 es[k].kind, .int .i64 es[k].mode, .string (mkB es[k].text)] 30) = X := ⟨_, rfl⟩
              have hb1 : EBox Wb wr.heap.size es[k] := by rw [← hWb]; exact Box4.new _ _ _ _ _ _
              have hB1 : Below w.heap.size w Wb := by rw [← hWb]; exact hB0.alloc hB0.size _
              have hE1 := Lib.hid (show Ents Wb g es by rw [← hWb]; exact hE0.out.alloc _)
              rw [hWb]
              clear hWb hB0 hE0 c0 c1 c2 c3
              have hg1 : g < Wb.heap.size := hE1.out.1
              have hbl := hb1.lt
              have hzd : Wb.drew.heap.size = Wb.heap.size := rfl
              have c0 := hb1.cell0
              have c1 := hb1.cell1
              have c2 := hb1.cell2
              have c3 := hb1.cell3
              obtain ⟨e0, e1, e2, e3⟩ := hE1.out.2 j hjl
              first | refine wp_region_noPanic ?_ | skip
              refine wp_region_held_drew (S := (fun W' => W'.cell? ⟨wr.heap.size, 0, none⟩ = some (.string (mkB es[k].path)) ∧ W'.cell? ⟨wr.heap.size, 1, none⟩ = some (.int .i64 es[k].kind) ∧ W'.cell? ⟨wr.heap.size, 2, none⟩ = some (.int .i64 es[k].mode) ∧ W'.cell? ⟨wr.heap.size, 3, none⟩ = some (.string (mkB es[k].text)) ∧ W'.cell? ⟨g, j * 4, none⟩ = some (.string (mkB es[j].path)))) (by kernel_rfl) ?_ (fun hHeld => ?_)
              · exact ⟨c0, c1, c2, c3, e0⟩
              refine wpAnyH_take (i := 0) (v := ?_) rfl (by kernel_rfl) (by kernel_rfl) (by kernel_rfl) (fun _ _ _ h => h) (Or.inl ⟨by rfl, ?_⟩) (by assumption) ?_
              rotate_left
              · (intro w hSw; (try dsimp only at hSw); go_simp; try with_reducible rfl)
              try simp only [Array.reduceGetElem, Act.put, List.setIfInBounds_toArray, List.set_cons_zero, List.set_cons_succ]
              refine wpAnyH_ready (rs := [1]) (by kernel_rfl) (by simp) ?_
              refine AllReadyH.cons rfl (fun K hK => ?_) AllReadyH.nil
              go_simp
              (go_at_call 21; refine (entryOk_any es[k] hpl htl _).mono ?_; rintro e w2 ⟨rfl, hB⟩; rw [he.out]; have hB2 := Below.trans hB1.drew (hB.mono (by have := hB1.size; omega)); have hE2 := Ents.below (Ents.drew hE1.out) hB hg1; have hb2 := Box4.below (Box4.drew hb1) hB hbl; have hbl2 := hb2.lt; have hg2 := hE2.1; have d0 := hb2.cell0; have d1 := hb2.cell1; have d2 := hb2.cell2; have d3 := hb2.cell3; obtain ⟨f0, f1, f2, f3⟩ := hE2.2 j hjl)
              refine hK.out _ _ ?_ (fun hHeld => ?_)
              · (try dsimp only); first | exact ⟨g0, g1, g2, g3, h0⟩ | exact ⟨d0, d1, d2, d3, f0⟩ | exact ⟨c0, c1, c2, c3, e0⟩ | go_keep
              clear hK K
              try simp only [Array.reduceGetElem, Act.put, List.setIfInBounds_toArray, List.set_cons_zero, List.set_cons_succ]
              refine wpAnyH_take (i := 2) (v := ?_) rfl (by kernel_rfl) (by kernel_rfl) (by kernel_rfl) (fun _ _ _ h => h) (Or.inl ⟨by rfl, ?_⟩) (by assumption) ?_
              rotate_left
              · (intro w hSw; (try dsimp only at hSw); go_simp; try with_reducible rfl)
              try simp only [Array.reduceGetElem, Act.put, List.setIfInBounds_toArray, List.set_cons_zero, List.set_cons_succ]
              refine wpAnyH_take (i := 3) (v := ?_) rfl (by kernel_rfl) (by kernel_rfl) (by kernel_rfl) (fun _ _ _ h => h) (Or.inl ⟨by rfl, ?_⟩) (by assumption) ?_
              rotate_left
              · (intro w hSw; (try dsimp only at hSw); go_simp; try with_reducible rfl)
              try simp only [Array.reduceGetElem, Act.put, List.setIfInBounds_toArray, List.set_cons_zero, List.set_cons_succ]
              refine wpAnyH_take (i := 4) (v := ?_) rfl (by kernel_rfl) (by kernel_rfl) (by kernel_rfl) (fun _ _ _ h => h) (Or.inl ⟨by rfl, ?_⟩) (by assumption) ?_
              rotate_left
              · (intro w hSw; (try dsimp only at hSw); go_simp; try with_reducible rfl)
              try simp only [Array.reduceGetElem, Act.put, List.setIfInBounds_toArray, List.set_cons_zero, List.set_cons_succ]
              refine wpAnyH_take (i := 5) (v := ?_) rfl (by kernel_rfl) (by kernel_rfl) (by kernel_rfl) (fun _ _ _ h => h) (Or.inl ⟨by rfl, ?_⟩) (by assumption) ?_
              rotate_left
              · (intro w hSw; (try dsimp only at hSw); go_simp; try with_reducible rfl)
              try simp only [Array.reduceGetElem, Act.put, List.setIfInBounds_toArray, List.set_cons_zero, List.set_cons_succ]
              refine wpAnyH_take (i := 6) (v := ?_) rfl (by kernel_rfl) (by kernel_rfl) (by kernel_rfl) (fun _ _ _ h => h) (Or.inl ⟨by rfl, ?_⟩) (by assumption) ?_
              rotate_left
              · (intro w hSw; (try dsimp only at hSw); go_simp; try with_reducible rfl)
              try simp only [Array.reduceGetElem, Act.put, List.setIfInBounds_toArray, List.set_cons_zero, List.set_cons_succ]
              refine wpAnyH_take (i := 7) (v := ?_) rfl (by kernel_rfl) (by kernel_rfl) (by kernel_rfl) (fun _ _ _ h => h) (Or.inl ⟨by rfl, ?_⟩) (by assumption) ?_
              rotate_left
              · (intro w hSw; (try dsimp only at hSw); go_simp; try with_reducible rfl)
              try simp only [Array.reduceGetElem, Act.put, List.setIfInBounds_toArray, List.set_cons_zero, List.set_cons_succ]
              refine wpAnyH_take (i := 8) (v := ?_) rfl (by kernel_rfl) (by kernel_rfl) (by kernel_rfl) (fun _ _ _ h => h) (Or.inl ⟨by rfl, ?_⟩) (by assumption) ?_
              rotate_left
              · (intro w hSw; (try dsimp only at hSw); go_simp; try with_reducible rfl)
              try simp only [Array.reduceGetElem, Act.put, List.setIfInBounds_toArray, List.set_cons_zero, List.set_cons_succ]
              refine wpAnyH_take (i := 9) (v := (.int .i64 (j : Int))) rfl (by kernel_rfl) (by kernel_rfl) (by kernel_rfl) (fun _ _ _ h => h) (Or.inl ⟨by rfl, ?_⟩) (by assumption) ?_
              · (intro w hSw; (try dsimp only at hSw); go_simp; exact wrap_small j (by omega))
              try simp only [Array.reduceGetElem, Act.put, List.setIfInBounds_toArray, List.set_cons_zero, List.set_cons_succ]
              refine wpAnyH_take (i := 10) (v := ?_) rfl (by kernel_rfl) (by kernel_rfl) (by kernel_rfl) (fun _ _ _ h => h) (Or.inl ⟨by rfl, ?_⟩) (by assumption) ?_
              rotate_left
              · (intro w hSw; (try dsimp only at hSw); go_simp; try with_reducible rfl)
              try simp only [Array.reduceGetElem, Act.put, List.setIfInBounds_toArray, List.set_cons_zero, List.set_cons_succ]
              refine wpAnyH_take (i := 11) (v := ?_) rfl (by kernel_rfl) (by kernel_rfl) (by kernel_rfl) (fun _ _ _ h => h) (Or.inl ⟨by rfl, ?_⟩) (by assumption) ?_
              rotate_left
              · (intro w hSw; (try dsimp only at hSw); go_simp; try with_reducible rfl)
              try simp only [Array.reduceGetElem, Act.put, List.setIfInBounds_toArray, List.set_cons_zero, List.set_cons_succ]
              refine wpAnyH_take (i := 12) (v := ?_) rfl (by kernel_rfl) (by kernel_rfl) (by kernel_rfl) (fun _ _ _ h => h) (Or.inl ⟨by rfl, ?_⟩) (by assumption) ?_
              rotate_left
              · (intro w hSw; (try dsimp only at hSw); go_simp; try with_reducible rfl)
              try simp only [Array.reduceGetElem, Act.put, List.setIfInBounds_toArray, List.set_cons_zero, List.set_cons_succ]
              refine wpAnyH_take (i := 13) (v := ?_) rfl (by kernel_rfl) (by kernel_rfl) (by kernel_rfl) (fun _ _ _ h => h) (Or.inl ⟨by rfl, ?_⟩) (by assumption) ?_
              rotate_left
              · (intro w hSw; (try dsimp only at hSw); go_simp; try with_reducible rfl)
              try simp only [Array.reduceGetElem, Act.put, List.setIfInBounds_toArray, List.set_cons_zero, List.set_cons_succ]
              refine wpAnyH_take (i := 14) (v := ?_) rfl (by kernel_rfl) (by kernel_rfl) (by kernel_rfl) (fun _ _ _ h => h) (Or.inl ⟨by rfl, ?_⟩) (by assumption) ?_
              rotate_left
              · (intro w hSw; (try dsimp only at hSw); go_simp; try with_reducible rfl)
              try simp only [Array.reduceGetElem, Act.put, List.setIfInBounds_toArray, List.set_cons_zero, List.set_cons_succ]
              refine wpAnyH_take (i := 15) (v := ?_) rfl (by kernel_rfl) (by kernel_rfl) (by kernel_rfl) (fun _ _ _ h => h) (Or.inl ⟨by rfl, ?_⟩) (by assumption) ?_
              rotate_left
              · (intro w hSw; (try dsimp only at hSw); go_simp; try with_reducible rfl)
              try simp only [Array.reduceGetElem, Act.put, List.setIfInBounds_toArray, List.set_cons_zero, List.set_cons_succ]
              refine wpAnyH_take (i := 16) (v := ?_) rfl (by kernel_rfl) (by kernel_rfl) (by kernel_rfl) (fun _ _ _ h => h) (Or.inl ⟨by rfl, ?_⟩) (by assumption) ?_
              rotate_left
              · (intro w hSw; (try dsimp only at hSw); go_simp; try with_reducible rfl)
              try simp only [Array.reduceGetElem, Act.put, List.setIfInBounds_toArray, List.set_cons_zero, List.set_cons_succ]
              refine wpAnyH_take (i := 17) (v := ?_) rfl (by kernel_rfl) (by kernel_rfl) (by kernel_rfl) (fun _ _ _ h => h) (Or.inl ⟨by rfl, ?_⟩) (by assumption) ?_
              rotate_left
              · (intro w hSw; (try dsimp only at hSw); go_simp; try with_reducible rfl)
              try simp only [Array.reduceGetElem, Act.put, List.setIfInBounds_toArray, List.set_cons_zero, List.set_cons_succ]
              refine wpAnyH_take (i := 18) (v := ?_) rfl (by kernel_rfl) (by kernel_rfl) (by kernel_rfl) (fun _ _ _ h => h) (Or.inl ⟨by rfl, ?_⟩) (by assumption) ?_
              rotate_left
              · (intro w hSw; (try dsimp only at hSw); go_simp; try with_reducible rfl)
              try simp only [Array.reduceGetElem, Act.put, List.setIfInBounds_toArray, List.set_cons_zero, List.set_cons_succ]
              refine wpAnyH_take (i := 19) (v := ?_) rfl (by kernel_rfl) (by kernel_rfl) (by kernel_rfl) (fun _ _ _ h => h) (Or.inl ⟨by rfl, ?_⟩) (by assumption) ?_
              rotate_left
              · (intro w hSw; (try dsimp only at hSw); go_simp; try with_reducible rfl)
              try simp only [Array.reduceGetElem, Act.put, List.setIfInBounds_toArray, List.set_cons_zero, List.set_cons_succ]
              refine wpAnyH_take (i := 20) (v := ?_) rfl (by kernel_rfl) (by kernel_rfl) (by kernel_rfl) (fun _ _ _ h => h) (Or.inl ⟨by rfl, ?_⟩) (by assumption) ?_
              rotate_left
              · (intro w hSw; (try dsimp only at hSw); go_simp; try with_reducible rfl)
              try simp only [Array.reduceGetElem, Act.put, List.setIfInBounds_toArray, List.set_cons_zero, List.set_cons_succ]
              refine wpAnyH_take (i := 21) (v := ?_) rfl (by kernel_rfl) (by kernel_rfl) (by kernel_rfl) (fun _ _ _ h => h) (Or.inl ⟨by rfl, ?_⟩) (by assumption) ?_
              rotate_left
              · (intro w hSw; (try dsimp only at hSw); go_simp; try with_reducible rfl)
              try simp only [Array.reduceGetElem, Act.put, List.setIfInBounds_toArray, List.set_cons_zero, List.set_cons_succ]
              refine wpAnyH_take (i := 22) (v := ?_) rfl (by kernel_rfl) (by kernel_rfl) (by kernel_rfl) (fun _ _ _ h => h) (Or.inl ⟨by rfl, ?_⟩) (by assumption) ?_
              rotate_left
              · (intro w hSw; (try dsimp only at hSw); go_simp; try with_reducible rfl)
              try simp only [Array.reduceGetElem, Act.put, List.setIfInBounds_toArray, List.set_cons_zero, List.set_cons_succ]
              refine wpAnyH_take (i := 23) (v := ?_) rfl (by kernel_rfl) (by kernel_rfl) (by kernel_rfl) (fun _ _ _ h => h) (Or.inl ⟨by rfl, ?_⟩) (by assumption) ?_
              rotate_left
              · (intro w hSw; (try dsimp only at hSw); go_simp; try with_reducible rfl)
              try simp only [Array.reduceGetElem, Act.put, List.setIfInBounds_toArray, List.set_cons_zero, List.set_cons_succ]
              refine wpAnyH_ready (rs := [24]) (by kernel_rfl) (by simp) ?_
              refine AllReadyH.cons rfl (fun K hK => ?_) AllReadyH.nil
              go_simp
              (go_at_call 22; refine (hasPlaceFor_take es k hlt g c _ hE2 hnx.out hsh.out).mono ?_; rintro e w3 ⟨rfl, hB3⟩; rw [hpk.out]; have hB4 := hB2.trans (hB3.mono hB2.size); have hb3 := Box4.below hb2 hB3 hbl2; have hE3 := Ents.below hE2 hB3 hg2; have g0 := hb3.cell0; have g1 := hb3.cell1; have g2 := hb3.cell2; have g3 := hb3.cell3; obtain ⟨h0, h1, h2, h3⟩ := hE3.2 j hjl)
              refine hK.out _ _ ?_ (fun hHeld => ?_)
              · (try dsimp only); first | exact ⟨g0, g1, g2, g3, h0⟩ | exact ⟨d0, d1, d2, d3, f0⟩ | exact ⟨c0, c1, c2, c3, e0⟩ | go_keep
              clear hK K
              try simp only [Array.reduceGetElem, Act.put, List.setIfInBounds_toArray, List.set_cons_zero, List.set_cons_succ]
              refine wpAnyH_take (i := 25) (v := ?_) rfl (by kernel_rfl) (by kernel_rfl) (by kernel_rfl) (fun _ _ _ h => h) (Or.inl ⟨by rfl, ?_⟩) (by assumption) ?_
              rotate_left
              · (intro w hSw; (try dsimp only at hSw); go_simp; try with_reducible rfl)
              try simp only [Array.reduceGetElem, Act.put, List.setIfInBounds_toArray, List.set_cons_zero, List.set_cons_succ]
              refine wpAnyH_take (i := 26) (v := ?_) rfl (by kernel_rfl) (by kernel_rfl) (by kernel_rfl) (fun _ _ _ h => h) (Or.inl ⟨by rfl, ?_⟩) (by assumption) ?_
              rotate_left
              · (intro w hSw; (try dsimp only at hSw); go_simp; try with_reducible rfl)
              try simp only [Array.reduceGetElem, Act.put, List.setIfInBounds_toArray, List.set_cons_zero, List.set_cons_succ]
              refine wpAnyH_done (by kernel_rfl) ?_ _
              try refine NoPanic.normal ?_
              go_wp2
              go_round
              case rel => exact ⟨k + 1, by omega, by go_num, hnx, hpn, hB4⟩
              case measure => simp [intOf]; omega
    · obtain rfl : k = es.length := by omega
      have hres := Lib.hid (tree_good hfst.out hplc.out hl16)
      go_wp2
      go_ret
      exact ⟨ret_bool (by rw [hres.out]), hB0⟩
end Go.Proofs.YtiknkjhdieepbaaDoor

/-
  The walks of the laws' own functions on entries: sizes, copies, comparisons.
-/
namespace Go.Proofs.YtiknkjhdieepbaaDoor
open Go.RowKit
set_option linter.unusedVariables false
set_option linter.unusedSimpArgs false
attribute [local go_sem] mkB_size mkB_extract mkB_get mkB_append mkB_append_raw raw_append_mkB mkB_toList

/-- entries that came in as an argument: anywhere in a block -/
def ArgE (w : World) (A : Option Addr) (n c : Nat) (es : List En) : Prop :=
  n = es.length ∧ n ≤ 9223372036854775807 ∧ (∀ i (h : i < es.length), es[i].path.length ≤ 9223372036854775807 ∧ es[i].text.length ≤ 9223372036854775807) ∧
  (es = [] ∨ ∃ b off, A = some ⟨b, off, none⟩ ∧ b < w.heap.size ∧ ∀ i (h : i < es.length),
    w.cell? ⟨b, off + i * 4, none⟩ = some (.string (mkB es[i].path)) ∧ w.cell? ⟨b, off + i * 4 + 1, none⟩ = some (.int .i64 es[i].kind) ∧
    w.cell? ⟨b, off + i * 4 + 2, none⟩ = some (.int .i64 es[i].mode) ∧ w.cell? ⟨b, off + i * 4 + 3, none⟩ = some (.string (mkB es[i].text)))
theorem ArgE.below {w w' : World} {A : Option Addr} {n c : Nat} {es : List En} (h : ArgE w A n c es) (hB : Below w.heap.size w w') : ArgE w' A n c es := by
  obtain ⟨h1, h2, h3, h4⟩ := h
  refine ⟨h1, h2, h3, ?_⟩
  rcases h4 with h4 | ⟨b, off, rfl, hb, h4⟩
  · exact .inl h4
  · refine .inr ⟨b, off, rfl, Nat.lt_of_lt_of_le hb hB.size, fun i hi => ?_⟩
    have hs := hB.block b hb
    obtain ⟨c0, c1, c2, c3⟩ := h4 i hi
    exact ⟨(cell_same hs _).trans c0, (cell_same hs _).trans c1, (cell_same hs _).trans c2, (cell_same hs _).trans c3⟩

def szE (p t : List UInt8) (left : Int) : Int := if left < p.length then -1 else if left < p.length + t.length then -1 else left - p.length - t.length
theorem szE_ok {p t : List UInt8} {left v : Int} (h : szE p t left = v) (h0 : 0 ≤ v) : v ≤ left ∧ (p.length : Int) ≤ left ∧ (t.length : Int) ≤ left := by
  unfold szE at h
  split at h
  · omega
  · split at h
    · omega
    · omega

/-- what szEntryS says -/
def SzPost (es : List En) (w : World) (r : Ending) (w' : World) : Prop := ∃ v : Int, r = .returned (.int .i64 v) ∧ -1 ≤ v ∧ v ≤ 1048576 ∧ Hid (0 ≤ v → Small es) ∧ Below w.heap.size w w'
end Go.Proofs.YtiknkjhdieepbaaDoor

/-
  The walks of toEntryS and eqEntryS.
-/
namespace Go.Proofs.YtiknkjhdieepbaaDoor
open Go.RowKit
set_option linter.unusedVariables false
set_option linter.unusedSimpArgs false
attribute [local go_sem] mkB_size mkB_extract mkB_get mkB_append mkB_append_raw raw_append_mkB mkB_toList

theorem infoE : (Tryd.prog.info? 30).map (fun i => (i.zero, i.size, i.bytes)) = some (some (.agg #[.string { data := #[] }, .int .i64 0, .int .i64 0, .string { data := #[] }]), 4, 48) := by kernel_rfl
/-- a row of room for n entries, of which the first k are laid -/
def RowE (w : World) (g n k : Nat) (es : List En) : Prop := ∃ cur : Array Value, w.heap[g]? = some (.cells cur 30 (0, 0)) ∧ cur.size = n * 4 ∧ ∀ i (h : i < es.length), i < k →
  cur[i * 4]? = some (.string (mkB es[i].path)) ∧ cur[i * 4 + 1]? = some (.int .i64 es[i].kind) ∧ cur[i * 4 + 2]? = some (.int .i64 es[i].mode) ∧ cur[i * 4 + 3]? = some (.string (mkB es[i].text))
theorem RowE.lt {w : World} {g n k : Nat} {es : List En} (h : RowE w g n k es) : g < w.heap.size := by
  obtain ⟨cur, hh, _⟩ := h
  exact (Array.getElem?_eq_some_iff.1 hh).1
theorem RowE.room {w : World} {g n k : Nat} {es : List En} (h : RowE w g n k es) {j : Nat} (hj : j < n * 4) : ∃ v, w.cell? ⟨g, j, none⟩ = some v := by
  obtain ⟨cur, hh, hs, _⟩ := h
  exact ⟨cur[j]'(by omega), by rw [row_cell _ _ _ _ _ _ hh, Array.getElem?_eq_getElem (by omega)]⟩
theorem RowE.frozen {w : World} {g n k : Nat} {es : List En} (h : RowE w g n k es) (j : Nat) : w.frozen? ⟨g, j, none⟩ = false := by
  obtain ⟨cur, hh, hs, _⟩ := h
  simp [World.frozen?, hh]
theorem RowE.below {w w' : World} {g n k m : Nat} {es : List En} (h : RowE w g n k es) (hB : Below m w w') (hg : g < m) : RowE w' g n k es := by
  obtain ⟨cur, hh, hs⟩ := h
  exact ⟨cur, (hB.block g hg).trans hh, hs⟩
theorem RowE.ents {w : World} {g n : Nat} {es : List En} (h : RowE w g n es.length es) : Ents w g es := by
  have hl := h.lt
  obtain ⟨cur, hh, hs, hc⟩ := h
  refine ⟨hl, fun i hi => ?_⟩
  obtain ⟨c0, c1, c2, c3⟩ := hc i hi hi
  exact ⟨by rw [row_cell _ _ _ _ _ _ hh]; exact c0, by rw [row_cell _ _ _ _ _ _ hh]; exact c1, by rw [row_cell _ _ _ _ _ _ hh]; exact c2, by rw [row_cell _ _ _ _ _ _ hh]; exact c3⟩
theorem heap_set {w : World} {g j : Nat} {cur : Array Value} {t : TypeId} {v : Value} (h : w.heap[g]? = some (.cells cur t (0, 0))) : (w.setCell ⟨g, j, none⟩ v).heap[g]? = some (.cells (cur.setIfInBounds j v) t (0, 0)) := by
  simp [World.setCell, Array.getElem?_modify, h]
theorem RowE.put {w : World} {g n k : Nat} {es : List En} (h : RowE w g n k es) (hk : k < es.length) (hn : es.length ≤ n) :
    RowE ((((w.setCell ⟨g, k * 4, none⟩ (.string (mkB es[k].path))).setCell ⟨g, k * 4 + 1, none⟩ (.int .i64 es[k].kind)).setCell ⟨g, k * 4 + 2, none⟩ (.int .i64 es[k].mode)).setCell ⟨g, k * 4 + 3, none⟩ (.string (mkB es[k].text))) g n (k + 1) es := by
  obtain ⟨cur, hh, hs, hc⟩ := h
  refine ⟨_, heap_set (heap_set (heap_set (heap_set hh))), by simp [hs], fun i hi hik => ?_⟩
  simp only [Array.getElem?_setIfInBounds, Array.size_setIfInBounds, hs]
  rcases Nat.lt_or_ge i k with h1 | h1
  · obtain ⟨c0, c1, c2, c3⟩ := hc i hi h1
    refine ⟨?_, ?_, ?_, ?_⟩
    · rw [if_neg (by omega), if_neg (by omega), if_neg (by omega), if_neg (by omega)]; exact c0
    · rw [if_neg (by omega), if_neg (by omega), if_neg (by omega), if_neg (by omega)]; exact c1
    · rw [if_neg (by omega), if_neg (by omega), if_neg (by omega), if_neg (by omega)]; exact c2
    · rw [if_neg (by omega), if_neg (by omega), if_neg (by omega), if_neg (by omega)]; exact c3
  · obtain rfl : i = k := by omega
    refine ⟨?_, ?_, ?_, ?_⟩
    · rw [if_neg (by omega), if_neg (by omega), if_neg (by omega), if_pos rfl, if_pos (by omega)]
    · rw [if_neg (by omega), if_neg (by omega), if_pos rfl, if_pos (by omega)]
    · rw [if_neg (by omega), if_pos rfl, if_pos (by omega)]
    · rw [if_pos rfl, if_pos (by omega)]
theorem RowE.made {w : World} {base g n c : Nat} {xs : List Value} {es : List En} (h : w.ownsRow base 30 4 (.slice (some ⟨g, 0, none⟩) c n) c xs) : RowE w g n 0 es := by
  obtain ⟨_, h | ⟨g', cap, cur, hv, _, hh, _, _, hs, _⟩⟩ := h
  · cases h.1
  · cases hv
    exact ⟨cur, hh, hs, fun i _ hi => by omega⟩

end Go.Proofs.YtiknkjhdieepbaaDoor

