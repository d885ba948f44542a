/-
  The law FnNeedText, walked: reading a need is the inverse of writing one.
-/
import Derived.Test.YtdcfifhmldolhaaDoorGetT
import Derived.Test.YtdcfifhmldolhaaDoorDrawG
import Derived.Test.YtdcfifhmldolhaaDoorPlainNT
import Derived.Deep.RegionWith
namespace Go.Proofs.YtdcfifhmldolhaaDoor
open Go.RowKit
set_option linter.unusedVariables false
attribute [local go_sem] mkB_size mkB_extract mkB_get mkB_append mkB_append_raw raw_append_mkB mkB_toList

theorem IsBytes.belowN {w w' : World} {A : Option Addr} {n c : Nat} (h : IsBytes w A n c) (hB : Below w.heap.size w w') : IsBytes w' A n c := by
  obtain ⟨h1, h2, h3⟩ := h
  refine ⟨h1, h2, ?_⟩
  rcases h3 with h3 | ⟨b, off, rfl, hb, h4⟩
  · exact .inl h3
  · refine .inr ⟨b, off, rfl, Nat.lt_of_lt_of_le hb hB.size, fun i hi => ?_⟩
    obtain ⟨x, hx, h5⟩ := h4 i hi
    exact ⟨x, hx, (cell_of_same (hB.block b hb) _).trans h5⟩
theorem shapeG (l : List UInt8) : ∃ (nm : List UInt8) (kd : Int) (vr : List UInt8), (getV l = .tuple #[.agg #[.string (mkB nm), .int .i64 kd, .string (mkB vr)], .bool true] ∧ needOk nm kd vr = true ∧ needPut nm kd vr = l) ∨ (getV l = .tuple #[.agg #[.string (mkB nm), .int .i64 kd, .string (mkB vr)], .bool false]) := by
  unfold getV
  cases h : needGet l with
  | none => exact ⟨[], 0, [], .inr rfl⟩
  | some x =>
    obtain ⟨nm, kd, vr⟩ := x
    have hb := needGet_back h
    exact ⟨nm, kd, vr, .inl ⟨rfl, hb.1, (needPut_is hb.1).trans hb.2⟩⟩
theorem getV_text {nm vr : List UInt8} {kd : Int} (h : needOk nm kd vr = true) : getV (needText nm kd vr) = .tuple #[.agg #[.string (mkB nm), .int .i64 kd, .string (mkB vr)], .bool true] := getV_is_some (needGet_text h)
theorem getV_nil : getV [] = .tuple #[.agg #[.string { data := #[] }, .int .i64 0, .string { data := #[] }], .bool false] := getV_is_none (by rw [needGet_nil]; rfl)
theorem needText_len (nm vr : List UInt8) (kd : Int) : (needText nm kd vr).length ≤ nm.length + vr.length + 2 := by
  have := sign_len kd
  unfold needText
  simp only [List.length_append]; omega

set_option maxHeartbeats 16000000 in
set_option maxRecDepth 100000 in
theorem law_FnNeedText (A0 : Option Addr) (n0 c0 : Nat) (A1 : Option Addr) (n1 c1 : Nat) (w : World) (h0 : IsBytes w A0 n0 c0) (h1 : IsBytes w A1 n1 c1) :
    Calls Tryd.prog 4 #[.slice A0 n0 c0, .slice A1 n1 c1] w fun e w' => e = .returned (.bool true) ∧ Below w.heap.size w w' := by
  by_cases hn0 : n0 ≤ 1048576
  case neg =>
    go_enter Tryd.func4, Tryd.ntmps4
    go_wp2
    go_ret
    exact ⟨rfl, Below.refl _ _⟩
  by_cases hn1 : n1 ≤ 1048576
  case neg =>
    go_enter Tryd.func4, Tryd.ntmps4
    go_wp2
    go_ret
    exact ⟨rfl, Below.refl _ _⟩
  go_enter Tryd.func4, Tryd.ntmps4
  go_wp2_with fail
  refine (DrawNeedPut_any A0 n0 c0 w h0).mono ?_
  rintro e w1 ⟨nm, vr, kd, hnm, hvr, hk1, hk2, rfl, hB1⟩
  have hlen := needText_len nm vr kd
  rcases boolOf (needOk nm kd vr) with ho | ho
  · have hput := Lib.hid (needPut_no ho.out)
    have hget := Lib.hid (getV_nil)
    go_wp2_with fail
    obtain ⟨W1, hW1⟩ : ∃ X, (w1.alloc (.cells #[.string (mkB nm), .int .i64 kd, .string (mkB vr)] 23)) = X := ⟨_, rfl⟩
    have zW1 : W1.heap.size = w1.heap.size + 1 := by rw [← hW1]; simp
    have n1 : Box3 W1 w1.heap.size 23 (.string (mkB nm)) (.int .i64 kd) (.string (mkB vr)) := by rw [← hW1]; exact Box3.new _ _ _ _ _
    have B1 : Below w.heap.size w W1 := by rw [← hW1]; exact hB1.alloc hB1.size _
    rw [hW1]
    clear hW1
    refine (NeedPut_any nm vr kd (by first | omega | (simp; done) | (simp; omega)) (by first | omega | (simp; done) | (simp; omega)) _).mono ?_
    rintro e w2 ⟨rfl, hB2⟩
    rw [hput.out]
    have n2 := Box3.below n1 hB2 (by omega)
    have B2 := B1.trans (hB2.mono B1.size)
    have z2 : w1.heap.size < w2.heap.size := by have := hB2.size; omega
    go_wp2_with fail
    refine (NeedGet_any ([]) (by first | omega | (simp; done) | (simp; omega)) _).mono ?_
    rintro e w3 ⟨rfl, hB3⟩
    rw [hget.out]
    have n3 := Box3.below n2 hB3 (by omega)
    have B3 := B2.trans (hB3.mono B2.size)
    have z3 : w1.heap.size < w3.heap.size := by have := hB3.size; omega
    go_wp2_with fail
    obtain ⟨W3, hW3⟩ : ∃ X, (w3.alloc (.cells #[.string { data := #[] }, .int .i64 0, .string { data := #[] }] 23)) = X := ⟨_, rfl⟩
    have zW3 : W3.heap.size = w3.heap.size + 1 := by rw [← hW3]; simp
    have x4 : Box3 W3 w3.heap.size 23 (.string { data := #[] }) (.int .i64 0) (.string { data := #[] }) := by rw [← hW3]; exact Box3.new _ _ _ _ _
    have n4 : Box3 W3 w1.heap.size 23 (.string (mkB nm)) (.int .i64 kd) (.string (mkB vr)) := by rw [← hW3]; exact n3.kept (World.grownBy_alloc _ _ none) (fun e => by cases e)
    have B4 : Below w.heap.size w W3 := by rw [← hW3]; exact B3.alloc B3.size _
    rw [hW3]
    clear hW3 n1 n2 n3 B1 B2 B3 hB1 hB2 hB3
    have p0 := n4.cell0
    have p1 := n4.cell1
    have p2 := n4.cell2
    have q0 := x4.cell0
    have q1 := x4.cell1
    have q2 := x4.cell2
    have zd : W3.drew.heap.size = W3.heap.size := rfl
    first | refine wp_region_noPanic ?_ | skip
    refine wp_region_held_drew (S := (fun W' => W'.cell? ⟨w1.heap.size, 0, none⟩ = some (.string (mkB nm)) ∧ W'.cell? ⟨w1.heap.size, 1, none⟩ = some (.int .i64 kd) ∧ W'.cell? ⟨w1.heap.size, 2, none⟩ = some (.string (mkB vr)) ∧ W'.cell? ⟨w3.heap.size, 0, none⟩ = some (.string { data := #[] }) ∧ W'.cell? ⟨w3.heap.size, 1, none⟩ = some (.int .i64 0) ∧ W'.cell? ⟨w3.heap.size, 2, none⟩ = some (.string { data := #[] }))) (by kernel_rfl) ?_ (fun hHeld => ?_)
    · exact ⟨p0, p1, p2, q0, q1, q2⟩
    refine wpAnyH_take (i := 0) (v := ?_) rfl (by kernel_rfl) (by kernel_rfl) (by kernel_rfl) (fun _ _ _ h => h) (Or.inl ⟨by rfl, ?_⟩) (by assumption) ?_
    rotate_left
    · (intro w hSw; (try dsimp only at hSw); go_simp; try with_reducible rfl)
    try simp only [Array.reduceGetElem, Act.put, List.setIfInBounds_toArray, List.set_cons_zero, List.set_cons_succ]
    refine wpAnyH_take (i := 1) (v := ?_) rfl (by kernel_rfl) (by kernel_rfl) (by kernel_rfl) (fun _ _ _ h => h) (Or.inl ⟨by rfl, ?_⟩) (by assumption) ?_
    rotate_left
    · (intro w hSw; (try dsimp only at hSw); go_simp; try with_reducible rfl)
    try simp only [Array.reduceGetElem, Act.put, List.setIfInBounds_toArray, List.set_cons_zero, List.set_cons_succ]
    refine wpAnyH_ready (rs := [2]) (by kernel_rfl) (by simp) ?_
    refine AllReadyH.cons rfl (fun K hK => ?_) AllReadyH.nil
    go_simp
    (go_at_call 10; refine (specNeedPut_any nm vr kd (by first | omega | (simp; done) | (simp; omega)) (by first | omega | (simp; done) | (simp; omega)) _).mono ?_; rintro e w5 ⟨rfl, hB5⟩; rw [hput.out]; have n5 := Box3.below (Box3.drew n4) hB5 (by omega); have x5 := Box3.below (Box3.drew x4) hB5 (by omega); have B5 := Below.trans B4.drew (hB5.mono (Below.size B4.drew)); have z5 : w3.heap.size < w5.heap.size := (by have := hB5.size; omega); have r50 := n5.cell0; have t50 := x5.cell0; have r51 := n5.cell1; have t51 := x5.cell1; have r52 := n5.cell2; have t52 := x5.cell2)
    refine hK.out _ _ ?_ (fun hHeld => ?_)
    · (try dsimp only); (first | exact ⟨r70, r71, r72, t70, t71, t72⟩ | exact ⟨r60, r61, r62, t60, t61, t62⟩ | exact ⟨r50, r51, r52, t50, t51, t52⟩ | exact ⟨p0, p1, p2, q0, q1, q2⟩ | go_keep)
    clear hK K
    try simp only [Array.reduceGetElem, Act.put, List.setIfInBounds_toArray, List.set_cons_zero, List.set_cons_succ]
    refine wpAnyH_take (i := 3) (v := ?_) rfl (by kernel_rfl) (by kernel_rfl) (by kernel_rfl) (fun _ _ _ h => h) (Or.inl ⟨by rfl, ?_⟩) (by assumption) ?_
    rotate_left
    · (intro w hSw; (try dsimp only at hSw); go_simp; try with_reducible rfl)
    try simp only [Array.reduceGetElem, Act.put, List.setIfInBounds_toArray, List.set_cons_zero, List.set_cons_succ]
    refine wpAnyH_take (i := 4) (v := ?_) rfl (by kernel_rfl) (by kernel_rfl) (by kernel_rfl) (fun _ _ _ h => h) (Or.inl ⟨by rfl, ?_⟩) (by assumption) ?_
    rotate_left
    · (intro w hSw; (try dsimp only at hSw); go_simp; try with_reducible rfl)
    try simp only [Array.reduceGetElem, Act.put, List.setIfInBounds_toArray, List.set_cons_zero, List.set_cons_succ]
    refine wpAnyH_take (i := 5) (v := ?_) rfl (by kernel_rfl) (by kernel_rfl) (by kernel_rfl) (fun _ _ _ h => h) (Or.inl ⟨by rfl, ?_⟩) (by assumption) ?_
    rotate_left
    · (intro w hSw; (try dsimp only at hSw); go_simp; try with_reducible rfl)
    try simp only [Array.reduceGetElem, Act.put, List.setIfInBounds_toArray, List.set_cons_zero, List.set_cons_succ]
    refine wpAnyH_take (i := 7) (v := ?_) rfl (by kernel_rfl) (by kernel_rfl) (by kernel_rfl) (fun _ _ _ h => h) (Or.inl ⟨by rfl, ?_⟩) (by assumption) ?_
    rotate_left
    · (intro w hSw; (try dsimp only at hSw); go_simp; try with_reducible rfl)
    try simp only [Array.reduceGetElem, Act.put, List.setIfInBounds_toArray, List.set_cons_zero, List.set_cons_succ]
    refine wpAnyH_ready (rs := [6]) (by kernel_rfl) (by simp) ?_
    refine AllReadyH.cons rfl (fun K hK => ?_) AllReadyH.nil
    go_simp
    (go_at_call 11; refine (NeedOk_any nm vr kd (by first | omega | (simp; done) | (simp; omega)) (by first | omega | (simp; done) | (simp; omega)) _).mono ?_; rintro e w6 ⟨rfl, hB6⟩; rw [ho.out]; have n6 := Box3.below n5 hB6 (by omega); have x6 := Box3.below x5 hB6 (by omega); have B6 := Below.trans B5 (hB6.mono (Below.size B5)); have z6 : w3.heap.size < w6.heap.size := (by have := hB6.size; omega); have r60 := n6.cell0; have t60 := x6.cell0; have r61 := n6.cell1; have t61 := x6.cell1; have r62 := n6.cell2; have t62 := x6.cell2)
    refine hK.out _ _ ?_ (fun hHeld => ?_)
    · (try dsimp only); (first | exact ⟨r70, r71, r72, t70, t71, t72⟩ | exact ⟨r60, r61, r62, t60, t61, t62⟩ | exact ⟨r50, r51, r52, t50, t51, t52⟩ | exact ⟨p0, p1, p2, q0, q1, q2⟩ | go_keep)
    clear hK K
    try simp only [Array.reduceGetElem, Act.put, List.setIfInBounds_toArray, List.set_cons_zero, List.set_cons_succ]
    refine wpAnyH_ready (rs := [8]) (by kernel_rfl) (by simp) ?_
    refine AllReadyH.cons rfl (fun K hK => ?_) AllReadyH.nil
    go_simp
    (go_at_call 12; refine (specNeedOk_any nm vr kd (by first | omega | (simp; done) | (simp; omega)) (by first | omega | (simp; done) | (simp; omega)) _).mono ?_; rintro e w7 ⟨rfl, hB7⟩; rw [ho.out]; have n7 := Box3.below n6 hB7 (by omega); have x7 := Box3.below x6 hB7 (by omega); have B7 := Below.trans B6 (hB7.mono (Below.size B6)); have z7 : w3.heap.size < w7.heap.size := (by have := hB7.size; omega); have r70 := n7.cell0; have t70 := x7.cell0; have r71 := n7.cell1; have t71 := x7.cell1; have r72 := n7.cell2; have t72 := x7.cell2)
    refine hK.out _ _ ?_ (fun hHeld => ?_)
    · (try dsimp only); (first | exact ⟨r70, r71, r72, t70, t71, t72⟩ | exact ⟨r60, r61, r62, t60, t61, t62⟩ | exact ⟨r50, r51, r52, t50, t51, t52⟩ | exact ⟨p0, p1, p2, q0, q1, q2⟩ | go_keep)
    clear hK K
    try simp only [Array.reduceGetElem, Act.put, List.setIfInBounds_toArray, List.set_cons_zero, List.set_cons_succ]
    refine wpAnyH_take (i := 9) (v := ?_) rfl (by kernel_rfl) (by kernel_rfl) (by kernel_rfl) (fun _ _ _ h => h) (Or.inl ⟨by rfl, ?_⟩) (by assumption) ?_
    rotate_left
    · (intro w hSw; (try dsimp only at hSw); go_simp; try with_reducible rfl)
    try simp only [Array.reduceGetElem, Act.put, List.setIfInBounds_toArray, List.set_cons_zero, List.set_cons_succ]
    refine wpAnyH_take (i := 10) (v := ?_) rfl (by kernel_rfl) (by kernel_rfl) (by kernel_rfl) (fun _ _ _ h => h) (Or.inl ⟨by rfl, ?_⟩) (by assumption) ?_
    rotate_left
    · (intro w hSw; (try dsimp only at hSw); go_simp; try with_reducible rfl)
    try simp only [Array.reduceGetElem, Act.put, List.setIfInBounds_toArray, List.set_cons_zero, List.set_cons_succ]
    refine wpAnyH_take (i := 11) (v := ?_) rfl (by kernel_rfl) (by kernel_rfl) (by kernel_rfl) (fun _ _ _ h => h) (Or.inl ⟨by rfl, ?_⟩) (by assumption) ?_
    rotate_left
    · (intro w hSw; (try dsimp only at hSw); go_simp; try with_reducible rfl)
    try simp only [Array.reduceGetElem, Act.put, List.setIfInBounds_toArray, List.set_cons_zero, List.set_cons_succ]
    refine wpAnyH_take (i := 12) (v := ?_) rfl (by kernel_rfl) (by kernel_rfl) (by kernel_rfl) (fun _ _ _ h => h) (Or.inl ⟨by rfl, ?_⟩) (by assumption) ?_
    rotate_left
    · (intro w hSw; (try dsimp only at hSw); go_simp; try with_reducible rfl)
    try simp only [Array.reduceGetElem, Act.put, List.setIfInBounds_toArray, List.set_cons_zero, List.set_cons_succ]
    refine wpAnyH_take (i := 13) (v := ?_) rfl (by kernel_rfl) (by kernel_rfl) (by kernel_rfl) (fun _ _ _ h => h) (Or.inl ⟨by rfl, ?_⟩) (by assumption) ?_
    rotate_left
    · (intro w hSw; (try dsimp only at hSw); go_simp; try with_reducible rfl)
    try simp only [Array.reduceGetElem, Act.put, List.setIfInBounds_toArray, List.set_cons_zero, List.set_cons_succ]
    refine wpAnyH_take (i := 14) (v := ?_) rfl (by kernel_rfl) (by kernel_rfl) (by kernel_rfl) (fun _ _ _ h => h) (Or.inl ⟨by rfl, ?_⟩) (by assumption) ?_
    rotate_left
    · (intro w hSw; (try dsimp only at hSw); go_simp; try with_reducible rfl)
    try simp only [Array.reduceGetElem, Act.put, List.setIfInBounds_toArray, List.set_cons_zero, List.set_cons_succ]
    refine wpAnyH_take (i := 15) (v := ?_) rfl (by kernel_rfl) (by kernel_rfl) (by kernel_rfl) (fun _ _ _ h => h) (Or.inl ⟨by rfl, ?_⟩) (by assumption) ?_
    rotate_left
    · (intro w hSw; (try dsimp only at hSw); go_simp; try with_reducible rfl)
    try simp only [Array.reduceGetElem, Act.put, List.setIfInBounds_toArray, List.set_cons_zero, List.set_cons_succ]
    refine wpAnyH_take (i := 16) (v := ?_) rfl (by kernel_rfl) (by kernel_rfl) (by kernel_rfl) (fun _ _ _ h => h) (Or.inl ⟨by rfl, ?_⟩) (by assumption) ?_
    rotate_left
    · (intro w hSw; (try dsimp only at hSw); go_simp; try with_reducible rfl)
    try simp only [Array.reduceGetElem, Act.put, List.setIfInBounds_toArray, List.set_cons_zero, List.set_cons_succ]
    refine wpAnyH_take (i := 17) (v := ?_) rfl (by kernel_rfl) (by kernel_rfl) (by kernel_rfl) (fun _ _ _ h => h) (Or.inl ⟨by rfl, ?_⟩) (by assumption) ?_
    rotate_left
    · (intro w hSw; (try dsimp only at hSw); go_simp; try with_reducible rfl)
    try simp only [Array.reduceGetElem, Act.put, List.setIfInBounds_toArray, List.set_cons_zero, List.set_cons_succ]
    refine wpAnyH_take (i := 18) (v := ?_) rfl (by kernel_rfl) (by kernel_rfl) (by kernel_rfl) (fun _ _ _ h => h) (Or.inl ⟨by rfl, ?_⟩) (by assumption) ?_
    rotate_left
    · (intro w hSw; (try dsimp only at hSw); go_simp; try with_reducible rfl)
    try simp only [Array.reduceGetElem, Act.put, List.setIfInBounds_toArray, List.set_cons_zero, List.set_cons_succ]
    refine wpAnyH_take (i := 19) (v := ?_) rfl (by kernel_rfl) (by kernel_rfl) (by kernel_rfl) (fun _ _ _ h => h) (Or.inl ⟨by rfl, ?_⟩) (by assumption) ?_
    rotate_left
    · (intro w hSw; (try dsimp only at hSw); go_simp; try with_reducible rfl)
    try simp only [Array.reduceGetElem, Act.put, List.setIfInBounds_toArray, List.set_cons_zero, List.set_cons_succ]
    refine wpAnyH_take (i := 20) (v := undef) rfl (by kernel_rfl) (by kernel_rfl) (by kernel_rfl) (fun _ _ _ h => h) (Or.inr ⟨by rfl, rfl⟩) (by assumption) ?_
    try simp only [Array.reduceGetElem, Act.put, List.setIfInBounds_toArray, List.set_cons_zero, List.set_cons_succ]
    refine wpAnyH_take (i := 21) (v := undef) rfl (by kernel_rfl) (by kernel_rfl) (by kernel_rfl) (fun _ _ _ h => h) (Or.inr ⟨by rfl, rfl⟩) (by assumption) ?_
    try simp only [Array.reduceGetElem, Act.put, List.setIfInBounds_toArray, List.set_cons_zero, List.set_cons_succ]
    refine wpAnyH_take (i := 22) (v := undef) rfl (by kernel_rfl) (by kernel_rfl) (by kernel_rfl) (fun _ _ _ h => h) (Or.inr ⟨by rfl, rfl⟩) (by assumption) ?_
    try simp only [Array.reduceGetElem, Act.put, List.setIfInBounds_toArray, List.set_cons_zero, List.set_cons_succ]
    refine wpAnyH_take (i := 23) (v := ?_) rfl (by kernel_rfl) (by kernel_rfl) (by kernel_rfl) (fun _ _ _ h => h) (Or.inl ⟨by rfl, ?_⟩) (by assumption) ?_
    rotate_left
    · (intro w hSw; (try dsimp only at hSw); go_simp; try with_reducible rfl)
    try simp only [Array.reduceGetElem, Act.put, List.setIfInBounds_toArray, List.set_cons_zero, List.set_cons_succ]
    refine wpAnyH_take (i := 24) (v := ?_) rfl (by kernel_rfl) (by kernel_rfl) (by kernel_rfl) (fun _ _ _ h => h) (Or.inl ⟨by rfl, ?_⟩) (by assumption) ?_
    rotate_left
    · (intro w hSw; (try dsimp only at hSw); go_simp; try with_reducible rfl)
    try simp only [Array.reduceGetElem, Act.put, List.setIfInBounds_toArray, List.set_cons_zero, List.set_cons_succ]
    refine wpAnyH_done (by kernel_rfl) ?_ _
    all_goals
      try refine NoPanic.normal ?_
      have h7 := h1.belowN B7
      have hz7 := B7.size
      go_wp2_with fail
      refine (DrawNeedGet_any A1 n1 c1 _ h7).mono ?_
      rintro e w8 ⟨l, hl, rfl, hB8⟩
      have B8 := B7.trans (hB8.mono hz7)
      have hl2 : l.length ≤ 1099511627 := by omega
      clear n4 x4 n5 x5 n6 x6 n7 x7 hB5 hB6 hB7 hB8 B4 B5 B6 B7 p0 p1 p2 q0 q1 q2 r50 r51 r52 r60 r61 r62 r70 r71 r72 t50 t51 t52 t60 t61 t62 t70 t71 t72
      obtain ⟨a, k, v, hsh | hsh⟩ := shapeG l
      · obtain ⟨hsh, hok, hback⟩ := hsh
        replace hsh := Lib.hid hsh
        replace hback := Lib.hid hback
        replace hok := Lib.hid hok
        have hav : a.length ≤ 100 ∧ v.length ≤ 100 := by have h := hback.out; rw [needPut_is hok.out] at h; have h2 := congrArg List.length h; unfold needText at h2; simp only [List.length_append] at h2; omega
        go_wp2_with fail
        refine (NeedGet_any l hl2 _).mono ?_
        rintro e w9 ⟨rfl, hB9⟩
        rw [hsh.out]
        have B9 := B8.trans (hB9.mono B8.size)
        go_wp2_with fail
        obtain ⟨W9, hW9⟩ : ∃ X, (w9.alloc (.cells #[.string (mkB a), .int .i64 k, .string (mkB v)] 23)) = X := ⟨_, rfl⟩
        have zW9 : W9.heap.size = w9.heap.size + 1 := by rw [← hW9]; simp
        have y9 : Box3 W9 w9.heap.size 23 (.string (mkB a)) (.int .i64 k) (.string (mkB v)) := by rw [← hW9]; exact Box3.new _ _ _ _ _
        have B10 : Below w.heap.size w W9 := by rw [← hW9]; exact B9.alloc B9.size _
        rw [hW9]
        clear hW9 B9 hB9
        refine (specNeedGet_any l hl2 _).mono ?_
        rintro e w11 ⟨rfl, hB11⟩
        rw [hsh.out]
        have B11 := B10.trans (hB11.mono B10.size)
        have y11 := Box3.below y9 hB11 (by omega)
        have y12 : Box3 (w11.alloc (.cells #[.string (mkB a), .int .i64 k, .string (mkB v)] 23)) w9.heap.size 23 (.string (mkB a)) (.int .i64 k) (.string (mkB v)) := y11.kept (World.grownBy_alloc _ _ none) (fun e => by cases e)
        have y20 := y12.cell0
        have y21 := y12.cell1
        have y22 := y12.cell2
        go_wp2_with (go_at_call 9; refine (NeedPut_any a v k (by first | omega | (simp; done) | (simp; omega)) (by first | omega | (simp; done) | (simp; omega)) _).mono ?_; rintro e w13 ⟨rfl, hB13⟩; rw [hback.out])
        go_ret
        exact ⟨rfl, (B11.alloc B11.size _).trans (hB13.mono (by have := B11.size; simp; omega))⟩
      · replace hsh := Lib.hid hsh
        go_wp2_with fail
        refine (NeedGet_any l hl2 _).mono ?_
        rintro e w9 ⟨rfl, hB9⟩
        rw [hsh.out]
        have B9 := B8.trans (hB9.mono B8.size)
        go_wp2_with fail
        obtain ⟨W9, hW9⟩ : ∃ X, (w9.alloc (.cells #[.string (mkB a), .int .i64 k, .string (mkB v)] 23)) = X := ⟨_, rfl⟩
        have zW9 : W9.heap.size = w9.heap.size + 1 := by rw [← hW9]; simp
        have y9 : Box3 W9 w9.heap.size 23 (.string (mkB a)) (.int .i64 k) (.string (mkB v)) := by rw [← hW9]; exact Box3.new _ _ _ _ _
        have B10 : Below w.heap.size w W9 := by rw [← hW9]; exact B9.alloc B9.size _
        rw [hW9]
        clear hW9 B9 hB9
        refine (specNeedGet_any l hl2 _).mono ?_
        rintro e w11 ⟨rfl, hB11⟩
        rw [hsh.out]
        have B11 := B10.trans (hB11.mono B10.size)
        have y11 := Box3.below y9 hB11 (by omega)
        have y12 : Box3 (w11.alloc (.cells #[.string (mkB a), .int .i64 k, .string (mkB v)] 23)) w9.heap.size 23 (.string (mkB a)) (.int .i64 k) (.string (mkB v)) := y11.kept (World.grownBy_alloc _ _ none) (fun e => by cases e)
        have y20 := y12.cell0
        have y21 := y12.cell1
        have y22 := y12.cell2
        go_wp2
        go_ret
        exact ⟨rfl, B11.alloc B11.size _⟩
  · have hput := Lib.hid (needPut_is ho.out)
    have hget := Lib.hid (getV_text ho.out)
    have hne := needText_ne ho.out
    go_wp2_with fail
    obtain ⟨W1, hW1⟩ : ∃ X, (w1.alloc (.cells #[.string (mkB nm), .int .i64 kd, .string (mkB vr)] 23)) = X := ⟨_, rfl⟩
    have zW1 : W1.heap.size = w1.heap.size + 1 := by rw [← hW1]; simp
    have n1 : Box3 W1 w1.heap.size 23 (.string (mkB nm)) (.int .i64 kd) (.string (mkB vr)) := by rw [← hW1]; exact Box3.new _ _ _ _ _
    have B1 : Below w.heap.size w W1 := by rw [← hW1]; exact hB1.alloc hB1.size _
    rw [hW1]
    clear hW1
    refine (NeedPut_any nm vr kd (by first | omega | (simp; done) | (simp; omega)) (by first | omega | (simp; done) | (simp; omega)) _).mono ?_
    rintro e w2 ⟨rfl, hB2⟩
    rw [hput.out]
    have n2 := Box3.below n1 hB2 (by omega)
    have B2 := B1.trans (hB2.mono B1.size)
    have z2 : w1.heap.size < w2.heap.size := by have := hB2.size; omega
    go_wp2_with fail
    refine (NeedGet_any (needText nm kd vr) (by first | omega | (simp; done) | (simp; omega)) _).mono ?_
    rintro e w3 ⟨rfl, hB3⟩
    rw [hget.out]
    have n3 := Box3.below n2 hB3 (by omega)
    have B3 := B2.trans (hB3.mono B2.size)
    have z3 : w1.heap.size < w3.heap.size := by have := hB3.size; omega
    go_wp2_with fail
    obtain ⟨W3, hW3⟩ : ∃ X, (w3.alloc (.cells #[.string (mkB nm), .int .i64 kd, .string (mkB vr)] 23)) = X := ⟨_, rfl⟩
    have zW3 : W3.heap.size = w3.heap.size + 1 := by rw [← hW3]; simp
    have x4 : Box3 W3 w3.heap.size 23 (.string (mkB nm)) (.int .i64 kd) (.string (mkB vr)) := by rw [← hW3]; exact Box3.new _ _ _ _ _
    have n4 : Box3 W3 w1.heap.size 23 (.string (mkB nm)) (.int .i64 kd) (.string (mkB vr)) := by rw [← hW3]; exact n3.kept (World.grownBy_alloc _ _ none) (fun e => by cases e)
    have B4 : Below w.heap.size w W3 := by rw [← hW3]; exact B3.alloc B3.size _
    rw [hW3]
    clear hW3 n1 n2 n3 B1 B2 B3 hB1 hB2 hB3
    have p0 := n4.cell0
    have p1 := n4.cell1
    have p2 := n4.cell2
    have q0 := x4.cell0
    have q1 := x4.cell1
    have q2 := x4.cell2
    have zd : W3.drew.heap.size = W3.heap.size := rfl
    first
      | skip
        go_region_held3 (fun W' => W'.cell? ⟨w1.heap.size, 0, none⟩ = some (.string (mkB nm)) ∧ W'.cell? ⟨w1.heap.size, 1, none⟩ = some (.int .i64 kd) ∧ W'.cell? ⟨w1.heap.size, 2, none⟩ = some (.string (mkB vr)) ∧ W'.cell? ⟨w3.heap.size, 0, none⟩ = some (.string (mkB nm)) ∧ W'.cell? ⟨w3.heap.size, 1, none⟩ = some (.int .i64 kd) ∧ W'.cell? ⟨w3.heap.size, 2, none⟩ = some (.string (mkB vr))) (first | exact ⟨r70, r71, r72, t70, t71, t72⟩ | exact ⟨r60, r61, r62, t60, t61, t62⟩ | exact ⟨r50, r51, r52, t50, t51, t52⟩ | exact ⟨p0, p1, p2, q0, q1, q2⟩ | go_keep) (first
          | (go_at_call 10; refine (specNeedPut_any nm vr kd (by first | omega | (simp; done) | (simp; omega)) (by first | omega | (simp; done) | (simp; omega)) _).mono ?_; rintro e w5 ⟨rfl, hB5⟩; rw [hput.out]; have n5 := Box3.below (Box3.drew n4) hB5 (by omega); have x5 := Box3.below (Box3.drew x4) hB5 (by omega); have B5 := Below.trans B4.drew (hB5.mono (Below.size B4.drew)); have z5 : w3.heap.size < w5.heap.size := (by have := hB5.size; omega); have r50 := n5.cell0; have t50 := x5.cell0; have r51 := n5.cell1; have t51 := x5.cell1; have r52 := n5.cell2; have t52 := x5.cell2)
          | (go_at_call 11; refine (NeedOk_any nm vr kd (by first | omega | (simp; done) | (simp; omega)) (by first | omega | (simp; done) | (simp; omega)) _).mono ?_; rintro e w6 ⟨rfl, hB6⟩; rw [ho.out]; have n6 := Box3.below n5 hB6 (by omega); have x6 := Box3.below x5 hB6 (by omega); have B6 := Below.trans B5 (hB6.mono (Below.size B5)); have z6 : w3.heap.size < w6.heap.size := (by have := hB6.size; omega); have r60 := n6.cell0; have t60 := x6.cell0; have r61 := n6.cell1; have t61 := x6.cell1; have r62 := n6.cell2; have t62 := x6.cell2)
          | (go_at_call 12; refine (specNeedOk_any nm vr kd (by first | omega | (simp; done) | (simp; omega)) (by first | omega | (simp; done) | (simp; omega)) _).mono ?_; rintro e w7 ⟨rfl, hB7⟩; rw [ho.out]; have n7 := Box3.below n6 hB7 (by omega); have x7 := Box3.below x6 hB7 (by omega); have B7 := Below.trans B6 (hB7.mono (Below.size B6)); have z7 : w3.heap.size < w7.heap.size := (by have := hB7.size; omega); have r70 := n7.cell0; have t70 := x7.cell0; have r71 := n7.cell1; have t71 := x7.cell1; have r72 := n7.cell2; have t72 := x7.cell2))
      | fail
    all_goals
      try refine NoPanic.normal ?_
      have h7 := h1.belowN B7
      have hz7 := B7.size
      go_wp2_with fail
      refine (DrawNeedGet_any A1 n1 c1 _ h7).mono ?_
      rintro e w8 ⟨l, hl, rfl, hB8⟩
      have B8 := B7.trans (hB8.mono hz7)
      have hl2 : l.length ≤ 1099511627 := by omega
      clear n4 x4 n5 x5 n6 x6 n7 x7 hB5 hB6 hB7 hB8 B4 B5 B6 B7 p0 p1 p2 q0 q1 q2 r50 r51 r52 r60 r61 r62 r70 r71 r72 t50 t51 t52 t60 t61 t62 t70 t71 t72
      obtain ⟨a, k, v, hsh | hsh⟩ := shapeG l
      · obtain ⟨hsh, hok, hback⟩ := hsh
        replace hsh := Lib.hid hsh
        replace hback := Lib.hid hback
        replace hok := Lib.hid hok
        have hav : a.length ≤ 100 ∧ v.length ≤ 100 := by have h := hback.out; rw [needPut_is hok.out] at h; have h2 := congrArg List.length h; unfold needText at h2; simp only [List.length_append] at h2; omega
        go_wp2_with fail
        refine (NeedGet_any l hl2 _).mono ?_
        rintro e w9 ⟨rfl, hB9⟩
        rw [hsh.out]
        have B9 := B8.trans (hB9.mono B8.size)
        go_wp2_with fail
        obtain ⟨W9, hW9⟩ : ∃ X, (w9.alloc (.cells #[.string (mkB a), .int .i64 k, .string (mkB v)] 23)) = X := ⟨_, rfl⟩
        have zW9 : W9.heap.size = w9.heap.size + 1 := by rw [← hW9]; simp
        have y9 : Box3 W9 w9.heap.size 23 (.string (mkB a)) (.int .i64 k) (.string (mkB v)) := by rw [← hW9]; exact Box3.new _ _ _ _ _
        have B10 : Below w.heap.size w W9 := by rw [← hW9]; exact B9.alloc B9.size _
        rw [hW9]
        clear hW9 B9 hB9
        refine (specNeedGet_any l hl2 _).mono ?_
        rintro e w11 ⟨rfl, hB11⟩
        rw [hsh.out]
        have B11 := B10.trans (hB11.mono B10.size)
        have y11 := Box3.below y9 hB11 (by omega)
        have y12 : Box3 (w11.alloc (.cells #[.string (mkB a), .int .i64 k, .string (mkB v)] 23)) w9.heap.size 23 (.string (mkB a)) (.int .i64 k) (.string (mkB v)) := y11.kept (World.grownBy_alloc _ _ none) (fun e => by cases e)
        have y20 := y12.cell0
        have y21 := y12.cell1
        have y22 := y12.cell2
        go_wp2_with (go_at_call 9; refine (NeedPut_any a v k (by first | omega | (simp; done) | (simp; omega)) (by first | omega | (simp; done) | (simp; omega)) _).mono ?_; rintro e w13 ⟨rfl, hB13⟩; rw [hback.out])
        go_ret
        exact ⟨rfl, (B11.alloc B11.size _).trans (hB13.mono (by have := B11.size; simp; omega))⟩
      · replace hsh := Lib.hid hsh
        go_wp2_with fail
        refine (NeedGet_any l hl2 _).mono ?_
        rintro e w9 ⟨rfl, hB9⟩
        rw [hsh.out]
        have B9 := B8.trans (hB9.mono B8.size)
        go_wp2_with fail
        obtain ⟨W9, hW9⟩ : ∃ X, (w9.alloc (.cells #[.string (mkB a), .int .i64 k, .string (mkB v)] 23)) = X := ⟨_, rfl⟩
        have zW9 : W9.heap.size = w9.heap.size + 1 := by rw [← hW9]; simp
        have y9 : Box3 W9 w9.heap.size 23 (.string (mkB a)) (.int .i64 k) (.string (mkB v)) := by rw [← hW9]; exact Box3.new _ _ _ _ _
        have B10 : Below w.heap.size w W9 := by rw [← hW9]; exact B9.alloc B9.size _
        rw [hW9]
        clear hW9 B9 hB9
        refine (specNeedGet_any l hl2 _).mono ?_
        rintro e w11 ⟨rfl, hB11⟩
        rw [hsh.out]
        have B11 := B10.trans (hB11.mono B10.size)
        have y11 := Box3.below y9 hB11 (by omega)
        have y12 : Box3 (w11.alloc (.cells #[.string (mkB a), .int .i64 k, .string (mkB v)] 23)) w9.heap.size 23 (.string (mkB a)) (.int .i64 k) (.string (mkB v)) := y11.kept (World.grownBy_alloc _ _ none) (fun e => by cases e)
        have y20 := y12.cell0
        have y21 := y12.cell1
        have y22 := y12.cell2
        go_wp2
        go_ret
        exact ⟨rfl, B11.alloc B11.size _⟩
end Go.Proofs.YtdcfifhmldolhaaDoor
