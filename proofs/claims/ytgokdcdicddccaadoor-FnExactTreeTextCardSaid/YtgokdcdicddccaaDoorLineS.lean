/-
  The reference's lines of a tree.
-/
import Derived.Test.YtgokdcdicddccaaDoorTextP
import Derived.Test.YtgokdcdicddccaaDoorTreeL
namespace Go.Proofs.YtgokdcdicddccaaDoor
open Go.RowKit
set_option linter.unusedVariables false
set_option linter.unusedSimpArgs false
attribute [local go_sem] mkB_size mkB_extract mkB_get mkB_append mkB_append_raw raw_append_mkB mkB_toList

/-- entries that a line can be written of -/
def Liney (e : En) : Prop := 0 ≤ e.mode ∧ e.mode ≤ 7 ∧ e.path.length ≤ 1048576 ∧ e.text.length ≤ 1048576 ∧ (¬ e.kind = 1 → ¬ e.kind = 3 → e.text.length < 100)
set_option maxRecDepth 1000000 in
set_option maxHeartbeats 8000000 in
theorem l2Line_any (e : En) (he : Liney e) (w : World) :
    Calls Tryd.prog 41 #[enV e] w fun r w' => r = .returned (.string (mkB (lineE e))) ∧ Below w.heap.size w w' := by
  obtain ⟨p, kd, md, tx⟩ := e
  obtain ⟨hm0, hm7, hp, ht, ht2⟩ := he
  dsimp only at hm0 hm7 hp ht ht2
  obtain ⟨m, rfl⟩ := Int.eq_ofNat_of_zero_le hm0
  have hmn : m < 10 := by omega
  clear hm0 hm7
  have hd1 := dd_short m (by omega)
  have hc1 := fun W => l1Dec_small m (by omega) W
  have htn : (m : Int).toNat = m := by simp
  obtain ⟨d1, hdd1⟩ : ∃ d, dd m = d := ⟨_, rfl⟩
  obtain ⟨d2, hdd2⟩ : ∃ d, dd tx.length = d := ⟨_, rfl⟩
  rw [hdd1] at hd1 hc1
  have hline : lineE ⟨p, kd, (m : Int), tx⟩ = if kd = 1 then [100, 105, 114, 32] ++ (d1 ++ ([32] ++ (p ++ [10]))) else if kd = 3 then [108, 105, 110, 107, 32] ++ (p ++ ([32] ++ (tx ++ [10]))) else [102, 105, 108, 101, 32] ++ (d1 ++ ([32] ++ (p ++ ([32] ++ (d2 ++ ([10] ++ (tx ++ [10]))))))) := by
    unfold lineE
    dsimp only
    rw [htn, hdd1, hdd2]
  rw [hline]
  clear hline htn hdd1
  replace hc1 := Lib.hid hc1
  replace hdd2 := Lib.hid hdd2
  replace ht2 := Lib.hid ht2
  by_cases h1 : kd = 1
  · subst h1
    rw [if_pos rfl]
    go_enter Tryd.func41, Tryd.ntmps41
    go_wp2_with fail
    obtain ⟨W0, hW0⟩ : ∃ X, (w.alloc (.cells #[.string (mkB p), .int .i64 1, .int .i64 m, .string (mkB tx)] 30)) = X := ⟨_, rfl⟩
    have b0 : Box4 W0 w.heap.size 30 (.string (mkB p)) (.int .i64 1) (.int .i64 m) (.string (mkB tx)) := by rw [← hW0]; exact Box4.new _ _ _ _ _ _
    have hlt0 := b0.lt
    have B0 : Below w.heap.size w W0 := by rw [← hW0]; exact (Below.refl _ w).alloc (Nat.le_refl _) _
    rw [hW0]
    clear hW0
    have p0 := b0.cell0; have p1 := b0.cell1; have p2 := b0.cell2; have p3 := b0.cell3
    first | refine wp_region_noPanic ?_ | skip
    refine wp_region_held_drew (S := (fun W' => W'.cell? ⟨w.heap.size, 0, none⟩ = some (.string (mkB p)) ∧ W'.cell? ⟨w.heap.size, 1, none⟩ = some (.int .i64 1) ∧ W'.cell? ⟨w.heap.size, 2, none⟩ = some (.int .i64 m) ∧ W'.cell? ⟨w.heap.size, 3, none⟩ = some (.string (mkB tx)))) (by kernel_rfl) ?_ (fun hHeld => ?_)
    · exact ⟨p0, p1, p2, p3⟩
    refine wpAnyH_take (i := 0) (v := ?_) rfl (by kernel_rfl) (by kernel_rfl) (by kernel_rfl) (fun _ _ _ h => h) (Or.inl ⟨by rfl, ?_⟩) (by assumption) ?_
    rotate_left
    · (intro w hSw; (try dsimp only at hSw); go_simp; try with_reducible rfl)
    try simp only [Array.reduceGetElem, Act.put, List.setIfInBounds_toArray, List.set_cons_zero, List.set_cons_succ]
    refine wpAnyH_take (i := 1) (v := ?_) rfl (by kernel_rfl) (by kernel_rfl) (by kernel_rfl) (fun _ _ _ h => h) (Or.inl ⟨by rfl, ?_⟩) (by assumption) ?_
    rotate_left
    · (intro w hSw; (try dsimp only at hSw); go_simp; try with_reducible rfl)
    try simp only [Array.reduceGetElem, Act.put, List.setIfInBounds_toArray, List.set_cons_zero, List.set_cons_succ]
    refine wpAnyH_take (i := 5) (v := ?_) rfl (by kernel_rfl) (by kernel_rfl) (by kernel_rfl) (fun _ _ _ h => h) (Or.inl ⟨by rfl, ?_⟩) (by assumption) ?_
    rotate_left
    · (intro w hSw; (try dsimp only at hSw); go_simp; try with_reducible rfl)
    try simp only [Array.reduceGetElem, Act.put, List.setIfInBounds_toArray, List.set_cons_zero, List.set_cons_succ]
    refine wpAnyH_take (i := 6) (v := ?_) rfl (by kernel_rfl) (by kernel_rfl) (by kernel_rfl) (fun _ _ _ h => h) (Or.inl ⟨by rfl, ?_⟩) (by assumption) ?_
    rotate_left
    · (intro w hSw; (try dsimp only at hSw); go_simp; try with_reducible rfl)
    try simp only [Array.reduceGetElem, Act.put, List.setIfInBounds_toArray, List.set_cons_zero, List.set_cons_succ]
    refine wpAnyH_ready (rs := [2]) (by kernel_rfl) (by simp) ?_
    refine AllReadyH.cons rfl (fun K hK => ?_) AllReadyH.nil
    go_simp
    go_at_call 51
    refine (hc1.out _).mono ?_
    rintro r w1 ⟨rfl, hBw1⟩
    have bw1 := Box4.below (Box4.drew b0) hBw1 (by first | exact hlt0 | simpa using hlt0)
    have hltw1 := bw1.lt
    have Bw1 := Below.trans B0.drew (hBw1.mono B0.drew.size)
    have q0 := bw1.cell0; have q1 := bw1.cell1; have q2 := bw1.cell2; have q3 := bw1.cell3
    refine hK.out _ _ ?_ (fun hHeld => ?_)
    · (try dsimp only); exact ⟨q0, q1, q2, q3⟩
    clear hK K
    try simp only [Array.reduceGetElem, Act.put, List.setIfInBounds_toArray, List.set_cons_zero, List.set_cons_succ]
    refine wpAnyH_take (i := 3) (v := .string (mkB ([100, 105, 114, 32] ++ d1))) rfl (by kernel_rfl) (by kernel_rfl) (by kernel_rfl) (fun _ _ _ h => h) (Or.inl ⟨by rfl, ?_⟩) (by assumption) ?_
    · (intro w hSw; (try dsimp only at hSw); go_simp; try (first | omega | (rw [if_neg (by first | omega | (simp only [List.length_append, List.length_cons, List.length_nil]; omega))]) | (simp only [List.length_append, List.length_cons, List.length_nil]; omega)))
    try simp only [Array.reduceGetElem, Act.put, List.setIfInBounds_toArray, List.set_cons_zero, List.set_cons_succ]
    refine wpAnyH_take (i := 4) (v := .string (mkB ([100, 105, 114, 32] ++ (d1 ++ [32])))) rfl (by kernel_rfl) (by kernel_rfl) (by kernel_rfl) (fun _ _ _ h => h) (Or.inl ⟨by rfl, ?_⟩) (by assumption) ?_
    · (intro w hSw; (try dsimp only at hSw); go_simp; try (first | omega | (rw [if_neg (by first | omega | (simp only [List.length_append, List.length_cons, List.length_nil]; omega))]) | (simp only [List.length_append, List.length_cons, List.length_nil]; omega)))
    try simp only [Array.reduceGetElem, Act.put, List.setIfInBounds_toArray, List.set_cons_zero, List.set_cons_succ]
    refine wpAnyH_take (i := 7) (v := .string (mkB ([100, 105, 114, 32] ++ (d1 ++ ([32] ++ p))))) rfl (by kernel_rfl) (by kernel_rfl) (by kernel_rfl) (fun _ _ _ h => h) (Or.inl ⟨by rfl, ?_⟩) (by assumption) ?_
    · (intro w hSw; (try dsimp only at hSw); go_simp; try (first | omega | (rw [if_neg (by first | omega | (simp only [List.length_append, List.length_cons, List.length_nil]; omega))]) | (simp only [List.length_append, List.length_cons, List.length_nil]; omega)))
    try simp only [Array.reduceGetElem, Act.put, List.setIfInBounds_toArray, List.set_cons_zero, List.set_cons_succ]
    refine wpAnyH_take (i := 8) (v := .string (mkB ([100, 105, 114, 32] ++ (d1 ++ ([32] ++ (p ++ [10])))))) rfl (by kernel_rfl) (by kernel_rfl) (by kernel_rfl) (fun _ _ _ h => h) (Or.inl ⟨by rfl, ?_⟩) (by assumption) ?_
    · (intro w hSw; (try dsimp only at hSw); go_simp; try (first | omega | (rw [if_neg (by first | omega | (simp only [List.length_append, List.length_cons, List.length_nil]; omega))]) | (simp only [List.length_append, List.length_cons, List.length_nil]; omega)))
    try simp only [Array.reduceGetElem, Act.put, List.setIfInBounds_toArray, List.set_cons_zero, List.set_cons_succ]
    refine wpAnyH_take (i := 9) (v := ?_) rfl (by kernel_rfl) (by kernel_rfl) (by kernel_rfl) (fun _ _ _ h => h) (Or.inl ⟨by rfl, ?_⟩) (by assumption) ?_
    rotate_left
    · (intro w hSw; (try dsimp only at hSw); go_simp; try with_reducible rfl)
    try simp only [Array.reduceGetElem, Act.put, List.setIfInBounds_toArray, List.set_cons_zero, List.set_cons_succ]
    refine wpAnyH_done (by kernel_rfl) ?_ _
    try refine NoPanic.normal ?_
    (try dsimp only)
    go_wp2_with fail
    go_ret
    exact ⟨rfl, Bw1⟩
  rw [if_neg h1]
  by_cases h3 : kd = 3
  · subst h3
    rw [if_pos rfl]
    go_enter Tryd.func41, Tryd.ntmps41
    go_wp2
    all_goals go_ret
    all_goals exact ⟨rfl, (Below.refl _ w).alloc (Nat.le_refl _) _⟩
  rw [if_neg h3]
  replace ht2 := ht2.out h1 h3
  have hd2 := dd_short tx.length ht2
  have hc2 := fun W => l1Dec_small tx.length ht2 W
  rw [hdd2.out] at hd2 hc2
  clear hdd2
  replace hc2 := Lib.hid hc2
  go_enter Tryd.func41, Tryd.ntmps41
  go_wp2_with fail
  obtain ⟨W0, hW0⟩ : ∃ X, (w.alloc (.cells #[.string (mkB p), .int .i64 kd, .int .i64 m, .string (mkB tx)] 30)) = X := ⟨_, rfl⟩
  have b0 : Box4 W0 w.heap.size 30 (.string (mkB p)) (.int .i64 kd) (.int .i64 m) (.string (mkB tx)) := by rw [← hW0]; exact Box4.new _ _ _ _ _ _
  have hlt0 := b0.lt
  have B0 : Below w.heap.size w W0 := by rw [← hW0]; exact (Below.refl _ w).alloc (Nat.le_refl _) _
  rw [hW0]
  clear hW0
  have p0 := b0.cell0; have p1 := b0.cell1; have p2 := b0.cell2; have p3 := b0.cell3
  first | refine wp_region_noPanic ?_ | skip
  refine wp_region_held_drew (S := (fun W' => W'.cell? ⟨w.heap.size, 0, none⟩ = some (.string (mkB p)) ∧ W'.cell? ⟨w.heap.size, 1, none⟩ = some (.int .i64 kd) ∧ W'.cell? ⟨w.heap.size, 2, none⟩ = some (.int .i64 m) ∧ W'.cell? ⟨w.heap.size, 3, none⟩ = some (.string (mkB tx)))) (by kernel_rfl) ?_ (fun hHeld => ?_)
  · exact ⟨p0, p1, p2, p3⟩
  refine wpAnyH_take (i := 0) (v := ?_) rfl (by kernel_rfl) (by kernel_rfl) (by kernel_rfl) (fun _ _ _ h => h) (Or.inl ⟨by rfl, ?_⟩) (by assumption) ?_
  rotate_left
  · (intro w hSw; (try dsimp only at hSw); go_simp; try with_reducible rfl)
  try simp only [Array.reduceGetElem, Act.put, List.setIfInBounds_toArray, List.set_cons_zero, List.set_cons_succ]
  refine wpAnyH_take (i := 1) (v := ?_) rfl (by kernel_rfl) (by kernel_rfl) (by kernel_rfl) (fun _ _ _ h => h) (Or.inl ⟨by rfl, ?_⟩) (by assumption) ?_
  rotate_left
  · (intro w hSw; (try dsimp only at hSw); go_simp; try with_reducible rfl)
  try simp only [Array.reduceGetElem, Act.put, List.setIfInBounds_toArray, List.set_cons_zero, List.set_cons_succ]
  refine wpAnyH_take (i := 5) (v := ?_) rfl (by kernel_rfl) (by kernel_rfl) (by kernel_rfl) (fun _ _ _ h => h) (Or.inl ⟨by rfl, ?_⟩) (by assumption) ?_
  rotate_left
  · (intro w hSw; (try dsimp only at hSw); go_simp; try with_reducible rfl)
  try simp only [Array.reduceGetElem, Act.put, List.setIfInBounds_toArray, List.set_cons_zero, List.set_cons_succ]
  refine wpAnyH_take (i := 6) (v := ?_) rfl (by kernel_rfl) (by kernel_rfl) (by kernel_rfl) (fun _ _ _ h => h) (Or.inl ⟨by rfl, ?_⟩) (by assumption) ?_
  rotate_left
  · (intro w hSw; (try dsimp only at hSw); go_simp; try with_reducible rfl)
  try simp only [Array.reduceGetElem, Act.put, List.setIfInBounds_toArray, List.set_cons_zero, List.set_cons_succ]
  refine wpAnyH_take (i := 9) (v := ?_) rfl (by kernel_rfl) (by kernel_rfl) (by kernel_rfl) (fun _ _ _ h => h) (Or.inl ⟨by rfl, ?_⟩) (by assumption) ?_
  rotate_left
  · (intro w hSw; (try dsimp only at hSw); go_simp; try with_reducible rfl)
  try simp only [Array.reduceGetElem, Act.put, List.setIfInBounds_toArray, List.set_cons_zero, List.set_cons_succ]
  refine wpAnyH_take (i := 10) (v := ?_) rfl (by kernel_rfl) (by kernel_rfl) (by kernel_rfl) (fun _ _ _ h => h) (Or.inl ⟨by rfl, ?_⟩) (by assumption) ?_
  rotate_left
  · (intro w hSw; (try dsimp only at hSw); go_simp; try with_reducible rfl)
  try simp only [Array.reduceGetElem, Act.put, List.setIfInBounds_toArray, List.set_cons_zero, List.set_cons_succ]
  refine wpAnyH_take (i := 11) (v := ?_) rfl (by kernel_rfl) (by kernel_rfl) (by kernel_rfl) (fun _ _ _ h => h) (Or.inl ⟨by rfl, ?_⟩) (by assumption) ?_
  rotate_left
  · (intro w hSw; (try dsimp only at hSw); go_simp; try with_reducible rfl)
  try simp only [Array.reduceGetElem, Act.put, List.setIfInBounds_toArray, List.set_cons_zero, List.set_cons_succ]
  refine wpAnyH_take (i := 15) (v := ?_) rfl (by kernel_rfl) (by kernel_rfl) (by kernel_rfl) (fun _ _ _ h => h) (Or.inl ⟨by rfl, ?_⟩) (by assumption) ?_
  rotate_left
  · (intro w hSw; (try dsimp only at hSw); go_simp; try with_reducible rfl)
  try simp only [Array.reduceGetElem, Act.put, List.setIfInBounds_toArray, List.set_cons_zero, List.set_cons_succ]
  refine wpAnyH_take (i := 16) (v := ?_) rfl (by kernel_rfl) (by kernel_rfl) (by kernel_rfl) (fun _ _ _ h => h) (Or.inl ⟨by rfl, ?_⟩) (by assumption) ?_
  rotate_left
  · (intro w hSw; (try dsimp only at hSw); go_simp; try with_reducible rfl)
  try simp only [Array.reduceGetElem, Act.put, List.setIfInBounds_toArray, List.set_cons_zero, List.set_cons_succ]
  refine wpAnyH_ready (rs := [2]) (by kernel_rfl) (by simp) ?_
  refine AllReadyH.cons rfl (fun K hK => ?_) AllReadyH.nil
  go_simp
  go_at_call 51
  refine (hc1.out _).mono ?_
  rintro r w1 ⟨rfl, hBw1⟩
  have bw1 := Box4.below (Box4.drew b0) hBw1 (by first | exact hlt0 | simpa using hlt0)
  have hltw1 := bw1.lt
  have Bw1 := Below.trans B0.drew (hBw1.mono B0.drew.size)
  have q0 := bw1.cell0; have q1 := bw1.cell1; have q2 := bw1.cell2; have q3 := bw1.cell3
  refine hK.out _ _ ?_ (fun hHeld => ?_)
  · (try dsimp only); exact ⟨q0, q1, q2, q3⟩
  clear hK K
  try simp only [Array.reduceGetElem, Act.put, List.setIfInBounds_toArray, List.set_cons_zero, List.set_cons_succ]
  refine wpAnyH_take (i := 3) (v := .string (mkB ([102, 105, 108, 101, 32] ++ d1))) rfl (by kernel_rfl) (by kernel_rfl) (by kernel_rfl) (fun _ _ _ h => h) (Or.inl ⟨by rfl, ?_⟩) (by assumption) ?_
  · (intro w hSw; (try dsimp only at hSw); go_simp; try (first | omega | (rw [if_neg (by first | omega | (simp only [List.length_append, List.length_cons, List.length_nil]; omega))]) | (simp only [List.length_append, List.length_cons, List.length_nil]; omega)))
  try simp only [Array.reduceGetElem, Act.put, List.setIfInBounds_toArray, List.set_cons_zero, List.set_cons_succ]
  refine wpAnyH_take (i := 4) (v := .string (mkB ([102, 105, 108, 101, 32] ++ (d1 ++ [32])))) rfl (by kernel_rfl) (by kernel_rfl) (by kernel_rfl) (fun _ _ _ h => h) (Or.inl ⟨by rfl, ?_⟩) (by assumption) ?_
  · (intro w hSw; (try dsimp only at hSw); go_simp; try (first | omega | (rw [if_neg (by first | omega | (simp only [List.length_append, List.length_cons, List.length_nil]; omega))]) | (simp only [List.length_append, List.length_cons, List.length_nil]; omega)))
  try simp only [Array.reduceGetElem, Act.put, List.setIfInBounds_toArray, List.set_cons_zero, List.set_cons_succ]
  refine wpAnyH_take (i := 7) (v := .string (mkB ([102, 105, 108, 101, 32] ++ (d1 ++ ([32] ++ p))))) rfl (by kernel_rfl) (by kernel_rfl) (by kernel_rfl) (fun _ _ _ h => h) (Or.inl ⟨by rfl, ?_⟩) (by assumption) ?_
  · (intro w hSw; (try dsimp only at hSw); go_simp; try (first | omega | (rw [if_neg (by first | omega | (simp only [List.length_append, List.length_cons, List.length_nil]; omega))]) | (simp only [List.length_append, List.length_cons, List.length_nil]; omega)))
  try simp only [Array.reduceGetElem, Act.put, List.setIfInBounds_toArray, List.set_cons_zero, List.set_cons_succ]
  refine wpAnyH_take (i := 8) (v := .string (mkB ([102, 105, 108, 101, 32] ++ (d1 ++ ([32] ++ (p ++ [32])))))) rfl (by kernel_rfl) (by kernel_rfl) (by kernel_rfl) (fun _ _ _ h => h) (Or.inl ⟨by rfl, ?_⟩) (by assumption) ?_
  · (intro w hSw; (try dsimp only at hSw); go_simp; try (first | omega | (rw [if_neg (by first | omega | (simp only [List.length_append, List.length_cons, List.length_nil]; omega))]) | (simp only [List.length_append, List.length_cons, List.length_nil]; omega)))
  try simp only [Array.reduceGetElem, Act.put, List.setIfInBounds_toArray, List.set_cons_zero, List.set_cons_succ]
  refine wpAnyH_ready (rs := [12]) (by kernel_rfl) (by simp) ?_
  refine AllReadyH.cons rfl (fun K hK => ?_) AllReadyH.nil
  go_simp
  go_at_call 51
  refine (hc2.out _).mono ?_
  rintro r w2 ⟨rfl, hBw2⟩
  have bw2 := Box4.below bw1 hBw2 hltw1
  have hltw2 := bw2.lt
  have Bw2 := Below.trans Bw1 (hBw2.mono Bw1.size)
  have q0 := bw2.cell0; have q1 := bw2.cell1; have q2 := bw2.cell2; have q3 := bw2.cell3
  refine hK.out _ _ ?_ (fun hHeld => ?_)
  · (try dsimp only); exact ⟨q0, q1, q2, q3⟩
  clear hK K
  try simp only [Array.reduceGetElem, Act.put, List.setIfInBounds_toArray, List.set_cons_zero, List.set_cons_succ]
  refine wpAnyH_take (i := 13) (v := .string (mkB ([102, 105, 108, 101, 32] ++ (d1 ++ ([32] ++ (p ++ ([32] ++ d2))))))) rfl (by kernel_rfl) (by kernel_rfl) (by kernel_rfl) (fun _ _ _ h => h) (Or.inl ⟨by rfl, ?_⟩) (by assumption) ?_
  · (intro w hSw; (try dsimp only at hSw); go_simp; try (first | omega | (rw [if_neg (by first | omega | (simp only [List.length_append, List.length_cons, List.length_nil]; omega))]) | (simp only [List.length_append, List.length_cons, List.length_nil]; omega)))
  try simp only [Array.reduceGetElem, Act.put, List.setIfInBounds_toArray, List.set_cons_zero, List.set_cons_succ]
  refine wpAnyH_take (i := 14) (v := .string (mkB ([102, 105, 108, 101, 32] ++ (d1 ++ ([32] ++ (p ++ ([32] ++ (d2 ++ [10])))))))) rfl (by kernel_rfl) (by kernel_rfl) (by kernel_rfl) (fun _ _ _ h => h) (Or.inl ⟨by rfl, ?_⟩) (by assumption) ?_
  · (intro w hSw; (try dsimp only at hSw); go_simp; try (first | omega | (rw [if_neg (by first | omega | (simp only [List.length_append, List.length_cons, List.length_nil]; omega))]) | (simp only [List.length_append, List.length_cons, List.length_nil]; omega)))
  try simp only [Array.reduceGetElem, Act.put, List.setIfInBounds_toArray, List.set_cons_zero, List.set_cons_succ]
  refine wpAnyH_take (i := 17) (v := .string (mkB ([102, 105, 108, 101, 32] ++ (d1 ++ ([32] ++ (p ++ ([32] ++ (d2 ++ ([10] ++ tx))))))))) rfl (by kernel_rfl) (by kernel_rfl) (by kernel_rfl) (fun _ _ _ h => h) (Or.inl ⟨by rfl, ?_⟩) (by assumption) ?_
  · (intro w hSw; (try dsimp only at hSw); go_simp; try (first | omega | (rw [if_neg (by first | omega | (simp only [List.length_append, List.length_cons, List.length_nil]; omega))]) | (simp only [List.length_append, List.length_cons, List.length_nil]; omega)))
  try simp only [Array.reduceGetElem, Act.put, List.setIfInBounds_toArray, List.set_cons_zero, List.set_cons_succ]
  refine wpAnyH_take (i := 18) (v := .string (mkB ([102, 105, 108, 101, 32] ++ (d1 ++ ([32] ++ (p ++ ([32] ++ (d2 ++ ([10] ++ (tx ++ [10])))))))))) rfl (by kernel_rfl) (by kernel_rfl) (by kernel_rfl) (fun _ _ _ h => h) (Or.inl ⟨by rfl, ?_⟩) (by assumption) ?_
  · (intro w hSw; (try dsimp only at hSw); go_simp; try (first | omega | (rw [if_neg (by first | omega | (simp only [List.length_append, List.length_cons, List.length_nil]; omega))]) | (simp only [List.length_append, List.length_cons, List.length_nil]; omega)))
  try simp only [Array.reduceGetElem, Act.put, List.setIfInBounds_toArray, List.set_cons_zero, List.set_cons_succ]
  refine wpAnyH_take (i := 19) (v := ?_) rfl (by kernel_rfl) (by kernel_rfl) (by kernel_rfl) (fun _ _ _ h => h) (Or.inl ⟨by rfl, ?_⟩) (by assumption) ?_
  rotate_left
  · (intro w hSw; (try dsimp only at hSw); go_simp; try with_reducible rfl)
  try simp only [Array.reduceGetElem, Act.put, List.setIfInBounds_toArray, List.set_cons_zero, List.set_cons_succ]
  refine wpAnyH_done (by kernel_rfl) ?_ _
  try refine NoPanic.normal ?_
  (try dsimp only)
  go_wp2_with fail
  go_ret
  exact ⟨rfl, Bw2⟩
end Go.Proofs.YtgokdcdicddccaaDoor
