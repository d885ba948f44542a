import Derived.Test.YtgokdcdicddccaaDoorTextP0
import Derived.OrdersHeld
namespace Go.Proofs.YtgokdcdicddccaaDoor
open Go.RowKit
set_option linter.unusedVariables false
set_option linter.unusedSimpArgs false
attribute [local go_sem] mkB_size mkB_extract mkB_get mkB_append mkB_append_raw raw_append_mkB mkB_toList
set_option maxRecDepth 1000000 in
set_option maxHeartbeats 400000 in
theorem l1Dec_small (n : Nat) (hn : n < 100) (w : World) :
    Calls Tryd.prog 51 #[.int .i64 n] w fun r w' => r = .returned (.string (mkB (dd n))) ∧ Below w.heap.size w w' := by
  by_cases h10 : n < 10
  · exact l1Dec_one n h10 w
  rw [dd_two n (by omega), dd_one (n % 10) (by omega)]
  have hq : ((n / 10 : Nat) : Int) = (n : Int) / 10 := by omega
  have hc1 : ∀ W, Calls Tryd.prog 51 #[.int .i64 ((n : Int) / 10)] W fun r w' => r = .returned (.string (mkB (dd (n / 10)))) ∧ Below W.heap.size W w' := fun W => by
    rw [← hq]; exact l1Dec_one (n / 10) (by omega) W
  have hl1 := dd_short (n / 10) (by omega)
  replace hc1 := Lib.hid hc1
  clear hq
  have hd : ((UInt8.ofNat (48 + n % 10)).toNat : Int) = 48 + (n : Int) % 10 := by
    rw [UInt8.toNat_ofNat']
    omega
  obtain ⟨d, hdd⟩ : ∃ d : UInt8, UInt8.ofNat (48 + n % 10) = d := ⟨_, rfl⟩
  rw [hdd] at hd ⊢
  clear hdd
  have hcv : ∀ (W : World) (B : Nat), W.cell? ⟨B, 0, none⟩ = some (.int .u8 (48 + (n : Int) % 10)) → (convert 46 9 (.slice (some ⟨B, 0, none⟩) 1 1)).run Tryd.prog W = .ok (.string (mkB [d])) W := fun W B hW => by
    refine run_convert_bytes_back _ _ _ 5 ⟨B, 0, none⟩ 1 [d] Tryd.underlying46 Tryd.underlying5 Tryd.underlying9 (fun j hj => ?_)
    obtain rfl : j = 0 := by simpa using hj
    rw [add_of_head, hW]
    simp only [List.getElem_cons_zero]
    rw [hd]
  replace hd := Lib.hid hd
  have hnI : ¬ (n : Int) < 10 := by omega
  have hw1 : IntKind.i64.wrap ((n : Int) / 10) = (n : Int) / 10 := by rw [IntKind.wrap_i64]; omega
  have hw2 : IntKind.u8.wrap (IntKind.i64.wrap (48 + (n : Int).tmod 10)) = 48 + (n : Int) % 10 := by
    rw [Int.tmod_eq_emod_of_nonneg (by omega)]
    rw [IntKind.wrap_i64]
    simp only [IntKind.wrap, IntKind.bits, IntKind.signed]
    simp
    omega
  go_enter Tryd.func51, Tryd.ntmps51
  go_wp2_with fail
  first | refine wp_region_noPanic ?_ | skip
  refine wp_region_held_drew (S := fun _ => True) (by kernel_rfl) ?_ (fun hHeld => ?_)
  · trivial
  refine wpAnyH_take (i := 0) (v := ?_) rfl (by kernel_rfl) (by kernel_rfl) (by kernel_rfl) (fun _ _ _ h => h) (Or.inl ⟨by rfl, ?_⟩) (by assumption) ?_
  rotate_left
  · (intro w hSw; (try dsimp only at hSw); go_simp; try with_reducible rfl)
  try simp only [Array.reduceGetElem, Act.put, List.setIfInBounds_toArray, List.set_cons_zero, List.set_cons_succ]
  refine wpAnyH_take (i := 1) (v := .int .i64 ((n : Int) / 10)) rfl (by kernel_rfl) (by kernel_rfl) (by kernel_rfl) (fun _ _ _ h => h) (Or.inl ⟨by rfl, ?_⟩) (by assumption) ?_
  · (intro w hSw; (try dsimp only at hSw); go_simp; (try rw [hw1]))
  try simp only [Array.reduceGetElem, Act.put, List.setIfInBounds_toArray, List.set_cons_zero, List.set_cons_succ]
  refine wpAnyH_take (i := 3) (v := ?_) rfl (by kernel_rfl) (by kernel_rfl) (by kernel_rfl) (fun _ _ _ h => h) (Or.inl ⟨by rfl, ?_⟩) (by assumption) ?_
  rotate_left
  · (intro w hSw; (try dsimp only at hSw); go_simp; try with_reducible rfl)
  try simp only [Array.reduceGetElem, Act.put, List.setIfInBounds_toArray, List.set_cons_zero, List.set_cons_succ]
  refine wpAnyH_take (i := 4) (v := ?_) rfl (by kernel_rfl) (by kernel_rfl) (by kernel_rfl) (fun _ _ _ h => h) (Or.inl ⟨by rfl, ?_⟩) (by assumption) ?_
  rotate_left
  · (intro w hSw; (try dsimp only at hSw); go_simp; try with_reducible rfl)
  try simp only [Array.reduceGetElem, Act.put, List.setIfInBounds_toArray, List.set_cons_zero, List.set_cons_succ]
  refine wpAnyH_take (i := 5) (v := ?_) rfl (by kernel_rfl) (by kernel_rfl) (by kernel_rfl) (fun _ _ _ h => h) (Or.inl ⟨by rfl, ?_⟩) (by assumption) ?_
  rotate_left
  · (intro w hSw; (try dsimp only at hSw); go_simp; try with_reducible rfl)
  try simp only [Array.reduceGetElem, Act.put, List.setIfInBounds_toArray, List.set_cons_zero, List.set_cons_succ]
  refine wpAnyH_take (i := 6) (v := .int .u8 (48 + (n : Int) % 10)) rfl (by kernel_rfl) (by kernel_rfl) (by kernel_rfl) (fun _ _ _ h => h) (Or.inl ⟨by rfl, ?_⟩) (by assumption) ?_
  · (intro w hSw; (try dsimp only at hSw); go_simp; (try rw [hw2]))
  try simp only [Array.reduceGetElem, Act.put, List.setIfInBounds_toArray, List.set_cons_zero, List.set_cons_succ]
  refine wpAnyH_ready (rs := [2, 7]) (by kernel_rfl) (by simp) ?_
  refine AllReadyH.cons rfl (fun K hK => ?_) (AllReadyH.cons rfl (fun K hK => ?_) (AllReadyH.nil))
  · go_simp
    go_at_call 51
    refine (hc1.out _).mono ?_
    rintro r w1 ⟨rfl, hB⟩
    have hB0 : Below w.heap.size w w1 := Below.trans (Below.refl _ w).drew (hB.mono (by simp))
    refine hK.out _ _ ?_ (fun hHeld => ?_)
    · first | trivial | (dsimp only; trivial)
    clear hK K
    try simp only [Array.reduceGetElem, Act.put, List.setIfInBounds_toArray, List.set_cons_zero, List.set_cons_succ]
    refine wpAnyH_ready (rs := [7]) (by kernel_rfl) (by simp) ?_
    refine AllReadyH.cons rfl (fun K hK => ?_) (AllReadyH.nil)
    · go_simp
      generalize hW : World.alloc _ _ = W
      have hWc : W.cell? ⟨w1.heap.size, 0, none⟩ = some (.int .u8 (48 + (n : Int) % 10)) := by rw [← hW, row_cell _ _ _ _ _ _ (World.alloc_heap_new _ _)]; rfl
      have hWB : Below w.heap.size w W := by rw [← hW]; exact hB0.alloc hB0.size _
      have hWz : w1.heap.size < W.heap.size := by rw [← hW]; simp
      clear hW
      refine hK.out _ _ ?_ (fun hHeld => ?_)
      · first | trivial | (dsimp only; trivial)
      clear hK K
      try simp only [Array.reduceGetElem, Act.put, List.setIfInBounds_toArray, List.set_cons_zero, List.set_cons_succ]
      have hcx := hcv W w1.heap.size hWc
      refine wpAnyH_ready (rs := [8]) (by kernel_rfl) (by simp) ?_
      refine AllReadyH.cons rfl (fun K hK => ?_) (AllReadyH.nil)
      · go_simp
        refine hK.out _ _ ?_ (fun hHeld => ?_)
        · first | trivial | (dsimp only; trivial)
        clear hK K
        try simp only [Array.reduceGetElem, Act.put, List.setIfInBounds_toArray, List.set_cons_zero, List.set_cons_succ]
        refine wpAnyH_take (i := 9) (v := .string (mkB (dd (n / 10) ++ [d]))) rfl (by kernel_rfl) (by kernel_rfl) (by kernel_rfl) (fun _ _ _ h => h) (Or.inl ⟨by rfl, ?_⟩) (by assumption) ?_
        · (intro w hSw; (try dsimp only at hSw); go_simp; first | omega | (rw [if_neg (by omega)]) | skip)
        try simp only [Array.reduceGetElem, Act.put, List.setIfInBounds_toArray, List.set_cons_zero, List.set_cons_succ]
        refine wpAnyH_take (i := 10) (v := ?_) rfl (by kernel_rfl) (by kernel_rfl) (by kernel_rfl) (fun _ _ _ h => h) (Or.inl ⟨by rfl, ?_⟩) (by assumption) ?_
        rotate_left
        · (intro w hSw; (try dsimp only at hSw); go_simp; try with_reducible rfl)
        try simp only [Array.reduceGetElem, Act.put, List.setIfInBounds_toArray, List.set_cons_zero, List.set_cons_succ]
        refine wpAnyH_done (by kernel_rfl) ?_ _
        try refine NoPanic.normal ?_
        (try dsimp only)
        go_wp2_with fail
        go_ret
        exact ⟨rfl, hWB⟩
  · go_simp
    generalize hW : World.alloc _ _ = W
    have hWc : W.cell? ⟨w.heap.size, 0, none⟩ = some (.int .u8 (48 + (n : Int) % 10)) := by rw [← hW, row_cell _ _ _ _ _ _ (World.alloc_heap_new _ _)]; rfl
    have hWB : Below w.heap.size w W := by rw [← hW]; exact (Below.refl _ w).alloc (Nat.le_refl _) _
    have hWz : w.heap.size < W.heap.size := by rw [← hW]; simp
    clear hW
    refine hK.out _ _ ?_ (fun hHeld => ?_)
    · first | trivial | (dsimp only; trivial)
    clear hK K
    try simp only [Array.reduceGetElem, Act.put, List.setIfInBounds_toArray, List.set_cons_zero, List.set_cons_succ]
    have hcx := hcv W.drew w.heap.size hWc
    refine wpAnyH_ready (rs := [2, 8]) (by kernel_rfl) (by simp) ?_
    refine AllReadyH.cons rfl (fun K hK => ?_) (AllReadyH.cons rfl (fun K hK => ?_) (AllReadyH.nil))
    · go_simp
      go_at_call 51
      refine (hc1.out _).mono ?_
      rintro r w1 ⟨rfl, hB⟩
      have hcx := hcv w1 w.heap.size ((cell_same (hB.block w.heap.size (by first | exact hWz | (simp; done) | (simp; exact hWz))) 0).trans hWc)
      have hB0 : Below w.heap.size w w1 := Below.trans hWB.drew (hB.mono (by first | exact Nat.le_of_lt hWz | (simp; exact Nat.le_of_lt hWz)))
      refine hK.out _ _ ?_ (fun hHeld => ?_)
      · first | trivial | (dsimp only; trivial)
      clear hK K
      try simp only [Array.reduceGetElem, Act.put, List.setIfInBounds_toArray, List.set_cons_zero, List.set_cons_succ]
      refine wpAnyH_ready (rs := [8]) (by kernel_rfl) (by simp) ?_
      refine AllReadyH.cons rfl (fun K hK => ?_) (AllReadyH.nil)
      · go_simp
        refine hK.out _ _ ?_ (fun hHeld => ?_)
        · first | trivial | (dsimp only; trivial)
        clear hK K
        try simp only [Array.reduceGetElem, Act.put, List.setIfInBounds_toArray, List.set_cons_zero, List.set_cons_succ]
        refine wpAnyH_take (i := 9) (v := .string (mkB (dd (n / 10) ++ [d]))) rfl (by kernel_rfl) (by kernel_rfl) (by kernel_rfl) (fun _ _ _ h => h) (Or.inl ⟨by rfl, ?_⟩) (by assumption) ?_
        · (intro w hSw; (try dsimp only at hSw); go_simp; first | omega | (rw [if_neg (by omega)]) | skip)
        try simp only [Array.reduceGetElem, Act.put, List.setIfInBounds_toArray, List.set_cons_zero, List.set_cons_succ]
        refine wpAnyH_take (i := 10) (v := ?_) rfl (by kernel_rfl) (by kernel_rfl) (by kernel_rfl) (fun _ _ _ h => h) (Or.inl ⟨by rfl, ?_⟩) (by assumption) ?_
        rotate_left
        · (intro w hSw; (try dsimp only at hSw); go_simp; try with_reducible rfl)
        try simp only [Array.reduceGetElem, Act.put, List.setIfInBounds_toArray, List.set_cons_zero, List.set_cons_succ]
        refine wpAnyH_done (by kernel_rfl) ?_ _
        try refine NoPanic.normal ?_
        (try dsimp only)
        go_wp2_with fail
        go_ret
        exact ⟨rfl, hB0⟩
    · go_simp
      refine hK.out _ _ ?_ (fun hHeld => ?_)
      · first | trivial | (dsimp only; trivial)
      clear hK K
      try simp only [Array.reduceGetElem, Act.put, List.setIfInBounds_toArray, List.set_cons_zero, List.set_cons_succ]
      clear hcx
      refine wpAnyH_ready (rs := [2]) (by kernel_rfl) (by simp) ?_
      refine AllReadyH.cons rfl (fun K hK => ?_) (AllReadyH.nil)
      · go_simp
        go_at_call 51
        refine (hc1.out _).mono ?_
        rintro r w1 ⟨rfl, hB⟩
        have hB0 : Below w.heap.size w w1 := Below.trans hWB.drew (hB.mono (by first | exact Nat.le_of_lt hWz | (simp; exact Nat.le_of_lt hWz)))
        refine hK.out _ _ ?_ (fun hHeld => ?_)
        · first | trivial | (dsimp only; trivial)
        clear hK K
        try simp only [Array.reduceGetElem, Act.put, List.setIfInBounds_toArray, List.set_cons_zero, List.set_cons_succ]
        refine wpAnyH_take (i := 9) (v := .string (mkB (dd (n / 10) ++ [d]))) rfl (by kernel_rfl) (by kernel_rfl) (by kernel_rfl) (fun _ _ _ h => h) (Or.inl ⟨by rfl, ?_⟩) (by assumption) ?_
        · (intro w hSw; (try dsimp only at hSw); go_simp; first | omega | (rw [if_neg (by omega)]) | skip)
        try simp only [Array.reduceGetElem, Act.put, List.setIfInBounds_toArray, List.set_cons_zero, List.set_cons_succ]
        refine wpAnyH_take (i := 10) (v := ?_) rfl (by kernel_rfl) (by kernel_rfl) (by kernel_rfl) (fun _ _ _ h => h) (Or.inl ⟨by rfl, ?_⟩) (by assumption) ?_
        rotate_left
        · (intro w hSw; (try dsimp only at hSw); go_simp; try with_reducible rfl)
        try simp only [Array.reduceGetElem, Act.put, List.setIfInBounds_toArray, List.set_cons_zero, List.set_cons_succ]
        refine wpAnyH_done (by kernel_rfl) ?_ _
        try refine NoPanic.normal ?_
        (try dsimp only)
        go_wp2_with fail
        go_ret
        exact ⟨rfl, hB0⟩

end Go.Proofs.YtgokdcdicddccaaDoor
