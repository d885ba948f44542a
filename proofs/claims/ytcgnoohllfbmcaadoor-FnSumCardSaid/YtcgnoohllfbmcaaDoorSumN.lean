/-
  The walks of the reference's l2Figures and Sum.
-/
import Derived.Test.YtcgnoohllfbmcaaDoorSumM
namespace Go.Proofs.YtcgnoohllfbmcaaDoor
open Go.RowKit
set_option linter.unusedVariables false
set_option linter.unusedSimpArgs false
attribute [local go_sem] mkB_size mkB_extract

theorem fig8_0 (w : World) : (Instr.index 9 (.string { data := #[48, 49, 50, 51, 52, 53, 54, 55, 56, 57, 97, 98, 99, 100, 101, 102] }) (.int .u8 ((0 : Nat) : Int))).run Tryd.prog w = .ok (.int .u8 ((hexD 0).toNat : Int)) w := by kernel_rfl
theorem fig8_1 (w : World) : (Instr.index 9 (.string { data := #[48, 49, 50, 51, 52, 53, 54, 55, 56, 57, 97, 98, 99, 100, 101, 102] }) (.int .u8 ((1 : Nat) : Int))).run Tryd.prog w = .ok (.int .u8 ((hexD 1).toNat : Int)) w := by kernel_rfl
theorem fig8_2 (w : World) : (Instr.index 9 (.string { data := #[48, 49, 50, 51, 52, 53, 54, 55, 56, 57, 97, 98, 99, 100, 101, 102] }) (.int .u8 ((2 : Nat) : Int))).run Tryd.prog w = .ok (.int .u8 ((hexD 2).toNat : Int)) w := by kernel_rfl
theorem fig8_3 (w : World) : (Instr.index 9 (.string { data := #[48, 49, 50, 51, 52, 53, 54, 55, 56, 57, 97, 98, 99, 100, 101, 102] }) (.int .u8 ((3 : Nat) : Int))).run Tryd.prog w = .ok (.int .u8 ((hexD 3).toNat : Int)) w := by kernel_rfl
theorem fig8_4 (w : World) : (Instr.index 9 (.string { data := #[48, 49, 50, 51, 52, 53, 54, 55, 56, 57, 97, 98, 99, 100, 101, 102] }) (.int .u8 ((4 : Nat) : Int))).run Tryd.prog w = .ok (.int .u8 ((hexD 4).toNat : Int)) w := by kernel_rfl
theorem fig8_5 (w : World) : (Instr.index 9 (.string { data := #[48, 49, 50, 51, 52, 53, 54, 55, 56, 57, 97, 98, 99, 100, 101, 102] }) (.int .u8 ((5 : Nat) : Int))).run Tryd.prog w = .ok (.int .u8 ((hexD 5).toNat : Int)) w := by kernel_rfl
theorem fig8_6 (w : World) : (Instr.index 9 (.string { data := #[48, 49, 50, 51, 52, 53, 54, 55, 56, 57, 97, 98, 99, 100, 101, 102] }) (.int .u8 ((6 : Nat) : Int))).run Tryd.prog w = .ok (.int .u8 ((hexD 6).toNat : Int)) w := by kernel_rfl
theorem fig8_7 (w : World) : (Instr.index 9 (.string { data := #[48, 49, 50, 51, 52, 53, 54, 55, 56, 57, 97, 98, 99, 100, 101, 102] }) (.int .u8 ((7 : Nat) : Int))).run Tryd.prog w = .ok (.int .u8 ((hexD 7).toNat : Int)) w := by kernel_rfl
theorem fig8_8 (w : World) : (Instr.index 9 (.string { data := #[48, 49, 50, 51, 52, 53, 54, 55, 56, 57, 97, 98, 99, 100, 101, 102] }) (.int .u8 ((8 : Nat) : Int))).run Tryd.prog w = .ok (.int .u8 ((hexD 8).toNat : Int)) w := by kernel_rfl
theorem fig8_9 (w : World) : (Instr.index 9 (.string { data := #[48, 49, 50, 51, 52, 53, 54, 55, 56, 57, 97, 98, 99, 100, 101, 102] }) (.int .u8 ((9 : Nat) : Int))).run Tryd.prog w = .ok (.int .u8 ((hexD 9).toNat : Int)) w := by kernel_rfl
theorem fig8_10 (w : World) : (Instr.index 9 (.string { data := #[48, 49, 50, 51, 52, 53, 54, 55, 56, 57, 97, 98, 99, 100, 101, 102] }) (.int .u8 ((10 : Nat) : Int))).run Tryd.prog w = .ok (.int .u8 ((hexD 10).toNat : Int)) w := by kernel_rfl
theorem fig8_11 (w : World) : (Instr.index 9 (.string { data := #[48, 49, 50, 51, 52, 53, 54, 55, 56, 57, 97, 98, 99, 100, 101, 102] }) (.int .u8 ((11 : Nat) : Int))).run Tryd.prog w = .ok (.int .u8 ((hexD 11).toNat : Int)) w := by kernel_rfl
theorem fig8_12 (w : World) : (Instr.index 9 (.string { data := #[48, 49, 50, 51, 52, 53, 54, 55, 56, 57, 97, 98, 99, 100, 101, 102] }) (.int .u8 ((12 : Nat) : Int))).run Tryd.prog w = .ok (.int .u8 ((hexD 12).toNat : Int)) w := by kernel_rfl
theorem fig8_13 (w : World) : (Instr.index 9 (.string { data := #[48, 49, 50, 51, 52, 53, 54, 55, 56, 57, 97, 98, 99, 100, 101, 102] }) (.int .u8 ((13 : Nat) : Int))).run Tryd.prog w = .ok (.int .u8 ((hexD 13).toNat : Int)) w := by kernel_rfl
theorem fig8_14 (w : World) : (Instr.index 9 (.string { data := #[48, 49, 50, 51, 52, 53, 54, 55, 56, 57, 97, 98, 99, 100, 101, 102] }) (.int .u8 ((14 : Nat) : Int))).run Tryd.prog w = .ok (.int .u8 ((hexD 14).toNat : Int)) w := by kernel_rfl
theorem fig8_15 (w : World) : (Instr.index 9 (.string { data := #[48, 49, 50, 51, 52, 53, 54, 55, 56, 57, 97, 98, 99, 100, 101, 102] }) (.int .u8 ((15 : Nat) : Int))).run Tryd.prog w = .ok (.int .u8 ((hexD 15).toNat : Int)) w := by kernel_rfl
theorem fig8_at {q : Nat} (h : q < 16) (w : World) : (Instr.index 9 (.string { data := #[48, 49, 50, 51, 52, 53, 54, 55, 56, 57, 97, 98, 99, 100, 101, 102] }) (.int .u8 (q : Int))).run Tryd.prog w = .ok (.int .u8 ((hexD q).toNat : Int)) w := by
  have hc : q = 0 ∨ q = 1 ∨ q = 2 ∨ q = 3 ∨ q = 4 ∨ q = 5 ∨ q = 6 ∨ q = 7 ∨ q = 8 ∨ q = 9 ∨ q = 10 ∨ q = 11 ∨ q = 12 ∨ q = 13 ∨ q = 14 ∨ q = 15 := by omega
  rcases hc with rfl | rfl | rfl | rfl | rfl | rfl | rfl | rfl | rfl | rfl | rfl | rfl | rfl | rfl | rfl | rfl
  · exact fig8_0 w
  · exact fig8_1 w
  · exact fig8_2 w
  · exact fig8_3 w
  · exact fig8_4 w
  · exact fig8_5 w
  · exact fig8_6 w
  · exact fig8_7 w
  · exact fig8_8 w
  · exact fig8_9 w
  · exact fig8_10 w
  · exact fig8_11 w
  · exact fig8_12 w
  · exact fig8_13 w
  · exact fig8_14 w
  · exact fig8_15 w
theorem idxB_at (bs : List UInt8) {i : Nat} (h : i < bs.length) (w : World) : (Instr.index 9 (.string (mkB bs)) (.int .i64 (i : Int))).run Tryd.prog w = .ok (.int .u8 ((bs.getD i 0).toNat : Int)) w := by
  have hs : (mkB bs).size = bs.length := mkB_size bs
  rw [run_index_string _ _ _ _ _ Tryd.underlying9, dif_pos ⟨by omega, by omega⟩]
  simp only [Int.toNat_natCast]
  rw [show (mkB bs)[i]'(by omega) = bs[i] from rfl, List.getD_eq_getElem?_getD, List.getElem?_eq_getElem h]
  rfl
theorem figs_take (bs : List UInt8) {i : Nat} (h : i < bs.length) : figs (bs.take (i + 1)) = figs (bs.take i) ++ [hexD ((bs.getD i 0).toNat / 16), hexD ((bs.getD i 0).toNat % 16)] := by
  rw [List.take_succ_eq_append_getElem h, figs_append, List.getD_eq_getElem?_getD, List.getElem?_eq_getElem h]; rfl
theorem figs_len (bs : List UInt8) : (figs bs).length = 2 * bs.length := by
  induction bs with
  | nil => rfl
  | cons b r ih => rw [show b :: r = [b] ++ r from rfl, figs_append, List.length_append, ih, List.length_append]; show 2 + _ = 2 * (1 + _); omega
set_option maxRecDepth 1000000 in
set_option maxHeartbeats 16000000 in
theorem l2Figures_any (bs : List UInt8) (hb : bs.length ≤ 1000) (w : World) :
    Calls Tryd.prog 8 #[.string (mkB bs)] w fun e w' => e = .returned (.string (mkB (figs bs))) ∧ Below w.heap.size w w' := by
  obtain ⟨i0, hi0, hz0, hz1, hz2⟩ := info_parts infoByte
  go_enter Tryd.func8, Tryd.ntmps8
  go_wp2
  have hO := RowV.lit w 5 [] (by decide) (A := #[]) rfl
  have hC : Below w.heap.size w (w.alloc (.cells #[] 5)) := (Below.refl _ _).alloc (Nat.le_refl _) _
  refine wp_name (fun w7 hw7 => ?_)
  rw [hw7] at hO hC
  clear hw7
  replace hO : Hid (RowV w7 5 w.heap.size w.heap.size 0 ((figs (bs.take 0)).map bV)) := Lib.hid hO
  go_loopw [4, 5] (fun dv iv wr => ∃ i g cap, i ≤ bs.length ∧ iv = .int .i64 (i : Nat) ∧ dv = .slice (some ⟨g, 0, none⟩) (2 * i) cap ∧ Hid (RowV wr 5 w.heap.size g cap ((figs (bs.take i)).map bV)) ∧ Below w.heap.size w wr) (fun _ iv _ => bs.length - (intOf iv).toNat)
  case atStart => exact ⟨0, w.heap.size, 0, by omega, rfl, rfl, hO, hC⟩
  case round =>
    clear hO hC
    obtain ⟨i, g, cap, hi, hiv, rfl, hO, hC⟩ := hrel
    subst hiv
    by_cases hlt : i < bs.length
    · have hiI : (i : Int) < (bs.length : Int) := by omega
      have hix := idxB_at bs hlt
      have hnx := figs_take bs hlt
      obtain ⟨c, hc⟩ : ∃ c, bs.getD i 0 = c := ⟨_, rfl⟩
      rw [hc] at hnx hix
      clear hc
      have hcl := c.toNat_lt
      obtain ⟨p, hp⟩ : ∃ p, c.toNat / 16 = p := ⟨_, rfl⟩
      obtain ⟨q, hq⟩ : ∃ q, c.toNat % 16 = q := ⟨_, rfl⟩
      have hf1 := fig8_at (show p < 16 by omega)
      have hf2 := fig8_at (show q < 16 by omega)
      have hq1 : ((c.toNat : Int)).tdiv 16 = (p : Int) := by rw [Int.tdiv_eq_ediv_of_nonneg (by omega)]; omega
      have hq2 : ((c.toNat : Int)).tmod 16 = (q : Int) := by rw [Int.tmod_eq_emod_of_nonneg (by omega)]; omega
      have hq3 : (c.toNat : Int) / 16 = (p : Int) := by omega
      have hq4 : (c.toNat : Int) % 16 = (q : Int) := by omega
      have hpw : IntKind.u8.wrap (p : Int) = (p : Int) := by rw [IntKind.wrap_u8']; omega
      have hqw : IntKind.u8.wrap (q : Int) = (q : Int) := by rw [IntKind.wrap_u8']; omega
      rw [hp, hq] at hnx
      have hkl : ((figs (bs.take i)).map bV).length = 2 * i := by rw [List.length_map, figs_len, List.length_take]; omega
      have hfv : ([hexD p, hexD q].map bV) = [.int .u8 ((hexD p).toNat : Int), .int .u8 ((hexD q).toNat : Int)] := rfl
      clear hp hq
      replace hnx := Lib.hid hnx
      replace hkl := Lib.hid hkl
      replace hfv := Lib.hid hfv
      go_wp2_with fail
      first | refine wp_region_noPanic ?_ | skip
      refine wp_region_held_drew (S := (fun _ => True)) (by kernel_rfl) ?_ (fun hHeld => ?_)
      · trivial
      refine wpAnyH_take (i := 0) (v := ?_) rfl (by kernel_rfl) (by kernel_rfl) (by kernel_rfl) (fun _ _ _ h => h) (Or.inl ⟨by rfl, ?_⟩) (by assumption) ?_
      rotate_left
      · (intro w hSw; (try dsimp only at hSw); go_simp; try with_reducible rfl)
      try simp only [Array.reduceGetElem, Act.put, List.setIfInBounds_toArray, List.set_cons_zero, List.set_cons_succ]
      refine wpAnyH_take (i := 1) (v := ?_) rfl (by kernel_rfl) (by kernel_rfl) (by kernel_rfl) (fun _ _ _ h => h) (Or.inl ⟨by rfl, ?_⟩) (by assumption) ?_
      rotate_left
      · (intro w hSw; (try dsimp only at hSw); go_simp; try with_reducible rfl)
      try simp only [Array.reduceGetElem, Act.put, List.setIfInBounds_toArray, List.set_cons_zero, List.set_cons_succ]
      refine wpAnyH_take (i := 2) (v := ?_) rfl (by kernel_rfl) (by kernel_rfl) (by kernel_rfl) (fun _ _ _ h => h) (Or.inl ⟨by rfl, ?_⟩) (by assumption) ?_
      rotate_left
      · (intro w hSw; (try dsimp only at hSw); go_simp; try with_reducible rfl)
      try simp only [Array.reduceGetElem, Act.put, List.setIfInBounds_toArray, List.set_cons_zero, List.set_cons_succ]
      refine wpAnyH_take (i := 3) (v := ?_) rfl (by kernel_rfl) (by kernel_rfl) (by kernel_rfl) (fun _ _ _ h => h) (Or.inl ⟨by rfl, ?_⟩) (by assumption) ?_
      rotate_left
      · (intro w hSw; (try dsimp only at hSw); go_simp; try with_reducible rfl)
      try simp only [Array.reduceGetElem, Act.put, List.setIfInBounds_toArray, List.set_cons_zero, List.set_cons_succ]
      refine wpAnyH_take (i := 4) (v := .int .u8 (c.toNat : Int)) rfl (by kernel_rfl) (by kernel_rfl) (by kernel_rfl) (fun _ _ _ h => h) (Or.inl ⟨by rfl, ?_⟩) (by assumption) ?_
      · (intro w hSw; (try dsimp only at hSw); go_simp; first | done | with_reducible rfl | (intro hh; exact absurd (hh (by omega)) (by omega)) | (rw [if_pos (by omega)]; done) | (rw [if_pos (by omega)]; rfl) | (simp only [*]; done) | rfl)
      try simp only [Array.reduceGetElem, Act.put, List.setIfInBounds_toArray, List.set_cons_zero, List.set_cons_succ]
      refine wpAnyH_take (i := 5) (v := .int .u8 (p : Int)) rfl (by kernel_rfl) (by kernel_rfl) (by kernel_rfl) (fun _ _ _ h => h) (Or.inl ⟨by rfl, ?_⟩) (by assumption) ?_
      · (intro w hSw; (try dsimp only at hSw); go_simp; first | done | with_reducible rfl | (intro hh; exact absurd (hh (by omega)) (by omega)) | (rw [if_pos (by omega)]; done) | (rw [if_pos (by omega)]; rfl) | (simp only [*]; done) | rfl)
      try simp only [Array.reduceGetElem, Act.put, List.setIfInBounds_toArray, List.set_cons_zero, List.set_cons_succ]
      refine wpAnyH_take (i := 6) (v := .int .u8 ((hexD p).toNat : Int)) rfl (by kernel_rfl) (by kernel_rfl) (by kernel_rfl) (fun _ _ _ h => h) (Or.inl ⟨by rfl, ?_⟩) (by assumption) ?_
      · (intro w hSw; (try dsimp only at hSw); go_simp; first | done | with_reducible rfl | (intro hh; exact absurd (hh (by omega)) (by omega)) | (rw [if_pos (by omega)]; done) | (rw [if_pos (by omega)]; rfl) | (simp only [*]; done) | rfl)
      try simp only [Array.reduceGetElem, Act.put, List.setIfInBounds_toArray, List.set_cons_zero, List.set_cons_succ]
      refine wpAnyH_take (i := 7) (v := ?_) rfl (by kernel_rfl) (by kernel_rfl) (by kernel_rfl) (fun _ _ _ h => h) (Or.inl ⟨by rfl, ?_⟩) (by assumption) ?_
      rotate_left
      · (intro w hSw; (try dsimp only at hSw); go_simp; try with_reducible rfl)
      try simp only [Array.reduceGetElem, Act.put, List.setIfInBounds_toArray, List.set_cons_zero, List.set_cons_succ]
      refine wpAnyH_take (i := 8) (v := ?_) rfl (by kernel_rfl) (by kernel_rfl) (by kernel_rfl) (fun _ _ _ h => h) (Or.inl ⟨by rfl, ?_⟩) (by assumption) ?_
      rotate_left
      · (intro w hSw; (try dsimp only at hSw); go_simp; try with_reducible rfl)
      try simp only [Array.reduceGetElem, Act.put, List.setIfInBounds_toArray, List.set_cons_zero, List.set_cons_succ]
      refine wpAnyH_take (i := 9) (v := ?_) rfl (by kernel_rfl) (by kernel_rfl) (by kernel_rfl) (fun _ _ _ h => h) (Or.inl ⟨by rfl, ?_⟩) (by assumption) ?_
      rotate_left
      · (intro w hSw; (try dsimp only at hSw); go_simp; try with_reducible rfl)
      try simp only [Array.reduceGetElem, Act.put, List.setIfInBounds_toArray, List.set_cons_zero, List.set_cons_succ]
      refine wpAnyH_take (i := 10) (v := .int .u8 (c.toNat : Int)) rfl (by kernel_rfl) (by kernel_rfl) (by kernel_rfl) (fun _ _ _ h => h) (Or.inl ⟨by rfl, ?_⟩) (by assumption) ?_
      · (intro w hSw; (try dsimp only at hSw); go_simp; first | done | with_reducible rfl | (intro hh; exact absurd (hh (by omega)) (by omega)) | (rw [if_pos (by omega)]; done) | (rw [if_pos (by omega)]; rfl) | (simp only [*]; done) | rfl)
      try simp only [Array.reduceGetElem, Act.put, List.setIfInBounds_toArray, List.set_cons_zero, List.set_cons_succ]
      refine wpAnyH_take (i := 11) (v := .int .u8 (q : Int)) rfl (by kernel_rfl) (by kernel_rfl) (by kernel_rfl) (fun _ _ _ h => h) (Or.inl ⟨by rfl, ?_⟩) (by assumption) ?_
      · (intro w hSw; (try dsimp only at hSw); go_simp; first | done | with_reducible rfl | (intro hh; exact absurd (hh (by omega)) (by omega)) | (rw [if_pos (by omega)]; done) | (rw [if_pos (by omega)]; rfl) | (simp only [*]; done) | rfl)
      try simp only [Array.reduceGetElem, Act.put, List.setIfInBounds_toArray, List.set_cons_zero, List.set_cons_succ]
      refine wpAnyH_take (i := 12) (v := .int .u8 ((hexD q).toNat : Int)) rfl (by kernel_rfl) (by kernel_rfl) (by kernel_rfl) (fun _ _ _ h => h) (Or.inl ⟨by rfl, ?_⟩) (by assumption) ?_
      · (intro w hSw; (try dsimp only at hSw); go_simp; first | done | with_reducible rfl | (intro hh; exact absurd (hh (by omega)) (by omega)) | (rw [if_pos (by omega)]; done) | (rw [if_pos (by omega)]; rfl) | (simp only [*]; done) | rfl)
      try simp only [Array.reduceGetElem, Act.put, List.setIfInBounds_toArray, List.set_cons_zero, List.set_cons_succ]
      refine wpAnyH_ready (rs := [13]) (by kernel_rfl) (by simp) ?_
      refine AllReadyH.cons rfl (fun K hK => ?_) AllReadyH.nil
      go_simp
      refine hK.out _ _ ?_ (fun hHeld => ?_)
      · (try dsimp only); all_goals trivial
      clear hK K
      try simp only [Array.reduceGetElem, Act.put, List.setIfInBounds_toArray, List.set_cons_zero, List.set_cons_succ]
      refine wpAnyH_push1 14 (by kernel_rfl) rfl rfl _ _ 24 rfl _ 5 i0 (.int .u8 0) 1 Tryd.underlying24 hi0 hz0 hz1 hz2 rfl w.heap.size _ _ _ (RowV.drew hO.out) _ hkl.out.symm rfl 2 2 [.int .u8 ((hexD p).toNat : Int), .int .u8 ((hexD q).toNat : Int)] _ rfl rfl rfl ?h1_c ?h63_c ?hb_c ?hlo_c ?hS_c ?hk_c
      case h1_c => intro u hu; simp only [List.mem_cons, List.not_mem_nil, or_false] at hu; rcases hu with rfl | rfl <;> rfl
      case h63_c => rw [hkl.out]; simp only [List.length_cons, List.length_nil]; omega
      case hb_c => decide
      case hlo_c => exact hC.size
      case hS_c => intro w9 hB9 _; trivial
      intro g2 cap2 w9 hrow2 hBB hHeld9
      rw [hkl.out]
      try simp only [Array.reduceGetElem, Act.put, List.setIfInBounds_toArray, List.set_cons_zero, List.set_cons_succ]
      refine wpAnyH_take (i := 15) (v := ?_) rfl (by kernel_rfl) (by kernel_rfl) (by kernel_rfl) (fun _ _ _ h => h) (Or.inl ⟨by rfl, ?_⟩) (by assumption) ?_
      rotate_left
      · (intro w hSw; (try dsimp only at hSw); go_simp; try with_reducible rfl)
      try simp only [Array.reduceGetElem, Act.put, List.setIfInBounds_toArray, List.set_cons_zero, List.set_cons_succ]
      refine wpAnyH_done (by kernel_rfl) ?_ _
      replace hrow2 : RowV w9 5 w.heap.size g2 cap2 ((figs (bs.take (i + 1))).map bV) := by rw [hnx.out, List.map_append, hfv.out]; exact hrow2
      replace hrow2 := Lib.hid hrow2
      have hC9 : Below w.heap.size w w9 := hC.drew.trans (hBB w.heap.size (Nat.le_refl _) hC.size)
      clear hO hC hHeld9 hBB
      go_wp2
      go_round
      case rel => exact ⟨i + 1, g2, cap2, by omega, by go_num, by rw [show 2 * (i + 1) = 2 * i + 2 by omega], hrow2, hC9⟩
      case measure => simp [intOf]; omega
    · obtain rfl : i = bs.length := by omega
      rw [List.take_length] at hO
      have hcv := run_convert_bytes_back (P := Tryd.prog) wr 24 9 5 ⟨g, 0, none⟩ cap (figs bs) Tryd.underlying24 Tryd.underlying5 Tryd.underlying9 (fun j hj => by
        rw [add_of_head, hO.out.cell (j := j) (by rw [List.length_map]; exact hj), List.getElem_map]; rfl)
      rw [figs_len] at hcv
      replace hcv : (convert 24 9 (.slice (some ⟨g, 0, none⟩) (2 * bs.length) cap)).run Tryd.prog wr = .ok (.string (mkB (figs bs))) wr := hcv
      go_wp2
      go_ret
      exact ⟨rfl, hC⟩
theorem specSum_any (l : List UInt8) (hl : l.length ≤ 1048576) (w : World) :
    Calls Tryd.prog 5 #[.string (mkB l)] w fun e w' => e = .returned (.string (mkB (sumT l))) ∧ Below w.heap.size w w' := by
  have hfs := figs_sum (sumS l)
  have hlen : (figs ((sumS l).list.flatMap bytes4)).length = 64 := rfl
  have h32 : ((sumS l).list.flatMap bytes4).length ≤ 1000 := by rw [show ((sumS l).list.flatMap bytes4).length = 32 from rfl]; decide
  go_enter Tryd.func5, Tryd.ntmps5
  go_wp2_with fail
  with_reducible refine (l2Sum_any l hl w).mono ?_
  rintro e w1 ⟨rfl, hB1⟩
  go_wp2_with fail
  with_reducible refine (l2Figures_any ((sumS l).list.flatMap bytes4) h32 w1).mono ?_
  rintro e w2 ⟨rfl, hB2⟩
  have hC := hB1.trans (hB2.mono hB1.size)
  have hT : sumT l = (figs ((sumS l).list.flatMap bytes4)).take 16 := hfs.symm
  obtain ⟨F, hF⟩ : ∃ F, figs ((sumS l).list.flatMap bytes4) = F := ⟨_, rfl⟩
  rw [hF] at hlen hT ⊢
  replace hT := Lib.hid hT
  clear hF hfs
  go_wp2
  go_ret
  exact ⟨by rw [hT.out]; simp, hC⟩
end Go.Proofs.YtcgnoohllfbmcaaDoor
