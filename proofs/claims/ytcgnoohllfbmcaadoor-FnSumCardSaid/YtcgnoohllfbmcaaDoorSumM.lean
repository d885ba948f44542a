/-
  The walk of the reference's l2Sum.
-/
import Derived.Test.YtcgnoohllfbmcaaDoorSumL
namespace Go.Proofs.YtcgnoohllfbmcaaDoor
open Go.RowKit
set_option linter.unusedVariables false
set_option linter.unusedSimpArgs false
attribute [local go_sem] mkB_size

theorem bytes_at (s : S8) {i : Nat} (h : i < 8) : (s.list.take (i + 1)).flatMap bytes4 = (s.list.take i).flatMap bytes4 ++ bytes4 (s.list.getD i 0) := by
  have hc : i = 0 ∨ i = 1 ∨ i = 2 ∨ i = 3 ∨ i = 4 ∨ i = 5 ∨ i = 6 ∨ i = 7 := by omega
  rcases hc with rfl | rfl | rfl | rfl | rfl | rfl | rfl | rfl <;> rfl
theorem bytes_len (s : S8) {i : Nat} (h : i ≤ 8) : (((s.list.take i).flatMap bytes4).map bV).length = 4 * i := by
  have hc : i = 0 ∨ i = 1 ∨ i = 2 ∨ i = 3 ∨ i = 4 ∨ i = 5 ∨ i = 6 ∨ i = 7 ∨ i = 8 := by omega
  rcases hc with rfl | rfl | rfl | rfl | rfl | rfl | rfl | rfl | rfl <;> rfl
theorem wrap_byte (x : UInt32) (s : Nat) : IntKind.u8.wrap ((x.toNat : Int) / ((2 ^ s : Nat) : Int)) = ((UInt8.ofNat (x.toNat / 2 ^ s)).toNat : Int) := by
  rw [IntKind.wrap_u8']; exact byte_shr x.toNat s
set_option maxRecDepth 1000000 in
set_option maxHeartbeats 16000000 in
theorem l2Sum_any (l : List UInt8) (hl : l.length ≤ 1048576) (w : World) :
    Calls Tryd.prog 9 #[.string (mkB l)] w fun e w' => e = .returned (.string (mkB ((sumS l).list.flatMap bytes4))) ∧ Below w.heap.size w w' := by
  obtain ⟨i0, hi0, hz0, hz1, hz2⟩ := info_parts infoByte
  go_enter Tryd.func9, Tryd.ntmps9
  go_wp2_with fail
  have hH := RowV.lit w 27 ((initS.list).map wV) (by decide) (A := #[.int .u32 1779033703, .int .u32 3144134277, .int .u32 1013904242, .int .u32 2773480762, .int .u32 1359893119, .int .u32 2600822924, .int .u32 528734635, .int .u32 1541459225]) rfl
  have hC0 : Below w.heap.size w (w.alloc (.cells #[.int .u32 1779033703, .int .u32 3144134277, .int .u32 1013904242, .int .u32 2773480762, .int .u32 1359893119, .int .u32 2600822924, .int .u32 528734635, .int .u32 1541459225] 27)) := (Below.refl _ _).alloc (Nat.le_refl _) _
  with_reducible refine (l2Padded_any l hl _).mono ?_
  rintro r w1 ⟨g, cap, rfl, hrow, hB1⟩
  replace hH := hH.below hB1 hH.lt
  have hC := hC0.trans (hB1.mono hC0.size)
  replace hrow := hrow.lower hC0.size
  clear hC0 hB1
  have hpb := padded_blocks l
  have hpl := padded_len l
  have hp63 := padN_le l.length
  obtain ⟨D, hD⟩ : ∃ D, padded l = D := ⟨_, rfl⟩
  obtain ⟨N, hN⟩ : ∃ N, D.length / 64 = N := ⟨_, rfl⟩
  rw [hD] at hrow hpl hpb ⊢
  rw [hN] at hpb
  have hsum : sumS l = stAt D N := by unfold sumS; rw [hD, hN]
  have hN2 : N ≤ 17000 := by omega
  have hDI : (D.length : Int) = 64 * (N : Int) := by omega
  have hDm : (D.map bV).length = D.length := by rw [List.length_map]
  rw [hDm]
  replace hrow := Lib.hid hrow
  replace hsum := Lib.hid hsum
  replace hpb := Lib.hid hpb
  replace hH : RowV w1 27 w.heap.size w.heap.size 8 ((stAt D 0).list.map wV) := hH
  replace hH := Lib.hid hH
  clear hD hN hpl hDm
  obtain ⟨wb, hwb⟩ : ∃ x, w.heap.size = x := ⟨_, rfl⟩
  rw [hwb] at hrow hH hC
  go_wp2
  have hwb2 := Lib.hid hwb
  clear hwb
  go_loopw [3, 5] (fun hv iv wr => ∃ k gh ch, k ≤ N ∧ iv = .int .i64 (64 * (k : Nat) : Int) ∧ hv = .slice (some ⟨gh, 0, none⟩) 8 ch ∧ Hid (RowV wr 27 wb gh ch ((stAt D k).list.map wV)) ∧ Hid (RowV wr 5 wb g cap (D.map bV)) ∧ Below wb w wr) (fun _ iv _ => 64 * N - (intOf iv).toNat)
  case atStart => exact ⟨0, wb, 8, by omega, rfl, rfl, hH, hrow, hC⟩
  case round =>
    clear hH hrow hC
    obtain ⟨k, gh, ch, hk, hiv, rfl, hH, hrow, hC⟩ := hrel
    by_cases hlt : k < N
    · subst hiv
      have hpbo := hpb.out
      have hkI : 64 * (k : Int) < (D.length : Int) := by omega
      have hcap : D.length ≤ cap := by have := hrow.out.2.1; simpa using this
      have hbl : (blockAt D k).length = 64 := by unfold blockAt; rw [List.length_take, List.length_drop]; omega
      have hBA : BAt wr g (64 * k) (blockAt D k) := by
        refine ⟨hrow.out.lt, fun j hj => ?_⟩
        have h2 := hrow.out.cell (j := 64 * k + j) (by rw [List.length_map]; omega)
        rw [h2, List.getElem_map]
        simp [blockAt, bV]
      have hbk := l2Block_any (stAt D k) (blockAt D k) gh ch wb g (64 * k) (cap - 64 * k) wr hH.out hbl hBA
      have hcI : 64 * (k : Int) + 64 ≤ (cap : Int) := by omega
      have hwr : IntKind.i64.wrap (64 * (k : Int) + 64) = 64 * (k : Int) + 64 := wrap_small _ (by omega) (by omega)
      have e2 : 64 * k + 64 - 64 * k = 64 := by omega
      have hkI2 : (k : Int) ≤ 17000 := by omega
      have hsz := hC.size
      replace hbk := Lib.hid hbk
      replace hBA := Lib.hid hBA
      clear hpbo hbl
      go_wp2_with fail
      have hbk2 := hbk.out
      refine hbk2.mono ?_
      rintro r w2 ⟨g2, c2, rfl, hr2, hB2⟩
      have hl8 : ((blk (stAt D k) (blockAt D k)).list.map wV).length = 8 := rfl
      rw [hl8]
      clear hl8 hbk2
      replace hr2 : RowV w2 27 wb g2 c2 ((stAt D (k + 1)).list.map wV) := RowV.lower hr2 (by have := hwb2.out; omega)
      have hrow2 := Lib.hid (hrow.out.below hB2 hrow.out.lt)
      have hC2 := hC.trans (hB2.mono (by have := hwb2.out; omega))
      replace hr2 := Lib.hid hr2
      clear hrow hH hC hB2 hbk hBA
      go_wp2
      refine ⟨?rel, ?measure⟩
      case rel => with_reducible exact ⟨k + 1, g2, c2, by omega, by rw [show (64 * ((k + 1 : Nat) : Int)) = 64 * (k : Int) + 64 by omega], rfl, hr2, hrow2, hC2⟩
      case measure => show 64 * N - (64 * (k : Int) + 64).toNat < 64 * N - (64 * (k : Int)).toNat; omega
    · obtain rfl : k = N := by omega
      subst hiv
      obtain ⟨s, hs⟩ : ∃ s, stAt D k = s := ⟨_, rfl⟩
      rw [hs] at hH
      have hsumS : sumS l = s := by rw [hsum.out, hs]
      clear hs hrow
      replace hsumS := Lib.hid hsumS
      have hghl := hH.out.lt
      go_wp2
      have hO := RowV.lit wr 5 [] (by decide) (A := #[]) rfl
      have hA9 : Below wr.heap.size wr (wr.alloc (.cells #[] 5)) := (Below.refl _ _).alloc (Nat.le_refl _) _
      replace hH := hH.out.below hA9 hghl
      have hwr : wb ≤ wr.heap.size := by have := hC.size; have := hwb2.out; omega
      replace hC := hC.trans (hA9.mono hwr)
      have hlo2 := hA9.size
      clear hA9
      refine wp_name (fun w6 hw6 => ?_)
      rw [hw6] at hO hH hC hlo2
      clear hw6
      obtain ⟨B2, hB2e⟩ : ∃ x, wr.heap.size = x := ⟨_, rfl⟩
      rw [hB2e] at hO hlo2 hwr hghl ⊢
      clear hB2e
      replace hO : Hid (RowV w6 5 B2 B2 0 (((s.list.take 0).flatMap bytes4).map bV)) := Lib.hid hO
      replace hH := Lib.hid hH
      refine wp_name (fun w7 hw7 => ?_)
      rw [hw7] at hO hH hC hlo2
      clear hw7
      go_loopw [6, 7] (fun dv iv wr => ∃ i g cap, i ≤ 8 ∧ iv = .int .i64 (i : Nat) ∧ dv = .slice (some ⟨g, 0, none⟩) (4 * i) cap ∧ Hid (RowV wr 5 B2 g cap (((s.list.take i).flatMap bytes4).map bV)) ∧ Hid (RowV wr 27 wb gh ch (s.list.map wV)) ∧ B2 ≤ wr.heap.size ∧ Below wb w wr) (fun _ iv _ => 8 - (intOf iv).toNat)
      case atStart => exact ⟨0, B2, 0, by omega, rfl, rfl, hO, hH, hlo2, hC⟩
      case round =>
        clear hO hH hlo2 hC
        obtain ⟨i, g, cap, hi8, hiv, rfl, hO, hH, hlo2, hC⟩ := hrel
        by_cases hlt : i < 8
        · subst hiv
          have hiI : (i : Int) < 8 := by omega
          have h0 := hH.out.word (j := i) hlt
          have hnx := bytes_at s hlt
          obtain ⟨x, hx⟩ : ∃ x, s.list.getD i 0 = x := ⟨_, rfl⟩
          rw [hx] at h0 hnx
          clear hx
          have p24 := wrap_byte x 24
          have p16 := wrap_byte x 16
          have p8 := wrap_byte x 8
          have p0 := wrap_byte x 0
          rw [show ((2 ^ 24 : Nat) : Int) = 16777216 from rfl] at p24
          rw [show ((2 ^ 16 : Nat) : Int) = 65536 from rfl] at p16
          rw [show ((2 ^ 8 : Nat) : Int) = 256 from rfl] at p8
          rw [show (x.toNat : Int) / ((2 ^ 0 : Nat) : Int) = (x.toNat : Int) by simp] at p0
          obtain ⟨b0, hb0⟩ : ∃ b, UInt8.ofNat (x.toNat / 2 ^ 24) = b := ⟨_, rfl⟩
          obtain ⟨b1, hb1⟩ : ∃ b, UInt8.ofNat (x.toNat / 2 ^ 16) = b := ⟨_, rfl⟩
          obtain ⟨b2, hb2⟩ : ∃ b, UInt8.ofNat (x.toNat / 2 ^ 8) = b := ⟨_, rfl⟩
          obtain ⟨b3, hb3⟩ : ∃ b, UInt8.ofNat (x.toNat / 2 ^ 0) = b := ⟨_, rfl⟩
          have hb4 : (bytes4 x).map bV = [.int .u8 (b0.toNat : Int), .int .u8 (b1.toNat : Int), .int .u8 (b2.toNat : Int), .int .u8 (b3.toNat : Int)] := by rw [← hb0, ← hb1, ← hb2, ← hb3]; rfl
          rw [hb0] at p24
          rw [hb1] at p16
          rw [hb2] at p8
          rw [hb3] at p0
          clear hb0 hb1 hb2 hb3
          have hkl := bytes_len s hi8
          have hiw : IntKind.i64.wrap (i : Int) = (i : Int) := wrap_small _ (by omega) (by omega)
          have kal := fun (o : Obj) (a : Addr) (ha : a.block < B2) => alloc_cell (w := wr.drew) (g := a.block) (Nat.lt_of_lt_of_le ha hlo2) o a rfl
          replace kal := Lib.hid kal
          replace hnx := Lib.hid hnx
          replace hkl := Lib.hid hkl
          replace hb4 := Lib.hid hb4
          go_wp2_with fail
          first | refine wp_region_noPanic ?_ | skip
          refine wp_region_held_drew (S := (fun W' => W'.cell? ⟨gh, i, none⟩ = some (.int .u32 (x.toNat : Int)))) (by kernel_rfl) ?_ (fun hHeld => ?_)
          · exact h0
          refine wpAnyH_take (i := 0) (v := ?_) rfl (by kernel_rfl) (by kernel_rfl) (by kernel_rfl) (fun _ _ _ h => h) (Or.inl ⟨by rfl, ?_⟩) (by assumption) ?_
          rotate_left
          · (intro w hSw; (try dsimp only at hSw); go_simp; try with_reducible rfl)
          try simp only [Array.reduceGetElem, Act.put, List.setIfInBounds_toArray, List.set_cons_zero, List.set_cons_succ]
          refine wpAnyH_take (i := 1) (v := ?_) rfl (by kernel_rfl) (by kernel_rfl) (by kernel_rfl) (fun _ _ _ h => h) (Or.inl ⟨by rfl, ?_⟩) (by assumption) ?_
          rotate_left
          · (intro w hSw; (try dsimp only at hSw); go_simp; try with_reducible rfl)
          try simp only [Array.reduceGetElem, Act.put, List.setIfInBounds_toArray, List.set_cons_zero, List.set_cons_succ]
          refine wpAnyH_take (i := 2) (v := ?_) rfl (by kernel_rfl) (by kernel_rfl) (by kernel_rfl) (fun _ _ _ h => h) (Or.inl ⟨by rfl, ?_⟩) (by assumption) ?_
          rotate_left
          · (intro w hSw; (try dsimp only at hSw); go_simp; try with_reducible rfl)
          try simp only [Array.reduceGetElem, Act.put, List.setIfInBounds_toArray, List.set_cons_zero, List.set_cons_succ]
          refine wpAnyH_take (i := 3) (v := .pointer (some ⟨gh, i, none⟩)) rfl (by kernel_rfl) (by kernel_rfl) (by kernel_rfl) (fun _ _ _ h => h) (Or.inl ⟨by rfl, ?_⟩) (by assumption) ?_
          · (intro w hSw; (try dsimp only at hSw); go_simp; first | done | with_reducible rfl | (intro hh; exact absurd (hh (by omega)) (by omega)) | (rw [if_pos (by omega)]; done) | (rw [if_pos (by omega)]; rfl) | (simp only [*]; done) | rfl)
          try simp only [Array.reduceGetElem, Act.put, List.setIfInBounds_toArray, List.set_cons_zero, List.set_cons_succ]
          refine wpAnyH_take (i := 4) (v := .int .u32 (x.toNat : Int)) rfl (by kernel_rfl) (by kernel_rfl) (by kernel_rfl) (fun _ _ _ h => h) (Or.inl ⟨by rfl, ?_⟩) (by assumption) ?_
          · (intro w hSw; (try dsimp only at hSw); go_simp; first | done | with_reducible rfl | (intro hh; exact absurd (hh (by omega)) (by omega)) | (rw [if_pos (by omega)]; done) | (rw [if_pos (by omega)]; rfl) | (simp only [*]; done) | rfl)
          try simp only [Array.reduceGetElem, Act.put, List.setIfInBounds_toArray, List.set_cons_zero, List.set_cons_succ]
          refine wpAnyH_take (i := 5) (v := ?_) rfl (by kernel_rfl) (by kernel_rfl) (by kernel_rfl) (fun _ _ _ h => h) (Or.inl ⟨by rfl, ?_⟩) (by assumption) ?_
          rotate_left
          · (intro w hSw; (try dsimp only at hSw); go_simp; try with_reducible rfl)
          try simp only [Array.reduceGetElem, Act.put, List.setIfInBounds_toArray, List.set_cons_zero, List.set_cons_succ]
          refine wpAnyH_take (i := 6) (v := .int .u8 (b0.toNat : Int)) rfl (by kernel_rfl) (by kernel_rfl) (by kernel_rfl) (fun _ _ _ h => h) (Or.inl ⟨by rfl, ?_⟩) (by assumption) ?_
          · (intro w hSw; (try dsimp only at hSw); go_simp; first | done | with_reducible rfl | (intro hh; exact absurd (hh (by omega)) (by omega)) | (rw [if_pos (by omega)]; done) | (rw [if_pos (by omega)]; rfl) | (simp only [*]; done) | rfl)
          try simp only [Array.reduceGetElem, Act.put, List.setIfInBounds_toArray, List.set_cons_zero, List.set_cons_succ]
          refine wpAnyH_take (i := 7) (v := ?_) rfl (by kernel_rfl) (by kernel_rfl) (by kernel_rfl) (fun _ _ _ h => h) (Or.inl ⟨by rfl, ?_⟩) (by assumption) ?_
          rotate_left
          · (intro w hSw; (try dsimp only at hSw); go_simp; try with_reducible rfl)
          try simp only [Array.reduceGetElem, Act.put, List.setIfInBounds_toArray, List.set_cons_zero, List.set_cons_succ]
          refine wpAnyH_take (i := 8) (v := ?_) rfl (by kernel_rfl) (by kernel_rfl) (by kernel_rfl) (fun _ _ _ h => h) (Or.inl ⟨by rfl, ?_⟩) (by assumption) ?_
          rotate_left
          · (intro w hSw; (try dsimp only at hSw); go_simp; try with_reducible rfl)
          try simp only [Array.reduceGetElem, Act.put, List.setIfInBounds_toArray, List.set_cons_zero, List.set_cons_succ]
          refine wpAnyH_take (i := 9) (v := .pointer (some ⟨gh, i, none⟩)) rfl (by kernel_rfl) (by kernel_rfl) (by kernel_rfl) (fun _ _ _ h => h) (Or.inl ⟨by rfl, ?_⟩) (by assumption) ?_
          · (intro w hSw; (try dsimp only at hSw); go_simp; first | done | with_reducible rfl | (intro hh; exact absurd (hh (by omega)) (by omega)) | (rw [if_pos (by omega)]; done) | (rw [if_pos (by omega)]; rfl) | (simp only [*]; done) | rfl)
          try simp only [Array.reduceGetElem, Act.put, List.setIfInBounds_toArray, List.set_cons_zero, List.set_cons_succ]
          refine wpAnyH_take (i := 10) (v := .int .u32 (x.toNat : Int)) rfl (by kernel_rfl) (by kernel_rfl) (by kernel_rfl) (fun _ _ _ h => h) (Or.inl ⟨by rfl, ?_⟩) (by assumption) ?_
          · (intro w hSw; (try dsimp only at hSw); go_simp; first | done | with_reducible rfl | (intro hh; exact absurd (hh (by omega)) (by omega)) | (rw [if_pos (by omega)]; done) | (rw [if_pos (by omega)]; rfl) | (simp only [*]; done) | rfl)
          try simp only [Array.reduceGetElem, Act.put, List.setIfInBounds_toArray, List.set_cons_zero, List.set_cons_succ]
          refine wpAnyH_take (i := 11) (v := ?_) rfl (by kernel_rfl) (by kernel_rfl) (by kernel_rfl) (fun _ _ _ h => h) (Or.inl ⟨by rfl, ?_⟩) (by assumption) ?_
          rotate_left
          · (intro w hSw; (try dsimp only at hSw); go_simp; try with_reducible rfl)
          try simp only [Array.reduceGetElem, Act.put, List.setIfInBounds_toArray, List.set_cons_zero, List.set_cons_succ]
          refine wpAnyH_take (i := 12) (v := .int .u8 (b1.toNat : Int)) rfl (by kernel_rfl) (by kernel_rfl) (by kernel_rfl) (fun _ _ _ h => h) (Or.inl ⟨by rfl, ?_⟩) (by assumption) ?_
          · (intro w hSw; (try dsimp only at hSw); go_simp; first | done | with_reducible rfl | (intro hh; exact absurd (hh (by omega)) (by omega)) | (rw [if_pos (by omega)]; done) | (rw [if_pos (by omega)]; rfl) | (simp only [*]; done) | rfl)
          try simp only [Array.reduceGetElem, Act.put, List.setIfInBounds_toArray, List.set_cons_zero, List.set_cons_succ]
          refine wpAnyH_take (i := 13) (v := ?_) rfl (by kernel_rfl) (by kernel_rfl) (by kernel_rfl) (fun _ _ _ h => h) (Or.inl ⟨by rfl, ?_⟩) (by assumption) ?_
          rotate_left
          · (intro w hSw; (try dsimp only at hSw); go_simp; try with_reducible rfl)
          try simp only [Array.reduceGetElem, Act.put, List.setIfInBounds_toArray, List.set_cons_zero, List.set_cons_succ]
          refine wpAnyH_take (i := 14) (v := ?_) rfl (by kernel_rfl) (by kernel_rfl) (by kernel_rfl) (fun _ _ _ h => h) (Or.inl ⟨by rfl, ?_⟩) (by assumption) ?_
          rotate_left
          · (intro w hSw; (try dsimp only at hSw); go_simp; try with_reducible rfl)
          try simp only [Array.reduceGetElem, Act.put, List.setIfInBounds_toArray, List.set_cons_zero, List.set_cons_succ]
          refine wpAnyH_take (i := 15) (v := .pointer (some ⟨gh, i, none⟩)) rfl (by kernel_rfl) (by kernel_rfl) (by kernel_rfl) (fun _ _ _ h => h) (Or.inl ⟨by rfl, ?_⟩) (by assumption) ?_
          · (intro w hSw; (try dsimp only at hSw); go_simp; first | done | with_reducible rfl | (intro hh; exact absurd (hh (by omega)) (by omega)) | (rw [if_pos (by omega)]; done) | (rw [if_pos (by omega)]; rfl) | (simp only [*]; done) | rfl)
          try simp only [Array.reduceGetElem, Act.put, List.setIfInBounds_toArray, List.set_cons_zero, List.set_cons_succ]
          refine wpAnyH_take (i := 16) (v := .int .u32 (x.toNat : Int)) rfl (by kernel_rfl) (by kernel_rfl) (by kernel_rfl) (fun _ _ _ h => h) (Or.inl ⟨by rfl, ?_⟩) (by assumption) ?_
          · (intro w hSw; (try dsimp only at hSw); go_simp; first | done | with_reducible rfl | (intro hh; exact absurd (hh (by omega)) (by omega)) | (rw [if_pos (by omega)]; done) | (rw [if_pos (by omega)]; rfl) | (simp only [*]; done) | rfl)
          try simp only [Array.reduceGetElem, Act.put, List.setIfInBounds_toArray, List.set_cons_zero, List.set_cons_succ]
          refine wpAnyH_take (i := 17) (v := ?_) rfl (by kernel_rfl) (by kernel_rfl) (by kernel_rfl) (fun _ _ _ h => h) (Or.inl ⟨by rfl, ?_⟩) (by assumption) ?_
          rotate_left
          · (intro w hSw; (try dsimp only at hSw); go_simp; try with_reducible rfl)
          try simp only [Array.reduceGetElem, Act.put, List.setIfInBounds_toArray, List.set_cons_zero, List.set_cons_succ]
          refine wpAnyH_take (i := 18) (v := .int .u8 (b2.toNat : Int)) rfl (by kernel_rfl) (by kernel_rfl) (by kernel_rfl) (fun _ _ _ h => h) (Or.inl ⟨by rfl, ?_⟩) (by assumption) ?_
          · (intro w hSw; (try dsimp only at hSw); go_simp; first | done | with_reducible rfl | (intro hh; exact absurd (hh (by omega)) (by omega)) | (rw [if_pos (by omega)]; done) | (rw [if_pos (by omega)]; rfl) | (simp only [*]; done) | rfl)
          try simp only [Array.reduceGetElem, Act.put, List.setIfInBounds_toArray, List.set_cons_zero, List.set_cons_succ]
          refine wpAnyH_take (i := 19) (v := ?_) rfl (by kernel_rfl) (by kernel_rfl) (by kernel_rfl) (fun _ _ _ h => h) (Or.inl ⟨by rfl, ?_⟩) (by assumption) ?_
          rotate_left
          · (intro w hSw; (try dsimp only at hSw); go_simp; try with_reducible rfl)
          try simp only [Array.reduceGetElem, Act.put, List.setIfInBounds_toArray, List.set_cons_zero, List.set_cons_succ]
          refine wpAnyH_take (i := 20) (v := ?_) rfl (by kernel_rfl) (by kernel_rfl) (by kernel_rfl) (fun _ _ _ h => h) (Or.inl ⟨by rfl, ?_⟩) (by assumption) ?_
          rotate_left
          · (intro w hSw; (try dsimp only at hSw); go_simp; try with_reducible rfl)
          try simp only [Array.reduceGetElem, Act.put, List.setIfInBounds_toArray, List.set_cons_zero, List.set_cons_succ]
          refine wpAnyH_take (i := 21) (v := .pointer (some ⟨gh, i, none⟩)) rfl (by kernel_rfl) (by kernel_rfl) (by kernel_rfl) (fun _ _ _ h => h) (Or.inl ⟨by rfl, ?_⟩) (by assumption) ?_
          · (intro w hSw; (try dsimp only at hSw); go_simp; first | done | with_reducible rfl | (intro hh; exact absurd (hh (by omega)) (by omega)) | (rw [if_pos (by omega)]; done) | (rw [if_pos (by omega)]; rfl) | (simp only [*]; done) | rfl)
          try simp only [Array.reduceGetElem, Act.put, List.setIfInBounds_toArray, List.set_cons_zero, List.set_cons_succ]
          refine wpAnyH_take (i := 22) (v := .int .u32 (x.toNat : Int)) rfl (by kernel_rfl) (by kernel_rfl) (by kernel_rfl) (fun _ _ _ h => h) (Or.inl ⟨by rfl, ?_⟩) (by assumption) ?_
          · (intro w hSw; (try dsimp only at hSw); go_simp; first | done | with_reducible rfl | (intro hh; exact absurd (hh (by omega)) (by omega)) | (rw [if_pos (by omega)]; done) | (rw [if_pos (by omega)]; rfl) | (simp only [*]; done) | rfl)
          try simp only [Array.reduceGetElem, Act.put, List.setIfInBounds_toArray, List.set_cons_zero, List.set_cons_succ]
          refine wpAnyH_take (i := 23) (v := .int .u8 (b3.toNat : Int)) rfl (by kernel_rfl) (by kernel_rfl) (by kernel_rfl) (fun _ _ _ h => h) (Or.inl ⟨by rfl, ?_⟩) (by assumption) ?_
          · (intro w hSw; (try dsimp only at hSw); go_simp; first | done | with_reducible rfl | (intro hh; exact absurd (hh (by omega)) (by omega)) | (rw [if_pos (by omega)]; done) | (rw [if_pos (by omega)]; rfl) | (simp only [*]; done) | rfl)
          try simp only [Array.reduceGetElem, Act.put, List.setIfInBounds_toArray, List.set_cons_zero, List.set_cons_succ]
          refine wpAnyH_ready (rs := [24]) (by kernel_rfl) (by simp) ?_
          refine AllReadyH.cons rfl (fun K hK => ?_) AllReadyH.nil
          go_simp
          refine hK.out _ _ ?_ (fun hHeld => ?_)
          · (try dsimp only); first | exact h0 | exact (kal.out _ _ hghl).trans h0
          clear hK K
          try simp only [Array.reduceGetElem, Act.put, List.setIfInBounds_toArray, List.set_cons_zero, List.set_cons_succ]
          refine wpAnyH_push1 25 (by kernel_rfl) rfl rfl _ _ 24 rfl _ 5 i0 (.int .u8 0) 1 Tryd.underlying24 hi0 hz0 hz1 hz2 rfl B2 _ _ _ (RowV.drew hO.out) _ hkl.out.symm rfl 4 4 [.int .u8 (b0.toNat : Int), .int .u8 (b1.toNat : Int), .int .u8 (b2.toNat : Int), .int .u8 (b3.toNat : Int)] _ rfl rfl rfl ?h1_c ?h63_c ?hb_c ?hlo_c ?hS_c ?hk_c
          case h1_c => intro u hu; simp only [List.mem_cons, List.not_mem_nil, or_false] at hu; rcases hu with rfl | rfl | rfl | rfl <;> rfl
          case h63_c => rw [hkl.out]; simp only [List.length_cons, List.length_nil]; omega
          case hb_c => decide
          case hlo_c => exact hlo2
          case hS_c =>
            intro w9 hB9 _
            have hB := hB9 B2 (Nat.le_refl _) hlo2
            exact (hB.cell (p := ⟨gh, i, none⟩) hghl).trans h0
          intro g2 cap2 w9 hrow2 hBB hHeld9
          rw [hkl.out]
          try simp only [Array.reduceGetElem, Act.put, List.setIfInBounds_toArray, List.set_cons_zero, List.set_cons_succ]
          refine wpAnyH_take (i := 26) (v := ?_) rfl (by kernel_rfl) (by kernel_rfl) (by kernel_rfl) (fun _ _ _ h => h) (Or.inl ⟨by rfl, ?_⟩) (by assumption) ?_
          rotate_left
          · (intro w hSw; (try dsimp only at hSw); go_simp; try with_reducible rfl)
          try simp only [Array.reduceGetElem, Act.put, List.setIfInBounds_toArray, List.set_cons_zero, List.set_cons_succ]
          refine wpAnyH_done (by kernel_rfl) ?_ _
          replace hrow2 : RowV w9 5 B2 g2 cap2 (((s.list.take (i + 1)).flatMap bytes4).map bV) := by rw [hnx.out, List.map_append, hb4.out]; exact hrow2
          replace hrow2 := Lib.hid hrow2
          have hb9 := hBB B2 (Nat.le_refl _) hlo2
          have hh9 := Lib.hid (hH.out.below (w' := w9) ((Below.refl B2 wr).drew.trans hb9) hghl)
          have hC9 : Below wb w w9 := hC.drew.trans (hb9.mono hwr)
          have hl9 : B2 ≤ w9.heap.size := Nat.le_trans hlo2 hb9.size
          clear hO hH hC h0 hHeld9 hBB hb9 hlo2 p24 p16 p8 p0
          go_wp2
          go_round
          case rel => exact ⟨i + 1, g2, cap2, by omega, by go_num, by rw [show 4 * (i + 1) = 4 * i + 4 by omega], hrow2, hh9, hl9, hC9⟩
          case measure => simp [intOf]; omega
        · obtain rfl : i = 8 := by omega
          obtain rfl : _ = Value.int .i64 8 := hiv
          have hcv := run_convert_bytes_back (P := Tryd.prog) wr 24 9 5 ⟨g, 0, none⟩ cap (s.list.flatMap bytes4) Tryd.underlying24 Tryd.underlying5 Tryd.underlying9 (fun j hj => by
            rw [add_of_head, hO.out.cell (j := j) (by rw [List.length_map]; exact hj), List.getElem_map]; rfl)
          rw [show (s.list.flatMap bytes4).length = 4 * 8 from rfl] at hcv
          replace hcv : (convert 24 9 (.slice (some ⟨g, 0, none⟩) 32 cap)).run Tryd.prog wr = .ok (.string (mkB (s.list.flatMap bytes4))) wr := hcv
          have hC9 : Below w.heap.size w wr := by rw [hwb2.out]; exact hC
          go_wp2
          go_ret
          exact ⟨by rw [hsumS.out]; rfl, hC9⟩
end Go.Proofs.YtcgnoohllfbmcaaDoor
