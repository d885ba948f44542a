/-
  The walk of impl.sumBlock.
-/
import Derived.Test.YtcgnoohllfbmcaaDoorSumW
namespace Go.Proofs.YtcgnoohllfbmcaaDoor
open Go.RowKit
set_option linter.unusedVariables false
set_option linter.unusedSimpArgs false
attribute [local go_sem] w_add w_xor w_and w_shr3 w_shr10 w_not

theorem idx8_0 (x0 x1 x2 x3 x4 x5 x6 x7 : Int) (w : World) : (Instr.index 28 (.agg #[.int .u32 x0, .int .u32 x1, .int .u32 x2, .int .u32 x3, .int .u32 x4, .int .u32 x5, .int .u32 x6, .int .u32 x7]) (.int .i64 0)).run Tryd.prog w = .ok (.int .u32 x0) w := by kernel_rfl
theorem idx8_1 (x0 x1 x2 x3 x4 x5 x6 x7 : Int) (w : World) : (Instr.index 28 (.agg #[.int .u32 x0, .int .u32 x1, .int .u32 x2, .int .u32 x3, .int .u32 x4, .int .u32 x5, .int .u32 x6, .int .u32 x7]) (.int .i64 1)).run Tryd.prog w = .ok (.int .u32 x1) w := by kernel_rfl
theorem idx8_2 (x0 x1 x2 x3 x4 x5 x6 x7 : Int) (w : World) : (Instr.index 28 (.agg #[.int .u32 x0, .int .u32 x1, .int .u32 x2, .int .u32 x3, .int .u32 x4, .int .u32 x5, .int .u32 x6, .int .u32 x7]) (.int .i64 2)).run Tryd.prog w = .ok (.int .u32 x2) w := by kernel_rfl
theorem idx8_3 (x0 x1 x2 x3 x4 x5 x6 x7 : Int) (w : World) : (Instr.index 28 (.agg #[.int .u32 x0, .int .u32 x1, .int .u32 x2, .int .u32 x3, .int .u32 x4, .int .u32 x5, .int .u32 x6, .int .u32 x7]) (.int .i64 3)).run Tryd.prog w = .ok (.int .u32 x3) w := by kernel_rfl
theorem idx8_4 (x0 x1 x2 x3 x4 x5 x6 x7 : Int) (w : World) : (Instr.index 28 (.agg #[.int .u32 x0, .int .u32 x1, .int .u32 x2, .int .u32 x3, .int .u32 x4, .int .u32 x5, .int .u32 x6, .int .u32 x7]) (.int .i64 4)).run Tryd.prog w = .ok (.int .u32 x4) w := by kernel_rfl
theorem idx8_5 (x0 x1 x2 x3 x4 x5 x6 x7 : Int) (w : World) : (Instr.index 28 (.agg #[.int .u32 x0, .int .u32 x1, .int .u32 x2, .int .u32 x3, .int .u32 x4, .int .u32 x5, .int .u32 x6, .int .u32 x7]) (.int .i64 5)).run Tryd.prog w = .ok (.int .u32 x5) w := by kernel_rfl
theorem idx8_6 (x0 x1 x2 x3 x4 x5 x6 x7 : Int) (w : World) : (Instr.index 28 (.agg #[.int .u32 x0, .int .u32 x1, .int .u32 x2, .int .u32 x3, .int .u32 x4, .int .u32 x5, .int .u32 x6, .int .u32 x7]) (.int .i64 6)).run Tryd.prog w = .ok (.int .u32 x6) w := by kernel_rfl
theorem idx8_7 (x0 x1 x2 x3 x4 x5 x6 x7 : Int) (w : World) : (Instr.index 28 (.agg #[.int .u32 x0, .int .u32 x1, .int .u32 x2, .int .u32 x3, .int .u32 x4, .int .u32 x5, .int .u32 x6, .int .u32 x7]) (.int .i64 7)).run Tryd.prog w = .ok (.int .u32 x7) w := by kernel_rfl
theorem wp_three {P : Program} {code : Code} {Q : Exit → Act → World → Prop} {a : Act} (s : S8) (b : List UInt8) (w : World) {A R U : Array Value} {t1 t2 t3 : TypeId}
    (hA : (s.list.map wV).toArray = A) (hR : ((List.replicate 8 0).map wV).toArray = R) (hU : ((wsAt b 0 ++ List.replicate (64 - 0) 0).map wV).toArray = U)
    (h : ∀ W0, RowW W0 w.heap.size s.list → RowW W0 (w.heap.size + 1) (List.replicate 8 0) → RowW W0 (w.heap.size + 1 + 1) (wsAt b 0 ++ List.replicate (64 - 0) 0) → Below w.heap.size w W0 → Code.wp P code Q a W0) :
    Code.wp P code Q a (((w.alloc (.cells A t1)).alloc (.cells R t2)).alloc (.cells U t3)) := by
  have z1 : (w.alloc (.cells A t1)).heap.size = w.heap.size + 1 := by simp
  have z2 : ((w.alloc (.cells A t1)).alloc (.cells R t2)).heap.size = w.heap.size + 1 + 1 := by simp
  refine h _ ⟨t1, ?_⟩ ⟨t2, ?_⟩ ⟨t3, ?_⟩ ?_
  · rw [Below.heap_alloc _ _ _ (by omega), Below.heap_alloc _ _ _ (by omega), World.alloc_heap_new, hA]
  · rw [Below.heap_alloc _ _ _ (by omega), ← z1, World.alloc_heap_new, hR]
  · rw [← z2, World.alloc_heap_new, hU]
  · exact (((Below.refl _ _).alloc (Nat.le_refl _) _).alloc (by omega) _).alloc (by omega) _

set_option maxRecDepth 1000000 in
set_option maxHeartbeats 8000000 in
theorem sumBlock_any (s : S8) (b : List UInt8) (g off c : Nat) (w : World) (hb : b.length = 64) (hc : 64 ≤ c) (hm : off + c ≤ maxLen) (hB : BAt w g off b) (hK : KAt w) :
    Calls Tryd.prog 10 #[.agg #[.int .u32 (s.a.toNat : Int), .int .u32 (s.b.toNat : Int), .int .u32 (s.c.toNat : Int), .int .u32 (s.d.toNat : Int), .int .u32 (s.e.toNat : Int), .int .u32 (s.f.toNat : Int), .int .u32 (s.g.toNat : Int), .int .u32 (s.h.toNat : Int)], .slice (some ⟨g, off, none⟩) 64 c] w fun e w' => e = .returned (.agg #[.int .u32 ((blk s b).a.toNat : Int), .int .u32 ((blk s b).b.toNat : Int), .int .u32 ((blk s b).c.toNat : Int), .int .u32 ((blk s b).d.toNat : Int), .int .u32 ((blk s b).e.toNat : Int), .int .u32 ((blk s b).f.toNat : Int), .int .u32 ((blk s b).g.toNat : Int), .int .u32 ((blk s b).h.toNat : Int)]) ∧ Below w.heap.size w w' := by
  have hBh := Lib.hid hB
  have hKh := Lib.hid hK
  have hg := hB.1
  have h0 := hK.1
  clear hB hK
  go_enter Tryd.func10, Tryd.ntmps10
  go_wp2
  refine wp_three s b w rfl rfl rfl (fun W0 hS hR hU hC => ?_)
  obtain ⟨B, hBe⟩ : ∃ x, w.heap.size + 1 + 1 = x := ⟨_, rfl⟩
  obtain ⟨rb, hrb⟩ : ∃ x, w.heap.size + 1 = x := ⟨_, rfl⟩
  obtain ⟨sb, hsb⟩ : ∃ x, w.heap.size = x := ⟨_, rfl⟩
  rw [hBe, hrb, hsb]
  rw [hBe] at hU
  rw [hrb] at hR
  rw [hsb] at hS
  have hs1 : sb < rb := by omega
  have hs2 : rb < B := by omega
  have hs0 : w.heap.size = sb := hsb
  replace hs0 := Lib.hid hs0
  clear hBe hrb hsb
  replace hS := Lib.hid hS
  replace hR := Lib.hid hR
  replace hU := Lib.hid hU
  go_loopw [27] (fun ii wr => ∃ k : Nat, k ≤ 16 ∧ ii = .int .i64 k ∧ Hid (RowW wr sb s.list) ∧ Hid (RowW wr rb (List.replicate 8 0)) ∧ Hid (RowW wr B (wsAt b k ++ List.replicate (64 - k) 0)) ∧ Below w.heap.size w wr) (fun ii _ => 16 - (intOf ii).toNat)
  case atStart => exact ⟨0, by omega, rfl, hS, hR, hU, hC⟩
  case round =>
    clear hS hR hU hC
    obtain ⟨k, hk, rfl, hS, hR, hU, hC⟩ := hrel
    by_cases hlt : k < 16
    · have hkI : (k : Int) < 16 := by omega
      go_wp2
      have hcut : List.replicate (64 - k) (0 : UInt32) = part b k 0 :: List.replicate (64 - (k + 1)) 0 := by rw [rep_cut (by omega), part_zero, Nat.sub_sub]
      rw [hcut] at hU
      clear hcut
      replace hU := Lib.hid hU.out
      go_loopw [38] (fun jj wr => ∃ j : Nat, j ≤ 4 ∧ jj = .int .i64 j ∧ Hid (RowW wr sb s.list) ∧ Hid (RowW wr rb (List.replicate 8 0)) ∧ Hid (RowW wr B (wsAt b k ++ part b k j :: List.replicate (64 - (k + 1)) 0)) ∧ Below w.heap.size w wr) (fun jj _ => 4 - (intOf jj).toNat)
      case atStart => exact ⟨0, by omega, rfl, hS, hR, hU, hC⟩
      case round =>
        clear hS hR hU hC
        obtain ⟨j, hj, rfl, hS, hR, hU, hC⟩ := hrel
        by_cases hjlt : j < 4
        · have hjI : (j : Int) < 4 := by omega
          have hbc := (hBh.out.below hC).at (i := 4 * k) (j := j) (by omega)
          have hu := hU.out.cell (k := k) (by simp [wsAt_len])
          have hfz := hU.out.free k
          have hst := part_or b k hjlt
          obtain ⟨x, hx⟩ : ∃ x, b.getD (4 * k + j) 0 = x := ⟨_, rfl⟩
          rw [hx] at hbc hst
          have hx32 : (x.toNat : Int) % 4294967296 = (x.toNat : Int) := by have := x.toNat_lt; omega
          clear hx
          rw [getD_at (wsAt_len b k)] at hu
          have hS2 := Lib.hid (hS.out.other (p := ⟨B, k, none⟩) (by simp; omega) (.int .u32 ((part b k (j + 1)).toNat : Int)))
          have hR2 := Lib.hid (hR.out.other (p := ⟨B, k, none⟩) (by simp; omega) (.int .u32 ((part b k (j + 1)).toNat : Int)))
          have hU2 := hU.out.set (k := k) (by simp [wsAt_len]) (part b k (j + 1))
          rw [set_at (wsAt_len b k)] at hU2
          replace hU2 := Lib.hid hU2
          have hC2 := hC.setCell (p := ⟨B, k, none⟩) (by simp; have := hs0.out; omega) (.int .u32 ((part b k (j + 1)).toNat : Int))
          go_wp2
          go_round
          case rel => exact ⟨j + 1, by omega, by go_num, hS2, hR2, hU2, hC2⟩
          case measure => simp [intOf]; omega
        · obtain rfl : j = 4 := by omega
          have hnx : wsAt b k ++ part b k 4 :: List.replicate (64 - (k + 1)) 0 = wsAt b (k + 1) ++ List.replicate (64 - (k + 1)) 0 := by
            rw [part_word]; simp [wsAt, nextW, hlt]
          rw [hnx] at hU
          replace hU := Lib.hid hU.out
          clear hnx
          go_wp2
          go_round
          case rel => exact ⟨k + 1, by omega, by go_num, hS, hR, hU, hC⟩
          case measure => simp [intOf]; omega
    · obtain rfl : k = 16 := by omega
      go_wp2
      go_loopw [9] (fun ii wr => ∃ k : Nat, 16 ≤ k ∧ k ≤ 64 ∧ ii = .int .i64 k ∧ Hid (RowW wr sb s.list) ∧ Hid (RowW wr rb (List.replicate 8 0)) ∧ Hid (RowW wr B (wsAt b k ++ List.replicate (64 - k) 0)) ∧ Below w.heap.size w wr) (fun ii _ => 64 - (intOf ii).toNat)
      case atStart => exact ⟨16, by omega, by omega, rfl, hS, hR, hU, hC⟩
      case round =>
        clear hS hR hU hC
        obtain ⟨k, hk1, hk, rfl, hS, hR, hU, hC⟩ := hrel
        by_cases hlt : k < 64
        · have hkI : (k : Int) < 64 := by omega
          have hkJ : (16 : Int) ≤ (k : Int) := by omega
          have hlen := wsAt_len b k
          have hw16 := hU.out.cell (k := k - 16) (by simp; omega)
          have hw15 := hU.out.cell (k := k - 15) (by simp; omega)
          have hw7 := hU.out.cell (k := k - 7) (by simp; omega)
          have hw2 := hU.out.cell (k := k - 2) (by simp; omega)
          rw [getD_ahead (by omega)] at hw16 hw15 hw7 hw2
          obtain ⟨x16, hx16⟩ : ∃ x, (wsAt b k).getD (k - 16) 0 = x := ⟨_, rfl⟩
          obtain ⟨x15, hx15⟩ : ∃ x, (wsAt b k).getD (k - 15) 0 = x := ⟨_, rfl⟩
          obtain ⟨x7, hx7⟩ : ∃ x, (wsAt b k).getD (k - 7) 0 = x := ⟨_, rfl⟩
          obtain ⟨x2, hx2⟩ : ∃ x, (wsAt b k).getD (k - 2) 0 = x := ⟨_, rfl⟩
          have hnx : wsAt b (k + 1) = wsAt b k ++ [addW (addW (addW x16 (lowF x15)) x7) (highF x2)] := by
            rw [← hx16, ← hx15, ← hx7, ← hx2]; conv => lhs; unfold wsAt
            simp only [nextW, if_neg (show ¬ k < 16 by omega)]
          rw [hx16] at hw16
          rw [hx15] at hw15
          rw [hx7] at hw7
          rw [hx2] at hw2
          clear hx16 hx15 hx7 hx2 hlen
          have e15 : (k : Int) - 15 = ((k - 15 : Nat) : Int) := by omega
          have e2 : (k : Int) - 2 = ((k - 2 : Nat) : Int) := by omega
          have e16 : (k : Int) - 16 = ((k - 16 : Nat) : Int) := by omega
          have e7 : (k : Int) - 7 = ((k - 7 : Nat) : Int) := by omega
          have b15 : ((k - 15 : Nat) : Int) < 64 := by omega
          have b2 : ((k - 2 : Nat) : Int) < 64 := by omega
          have b16 : ((k - 16 : Nat) : Int) < 64 := by omega
          have b7 : ((k - 7 : Nat) : Int) < 64 := by omega
          replace hnx := Lib.hid hnx
          have ht7 : Hid (∀ w : World, Calls Tryd.prog 19 #[.int .u32 (x15.toNat : Int), .int .i64 7] w fun e w' => e = .returned (.int .u32 ((rotr x15 7).toNat : Int)) ∧ w' = w) := Lib.hid (fun w => impl_turn x15 7 (by omega) (by omega) w)
          have ht18 : Hid (∀ w : World, Calls Tryd.prog 19 #[.int .u32 (x15.toNat : Int), .int .i64 18] w fun e w' => e = .returned (.int .u32 ((rotr x15 18).toNat : Int)) ∧ w' = w) := Lib.hid (fun w => impl_turn x15 18 (by omega) (by omega) w)
          go_wp2
          go_quiet ((first | (go_at_call 19; exact Calls.quiet_of_same (ht7.out _)) | (go_at_call 19; exact Calls.quiet_of_same (ht18.out _))))
          revert nq
          intro n1
          have ht17 : Hid (∀ w : World, Calls Tryd.prog 19 #[.int .u32 (x2.toNat : Int), .int .i64 17] w fun e w' => e = .returned (.int .u32 ((rotr x2 17).toNat : Int)) ∧ w' = w) := Lib.hid (fun w => impl_turn x2 17 (by omega) (by omega) w)
          have ht19 : Hid (∀ w : World, Calls Tryd.prog 19 #[.int .u32 (x2.toNat : Int), .int .i64 19] w fun e w' => e = .returned (.int .u32 ((rotr x2 19).toNat : Int)) ∧ w' = w) := Lib.hid (fun w => impl_turn x2 19 (by omega) (by omega) w)
          replace hS : RowW (wr.drewN n1) sb s.list := hS.out
          replace hR : RowW (wr.drewN n1) rb (List.replicate 8 0) := hR.out
          replace hU : RowW (wr.drewN n1) B (wsAt b k ++ List.replicate (64 - k) 0) := hU.out
          replace hC : Below w.heap.size w (wr.drewN n1) := Below.drewW hC n1
          replace hw16 : (wr.drewN n1).cell? ⟨B, k - 16, none⟩ = some (.int .u32 (x16.toNat : Int)) := hw16
          replace hw7 : (wr.drewN n1).cell? ⟨B, k - 7, none⟩ = some (.int .u32 (x7.toNat : Int)) := hw7
          replace hw2 : (wr.drewN n1).cell? ⟨B, k - 2, none⟩ = some (.int .u32 (x2.toNat : Int)) := hw2
          clear hw15 ht7 ht18
          obtain ⟨w1, hw1⟩ : ∃ X, wr.drewN n1 = X := ⟨_, rfl⟩
          rw [hw1] at hS hR hU hC hw16 hw7 hw2 ⊢
          clear hw1
          replace hS := Lib.hid hS
          replace hR := Lib.hid hR
          replace hU := Lib.hid hU
          go_wp2_with fail
          go_quiet ((first | (go_at_call 19; exact Calls.quiet_of_same (ht17.out _)) | (go_at_call 19; exact Calls.quiet_of_same (ht19.out _))))
          revert nq
          intro n2
          replace hS : RowW (w1.drewN n2) sb s.list := hS.out
          replace hR : RowW (w1.drewN n2) rb (List.replicate 8 0) := hR.out
          replace hU : RowW (w1.drewN n2) B (wsAt b k ++ List.replicate (64 - k) 0) := hU.out
          replace hC : Below w.heap.size w (w1.drewN n2) := Below.drewW hC n2
          replace hw16 : (w1.drewN n2).cell? ⟨B, k - 16, none⟩ = some (.int .u32 (x16.toNat : Int)) := hw16
          replace hw7 : (w1.drewN n2).cell? ⟨B, k - 7, none⟩ = some (.int .u32 (x7.toNat : Int)) := hw7
          clear hw2 ht17 ht19
          obtain ⟨w2, hw2⟩ : ∃ X, w1.drewN n2 = X := ⟨_, rfl⟩
          rw [hw2] at hS hR hU hC hw16 hw7 ⊢
          clear hw2
          have hfz := hU.free k
          have hck := hU.cell (k := k) (by simp [wsAt_len]; omega)
          obtain ⟨v, hv⟩ : ∃ v, addW (addW (addW x16 (lowF x15)) x7) (highF x2) = v := ⟨_, rfl⟩
          have hnU := RowW.set (w := w2.drew) hU (k := k) (by simp [wsAt_len]; omega) v
          replace hnU : RowW (w2.drew.setCell ⟨B, k, none⟩ (.int .u32 (v.toNat : Int))) B (wsAt b (k + 1) ++ List.replicate (64 - (k + 1)) 0) := by
            rw [hnx.out, hv, List.append_assoc, List.singleton_append]
            rw [rep_cut (by omega), set_at (wsAt_len b k), Nat.sub_sub] at hnU
            exact hnU
          have hnS := RowW.other (w := w2.drew) hS (p := ⟨B, k, none⟩) (by simp; omega) (.int .u32 (v.toNat : Int))
          have hnR := RowW.other (w := w2.drew) hR (p := ⟨B, k, none⟩) (by simp; omega) (.int .u32 (v.toNat : Int))
          have hnC := hC.drew.setCell (p := ⟨B, k, none⟩) (by simp; have := hs0.out; omega) (.int .u32 (v.toNat : Int))
          replace hnS := Lib.hid hnS
          replace hnR := Lib.hid hnR
          replace hnU := Lib.hid hnU
          have hvn : ((addW (addW (addW x16 (xorW (xorW (rotr x15 7) (rotr x15 18)) (shrW x15 8))) x7) (xorW (xorW (rotr x2 17) (rotr x2 19)) (shrW x2 1024))).toNat : Int) = (v.toNat : Int) := by rw [← hv]; rfl
          clear hS hR hU hv
          go_wp2_with fail
          go_region
          all_goals go_wp2
          all_goals go_round
          all_goals first
            | exact ⟨k + 1, by omega, by omega, by go_num, hnS, hnR, hnU, hnC⟩
            | (simp [intOf]; omega)
        · obtain rfl : k = 64 := by omega
          have hs0c := hS.out.cell (k := 0) (show (_ : Nat) < 8 by decide)
          have hs1c := hS.out.cell (k := 1) (show (_ : Nat) < 8 by decide)
          have hs2c := hS.out.cell (k := 2) (show (_ : Nat) < 8 by decide)
          have hs3c := hS.out.cell (k := 3) (show (_ : Nat) < 8 by decide)
          have hs4c := hS.out.cell (k := 4) (show (_ : Nat) < 8 by decide)
          have hs5c := hS.out.cell (k := 5) (show (_ : Nat) < 8 by decide)
          have hs6c := hS.out.cell (k := 6) (show (_ : Nat) < 8 by decide)
          have hs7c := hS.out.cell (k := 7) (show (_ : Nat) < 8 by decide)
          simp only [S8.list, List.getD_cons_zero, List.getD_cons_succ] at hs0c hs1c hs2c hs3c hs4c hs5c hs6c hs7c
          go_wp2
          go_quiet (fail)
          revert nq
          intro n1
          go_wp2_with fail
          go_quiet (fail)
          revert nq
          intro n2
          replace hS : RowW ((wr.drewN n1).drewN n2) sb s.list := hS.out
          replace hR : RowW ((wr.drewN n1).drewN n2) rb (List.replicate 8 0) := hR.out
          replace hU : RowW ((wr.drewN n1).drewN n2) B (wsAt b 64 ++ List.replicate (64 - 64) 0) := hU.out
          replace hC : Below w.heap.size w ((wr.drewN n1).drewN n2) := Below.drewW (Below.drewW hC n1) n2
          rw [Nat.sub_self, List.replicate_zero, List.append_nil] at hU
          clear hs0c hs1c hs2c hs3c hs4c hs5c hs6c hs7c
          go_wp2
          refine wp_name (fun w3 hw3 => ?_)
          rw [hw3] at hS hR hU hC
          clear hw3
          replace hS := Lib.hid hS
          replace hR := Lib.hid hR
          replace hU := Lib.hid hU
          go_loopw [12, 13, 14, 15, 16, 17, 18, 19, 122] (fun v12 v13 v14 v15 v16 v17 v18 v19 ii wr => ∃ k : Nat, k ≤ 64 ∧ ii = .int .i64 k ∧ v12 = .int .u32 ((roundsAt s (wsAt b 64) k).a.toNat : Int) ∧ v13 = .int .u32 ((roundsAt s (wsAt b 64) k).b.toNat : Int) ∧ v14 = .int .u32 ((roundsAt s (wsAt b 64) k).c.toNat : Int) ∧ v15 = .int .u32 ((roundsAt s (wsAt b 64) k).d.toNat : Int) ∧ v16 = .int .u32 ((roundsAt s (wsAt b 64) k).e.toNat : Int) ∧ v17 = .int .u32 ((roundsAt s (wsAt b 64) k).f.toNat : Int) ∧ v18 = .int .u32 ((roundsAt s (wsAt b 64) k).g.toNat : Int) ∧ v19 = .int .u32 ((roundsAt s (wsAt b 64) k).h.toNat : Int) ∧ Hid (RowW wr sb s.list) ∧ Hid (RowW wr rb (List.replicate 8 0)) ∧ Hid (RowW wr B (wsAt b 64)) ∧ Below w.heap.size w wr) (fun _ _ _ _ _ _ _ _ ii _ => 64 - (intOf ii).toNat)
          case atStart => exact ⟨0, by omega, rfl, rfl, rfl, rfl, rfl, rfl, rfl, rfl, rfl, hS, hR, hU, hC⟩
          case round =>
            clear hS hR hU hC
            obtain ⟨k, hk, rfl, rfl, rfl, rfl, rfl, rfl, rfl, rfl, rfl, hS, hR, hU, hC⟩ := hrel
            obtain ⟨t, ht⟩ : ∃ t, roundsAt s (wsAt b 64) k = t := ⟨_, rfl⟩
            rw [ht]
            by_cases hlt : k < 64
            · have hkI : (k : Int) < 64 := by omega
              have hnx : roundsAt s (wsAt b 64) (k + 1) = round t (sumKs.getD k 0) ((wsAt b 64).getD k 0) := by rw [← ht]; rfl
              have hkc := (hKh.out.below hC).2 k hlt
              have hwc := hU.out.cell (k := k) (by rw [wsAt_len]; exact hlt)
              obtain ⟨kk, hkk⟩ : ∃ x, sumKs.getD k 0 = x := ⟨_, rfl⟩
              obtain ⟨ww, hww⟩ : ∃ x, (wsAt b 64).getD k 0 = x := ⟨_, rfl⟩
              rw [hkk] at hkc hnx
              rw [hww] at hwc hnx
              clear hkk hww ht
              replace hnx := Lib.hid hnx
              obtain ⟨ta, tb, tc, td, te, tf, tg, th⟩ := t
              simp only
              have ht6 : Hid (∀ w : World, Calls Tryd.prog 19 #[.int .u32 (te.toNat : Int), .int .i64 6] w fun e w' => e = .returned (.int .u32 ((rotr te 6).toNat : Int)) ∧ w' = w) := Lib.hid (fun w => impl_turn te 6 (by omega) (by omega) w)
              have ht11 : Hid (∀ w : World, Calls Tryd.prog 19 #[.int .u32 (te.toNat : Int), .int .i64 11] w fun e w' => e = .returned (.int .u32 ((rotr te 11).toNat : Int)) ∧ w' = w) := Lib.hid (fun w => impl_turn te 11 (by omega) (by omega) w)
              have ht25 : Hid (∀ w : World, Calls Tryd.prog 19 #[.int .u32 (te.toNat : Int), .int .i64 25] w fun e w' => e = .returned (.int .u32 ((rotr te 25).toNat : Int)) ∧ w' = w) := Lib.hid (fun w => impl_turn te 25 (by omega) (by omega) w)
              have ht2 : Hid (∀ w : World, Calls Tryd.prog 19 #[.int .u32 (ta.toNat : Int), .int .i64 2] w fun e w' => e = .returned (.int .u32 ((rotr ta 2).toNat : Int)) ∧ w' = w) := Lib.hid (fun w => impl_turn ta 2 (by omega) (by omega) w)
              have ht13 : Hid (∀ w : World, Calls Tryd.prog 19 #[.int .u32 (ta.toNat : Int), .int .i64 13] w fun e w' => e = .returned (.int .u32 ((rotr ta 13).toNat : Int)) ∧ w' = w) := Lib.hid (fun w => impl_turn ta 13 (by omega) (by omega) w)
              have ht22 : Hid (∀ w : World, Calls Tryd.prog 19 #[.int .u32 (ta.toNat : Int), .int .i64 22] w fun e w' => e = .returned (.int .u32 ((rotr ta 22).toNat : Int)) ∧ w' = w) := Lib.hid (fun w => impl_turn ta 22 (by omega) (by omega) w)
              go_wp2_with fail
              go_quiet ((first | (go_at_call 19; exact Calls.quiet_of_same (ht6.out _)) | (go_at_call 19; exact Calls.quiet_of_same (ht11.out _)) | (go_at_call 19; exact Calls.quiet_of_same (ht25.out _))))
              revert nq
              intro n3
              go_wp2_with (first | (go_at_call 19; with_reducible refine (ht2.out _).mono ?_; rintro e w' ⟨rfl, rfl⟩) | (go_at_call 19; with_reducible refine (ht13.out _).mono ?_; rintro e w' ⟨rfl, rfl⟩) | (go_at_call 19; with_reducible refine (ht22.out _).mono ?_; rintro e w' ⟨rfl, rfl⟩))
              replace hS : RowW (wr.drewN n3) sb s.list := hS.out
              replace hR : RowW (wr.drewN n3) rb (List.replicate 8 0) := hR.out
              replace hU : RowW (wr.drewN n3) B (wsAt b 64) := hU.out
              replace hC : Below w.heap.size w (wr.drewN n3) := Below.drewW hC n3
              replace hS := Lib.hid hS
              replace hR := Lib.hid hR
              replace hU := Lib.hid hU
              refine ⟨?_, ?measure⟩
              iterate 78 apply Exists.intro
              refine ⟨?rel, rfl⟩
              case rel => exact ⟨k + 1, by omega, by go_num, by rw [hnx.out]; rfl, by rw [hnx.out]; rfl, by rw [hnx.out]; rfl, by rw [hnx.out]; rfl, by rw [hnx.out]; rfl, by rw [hnx.out]; rfl, by rw [hnx.out]; rfl, by rw [hnx.out]; rfl, hS, hR, hU, hC⟩
              case measure => simp [intOf]; omega
            · obtain rfl : k = 64 := by omega
              go_wp2
              go_loopw [196] (fun ii wr => ∃ k : Nat, k ≤ 8 ∧ ii = .int .i64 k ∧ Hid (RowW wr sb (mixL s t k)) ∧ Hid (RowW wr rb (List.replicate 8 0)) ∧ Below w.heap.size w wr) (fun ii _ => 8 - (intOf ii).toNat)
              case atStart => exact ⟨0, by omega, rfl, hS, hR, hC⟩
              case round =>
                clear hS hR hU hC
                obtain ⟨k, hk, rfl, hS, hR, hC⟩ := hrel
                have hcs : k = 0 ∨ k = 1 ∨ k = 2 ∨ k = 3 ∨ k = 4 ∨ k = 5 ∨ k = 6 ∨ k = 7 ∨ k = 8 := by omega
                rcases hcs with rfl | rfl | rfl | rfl | rfl | rfl | rfl | rfl | rfl
                · have h1 : RowW wr sb [s.a, s.b, s.c, s.d, s.e, s.f, s.g, s.h] := hS.out
                  have hc := h1.cell (k := 0) (show (_ : Nat) < 8 by decide)
                  have hfz := h1.free 0
                  have hix := idx8_0 (t.a.toNat : Int) (t.b.toNat : Int) (t.c.toNat : Int) (t.d.toNat : Int) (t.e.toNat : Int) (t.f.toNat : Int) (t.g.toNat : Int) (t.h.toNat : Int)
                  simp only [List.getD_cons_zero, List.getD_cons_succ] at hc
                  have hn : RowW (wr.setCell ⟨sb, 0, none⟩ (.int .u32 ((addW s.a t.a).toNat : Int))) sb (mixL s t 1) := h1.set (k := 0) (show (_ : Nat) < 8 by decide) (addW s.a t.a)
                  have hR2 := hR.out.other (p := ⟨sb, 0, none⟩) (by simp; omega) (.int .u32 ((addW s.a t.a).toNat : Int))
                  have hC2 := hC.setCell (p := ⟨sb, 0, none⟩) (by simp; have := hs0.out; omega) (.int .u32 ((addW s.a t.a).toNat : Int))
                  replace hn := Lib.hid hn
                  replace hR2 := Lib.hid hR2
                  clear h1
                  go_wp2
                  go_round
                  case rel => exact ⟨1, by omega, by go_num, hn, hR2, hC2⟩
                  case measure => simp [intOf]
                · have h1 : RowW wr sb [addW s.a t.a, s.b, s.c, s.d, s.e, s.f, s.g, s.h] := hS.out
                  have hc := h1.cell (k := 1) (show (_ : Nat) < 8 by decide)
                  have hfz := h1.free 1
                  have hix := idx8_1 (t.a.toNat : Int) (t.b.toNat : Int) (t.c.toNat : Int) (t.d.toNat : Int) (t.e.toNat : Int) (t.f.toNat : Int) (t.g.toNat : Int) (t.h.toNat : Int)
                  simp only [List.getD_cons_zero, List.getD_cons_succ] at hc
                  have hn : RowW (wr.setCell ⟨sb, 1, none⟩ (.int .u32 ((addW s.b t.b).toNat : Int))) sb (mixL s t 2) := h1.set (k := 1) (show (_ : Nat) < 8 by decide) (addW s.b t.b)
                  have hR2 := hR.out.other (p := ⟨sb, 1, none⟩) (by simp; omega) (.int .u32 ((addW s.b t.b).toNat : Int))
                  have hC2 := hC.setCell (p := ⟨sb, 1, none⟩) (by simp; have := hs0.out; omega) (.int .u32 ((addW s.b t.b).toNat : Int))
                  replace hn := Lib.hid hn
                  replace hR2 := Lib.hid hR2
                  clear h1
                  go_wp2
                  go_round
                  case rel => exact ⟨2, by omega, by go_num, hn, hR2, hC2⟩
                  case measure => simp [intOf]
                · have h1 : RowW wr sb [addW s.a t.a, addW s.b t.b, s.c, s.d, s.e, s.f, s.g, s.h] := hS.out
                  have hc := h1.cell (k := 2) (show (_ : Nat) < 8 by decide)
                  have hfz := h1.free 2
                  have hix := idx8_2 (t.a.toNat : Int) (t.b.toNat : Int) (t.c.toNat : Int) (t.d.toNat : Int) (t.e.toNat : Int) (t.f.toNat : Int) (t.g.toNat : Int) (t.h.toNat : Int)
                  simp only [List.getD_cons_zero, List.getD_cons_succ] at hc
                  have hn : RowW (wr.setCell ⟨sb, 2, none⟩ (.int .u32 ((addW s.c t.c).toNat : Int))) sb (mixL s t 3) := h1.set (k := 2) (show (_ : Nat) < 8 by decide) (addW s.c t.c)
                  have hR2 := hR.out.other (p := ⟨sb, 2, none⟩) (by simp; omega) (.int .u32 ((addW s.c t.c).toNat : Int))
                  have hC2 := hC.setCell (p := ⟨sb, 2, none⟩) (by simp; have := hs0.out; omega) (.int .u32 ((addW s.c t.c).toNat : Int))
                  replace hn := Lib.hid hn
                  replace hR2 := Lib.hid hR2
                  clear h1
                  go_wp2
                  go_round
                  case rel => exact ⟨3, by omega, by go_num, hn, hR2, hC2⟩
                  case measure => simp [intOf]
                · have h1 : RowW wr sb [addW s.a t.a, addW s.b t.b, addW s.c t.c, s.d, s.e, s.f, s.g, s.h] := hS.out
                  have hc := h1.cell (k := 3) (show (_ : Nat) < 8 by decide)
                  have hfz := h1.free 3
                  have hix := idx8_3 (t.a.toNat : Int) (t.b.toNat : Int) (t.c.toNat : Int) (t.d.toNat : Int) (t.e.toNat : Int) (t.f.toNat : Int) (t.g.toNat : Int) (t.h.toNat : Int)
                  simp only [List.getD_cons_zero, List.getD_cons_succ] at hc
                  have hn : RowW (wr.setCell ⟨sb, 3, none⟩ (.int .u32 ((addW s.d t.d).toNat : Int))) sb (mixL s t 4) := h1.set (k := 3) (show (_ : Nat) < 8 by decide) (addW s.d t.d)
                  have hR2 := hR.out.other (p := ⟨sb, 3, none⟩) (by simp; omega) (.int .u32 ((addW s.d t.d).toNat : Int))
                  have hC2 := hC.setCell (p := ⟨sb, 3, none⟩) (by simp; have := hs0.out; omega) (.int .u32 ((addW s.d t.d).toNat : Int))
                  replace hn := Lib.hid hn
                  replace hR2 := Lib.hid hR2
                  clear h1
                  go_wp2
                  go_round
                  case rel => exact ⟨4, by omega, by go_num, hn, hR2, hC2⟩
                  case measure => simp [intOf]
                · have h1 : RowW wr sb [addW s.a t.a, addW s.b t.b, addW s.c t.c, addW s.d t.d, s.e, s.f, s.g, s.h] := hS.out
                  have hc := h1.cell (k := 4) (show (_ : Nat) < 8 by decide)
                  have hfz := h1.free 4
                  have hix := idx8_4 (t.a.toNat : Int) (t.b.toNat : Int) (t.c.toNat : Int) (t.d.toNat : Int) (t.e.toNat : Int) (t.f.toNat : Int) (t.g.toNat : Int) (t.h.toNat : Int)
                  simp only [List.getD_cons_zero, List.getD_cons_succ] at hc
                  have hn : RowW (wr.setCell ⟨sb, 4, none⟩ (.int .u32 ((addW s.e t.e).toNat : Int))) sb (mixL s t 5) := h1.set (k := 4) (show (_ : Nat) < 8 by decide) (addW s.e t.e)
                  have hR2 := hR.out.other (p := ⟨sb, 4, none⟩) (by simp; omega) (.int .u32 ((addW s.e t.e).toNat : Int))
                  have hC2 := hC.setCell (p := ⟨sb, 4, none⟩) (by simp; have := hs0.out; omega) (.int .u32 ((addW s.e t.e).toNat : Int))
                  replace hn := Lib.hid hn
                  replace hR2 := Lib.hid hR2
                  clear h1
                  go_wp2
                  go_round
                  case rel => exact ⟨5, by omega, by go_num, hn, hR2, hC2⟩
                  case measure => simp [intOf]
                · have h1 : RowW wr sb [addW s.a t.a, addW s.b t.b, addW s.c t.c, addW s.d t.d, addW s.e t.e, s.f, s.g, s.h] := hS.out
                  have hc := h1.cell (k := 5) (show (_ : Nat) < 8 by decide)
                  have hfz := h1.free 5
                  have hix := idx8_5 (t.a.toNat : Int) (t.b.toNat : Int) (t.c.toNat : Int) (t.d.toNat : Int) (t.e.toNat : Int) (t.f.toNat : Int) (t.g.toNat : Int) (t.h.toNat : Int)
                  simp only [List.getD_cons_zero, List.getD_cons_succ] at hc
                  have hn : RowW (wr.setCell ⟨sb, 5, none⟩ (.int .u32 ((addW s.f t.f).toNat : Int))) sb (mixL s t 6) := h1.set (k := 5) (show (_ : Nat) < 8 by decide) (addW s.f t.f)
                  have hR2 := hR.out.other (p := ⟨sb, 5, none⟩) (by simp; omega) (.int .u32 ((addW s.f t.f).toNat : Int))
                  have hC2 := hC.setCell (p := ⟨sb, 5, none⟩) (by simp; have := hs0.out; omega) (.int .u32 ((addW s.f t.f).toNat : Int))
                  replace hn := Lib.hid hn
                  replace hR2 := Lib.hid hR2
                  clear h1
                  go_wp2
                  go_round
                  case rel => exact ⟨6, by omega, by go_num, hn, hR2, hC2⟩
                  case measure => simp [intOf]
                · have h1 : RowW wr sb [addW s.a t.a, addW s.b t.b, addW s.c t.c, addW s.d t.d, addW s.e t.e, addW s.f t.f, s.g, s.h] := hS.out
                  have hc := h1.cell (k := 6) (show (_ : Nat) < 8 by decide)
                  have hfz := h1.free 6
                  have hix := idx8_6 (t.a.toNat : Int) (t.b.toNat : Int) (t.c.toNat : Int) (t.d.toNat : Int) (t.e.toNat : Int) (t.f.toNat : Int) (t.g.toNat : Int) (t.h.toNat : Int)
                  simp only [List.getD_cons_zero, List.getD_cons_succ] at hc
                  have hn : RowW (wr.setCell ⟨sb, 6, none⟩ (.int .u32 ((addW s.g t.g).toNat : Int))) sb (mixL s t 7) := h1.set (k := 6) (show (_ : Nat) < 8 by decide) (addW s.g t.g)
                  have hR2 := hR.out.other (p := ⟨sb, 6, none⟩) (by simp; omega) (.int .u32 ((addW s.g t.g).toNat : Int))
                  have hC2 := hC.setCell (p := ⟨sb, 6, none⟩) (by simp; have := hs0.out; omega) (.int .u32 ((addW s.g t.g).toNat : Int))
                  replace hn := Lib.hid hn
                  replace hR2 := Lib.hid hR2
                  clear h1
                  go_wp2
                  go_round
                  case rel => exact ⟨7, by omega, by go_num, hn, hR2, hC2⟩
                  case measure => simp [intOf]
                · have h1 : RowW wr sb [addW s.a t.a, addW s.b t.b, addW s.c t.c, addW s.d t.d, addW s.e t.e, addW s.f t.f, addW s.g t.g, s.h] := hS.out
                  have hc := h1.cell (k := 7) (show (_ : Nat) < 8 by decide)
                  have hfz := h1.free 7
                  have hix := idx8_7 (t.a.toNat : Int) (t.b.toNat : Int) (t.c.toNat : Int) (t.d.toNat : Int) (t.e.toNat : Int) (t.f.toNat : Int) (t.g.toNat : Int) (t.h.toNat : Int)
                  simp only [List.getD_cons_zero, List.getD_cons_succ] at hc
                  have hn : RowW (wr.setCell ⟨sb, 7, none⟩ (.int .u32 ((addW s.h t.h).toNat : Int))) sb (mixL s t 8) := h1.set (k := 7) (show (_ : Nat) < 8 by decide) (addW s.h t.h)
                  have hR2 := hR.out.other (p := ⟨sb, 7, none⟩) (by simp; omega) (.int .u32 ((addW s.h t.h).toNat : Int))
                  have hC2 := hC.setCell (p := ⟨sb, 7, none⟩) (by simp; have := hs0.out; omega) (.int .u32 ((addW s.h t.h).toNat : Int))
                  replace hn := Lib.hid hn
                  replace hR2 := Lib.hid hR2
                  clear h1
                  go_wp2
                  go_round
                  case rel => exact ⟨8, by omega, by go_num, hn, hR2, hC2⟩
                  case measure => simp [intOf]
                · have h1 : RowW wr sb [addW s.a t.a, addW s.b t.b, addW s.c t.c, addW s.d t.d, addW s.e t.e, addW s.f t.f, addW s.g t.g, addW s.h t.h] := hS.out
                  have hc0 := h1.cell (k := 0) (show (_ : Nat) < 8 by decide)
                  have hc1 := h1.cell (k := 1) (show (_ : Nat) < 8 by decide)
                  have hc2 := h1.cell (k := 2) (show (_ : Nat) < 8 by decide)
                  have hc3 := h1.cell (k := 3) (show (_ : Nat) < 8 by decide)
                  have hc4 := h1.cell (k := 4) (show (_ : Nat) < 8 by decide)
                  have hc5 := h1.cell (k := 5) (show (_ : Nat) < 8 by decide)
                  have hc6 := h1.cell (k := 6) (show (_ : Nat) < 8 by decide)
                  have hc7 := h1.cell (k := 7) (show (_ : Nat) < 8 by decide)
                  simp only [List.getD_cons_zero, List.getD_cons_succ] at hc0 hc1 hc2 hc3 hc4 hc5 hc6 hc7
                  have hd0 := hR.out.cell (k := 0) (show (_ : Nat) < 8 by decide)
                  have hd1 := hR.out.cell (k := 1) (show (_ : Nat) < 8 by decide)
                  have hd2 := hR.out.cell (k := 2) (show (_ : Nat) < 8 by decide)
                  have hd3 := hR.out.cell (k := 3) (show (_ : Nat) < 8 by decide)
                  have hd4 := hR.out.cell (k := 4) (show (_ : Nat) < 8 by decide)
                  have hd5 := hR.out.cell (k := 5) (show (_ : Nat) < 8 by decide)
                  have hd6 := hR.out.cell (k := 6) (show (_ : Nat) < 8 by decide)
                  have hd7 := hR.out.cell (k := 7) (show (_ : Nat) < 8 by decide)
                  have hfz := fun k => hR.out.free k
                  have hfz0 := hfz 0
                  have hfz1 := hfz 1
                  have hfz2 := hfz 2
                  have hfz3 := hfz 3
                  have hfz4 := hfz 4
                  have hfz5 := hfz 5
                  have hfz6 := hfz 6
                  have hfz7 := hfz 7
                  have hrb0 : w.heap.size ≤ rb := by have := hs0.out; omega
                  have hF : RowW ((((((((wr.setCell ⟨rb, 0, none⟩ (.int .u32 ((addW s.a t.a).toNat : Int))).setCell ⟨rb, 1, none⟩ (.int .u32 ((addW s.b t.b).toNat : Int))).setCell ⟨rb, 2, none⟩ (.int .u32 ((addW s.c t.c).toNat : Int))).setCell ⟨rb, 3, none⟩ (.int .u32 ((addW s.d t.d).toNat : Int))).setCell ⟨rb, 4, none⟩ (.int .u32 ((addW s.e t.e).toNat : Int))).setCell ⟨rb, 5, none⟩ (.int .u32 ((addW s.f t.f).toNat : Int))).setCell ⟨rb, 6, none⟩ (.int .u32 ((addW s.g t.g).toNat : Int))).setCell ⟨rb, 7, none⟩ (.int .u32 ((addW s.h t.h).toNat : Int))) rb [addW s.a t.a, addW s.b t.b, addW s.c t.c, addW s.d t.d, addW s.e t.e, addW s.f t.f, addW s.g t.g, addW s.h t.h] := (RowW.set (RowW.set (RowW.set (RowW.set (RowW.set (RowW.set (RowW.set (RowW.set hR.out (k := 0) (show (_ : Nat) < 8 by decide) (addW s.a t.a)) (k := 1) (show (_ : Nat) < 8 by decide) (addW s.b t.b)) (k := 2) (show (_ : Nat) < 8 by decide) (addW s.c t.c)) (k := 3) (show (_ : Nat) < 8 by decide) (addW s.d t.d)) (k := 4) (show (_ : Nat) < 8 by decide) (addW s.e t.e)) (k := 5) (show (_ : Nat) < 8 by decide) (addW s.f t.f)) (k := 6) (show (_ : Nat) < 8 by decide) (addW s.g t.g)) (k := 7) (show (_ : Nat) < 8 by decide) (addW s.h t.h))
                  have hCF : Below w.heap.size w ((((((((wr.setCell ⟨rb, 0, none⟩ (.int .u32 ((addW s.a t.a).toNat : Int))).setCell ⟨rb, 1, none⟩ (.int .u32 ((addW s.b t.b).toNat : Int))).setCell ⟨rb, 2, none⟩ (.int .u32 ((addW s.c t.c).toNat : Int))).setCell ⟨rb, 3, none⟩ (.int .u32 ((addW s.d t.d).toNat : Int))).setCell ⟨rb, 4, none⟩ (.int .u32 ((addW s.e t.e).toNat : Int))).setCell ⟨rb, 5, none⟩ (.int .u32 ((addW s.f t.f).toNat : Int))).setCell ⟨rb, 6, none⟩ (.int .u32 ((addW s.g t.g).toNat : Int))).setCell ⟨rb, 7, none⟩ (.int .u32 ((addW s.h t.h).toNat : Int))) := (Below.setCell (Below.setCell (Below.setCell (Below.setCell (Below.setCell (Below.setCell (Below.setCell (Below.setCell hC (p := ⟨rb, 0, none⟩) hrb0 (.int .u32 ((addW s.a t.a).toNat : Int))) (p := ⟨rb, 1, none⟩) hrb0 (.int .u32 ((addW s.b t.b).toNat : Int))) (p := ⟨rb, 2, none⟩) hrb0 (.int .u32 ((addW s.c t.c).toNat : Int))) (p := ⟨rb, 3, none⟩) hrb0 (.int .u32 ((addW s.d t.d).toNat : Int))) (p := ⟨rb, 4, none⟩) hrb0 (.int .u32 ((addW s.e t.e).toNat : Int))) (p := ⟨rb, 5, none⟩) hrb0 (.int .u32 ((addW s.f t.f).toNat : Int))) (p := ⟨rb, 6, none⟩) hrb0 (.int .u32 ((addW s.g t.g).toNat : Int))) (p := ⟨rb, 7, none⟩) hrb0 (.int .u32 ((addW s.h t.h).toNat : Int)))
                  have hbl : blk s b = addS s t := by rw [← ht]; rfl
                  replace hF := Lib.hid hF
                  replace hbl := Lib.hid hbl
                  clear h1 hS ht hfz
                  go_wp2
                  have hg0 := hF.out.cell (k := 0) (show (_ : Nat) < 8 by decide)
                  have hg1 := hF.out.cell (k := 1) (show (_ : Nat) < 8 by decide)
                  have hg2 := hF.out.cell (k := 2) (show (_ : Nat) < 8 by decide)
                  have hg3 := hF.out.cell (k := 3) (show (_ : Nat) < 8 by decide)
                  have hg4 := hF.out.cell (k := 4) (show (_ : Nat) < 8 by decide)
                  have hg5 := hF.out.cell (k := 5) (show (_ : Nat) < 8 by decide)
                  have hg6 := hF.out.cell (k := 6) (show (_ : Nat) < 8 by decide)
                  have hg7 := hF.out.cell (k := 7) (show (_ : Nat) < 8 by decide)
                  simp only [List.getD_cons_zero, List.getD_cons_succ] at hg0 hg1 hg2 hg3 hg4 hg5 hg6 hg7
                  refine bodyPost_ret (v := .agg #[.int .u32 ((addW s.a t.a).toNat : Int), .int .u32 ((addW s.b t.b).toNat : Int), .int .u32 ((addW s.c t.c).toNat : Int), .int .u32 ((addW s.d t.d).toNat : Int), .int .u32 ((addW s.e t.e).toNat : Int), .int .u32 ((addW s.f t.f).toNat : Int), .int .u32 ((addW s.g t.g).toNat : Int), .int .u32 ((addW s.h t.h).toNat : Int)]) (by simp [results, Tryd.results10, go_sem, hg0, hg1, hg2, hg3, hg4, hg5, hg6, hg7]) rfl ?_
                  exact ⟨by rw [hbl.out]; rfl, hCF⟩
end Go.Proofs.YtcgnoohllfbmcaaDoor
