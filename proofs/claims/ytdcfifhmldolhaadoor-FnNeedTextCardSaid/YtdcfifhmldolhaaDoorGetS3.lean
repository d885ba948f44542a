/-
  The walk of the reference's l3Get, '>='.
-/
import Derived.Test.YtdcfifhmldolhaaDoorGetP
import Derived.Deep.RegionHeld3
namespace Go.Proofs.YtdcfifhmldolhaaDoor
open Go.RowKit
set_option linter.unusedVariables false
attribute [local go_sem] mkB_size mkB_extract mkB_get mkB_append mkB_append_raw raw_append_mkB mkB_toList take_left' drop_left'

set_option maxHeartbeats 16000000 in
theorem l3Get_from (nm v : List UInt8) (hl : (nm ++ 62 :: 61 :: v).length ≤ 1099511627) (hs : signAt (nm ++ 62 :: 61 :: v) = some nm.length) (w : World) :
    Calls Tryd.prog 14 #[.string (mkB (nm ++ 62 :: 61 :: v))] w fun e w' => e = .returned (.tuple #[.agg #[.string (mkB nm), .int .i64 2, .string (mkB v)], .bool (needOk nm 2 v)]) ∧ Below w.heap.size w w' := by
  have hno := Lib.hid (before_get hs)
  have hlen : (nm ++ 62 :: 61 :: v).length = nm.length + v.length + 2 := by simp; try omega
  have hsb1 : nm.length + v.length + 2 - nm.length = v.length + 2 := by omega
  have hsb2 : nm.length + v.length + 1 + 1 - nm.length = v.length + 1 + 1 := by omega
  have hput := Lib.hid (show needText nm 2 v = (nm ++ 62 :: 61 :: v) by simp [needText, sign])
  go_enter Tryd.func14, Tryd.ntmps14
  go_wp2
  go_loop [4] (fun i => ∃ k : Nat, k ≤ nm.length ∧ i = .int .i64 k) (fun i => nm.length - (intOf i).toNat)
  case atStart => exact ⟨0, Nat.zero_le _, rfl⟩
  case round =>
    obtain ⟨k, hk, rfl⟩ := hrel
    by_cases hlt : k < nm.length
    · obtain ⟨q1, q2, q3⟩ := notSign (hno.out k hlt)
      have hlt2 : k < (nm ++ 62 :: 61 :: v).length := by omega
      have q1' : ((nm[k].toNat : Int) != 61) = true := by rw [bne, q1]; rfl
      have q2' : ((nm[k].toNat : Int) != 62) = true := by rw [bne, q2]; rfl
      have q3' : ((nm[k].toNat : Int) != 60) = true := by rw [bne, q3]; rfl
      go_wp2
      go_round
      case rel => exact ⟨k + 1, by omega, by go_num⟩
      case measure => simp [intOf]; omega
    · have hkl : k = nm.length := by omega
      subst hkl
      have hlt2 : nm.length < (nm ++ 62 :: 61 :: v).length := by omega
      have hat : (nm ++ 62 :: 61 :: v)[nm.length] = 62 := at_len hlt2
      go_wp2_with fail
      obtain ⟨W2, hW2⟩ : ∃ W2, (w.alloc (.cells #[.string { data := #[] }, .int .i64 0, .string { data := #[] }] 23)).alloc (.cells #[.string (mkB nm), .int .i64 0, .string { data := #[] }] 23) = W2 := ⟨_, rfl⟩
      have hr2 : Box3 W2 w.heap.size 23 (.string { data := #[] }) (.int .i64 0) (.string { data := #[] }) := by rw [← hW2]; exact (Box3.new _ _ _ _ _).kept (World.grownBy_alloc _ _ none) (fun e => by cases e)
      have hn2 : Box3 W2 (w.heap.size + 1) 23 (.string (mkB nm)) (.int .i64 0) (.string { data := #[] }) := by
        rw [← hW2]
        have h := Box3.new (w.alloc (.cells #[.string { data := #[] }, .int .i64 0, .string { data := #[] }] 23)) 23 (.string (mkB nm)) (.int .i64 0) (.string { data := #[] })
        simp only [World.size_alloc] at h
        exact h
      have hz2 : W2.heap.size = w.heap.size + 2 := by rw [← hW2]; simp
      have hB2 : Below w.heap.size w W2 := by rw [← hW2]; exact ((Below.refl _ _).alloc (Nat.le_refl _) _).alloc (by simp) _
      rw [hW2]
      clear hW2
      go_loopw [7] (fun i wr => (i = .int .i64 1 ∧ Box3 wr w.heap.size 23 (.string { data := #[] }) (.int .i64 0) (.string { data := #[] }) ∧ Box3 wr (w.heap.size + 1) 23 (.string (mkB nm)) (.int .i64 0) (.string { data := #[] }) ∧ Below w.heap.size w wr ∧ w.heap.size + 2 ≤ wr.heap.size) ∨ (i = .int .i64 2 ∧ Box3 wr w.heap.size 23 (.string { data := #[] }) (.int .i64 0) (.string { data := #[] }) ∧ Box3 wr (w.heap.size + 1) 23 (.string (mkB nm)) (.int .i64 0) (.string { data := #[] }) ∧ Below w.heap.size w wr ∧ w.heap.size + 2 ≤ wr.heap.size) ∨ (i = .int .i64 3 ∧ Box3 wr w.heap.size 23 (.string { data := #[] }) (.int .i64 0) (.string { data := #[] }) ∧ Box3 wr (w.heap.size + 1) 23 (.string (mkB nm)) (.int .i64 2) (.string (mkB v)) ∧ Below w.heap.size w wr ∧ w.heap.size + 2 ≤ wr.heap.size) ∨ (i = .int .i64 4 ∧ Box3 wr w.heap.size 23 (.string { data := #[] }) (.int .i64 0) (.string { data := #[] }) ∧ Box3 wr (w.heap.size + 1) 23 (.string (mkB nm)) (.int .i64 2) (.string (mkB v)) ∧ Below w.heap.size w wr ∧ w.heap.size + 2 ≤ wr.heap.size)) (fun i _ => 5 - (intOf i).toNat)
      case atStart => exact .inl ⟨rfl, hr2, hn2, hB2, by omega⟩
      case round =>
        rcases hrel with ⟨rfl, hr3, hn3, hB3, hz3⟩ | ⟨rfl, hr3, hn3, hB3, hz3⟩ | ⟨rfl, hr3, hn3, hB3, hz3⟩ | ⟨rfl, hr3, hn3, hB3, hz3⟩
        · have m0 := hn3.frozen 0
          have m1 := hn3.frozen 1
          have m2 := hn3.frozen 2
          have n0 := hn3.cell0
          have n1 := hn3.cell1
          have n2 := hn3.cell2
          clear hr2 hn2 hB2 hz2
          go_wp2_with (go_at_call 27; refine (l3Sign_any 1 _).mono ?_; rintro e w' ⟨rfl, rfl⟩; rw [show sign 1 = [61] from rfl])
          go_round
          case rel => exact (.inr (.inl ⟨rfl, hr3, hn3, hB3, hz3⟩))
          case measure => simp [intOf]
        · have m0 := hn3.frozen 0
          have m1 := hn3.frozen 1
          have m2 := hn3.frozen 2
          have n0 := hn3.cell0
          have n1 := hn3.cell1
          have n2 := hn3.cell2
          clear hr2 hn2 hB2 hz2
          go_wp2_with (go_at_call 27; refine (l3Sign_any 2 _).mono ?_; rintro e w' ⟨rfl, rfl⟩; rw [show sign 2 = [62, 61] from rfl])
          go_round
          case rel => exact (.inr (.inr (.inl ⟨rfl, Box3.apart (Box3.apart hr3 (by simp) _) (by simp) _, ((hn3.set1 (.int .i64 2)).set2 (.string (mkB v))), ((hB3.setCell (p := ⟨w.heap.size + 1, 1, none⟩) (Nat.le_succ _) _).setCell (p := ⟨w.heap.size + 1, 2, none⟩) (Nat.le_succ _) _), by simp; omega⟩)))
          case measure => simp [intOf]
        · have m0 := hn3.frozen 0
          have m1 := hn3.frozen 1
          have m2 := hn3.frozen 2
          have n0 := hn3.cell0
          have n1 := hn3.cell1
          have n2 := hn3.cell2
          clear hr2 hn2 hB2 hz2
          go_wp2_with (go_at_call 27; refine (l3Sign_any 3 _).mono ?_; rintro e w' ⟨rfl, rfl⟩; rw [show sign 3 = [60] from rfl])
          go_round
          case rel => exact (.inr (.inr (.inr ⟨rfl, hr3, hn3, hB3, hz3⟩)))
          case measure => simp [intOf]
        · go_wp2_with fail
          have c0 := hn3.cell0
          have c1 := hn3.cell1
          have c2 := hn3.cell2
          have hzd : wr.drew.heap.size = wr.heap.size := rfl
          rcases boolOf (needOk nm 2 v) with ho | ho
          · first
            | skip
              go_region_with (first
                | (go_at_call 12; refine (specNeedOk_any nm v 2 (by first | omega | (simp; done) | (simp; omega)) (by first | omega | (simp; done) | (simp; omega)) _).mono ?_; rintro e w4 ⟨rfl, hB⟩; rw [ho.out]; have hr4 := Box3.below (Box3.drew hr3) hB (by omega); have hn4 := Box3.below (Box3.drew hn3) hB (by omega); have hB4 := hB3.drew.trans (hB.mono (by omega)); have hz4 : w.heap.size + 2 ≤ w4.heap.size := (by have := hB.size; omega); have b0 := hr4.cell0; have b1 := hr4.cell1; have b2 := hr4.cell2; have f0 := hr4.frozen 0; have f1 := hr4.frozen 1; have f2 := hr4.frozen 2; have n0 := hn4.cell0; have n1 := hn4.cell1; have n2 := hn4.cell2)
                | (go_at_call 19; fail))
            | fail
            all_goals go_wp2
            all_goals
              have hfin := ((hr4.set0 (.string (mkB nm))).set1 (.int .i64 2)).set2 (.string (mkB v))
              have e0 := hfin.cell0
              have e1 := hfin.cell1
              have e2 := hfin.cell2
              refine bodyPost_ret (v := .tuple #[.agg #[.string (mkB nm), .int .i64 2, (.string (mkB v))], .bool false]) (by simp [results, Tryd.results14, go_sem, e0, e1, e2]) rfl ⟨by first | (rw [ho.out]; done) | (rw [ho.out]; rfl), ?_⟩
              exact ((hB4.setCell (p := ⟨w.heap.size, 0, none⟩) (Nat.le_refl _) _).setCell (p := ⟨w.heap.size, 1, none⟩) (Nat.le_refl _) _).setCell (p := ⟨w.heap.size, 2, none⟩) (Nat.le_refl _) _
          · first
            | skip
              go_region_held3 (fun W' => W'.cell? ⟨w.heap.size + 1, 0, none⟩ = some (.string (mkB nm)) ∧ W'.cell? ⟨w.heap.size + 1, 1, none⟩ = some (.int .i64 2) ∧ W'.cell? ⟨w.heap.size + 1, 2, none⟩ = some (.string (mkB v))) (first | exact ⟨x0, x1, x2⟩ | exact ⟨n0, n1, n2⟩ | exact ⟨c0, c1, c2⟩ | go_keep) (first
                | (go_at_call 12; refine (specNeedOk_any nm v 2 (by first | omega | (simp; done) | (simp; omega)) (by first | omega | (simp; done) | (simp; omega)) _).mono ?_; rintro e w4 ⟨rfl, hB⟩; rw [ho.out]; have hr4 := Box3.below (Box3.drew hr3) hB (by omega); have hn4 := Box3.below (Box3.drew hn3) hB (by omega); have hB4 := hB3.drew.trans (hB.mono (by omega)); have hz4 : w.heap.size + 2 ≤ w4.heap.size := (by have := hB.size; omega); have b0 := hr4.cell0; have b1 := hr4.cell1; have b2 := hr4.cell2; have f0 := hr4.frozen 0; have f1 := hr4.frozen 1; have f2 := hr4.frozen 2; have n0 := hn4.cell0; have n1 := hn4.cell1; have n2 := hn4.cell2)
                | (go_at_call 19; refine (l3Put_any nm v 2 (by first | omega | (simp; done) | (simp; omega)) (by first | omega | (simp; done) | (simp; omega)) _).mono ?_; rintro e w5 ⟨rfl, hB'⟩; rw [hput.out]; have hr5 := Box3.below hr4 hB' (by omega); have hn5 := Box3.below hn4 hB' (by omega); have hB5 := hB4.trans (hB'.mono (by omega)); have y0 := hr5.cell0; have y1 := hr5.cell1; have y2 := hr5.cell2; have g0 := hr5.frozen 0; have g1 := hr5.frozen 1; have g2 := hr5.frozen 2; have x0 := hn5.cell0; have x1 := hn5.cell1; have x2 := hn5.cell2))
            | fail
            all_goals go_wp2
            all_goals
              have hfin := ((hr5.set0 (.string (mkB nm))).set1 (.int .i64 2)).set2 (.string (mkB v))
              have e0 := hfin.cell0
              have e1 := hfin.cell1
              have e2 := hfin.cell2
              refine bodyPost_ret (v := .tuple #[.agg #[.string (mkB nm), .int .i64 2, (.string (mkB v))], .bool true]) (by simp [results, Tryd.results14, go_sem, e0, e1, e2]) rfl ⟨by first | (rw [ho.out]; done) | (rw [ho.out]; rfl), ?_⟩
              exact ((hB5.setCell (p := ⟨w.heap.size, 0, none⟩) (Nat.le_refl _) _).setCell (p := ⟨w.heap.size, 1, none⟩) (Nat.le_refl _) _).setCell (p := ⟨w.heap.size, 2, none⟩) (Nat.le_refl _) _

end Go.Proofs.YtdcfifhmldolhaaDoor
