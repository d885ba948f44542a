/-
  The walk of the program's partsHave.
-/
import Derived.Test.YtiibodelcfmnpaaDoorGlobE
import Derived.OrdersHeld
import Derived.Deep.RegionHeld3
namespace Go.Proofs.YtiibodelcfmnpaaDoor
open Go.RowKit
set_option linter.unusedVariables false
set_option linter.unusedSimpArgs false
attribute [local go_sem] mkB_size mkB_extract mkB_get mkB_toList

theorem info_bool : (Tryd.prog.info? 4).map (fun i => (i.zero, i.size, i.bytes)) = some (some (.bool false), 1, 1) := by kernel_rfl
def stars (xs : List (Pt × Value)) : List Pt := xs.map Prod.fst
theorem stars_take {xs : List (Pt × Value)} {k : Nat} (h : k < xs.length) : stars (xs.take (k + 1)) = stars (xs.take k) ++ [xs[k].1] := by
  unfold stars
  rw [List.take_succ_eq_append_getElem h, List.map_append]; rfl
set_option maxRecDepth 1000000 in
set_option maxHeartbeats 16000000 in
theorem partsHave_any (xs : List (Pt × Value)) (s : List UInt8) (g cap : Nat) (w : World) (hP : PartsAt w g xs) (hs : s.length ≤ 1048576) (hx : xs.length ≤ 1048576) :
    Calls Tryd.prog 36 #[.slice (some ⟨g, 0, none⟩) xs.length cap, .string (mkB s)] w fun e w' => e = .returned (.bool (fits (stars xs) s)) ∧ Below w.heap.size w w' := by
  obtain ⟨i0, hi, hz0, hz1, hz2⟩ := info_parts info_bool
  have hib : i0.bytes * (s.length + 1) ≤ 281474976710656 := by rw [hz2]; omega
  have hml : s.length + 1 ≤ maxLen := by unfold maxLen; omega
  have hPh := Lib.hid hP
  have hgl := hP.1
  clear hP
  replace hi := Lib.hid hi
  replace hz0 := Lib.hid hz0
  replace hz1 := Lib.hid hz1
  replace hz2 := Lib.hid hz2
  go_enter Tryd.func36, Tryd.ntmps36
  go_wp2_with (at_make; refine wpList_make_full _ rfl _ _ _ rfl w.heap.size 4 i0 _ 1 Tryd.underlying64 hi.out hz0.out hz1.out _ _ _ _ (s.length + 1) rfl rfl (by simp) (by simp) hib hml (Nat.le_refl _) ?_; intro W0 hown hgr; have hR0 := (BRow.made hown).1; have hB0 : Below w.heap.size w W0 := (Below.refl _ _).grown hgr (Nat.le_refl _) (fun k e => by cases e); clear hown hgr; have c0 := hR0.cell (j := 0) (by omega); have f0 := hR0.frozen 0)
  have hR1 : BRow (W0.setCell ⟨w.heap.size, 0, none⟩ (.bool true)) w.heap.size (s.length + 1) (reach [] s) := (hR0.set (i := 0) (by omega) true).congr (fun j hj => by
    rw [reach_nil s j (by omega)]
    cases j with
    | zero => rfl
    | succ j => rfl)
  have hB1 : Below w.heap.size w (W0.setCell ⟨w.heap.size, 0, none⟩ (.bool true)) := hB0.setCell (p := ⟨w.heap.size, 0, none⟩) (Nat.le_refl _) _
  replace hR1 := Lib.hid hR1
  clear hR0 hB0 c0 f0
  go_loopw [5, 18] (fun v5 ii wr => ∃ (k g5 : Nat), k ≤ xs.length ∧ ii = .int .i64 k ∧ v5 = .slice (some ⟨g5, 0, none⟩) (s.length + 1) (s.length + 1) ∧ w.heap.size ≤ g5 ∧ Hid (BRow wr g5 (s.length + 1) (reach (stars (xs.take k)) s)) ∧ Below w.heap.size w wr) (fun _ ii _ => xs.length - (intOf ii).toNat)
  case atStart => exact ⟨0, w.heap.size, Nat.zero_le _, rfl, rfl, Nat.le_refl _, hR1, hB1⟩
  case round =>
    clear hR1 hB1
    obtain ⟨k, g5, hk, rfl, rfl, hg5, hR, hB⟩ := hrel
    have hBz := hB.size
    by_cases hlt : k < xs.length
    · have hkI : (k : Int) < (xs.length : Int) := by omega
      have hP1 := hPh.out.below hB
      obtain ⟨q0, q1⟩ := hP1.2.1 k hlt
      have htk := hP1.2.2 _ (List.getElem_mem hlt)
      have hst := stars_take hlt
      obtain ⟨⟨pt, f⟩, hxe⟩ : ∃ x, xs[k] = x := ⟨_, rfl⟩
      rw [hxe] at q0 q1 htk hst
      simp only at q0 q1 htk hst
      clear hxe
      obtain ⟨ps, hps⟩ : ∃ x, stars (xs.take k) = x := ⟨_, rfl⟩
      rw [hps] at hR hst
      have hg5l := hR.out.lt
      replace hst := Lib.hid hst
      replace hP1 := Lib.hid hP1
      clear hps
      obtain ⟨wo, hwo⟩ : ∃ x, x = wr := ⟨_, rfl⟩
      subst hwo
      by_cases hpt : pt.isStar = true
      · obtain rfl : pt = .star := by cases pt <;> first | rfl | (cases hpt)
        obtain rfl : f = .nilFunc := htk
        simp only [Pt.isStar] at q0
        clear hpt
        obtain ⟨W1, hW1⟩ : ∃ X, wo.alloc (.cells #[.bool true, .nilFunc] 61) = X := ⟨_, rfl⟩
        obtain ⟨pb, hpb⟩ : ∃ x, wo.heap.size = x := ⟨_, rfl⟩
        have hbx : Box2 W1 pb 61 (.bool true) (.nilFunc) := by rw [← hW1, ← hpb]; exact Box2.new _ _ _ _
        have hz1x : W1.heap.size = pb + 1 := by rw [← hW1, ← hpb]; simp
        have hR1 : BRow W1 g5 (s.length + 1) (reach ps s) := by rw [← hW1]; exact hR.out.alloc _
        have hBW1 : Below w.heap.size w W1 := by rw [← hW1]; exact hB.alloc hBz _
        have hBr1 : Below wo.heap.size wo W1 := by rw [← hW1]; exact (Below.refl _ _).alloc (Nat.le_refl _) _
        have hpl : w.heap.size ≤ pb := by omega
        have hgp : g5 < pb := by omega
        have hW1' := Lib.hid hW1
        clear hW1
        have hpb' := Lib.hid hpb
        rw [hpb] at hBr1
        clear hpb
        go_wp2_with (at_make; rw [hW1'.out, hpb'.out]; refine wpList_make_full _ rfl _ _ _ rfl (pb + 1) 4 i0 _ 1 Tryd.underlying64 hi.out hz0.out hz1.out _ _ _ _ (s.length + 1) rfl rfl (by simp) (by simp) hib hml (by omega) ?_; intro W2 hown hgr; rw [hz1x] at hown ⊢; have hN := (BRow.made hown).1; have hB2 : Below (pb + 1) W1 W2 := (Below.refl _ _).grown hgr (by omega) (fun k e => by cases e); clear hown hgr)
        have hRn := Lib.hid ((hN.congr (f' := upTo (reach (ps ++ [.star]) s) 0) (fun j hj => by simp [upTo])))
        have hR2 := Lib.hid (hR1.below hB2 (by omega))
        have hb2 := Lib.hid (hbx.below hB2 (by omega))
        have hBW2 := hBW1.trans (hB2.mono (by omega))
        have hBr2 := hBr1.trans (hB2.mono (by omega))
        clear hN hB2 hR1 hbx hBW1 hBr1 hz1x q0 q1 hB hR
        go_loopw [28] (fun ii wx => ∃ i : Nat, i ≤ s.length + 1 ∧ ii = .int .i64 i ∧ Hid (BRow wx (pb + 1) (s.length + 1) (upTo (reach (ps ++ [.star]) s) i)) ∧ Hid (BRow wx g5 (s.length + 1) (reach ps s)) ∧ Hid (Box2 wx pb 61 (.bool true) (.nilFunc)) ∧ Below w.heap.size w wx ∧ Below pb wo wx) (fun ii _ => s.length + 1 - (intOf ii).toNat)
        case atStart => exact ⟨0, Nat.zero_le _, rfl, hRn, hR2, hb2, hBW2, hBr2⟩
        case round =>
          clear hRn hR2 hb2 hBW2 hBr2
          obtain ⟨i, hi1, rfl, hRn, hR2, hb2, hBx, hBy⟩ := hrel
          by_cases hlt2 : i < s.length + 1
          · skip
            have hiI : (i : Int) < (s.length : Int) + 1 := by omega
            have e0 := hb2.out.cell0
            have e1 := hb2.out.cell1
            have d0 := hR2.out.cell hlt2
            have n0 := hRn.out.cell hlt2
            have m0 := hRn.out.frozen i
            rcases boolOf (reach ps s i) with hb | hb
            case inr =>
              rw [hb.out] at d0
              have hval : true = reach (ps ++ [.star]) s i := by
                have hb := hb.out
                cases i with
                | zero => rw [reach_star0, hb]
                | succ j => rw [reach_star ps (by omega), hb]; rfl
              replace hval := Lib.hid hval
              have hset := Lib.hid ((hRn.out.set hlt2 true).congr (fun j _ => upTo_next (reach (ps ++ [.star]) s) i hval.out j))
              have hR2' := Lib.hid (hR2.out.other (B := pb + 1) (j := i) (by omega) (.bool true))
              have hb2' : Box2 (wr.setCell ⟨pb + 1, i, none⟩ (.bool true)) pb 61 (.bool true) (.nilFunc) := hb2.out.kept (grown_set _ (pb + 1) i _) (by simp)
              replace hb2' := Lib.hid hb2'
              have hBx' : Below w.heap.size w (wr.setCell ⟨pb + 1, i, none⟩ (.bool true)) := hBx.setCell (p := ⟨pb + 1, i, none⟩) (by simp; omega) _
              have hBy' : Below pb wo (wr.setCell ⟨pb + 1, i, none⟩ (.bool true)) := hBy.setCell (p := ⟨pb + 1, i, none⟩) (by simp) _
              go_wp2
              go_roundw
              case rel => exact ⟨i + 1, by omega, by go_num, hset, hR2', hb2', hBx', hBy'⟩
              case measure => first | (simp [intOf]; done) | (simp [intOf]; omega)
            rw [hb.out] at d0
            cases i with
            | zero =>
              have hval : false = reach (ps ++ [.star]) s 0 := by rw [reach_star0, hb.out]
              replace hval := Lib.hid hval
              have hset := Lib.hid ((hRn.out.set hlt2 false).congr (fun j _ => upTo_next (reach (ps ++ [.star]) s) 0 hval.out j))
              have hR2' := Lib.hid (hR2.out.other (B := pb + 1) (j := 0) (by omega) (.bool false))
              have hb2' : Box2 (wr.setCell ⟨pb + 1, 0, none⟩ (.bool false)) pb 61 (.bool true) (.nilFunc) := hb2.out.kept (grown_set _ (pb + 1) 0 _) (by simp)
              replace hb2' := Lib.hid hb2'
              have hBx' : Below w.heap.size w (wr.setCell ⟨pb + 1, 0, none⟩ (.bool false)) := hBx.setCell (p := ⟨pb + 1, 0, none⟩) (by simp; omega) _
              have hBy' : Below pb wo (wr.setCell ⟨pb + 1, 0, none⟩ (.bool false)) := hBy.setCell (p := ⟨pb + 1, 0, none⟩) (by simp) _
              go_wp2
              go_roundw
              case rel => exact ⟨0 + 1, by omega, by go_num, hset, hR2', hb2', hBx', hBy'⟩
              case measure => first | (simp [intOf]; done) | (simp [intOf]; omega)
            | succ j =>
              have hjl : j < s.length + 1 := by omega
              have p0 := hRn.out.cell hjl
              rw [upTo_lt _ (by omega)] at p0
              have hjI : (0 : Int) < (j : Int) + 1 := by omega
              have hjm : (j : Int) ≤ 1048576 := by omega
              have hvj : ∀ b, reach (ps ++ [.star]) s j = b → b = reach (ps ++ [.star]) s (j + 1) := fun b h => by rw [reach_star ps (by omega), hb.out, h]; rfl
              rcases boolOf (reach (ps ++ [.star]) s j) with hc | hc
              · rw [hc.out] at p0
                have hval := Lib.hid (hvj _ hc.out)
                clear hvj
                have hset := Lib.hid ((hRn.out.set hlt2 false).congr (fun j' _ => upTo_next (reach (ps ++ [.star]) s) (j + 1) hval.out j'))
                have hR2' := Lib.hid (hR2.out.other (B := pb + 1) (j := j + 1) (by omega) (.bool false))
                have hb2' : Box2 (wr.setCell ⟨pb + 1, j + 1, none⟩ (.bool false)) pb 61 (.bool true) (.nilFunc) := hb2.out.kept (grown_set _ (pb + 1) (j + 1) _) (by simp)
                replace hb2' := Lib.hid hb2'
                have hBx' : Below w.heap.size w (wr.setCell ⟨pb + 1, j + 1, none⟩ (.bool false)) := hBx.setCell (p := ⟨pb + 1, j + 1, none⟩) (by simp; omega) _
                have hBy' : Below pb wo (wr.setCell ⟨pb + 1, j + 1, none⟩ (.bool false)) := hBy.setCell (p := ⟨pb + 1, j + 1, none⟩) (by simp) _
                go_wp2
                go_roundw
                case rel => exact ⟨j + 1 + 1, by omega, by first | go_num | (congr 1; omega), hset, hR2', hb2', hBx', hBy'⟩
                case measure => first | (simp [intOf]; done) | (simp [intOf]; omega)
              · rw [hc.out] at p0
                have hval := Lib.hid (hvj _ hc.out)
                clear hvj
                have hset := Lib.hid ((hRn.out.set hlt2 true).congr (fun j' _ => upTo_next (reach (ps ++ [.star]) s) (j + 1) hval.out j'))
                have hR2' := Lib.hid (hR2.out.other (B := pb + 1) (j := j + 1) (by omega) (.bool true))
                have hb2' : Box2 (wr.setCell ⟨pb + 1, j + 1, none⟩ (.bool true)) pb 61 (.bool true) (.nilFunc) := hb2.out.kept (grown_set _ (pb + 1) (j + 1) _) (by simp)
                replace hb2' := Lib.hid hb2'
                have hBx' : Below w.heap.size w (wr.setCell ⟨pb + 1, j + 1, none⟩ (.bool true)) := hBx.setCell (p := ⟨pb + 1, j + 1, none⟩) (by simp; omega) _
                have hBy' : Below pb wo (wr.setCell ⟨pb + 1, j + 1, none⟩ (.bool true)) := hBy.setCell (p := ⟨pb + 1, j + 1, none⟩) (by simp) _
                go_wp2
                go_roundw
                case rel => exact ⟨j + 1 + 1, by omega, by first | go_num | (congr 1; omega), hset, hR2', hb2', hBx', hBy'⟩
                case measure => first | (simp [intOf]; done) | (simp [intOf]; omega)
          · obtain rfl : i = s.length + 1 := by omega
            have hfin := Lib.hid (hRn.out.congr (f' := reach (ps ++ [.star]) s) (fun j hj => upTo_lt _ hj))
            have hBz2 := hBx.size
            go_wp2
            go_roundw
            case rel => exact ⟨k + 1, pb + 1, by omega, by go_num, rfl, by omega, by rw [hst.out]; exact hfin, hBx⟩
            case measure => simp [intOf]; omega
      · have hpt : pt.isStar = false := by simpa using hpt
        rw [hpt] at q0
        obtain ⟨gf, bs, rfl, eg, hcall⟩ := take_fn htk hpt
        replace hcall := Lib.hid hcall
        replace hpt := Lib.hid hpt
        clear htk
        obtain ⟨W1, hW1⟩ : ∃ X, wo.alloc (.cells #[.bool false, .func (.func gf) #[] bs] 61) = X := ⟨_, rfl⟩
        obtain ⟨pb, hpb⟩ : ∃ x, wo.heap.size = x := ⟨_, rfl⟩
        have hbx : Box2 W1 pb 61 (.bool false) (.func (.func gf) #[] bs) := by rw [← hW1, ← hpb]; exact Box2.new _ _ _ _
        have hz1x : W1.heap.size = pb + 1 := by rw [← hW1, ← hpb]; simp
        have hR1 : BRow W1 g5 (s.length + 1) (reach ps s) := by rw [← hW1]; exact hR.out.alloc _
        have hBW1 : Below w.heap.size w W1 := by rw [← hW1]; exact hB.alloc hBz _
        have hBr1 : Below wo.heap.size wo W1 := by rw [← hW1]; exact (Below.refl _ _).alloc (Nat.le_refl _) _
        have hpl : w.heap.size ≤ pb := by omega
        have hgp : g5 < pb := by omega
        have hW1' := Lib.hid hW1
        clear hW1
        have hpb' := Lib.hid hpb
        rw [hpb] at hBr1
        clear hpb
        go_wp2_with (at_make; rw [hW1'.out, hpb'.out]; refine wpList_make_full _ rfl _ _ _ rfl (pb + 1) 4 i0 _ 1 Tryd.underlying64 hi.out hz0.out hz1.out _ _ _ _ (s.length + 1) rfl rfl (by simp) (by simp) hib hml (by omega) ?_; intro W2 hown hgr; rw [hz1x] at hown ⊢; have hN := (BRow.made hown).1; have hB2 : Below (pb + 1) W1 W2 := (Below.refl _ _).grown hgr (by omega) (fun k e => by cases e); clear hown hgr)
        have hRn := Lib.hid ((hN.congr (f' := upTo (reach (ps ++ [pt]) s) 0) (fun j hj => by simp [upTo])))
        have hR2 := Lib.hid (hR1.below hB2 (by omega))
        have hb2 := Lib.hid (hbx.below hB2 (by omega))
        have hBW2 := hBW1.trans (hB2.mono (by omega))
        have hBr2 := hBr1.trans (hB2.mono (by omega))
        clear hN hB2 hR1 hbx hBW1 hBr1 hz1x q0 q1 hB hR
        go_loopw [28] (fun ii wx => ∃ i : Nat, i ≤ s.length + 1 ∧ ii = .int .i64 i ∧ Hid (BRow wx (pb + 1) (s.length + 1) (upTo (reach (ps ++ [pt]) s) i)) ∧ Hid (BRow wx g5 (s.length + 1) (reach ps s)) ∧ Hid (Box2 wx pb 61 (.bool false) (.func (.func gf) #[] bs)) ∧ Below w.heap.size w wx ∧ Below pb wo wx) (fun ii _ => s.length + 1 - (intOf ii).toNat)
        case atStart => exact ⟨0, Nat.zero_le _, rfl, hRn, hR2, hb2, hBW2, hBr2⟩
        case round =>
          clear hRn hR2 hb2 hBW2 hBr2
          obtain ⟨i, hi1, rfl, hRn, hR2, hb2, hBx, hBy⟩ := hrel
          by_cases hlt2 : i < s.length + 1
          · skip
            have hiI : (i : Int) < (s.length : Int) + 1 := by omega
            have e0 := hb2.out.cell0
            have e1 := hb2.out.cell1
            have d0 := hR2.out.cell hlt2
            have n0 := hRn.out.cell hlt2
            have m0 := hRn.out.frozen i
            cases i with
            | zero =>
              have hval : false = reach (ps ++ [pt]) s 0 := (reach_one0 ps hpt.out s).symm
              replace hval := Lib.hid hval
              have hset := Lib.hid ((hRn.out.set hlt2 false).congr (fun j' _ => upTo_next (reach (ps ++ [pt]) s) (0) hval.out j'))
              have hR2' := Lib.hid (hR2.out.other (B := pb + 1) (j := 0) (by omega) (.bool false))
              have hb2' : Box2 (wr.setCell ⟨pb + 1, 0, none⟩ (.bool false)) pb 61 (.bool false) (.func (.func gf) #[] bs) := hb2.out.kept (grown_set _ (pb + 1) (0) _) (by simp)
              replace hb2' := Lib.hid hb2'
              have hBx' : Below w.heap.size w (wr.setCell ⟨pb + 1, 0, none⟩ (.bool false)) := hBx.setCell (p := ⟨pb + 1, 0, none⟩) (by simp; omega) _
              have hBy' : Below pb wo (wr.setCell ⟨pb + 1, 0, none⟩ (.bool false)) := hBy.setCell (p := ⟨pb + 1, 0, none⟩) (by simp) _
              have hR3 := hb2'.out.cell0
              go_wp2_with fail
              first | refine wp_region_noPanic ?_ | skip
              refine wp_region_held_drew (S := (fun W' => W'.cell? ⟨pb, 0, none⟩ = some (.bool false))) (by kernel_rfl) ?_ (fun hHeld => ?_)
              · exact e0
              refine wpAnyH_take (i := 0) (v := ?_) rfl (by kernel_rfl) (by kernel_rfl) (by kernel_rfl) (fun _ _ _ h => h) (Or.inl ⟨by rfl, ?_⟩) (by assumption) ?_
              rotate_left
              · (intro w hSw; (try dsimp only at hSw); go_simp; try with_reducible rfl)
              try simp only [Array.reduceGetElem, Act.put, List.setIfInBounds_toArray, List.set_cons_zero, List.set_cons_succ]
              refine wpAnyH_take (i := 1) (v := ?_) rfl (by kernel_rfl) (by kernel_rfl) (by kernel_rfl) (fun _ _ _ h => h) (Or.inl ⟨by rfl, ?_⟩) (by assumption) ?_
              rotate_left
              · (intro w hSw; (try dsimp only at hSw); go_simp; try with_reducible rfl)
              try simp only [Array.reduceGetElem, Act.put, List.setIfInBounds_toArray, List.set_cons_zero, List.set_cons_succ]
              refine wpAnyH_take (i := 2) (v := ?_) rfl (by kernel_rfl) (by kernel_rfl) (by kernel_rfl) (fun _ _ _ h => h) (Or.inl ⟨by rfl, ?_⟩) (by assumption) ?_
              rotate_left
              · (intro w hSw; (try dsimp only at hSw); go_simp; try with_reducible rfl)
              try simp only [Array.reduceGetElem, Act.put, List.setIfInBounds_toArray, List.set_cons_zero, List.set_cons_succ]
              refine wpAnyH_take (i := 3) (v := ?_) rfl (by kernel_rfl) (by kernel_rfl) (by kernel_rfl) (fun _ _ _ h => h) (Or.inl ⟨by rfl, ?_⟩) (by assumption) ?_
              rotate_left
              · (intro w hSw; (try dsimp only at hSw); go_simp; try with_reducible rfl)
              try simp only [Array.reduceGetElem, Act.put, List.setIfInBounds_toArray, List.set_cons_zero, List.set_cons_succ]
              refine wpAnyH_take (i := 4) (v := ?_) rfl (by kernel_rfl) (by kernel_rfl) (by kernel_rfl) (fun _ _ _ h => h) (Or.inl ⟨by rfl, ?_⟩) (by assumption) ?_
              rotate_left
              · (intro w hSw; (try dsimp only at hSw); go_simp; try with_reducible rfl)
              try simp only [Array.reduceGetElem, Act.put, List.setIfInBounds_toArray, List.set_cons_zero, List.set_cons_succ]
              refine wpAnyH_take (i := 5) (v := undef) rfl (by kernel_rfl) (by kernel_rfl) (by kernel_rfl) (fun _ _ _ h => h) (Or.inr ⟨by rfl, rfl⟩) (by assumption) ?_
              try simp only [Array.reduceGetElem, Act.put, List.setIfInBounds_toArray, List.set_cons_zero, List.set_cons_succ]
              refine wpAnyH_take (i := 6) (v := undef) rfl (by kernel_rfl) (by kernel_rfl) (by kernel_rfl) (fun _ _ _ h => h) (Or.inr ⟨by rfl, rfl⟩) (by assumption) ?_
              try simp only [Array.reduceGetElem, Act.put, List.setIfInBounds_toArray, List.set_cons_zero, List.set_cons_succ]
              refine wpAnyH_take (i := 7) (v := undef) rfl (by kernel_rfl) (by kernel_rfl) (by kernel_rfl) (fun _ _ _ h => h) (Or.inr ⟨by rfl, rfl⟩) (by assumption) ?_
              try simp only [Array.reduceGetElem, Act.put, List.setIfInBounds_toArray, List.set_cons_zero, List.set_cons_succ]
              refine wpAnyH_take (i := 8) (v := undef) rfl (by kernel_rfl) (by kernel_rfl) (by kernel_rfl) (fun _ _ _ h => h) (Or.inr ⟨by rfl, rfl⟩) (by assumption) ?_
              try simp only [Array.reduceGetElem, Act.put, List.setIfInBounds_toArray, List.set_cons_zero, List.set_cons_succ]
              refine wpAnyH_take (i := 9) (v := undef) rfl (by kernel_rfl) (by kernel_rfl) (by kernel_rfl) (fun _ _ _ h => h) (Or.inr ⟨by rfl, rfl⟩) (by assumption) ?_
              try simp only [Array.reduceGetElem, Act.put, List.setIfInBounds_toArray, List.set_cons_zero, List.set_cons_succ]
              refine wpAnyH_take (i := 10) (v := ?_) rfl (by kernel_rfl) (by kernel_rfl) (by kernel_rfl) (fun _ _ _ h => h) (Or.inl ⟨by rfl, ?_⟩) (by assumption) ?_
              rotate_left
              · (intro w hSw; (try dsimp only at hSw); go_simp; try with_reducible rfl)
              try simp only [Array.reduceGetElem, Act.put, List.setIfInBounds_toArray, List.set_cons_zero, List.set_cons_succ]
              refine wpAnyH_take (i := 11) (v := ?_) rfl (by kernel_rfl) (by kernel_rfl) (by kernel_rfl) (fun _ _ _ h => h) (Or.inl ⟨by rfl, ?_⟩) (by assumption) ?_
              rotate_left
              · (intro w hSw; (try dsimp only at hSw); go_simp; try with_reducible rfl)
              try simp only [Array.reduceGetElem, Act.put, List.setIfInBounds_toArray, List.set_cons_zero, List.set_cons_succ]
              refine wpAnyH_take (i := 12) (v := undef) rfl (by kernel_rfl) (by kernel_rfl) (by kernel_rfl) (fun _ _ _ h => h) (Or.inr ⟨by rfl, rfl⟩) (by assumption) ?_
              try simp only [Array.reduceGetElem, Act.put, List.setIfInBounds_toArray, List.set_cons_zero, List.set_cons_succ]
              refine wpAnyH_take (i := 13) (v := undef) rfl (by kernel_rfl) (by kernel_rfl) (by kernel_rfl) (fun _ _ _ h => h) (Or.inr ⟨by rfl, rfl⟩) (by assumption) ?_
              try simp only [Array.reduceGetElem, Act.put, List.setIfInBounds_toArray, List.set_cons_zero, List.set_cons_succ]
              refine wpAnyH_take (i := 14) (v := undef) rfl (by kernel_rfl) (by kernel_rfl) (by kernel_rfl) (fun _ _ _ h => h) (Or.inr ⟨by rfl, rfl⟩) (by assumption) ?_
              try simp only [Array.reduceGetElem, Act.put, List.setIfInBounds_toArray, List.set_cons_zero, List.set_cons_succ]
              refine wpAnyH_take (i := 15) (v := undef) rfl (by kernel_rfl) (by kernel_rfl) (by kernel_rfl) (fun _ _ _ h => h) (Or.inr ⟨by rfl, rfl⟩) (by assumption) ?_
              try simp only [Array.reduceGetElem, Act.put, List.setIfInBounds_toArray, List.set_cons_zero, List.set_cons_succ]
              refine wpAnyH_take (i := 16) (v := undef) rfl (by kernel_rfl) (by kernel_rfl) (by kernel_rfl) (fun _ _ _ h => h) (Or.inr ⟨by rfl, rfl⟩) (by assumption) ?_
              try simp only [Array.reduceGetElem, Act.put, List.setIfInBounds_toArray, List.set_cons_zero, List.set_cons_succ]
              refine wpAnyH_take (i := 17) (v := undef) rfl (by kernel_rfl) (by kernel_rfl) (by kernel_rfl) (fun _ _ _ h => h) (Or.inr ⟨by rfl, rfl⟩) (by assumption) ?_
              try simp only [Array.reduceGetElem, Act.put, List.setIfInBounds_toArray, List.set_cons_zero, List.set_cons_succ]
              refine wpAnyH_take (i := 18) (v := undef) rfl (by kernel_rfl) (by kernel_rfl) (by kernel_rfl) (fun _ _ _ h => h) (Or.inr ⟨by rfl, rfl⟩) (by assumption) ?_
              try simp only [Array.reduceGetElem, Act.put, List.setIfInBounds_toArray, List.set_cons_zero, List.set_cons_succ]
              refine wpAnyH_take (i := 19) (v := ?_) rfl (by kernel_rfl) (by kernel_rfl) (by kernel_rfl) (fun _ _ _ h => h) (Or.inl ⟨by rfl, ?_⟩) (by assumption) ?_
              rotate_left
              · (intro w hSw; (try dsimp only at hSw); go_simp; try with_reducible rfl)
              try simp only [Array.reduceGetElem, Act.put, List.setIfInBounds_toArray, List.set_cons_zero, List.set_cons_succ]
              refine wpAnyH_take (i := 20) (v := ?_) rfl (by kernel_rfl) (by kernel_rfl) (by kernel_rfl) (fun _ _ _ h => h) (Or.inl ⟨by rfl, ?_⟩) (by assumption) ?_
              rotate_left
              · (intro w hSw; (try dsimp only at hSw); go_simp; try with_reducible rfl)
              try simp only [Array.reduceGetElem, Act.put, List.setIfInBounds_toArray, List.set_cons_zero, List.set_cons_succ]
              refine wpAnyH_ready (rs := [21]) (by kernel_rfl) (by simp) ?_
              refine AllReadyH.cons rfl (fun K hK => ?_) AllReadyH.nil
              go_simp
              skip
              refine hK.out _ _ ?_ (fun hHeld => ?_)
              · (try dsimp only); first | exact e0 | exact hR3
              clear hK K
              try simp only [Array.reduceGetElem, Act.put, List.setIfInBounds_toArray, List.set_cons_zero, List.set_cons_succ]
              refine wpAnyH_done (by kernel_rfl) ?_ _
              try refine NoPanic.normal ?_
              (try dsimp only)
              go_wp2
              go_roundw
              case rel => exact ⟨0 + 1, by omega, by first | go_num | (congr 1; omega), Lib.hid (hset.out.same rfl), Lib.hid (hR2'.out.same rfl), Lib.hid hb2'.out, hBx'.trans ⟨rfl, rfl, rfl, by simp [World.setCell], fun _ _ => rfl⟩, hBy'.trans ⟨rfl, rfl, rfl, by simp [World.setCell], fun _ _ => rfl⟩⟩
              case measure => first | (simp [intOf]; done) | (simp [intOf]; omega)
            | succ j =>
              have hjl : j < s.length + 1 := by omega
              have p0 := hR2.out.cell hjl
              have hjs : j < s.length := by omega
              have hjI : (0 : Int) < (j : Int) + 1 := by omega
              have hjI3 : (j : Int) < (s.length : Int) := by omega
              have hjI2 : (j : Int) < (s.length : Int) + 1 := by omega
              have hjm : (j : Int) ≤ 1048576 := by omega
              have hsub : IntKind.i64.wrap ((j : Int) + 1 - 1) = (j : Int) := by rw [Int.add_sub_cancel, IntKind.wrap_i64]; omega
              have hsub2 : IntKind.i64.wrap (j : Int) = (j : Int) := by rw [IntKind.wrap_i64]; omega
              have hj0 : (0 : Int) ≤ (j : Int) := by omega
              have hj1 : (0 : Int) ≤ (j : Int) + 1 := by omega
              have hj2 : (j : Int) + 1 < (s.length : Int) + 1 := by omega
              have hvj : ∀ b, (reach ps s j && pt.has s[j]) = b → b = reach (ps ++ [pt]) s (j + 1) := fun b h => by rw [reach_one ps hpt.out hjs, h]
              rcases boolOf (reach ps s j) with hc | hc
              · rw [hc.out] at p0
                have hval := Lib.hid (hvj false (by rw [hc.out]; rfl))
                clear hvj
                have hset := Lib.hid ((hRn.out.set hlt2 false).congr (fun j' _ => upTo_next (reach (ps ++ [pt]) s) (j + 1) hval.out j'))
                have hR2' := Lib.hid (hR2.out.other (B := pb + 1) (j := j + 1) (by omega) (.bool false))
                have hb2' : Box2 (wr.setCell ⟨pb + 1, j + 1, none⟩ (.bool false)) pb 61 (.bool false) (.func (.func gf) #[] bs) := hb2.out.kept (grown_set _ (pb + 1) (j + 1) _) (by simp)
                replace hb2' := Lib.hid hb2'
                have hBx' : Below w.heap.size w (wr.setCell ⟨pb + 1, j + 1, none⟩ (.bool false)) := hBx.setCell (p := ⟨pb + 1, j + 1, none⟩) (by simp; omega) _
                have hBy' : Below pb wo (wr.setCell ⟨pb + 1, j + 1, none⟩ (.bool false)) := hBy.setCell (p := ⟨pb + 1, j + 1, none⟩) (by simp) _
                have hR3 : (wr.setCell ⟨pb + 1, j + 1, none⟩ (.bool false)).cell? ⟨g5, j, none⟩ = some (.bool false) := by have := hR2'.out.cell hjl; rwa [hc.out] at this
                go_wp2_with fail
                first | refine wp_region_noPanic ?_ | skip
                refine wp_region_held_drew (S := (fun W' => W'.cell? ⟨g5, j, none⟩ = some (.bool false))) (by kernel_rfl) ?_ (fun hHeld => ?_)
                · exact p0
                refine wpAnyH_take (i := 0) (v := ?_) rfl (by kernel_rfl) (by kernel_rfl) (by kernel_rfl) (fun _ _ _ h => h) (Or.inl ⟨by rfl, ?_⟩) (by assumption) ?_
                rotate_left
                · (intro w hSw; (try dsimp only at hSw); go_simp; try with_reducible rfl)
                try simp only [Array.reduceGetElem, Act.put, List.setIfInBounds_toArray, List.set_cons_zero, List.set_cons_succ]
                refine wpAnyH_take (i := 1) (v := ?_) rfl (by kernel_rfl) (by kernel_rfl) (by kernel_rfl) (fun _ _ _ h => h) (Or.inl ⟨by rfl, ?_⟩) (by assumption) ?_
                rotate_left
                · (intro w hSw; (try dsimp only at hSw); go_simp; try with_reducible rfl)
                try simp only [Array.reduceGetElem, Act.put, List.setIfInBounds_toArray, List.set_cons_zero, List.set_cons_succ]
                refine wpAnyH_take (i := 2) (v := ?_) rfl (by kernel_rfl) (by kernel_rfl) (by kernel_rfl) (fun _ _ _ h => h) (Or.inl ⟨by rfl, ?_⟩) (by assumption) ?_
                rotate_left
                · (intro w hSw; (try dsimp only at hSw); go_simp; try with_reducible rfl)
                try simp only [Array.reduceGetElem, Act.put, List.setIfInBounds_toArray, List.set_cons_zero, List.set_cons_succ]
                refine wpAnyH_take (i := 3) (v := ?_) rfl (by kernel_rfl) (by kernel_rfl) (by kernel_rfl) (fun _ _ _ h => h) (Or.inl ⟨by rfl, ?_⟩) (by assumption) ?_
                rotate_left
                · (intro w hSw; (try dsimp only at hSw); go_simp; try with_reducible rfl)
                try simp only [Array.reduceGetElem, Act.put, List.setIfInBounds_toArray, List.set_cons_zero, List.set_cons_succ]
                refine wpAnyH_take (i := 4) (v := ?_) rfl (by kernel_rfl) (by kernel_rfl) (by kernel_rfl) (fun _ _ _ h => h) (Or.inl ⟨by rfl, ?_⟩) (by assumption) ?_
                rotate_left
                · (intro w hSw; (try dsimp only at hSw); go_simp; try with_reducible rfl)
                try simp only [Array.reduceGetElem, Act.put, List.setIfInBounds_toArray, List.set_cons_zero, List.set_cons_succ]
                refine wpAnyH_take (i := 5) (v := ?_) rfl (by kernel_rfl) (by kernel_rfl) (by kernel_rfl) (fun _ _ _ h => h) (Or.inl ⟨by rfl, ?_⟩) (by assumption) ?_
                rotate_left
                · (intro w hSw; (try dsimp only at hSw); go_simp; try with_reducible rfl)
                try simp only [Array.reduceGetElem, Act.put, List.setIfInBounds_toArray, List.set_cons_zero, List.set_cons_succ]
                refine wpAnyH_take (i := 6) (v := ?_) rfl (by kernel_rfl) (by kernel_rfl) (by kernel_rfl) (fun _ _ _ h => h) (Or.inl ⟨by rfl, ?_⟩) (by assumption) ?_
                rotate_left
                · (intro w hSw; (try dsimp only at hSw); go_simp; try with_reducible rfl)
                try simp only [Array.reduceGetElem, Act.put, List.setIfInBounds_toArray, List.set_cons_zero, List.set_cons_succ]
                refine wpAnyH_take (i := 7) (v := ?_) rfl (by kernel_rfl) (by kernel_rfl) (by kernel_rfl) (fun _ _ _ h => h) (Or.inl ⟨by rfl, ?_⟩) (by assumption) ?_
                rotate_left
                · (intro w hSw; (try dsimp only at hSw); go_simp; try with_reducible rfl)
                try simp only [Array.reduceGetElem, Act.put, List.setIfInBounds_toArray, List.set_cons_zero, List.set_cons_succ]
                refine wpAnyH_take (i := 8) (v := ?_) rfl (by kernel_rfl) (by kernel_rfl) (by kernel_rfl) (fun _ _ _ h => h) (Or.inl ⟨by rfl, ?_⟩) (by assumption) ?_
                rotate_left
                · (intro w hSw; (try dsimp only at hSw); go_simp; try with_reducible rfl)
                try simp only [Array.reduceGetElem, Act.put, List.setIfInBounds_toArray, List.set_cons_zero, List.set_cons_succ]
                refine wpAnyH_take (i := 9) (v := ?_) rfl (by kernel_rfl) (by kernel_rfl) (by kernel_rfl) (fun _ _ _ h => h) (Or.inl ⟨by rfl, ?_⟩) (by assumption) ?_
                rotate_left
                · (intro w hSw; (try dsimp only at hSw); go_simp; try with_reducible rfl)
                try simp only [Array.reduceGetElem, Act.put, List.setIfInBounds_toArray, List.set_cons_zero, List.set_cons_succ]
                refine wpAnyH_take (i := 10) (v := ?_) rfl (by kernel_rfl) (by kernel_rfl) (by kernel_rfl) (fun _ _ _ h => h) (Or.inl ⟨by rfl, ?_⟩) (by assumption) ?_
                rotate_left
                · (intro w hSw; (try dsimp only at hSw); go_simp; try with_reducible rfl)
                try simp only [Array.reduceGetElem, Act.put, List.setIfInBounds_toArray, List.set_cons_zero, List.set_cons_succ]
                refine wpAnyH_take (i := 11) (v := ?_) rfl (by kernel_rfl) (by kernel_rfl) (by kernel_rfl) (fun _ _ _ h => h) (Or.inl ⟨by rfl, ?_⟩) (by assumption) ?_
                rotate_left
                · (intro w hSw; (try dsimp only at hSw); go_simp; try with_reducible rfl)
                try simp only [Array.reduceGetElem, Act.put, List.setIfInBounds_toArray, List.set_cons_zero, List.set_cons_succ]
                refine wpAnyH_take (i := 12) (v := undef) rfl (by kernel_rfl) (by kernel_rfl) (by kernel_rfl) (fun _ _ _ h => h) (Or.inr ⟨by rfl, rfl⟩) (by assumption) ?_
                try simp only [Array.reduceGetElem, Act.put, List.setIfInBounds_toArray, List.set_cons_zero, List.set_cons_succ]
                refine wpAnyH_take (i := 13) (v := undef) rfl (by kernel_rfl) (by kernel_rfl) (by kernel_rfl) (fun _ _ _ h => h) (Or.inr ⟨by rfl, rfl⟩) (by assumption) ?_
                try simp only [Array.reduceGetElem, Act.put, List.setIfInBounds_toArray, List.set_cons_zero, List.set_cons_succ]
                refine wpAnyH_take (i := 14) (v := undef) rfl (by kernel_rfl) (by kernel_rfl) (by kernel_rfl) (fun _ _ _ h => h) (Or.inr ⟨by rfl, rfl⟩) (by assumption) ?_
                try simp only [Array.reduceGetElem, Act.put, List.setIfInBounds_toArray, List.set_cons_zero, List.set_cons_succ]
                refine wpAnyH_take (i := 15) (v := undef) rfl (by kernel_rfl) (by kernel_rfl) (by kernel_rfl) (fun _ _ _ h => h) (Or.inr ⟨by rfl, rfl⟩) (by assumption) ?_
                try simp only [Array.reduceGetElem, Act.put, List.setIfInBounds_toArray, List.set_cons_zero, List.set_cons_succ]
                refine wpAnyH_take (i := 16) (v := undef) rfl (by kernel_rfl) (by kernel_rfl) (by kernel_rfl) (fun _ _ _ h => h) (Or.inr ⟨by rfl, rfl⟩) (by assumption) ?_
                try simp only [Array.reduceGetElem, Act.put, List.setIfInBounds_toArray, List.set_cons_zero, List.set_cons_succ]
                refine wpAnyH_take (i := 17) (v := undef) rfl (by kernel_rfl) (by kernel_rfl) (by kernel_rfl) (fun _ _ _ h => h) (Or.inr ⟨by rfl, rfl⟩) (by assumption) ?_
                try simp only [Array.reduceGetElem, Act.put, List.setIfInBounds_toArray, List.set_cons_zero, List.set_cons_succ]
                refine wpAnyH_take (i := 18) (v := undef) rfl (by kernel_rfl) (by kernel_rfl) (by kernel_rfl) (fun _ _ _ h => h) (Or.inr ⟨by rfl, rfl⟩) (by assumption) ?_
                try simp only [Array.reduceGetElem, Act.put, List.setIfInBounds_toArray, List.set_cons_zero, List.set_cons_succ]
                refine wpAnyH_take (i := 19) (v := ?_) rfl (by kernel_rfl) (by kernel_rfl) (by kernel_rfl) (fun _ _ _ h => h) (Or.inl ⟨by rfl, ?_⟩) (by assumption) ?_
                rotate_left
                · (intro w hSw; (try dsimp only at hSw); go_simp; try with_reducible rfl)
                try simp only [Array.reduceGetElem, Act.put, List.setIfInBounds_toArray, List.set_cons_zero, List.set_cons_succ]
                refine wpAnyH_take (i := 20) (v := ?_) rfl (by kernel_rfl) (by kernel_rfl) (by kernel_rfl) (fun _ _ _ h => h) (Or.inl ⟨by rfl, ?_⟩) (by assumption) ?_
                rotate_left
                · (intro w hSw; (try dsimp only at hSw); go_simp; try with_reducible rfl)
                try simp only [Array.reduceGetElem, Act.put, List.setIfInBounds_toArray, List.set_cons_zero, List.set_cons_succ]
                refine wpAnyH_ready (rs := [21]) (by kernel_rfl) (by simp) ?_
                refine AllReadyH.cons rfl (fun K hK => ?_) AllReadyH.nil
                go_simp
                skip
                refine hK.out _ _ ?_ (fun hHeld => ?_)
                · (try dsimp only); first | exact p0 | exact hR3
                clear hK K
                try simp only [Array.reduceGetElem, Act.put, List.setIfInBounds_toArray, List.set_cons_zero, List.set_cons_succ]
                refine wpAnyH_done (by kernel_rfl) ?_ _
                try refine NoPanic.normal ?_
                (try dsimp only)
                go_wp2
                go_roundw
                case rel => exact ⟨j + 1 + 1, by omega, by first | go_num | (congr 1; omega), Lib.hid (hset.out.same rfl), Lib.hid (hR2'.out.same rfl), Lib.hid hb2'.out, hBx'.trans ⟨rfl, rfl, rfl, by simp [World.setCell], fun _ _ => rfl⟩, hBy'.trans ⟨rfl, rfl, rfl, by simp [World.setCell], fun _ _ => rfl⟩⟩
                case measure => first | (simp [intOf]; done) | (simp [intOf]; omega)
              · rw [hc.out] at p0
                rcases boolOf (pt.has s[j]) with hd | hd
                · have hval := Lib.hid (hvj false (by rw [hc.out, hd.out]; rfl))
                  clear hvj
                  have hcl := Lib.hid (fun W' h => hcall.out s[j] W' h)
                  rw [hd.out] at hcl
                  have hset := Lib.hid ((hRn.out.set hlt2 false).congr (fun j' _ => upTo_next (reach (ps ++ [pt]) s) (j + 1) hval.out j'))
                  have hR2' := Lib.hid (hR2.out.other (B := pb + 1) (j := j + 1) (by omega) (.bool false))
                  have hb2' : Box2 (wr.setCell ⟨pb + 1, j + 1, none⟩ (.bool false)) pb 61 (.bool false) (.func (.func gf) #[] bs) := hb2.out.kept (grown_set _ (pb + 1) (j + 1) _) (by simp)
                  replace hb2' := Lib.hid hb2'
                  have hBx' : Below w.heap.size w (wr.setCell ⟨pb + 1, j + 1, none⟩ (.bool false)) := hBx.setCell (p := ⟨pb + 1, j + 1, none⟩) (by simp; omega) _
                  have hBy' : Below pb wo (wr.setCell ⟨pb + 1, j + 1, none⟩ (.bool false)) := hBy.setCell (p := ⟨pb + 1, j + 1, none⟩) (by simp) _
                  have hR3 : (wr.setCell ⟨pb + 1, j + 1, none⟩ (.bool false)).cell? ⟨g5, j, none⟩ = some (.bool true) := by have := hR2'.out.cell hjl; rwa [hc.out] at this
                  have hR4 := hb2'.out.cell1
                  go_wp2_with fail
                  first | refine wp_region_noPanic ?_ | skip
                  refine wp_region_held_drew (S := (fun W' => W'.cell? ⟨g5, j, none⟩ = some (.bool true) ∧ W'.cell? ⟨pb, 1, none⟩ = some (.func (.func gf) #[] bs))) (by kernel_rfl) ?_ (fun hHeld => ?_)
                  · exact ⟨p0, e1⟩
                  refine wpAnyH_take (i := 0) (v := ?_) rfl (by kernel_rfl) (by kernel_rfl) (by kernel_rfl) (fun _ _ _ h => h) (Or.inl ⟨by rfl, ?_⟩) (by assumption) ?_
                  rotate_left
                  · (intro w hSw; (try dsimp only at hSw); go_simp; try with_reducible rfl)
                  try simp only [Array.reduceGetElem, Act.put, List.setIfInBounds_toArray, List.set_cons_zero, List.set_cons_succ]
                  refine wpAnyH_take (i := 1) (v := ?_) rfl (by kernel_rfl) (by kernel_rfl) (by kernel_rfl) (fun _ _ _ h => h) (Or.inl ⟨by rfl, ?_⟩) (by assumption) ?_
                  rotate_left
                  · (intro w hSw; (try dsimp only at hSw); go_simp; try with_reducible rfl)
                  try simp only [Array.reduceGetElem, Act.put, List.setIfInBounds_toArray, List.set_cons_zero, List.set_cons_succ]
                  refine wpAnyH_take (i := 2) (v := ?_) rfl (by kernel_rfl) (by kernel_rfl) (by kernel_rfl) (fun _ _ _ h => h) (Or.inl ⟨by rfl, ?_⟩) (by assumption) ?_
                  rotate_left
                  · (intro w hSw; (try dsimp only at hSw); go_simp; try with_reducible rfl)
                  try simp only [Array.reduceGetElem, Act.put, List.setIfInBounds_toArray, List.set_cons_zero, List.set_cons_succ]
                  refine wpAnyH_take (i := 3) (v := ?_) rfl (by kernel_rfl) (by kernel_rfl) (by kernel_rfl) (fun _ _ _ h => h) (Or.inl ⟨by rfl, ?_⟩) (by assumption) ?_
                  rotate_left
                  · (intro w hSw; (try dsimp only at hSw); go_simp; try with_reducible rfl)
                  try simp only [Array.reduceGetElem, Act.put, List.setIfInBounds_toArray, List.set_cons_zero, List.set_cons_succ]
                  refine wpAnyH_take (i := 4) (v := ?_) rfl (by kernel_rfl) (by kernel_rfl) (by kernel_rfl) (fun _ _ _ h => h) (Or.inl ⟨by rfl, ?_⟩) (by assumption) ?_
                  rotate_left
                  · (intro w hSw; (try dsimp only at hSw); go_simp; try with_reducible rfl)
                  try simp only [Array.reduceGetElem, Act.put, List.setIfInBounds_toArray, List.set_cons_zero, List.set_cons_succ]
                  refine wpAnyH_take (i := 5) (v := ?_) rfl (by kernel_rfl) (by kernel_rfl) (by kernel_rfl) (fun _ _ _ h => h) (Or.inl ⟨by rfl, ?_⟩) (by assumption) ?_
                  rotate_left
                  · (intro w hSw; (try dsimp only at hSw); go_simp; try with_reducible rfl)
                  try simp only [Array.reduceGetElem, Act.put, List.setIfInBounds_toArray, List.set_cons_zero, List.set_cons_succ]
                  refine wpAnyH_take (i := 6) (v := ?_) rfl (by kernel_rfl) (by kernel_rfl) (by kernel_rfl) (fun _ _ _ h => h) (Or.inl ⟨by rfl, ?_⟩) (by assumption) ?_
                  rotate_left
                  · (intro w hSw; (try dsimp only at hSw); go_simp; try with_reducible rfl)
                  try simp only [Array.reduceGetElem, Act.put, List.setIfInBounds_toArray, List.set_cons_zero, List.set_cons_succ]
                  refine wpAnyH_take (i := 7) (v := ?_) rfl (by kernel_rfl) (by kernel_rfl) (by kernel_rfl) (fun _ _ _ h => h) (Or.inl ⟨by rfl, ?_⟩) (by assumption) ?_
                  rotate_left
                  · (intro w hSw; (try dsimp only at hSw); go_simp; try with_reducible rfl)
                  try simp only [Array.reduceGetElem, Act.put, List.setIfInBounds_toArray, List.set_cons_zero, List.set_cons_succ]
                  refine wpAnyH_take (i := 8) (v := ?_) rfl (by kernel_rfl) (by kernel_rfl) (by kernel_rfl) (fun _ _ _ h => h) (Or.inl ⟨by rfl, ?_⟩) (by assumption) ?_
                  rotate_left
                  · (intro w hSw; (try dsimp only at hSw); go_simp; try with_reducible rfl)
                  try simp only [Array.reduceGetElem, Act.put, List.setIfInBounds_toArray, List.set_cons_zero, List.set_cons_succ]
                  refine wpAnyH_take (i := 9) (v := ?_) rfl (by kernel_rfl) (by kernel_rfl) (by kernel_rfl) (fun _ _ _ h => h) (Or.inl ⟨by rfl, ?_⟩) (by assumption) ?_
                  rotate_left
                  · (intro w hSw; (try dsimp only at hSw); go_simp; try with_reducible rfl)
                  try simp only [Array.reduceGetElem, Act.put, List.setIfInBounds_toArray, List.set_cons_zero, List.set_cons_succ]
                  refine wpAnyH_take (i := 10) (v := ?_) rfl (by kernel_rfl) (by kernel_rfl) (by kernel_rfl) (fun _ _ _ h => h) (Or.inl ⟨by rfl, ?_⟩) (by assumption) ?_
                  rotate_left
                  · (intro w hSw; (try dsimp only at hSw); go_simp; try with_reducible rfl)
                  try simp only [Array.reduceGetElem, Act.put, List.setIfInBounds_toArray, List.set_cons_zero, List.set_cons_succ]
                  refine wpAnyH_take (i := 11) (v := ?_) rfl (by kernel_rfl) (by kernel_rfl) (by kernel_rfl) (fun _ _ _ h => h) (Or.inl ⟨by rfl, ?_⟩) (by assumption) ?_
                  rotate_left
                  · (intro w hSw; (try dsimp only at hSw); go_simp; try with_reducible rfl)
                  try simp only [Array.reduceGetElem, Act.put, List.setIfInBounds_toArray, List.set_cons_zero, List.set_cons_succ]
                  refine wpAnyH_take (i := 12) (v := ?_) rfl (by kernel_rfl) (by kernel_rfl) (by kernel_rfl) (fun _ _ _ h => h) (Or.inl ⟨by rfl, ?_⟩) (by assumption) ?_
                  rotate_left
                  · (intro w hSw; (try dsimp only at hSw); go_simp; try with_reducible rfl)
                  try simp only [Array.reduceGetElem, Act.put, List.setIfInBounds_toArray, List.set_cons_zero, List.set_cons_succ]
                  refine wpAnyH_take (i := 13) (v := ?_) rfl (by kernel_rfl) (by kernel_rfl) (by kernel_rfl) (fun _ _ _ h => h) (Or.inl ⟨by rfl, ?_⟩) (by assumption) ?_
                  rotate_left
                  · (intro w hSw; (try dsimp only at hSw); go_simp; try with_reducible rfl)
                  try simp only [Array.reduceGetElem, Act.put, List.setIfInBounds_toArray, List.set_cons_zero, List.set_cons_succ]
                  refine wpAnyH_take (i := 14) (v := ?_) rfl (by kernel_rfl) (by kernel_rfl) (by kernel_rfl) (fun _ _ _ h => h) (Or.inl ⟨by rfl, ?_⟩) (by assumption) ?_
                  rotate_left
                  · (intro w hSw; (try dsimp only at hSw); go_simp; try with_reducible rfl)
                  try simp only [Array.reduceGetElem, Act.put, List.setIfInBounds_toArray, List.set_cons_zero, List.set_cons_succ]
                  refine wpAnyH_take (i := 15) (v := ?_) rfl (by kernel_rfl) (by kernel_rfl) (by kernel_rfl) (fun _ _ _ h => h) (Or.inl ⟨by rfl, ?_⟩) (by assumption) ?_
                  rotate_left
                  · (intro w hSw; (try dsimp only at hSw); go_simp; try with_reducible rfl)
                  try simp only [Array.reduceGetElem, Act.put, List.setIfInBounds_toArray, List.set_cons_zero, List.set_cons_succ]
                  refine wpAnyH_take (i := 16) (v := ?_) rfl (by kernel_rfl) (by kernel_rfl) (by kernel_rfl) (fun _ _ _ h => h) (Or.inl ⟨by rfl, ?_⟩) (by assumption) ?_
                  rotate_left
                  · (intro w hSw; (try dsimp only at hSw); go_simp; try with_reducible rfl)
                  try simp only [Array.reduceGetElem, Act.put, List.setIfInBounds_toArray, List.set_cons_zero, List.set_cons_succ]
                  refine wpAnyH_take (i := 17) (v := ?_) rfl (by kernel_rfl) (by kernel_rfl) (by kernel_rfl) (fun _ _ _ h => h) (Or.inl ⟨by rfl, ?_⟩) (by assumption) ?_
                  rotate_left
                  · (intro w hSw; (try dsimp only at hSw); go_simp; try with_reducible rfl)
                  try simp only [Array.reduceGetElem, Act.put, List.setIfInBounds_toArray, List.set_cons_zero, List.set_cons_succ]
                  refine wpAnyH_ready (rs := [18]) (by kernel_rfl) (by simp) ?_
                  refine AllReadyH.cons rfl (fun K hK => ?_) AllReadyH.nil
                  go_simp
                  refine (hcl.out _ ?_).mono ?_
                  · rw [hpb'.out]; exact hBy.trans ⟨rfl, rfl, rfl, Nat.le_refl _, fun _ _ => rfl⟩
                  rintro e W3 ⟨rfl, n3, rfl⟩
                  refine hK.out _ _ ?_ (fun hHeld => ?_)
                  · (try dsimp only); first | exact ⟨p0, e1⟩ | exact ⟨hR3, hR4⟩
                  clear hK K
                  try simp only [Array.reduceGetElem, Act.put, List.setIfInBounds_toArray, List.set_cons_zero, List.set_cons_succ]
                  refine wpAnyH_take (i := 19) (v := ?_) rfl (by kernel_rfl) (by kernel_rfl) (by kernel_rfl) (fun _ _ _ h => h) (Or.inl ⟨by rfl, ?_⟩) (by assumption) ?_
                  rotate_left
                  · (intro w hSw; (try dsimp only at hSw); go_simp; try with_reducible rfl)
                  try simp only [Array.reduceGetElem, Act.put, List.setIfInBounds_toArray, List.set_cons_zero, List.set_cons_succ]
                  refine wpAnyH_take (i := 20) (v := ?_) rfl (by kernel_rfl) (by kernel_rfl) (by kernel_rfl) (fun _ _ _ h => h) (Or.inl ⟨by rfl, ?_⟩) (by assumption) ?_
                  rotate_left
                  · (intro w hSw; (try dsimp only at hSw); go_simp; try with_reducible rfl)
                  try simp only [Array.reduceGetElem, Act.put, List.setIfInBounds_toArray, List.set_cons_zero, List.set_cons_succ]
                  refine wpAnyH_ready (rs := [21]) (by kernel_rfl) (by simp) ?_
                  refine AllReadyH.cons rfl (fun K hK => ?_) AllReadyH.nil
                  go_simp
                  skip
                  refine hK.out _ _ ?_ (fun hHeld => ?_)
                  · (try dsimp only); first | exact ⟨p0, e1⟩ | exact ⟨hR3, hR4⟩
                  clear hK K
                  try simp only [Array.reduceGetElem, Act.put, List.setIfInBounds_toArray, List.set_cons_zero, List.set_cons_succ]
                  refine wpAnyH_done (by kernel_rfl) ?_ _
                  try refine NoPanic.normal ?_
                  (try dsimp only)
                  go_wp2
                  go_roundw
                  case rel => exact ⟨j + 1 + 1, by omega, by first | go_num | (congr 1; omega), Lib.hid (hset.out.same rfl), Lib.hid (hR2'.out.same rfl), Lib.hid hb2'.out, hBx'.trans ⟨rfl, rfl, rfl, by simp [World.setCell], fun _ _ => rfl⟩, hBy'.trans ⟨rfl, rfl, rfl, by simp [World.setCell], fun _ _ => rfl⟩⟩
                  case measure => first | (simp [intOf]; done) | (simp [intOf]; omega)
                · have hval := Lib.hid (hvj true (by rw [hc.out, hd.out]; rfl))
                  clear hvj
                  have hcl := Lib.hid (fun W' h => hcall.out s[j] W' h)
                  rw [hd.out] at hcl
                  have hset := Lib.hid ((hRn.out.set hlt2 true).congr (fun j' _ => upTo_next (reach (ps ++ [pt]) s) (j + 1) hval.out j'))
                  have hR2' := Lib.hid (hR2.out.other (B := pb + 1) (j := j + 1) (by omega) (.bool true))
                  have hb2' : Box2 (wr.setCell ⟨pb + 1, j + 1, none⟩ (.bool true)) pb 61 (.bool false) (.func (.func gf) #[] bs) := hb2.out.kept (grown_set _ (pb + 1) (j + 1) _) (by simp)
                  replace hb2' := Lib.hid hb2'
                  have hBx' : Below w.heap.size w (wr.setCell ⟨pb + 1, j + 1, none⟩ (.bool true)) := hBx.setCell (p := ⟨pb + 1, j + 1, none⟩) (by simp; omega) _
                  have hBy' : Below pb wo (wr.setCell ⟨pb + 1, j + 1, none⟩ (.bool true)) := hBy.setCell (p := ⟨pb + 1, j + 1, none⟩) (by simp) _
                  have hR3 : (wr.setCell ⟨pb + 1, j + 1, none⟩ (.bool true)).cell? ⟨g5, j, none⟩ = some (.bool true) := by have := hR2'.out.cell hjl; rwa [hc.out] at this
                  have hR4 := hb2'.out.cell1
                  go_wp2_with fail
                  first | refine wp_region_noPanic ?_ | skip
                  refine wp_region_held_drew (S := (fun W' => W'.cell? ⟨g5, j, none⟩ = some (.bool true) ∧ W'.cell? ⟨pb, 1, none⟩ = some (.func (.func gf) #[] bs))) (by kernel_rfl) ?_ (fun hHeld => ?_)
                  · exact ⟨p0, e1⟩
                  refine wpAnyH_take (i := 0) (v := ?_) rfl (by kernel_rfl) (by kernel_rfl) (by kernel_rfl) (fun _ _ _ h => h) (Or.inl ⟨by rfl, ?_⟩) (by assumption) ?_
                  rotate_left
                  · (intro w hSw; (try dsimp only at hSw); go_simp; try with_reducible rfl)
                  try simp only [Array.reduceGetElem, Act.put, List.setIfInBounds_toArray, List.set_cons_zero, List.set_cons_succ]
                  refine wpAnyH_take (i := 1) (v := ?_) rfl (by kernel_rfl) (by kernel_rfl) (by kernel_rfl) (fun _ _ _ h => h) (Or.inl ⟨by rfl, ?_⟩) (by assumption) ?_
                  rotate_left
                  · (intro w hSw; (try dsimp only at hSw); go_simp; try with_reducible rfl)
                  try simp only [Array.reduceGetElem, Act.put, List.setIfInBounds_toArray, List.set_cons_zero, List.set_cons_succ]
                  refine wpAnyH_take (i := 2) (v := ?_) rfl (by kernel_rfl) (by kernel_rfl) (by kernel_rfl) (fun _ _ _ h => h) (Or.inl ⟨by rfl, ?_⟩) (by assumption) ?_
                  rotate_left
                  · (intro w hSw; (try dsimp only at hSw); go_simp; try with_reducible rfl)
                  try simp only [Array.reduceGetElem, Act.put, List.setIfInBounds_toArray, List.set_cons_zero, List.set_cons_succ]
                  refine wpAnyH_take (i := 3) (v := ?_) rfl (by kernel_rfl) (by kernel_rfl) (by kernel_rfl) (fun _ _ _ h => h) (Or.inl ⟨by rfl, ?_⟩) (by assumption) ?_
                  rotate_left
                  · (intro w hSw; (try dsimp only at hSw); go_simp; try with_reducible rfl)
                  try simp only [Array.reduceGetElem, Act.put, List.setIfInBounds_toArray, List.set_cons_zero, List.set_cons_succ]
                  refine wpAnyH_take (i := 4) (v := ?_) rfl (by kernel_rfl) (by kernel_rfl) (by kernel_rfl) (fun _ _ _ h => h) (Or.inl ⟨by rfl, ?_⟩) (by assumption) ?_
                  rotate_left
                  · (intro w hSw; (try dsimp only at hSw); go_simp; try with_reducible rfl)
                  try simp only [Array.reduceGetElem, Act.put, List.setIfInBounds_toArray, List.set_cons_zero, List.set_cons_succ]
                  refine wpAnyH_take (i := 5) (v := ?_) rfl (by kernel_rfl) (by kernel_rfl) (by kernel_rfl) (fun _ _ _ h => h) (Or.inl ⟨by rfl, ?_⟩) (by assumption) ?_
                  rotate_left
                  · (intro w hSw; (try dsimp only at hSw); go_simp; try with_reducible rfl)
                  try simp only [Array.reduceGetElem, Act.put, List.setIfInBounds_toArray, List.set_cons_zero, List.set_cons_succ]
                  refine wpAnyH_take (i := 6) (v := ?_) rfl (by kernel_rfl) (by kernel_rfl) (by kernel_rfl) (fun _ _ _ h => h) (Or.inl ⟨by rfl, ?_⟩) (by assumption) ?_
                  rotate_left
                  · (intro w hSw; (try dsimp only at hSw); go_simp; try with_reducible rfl)
                  try simp only [Array.reduceGetElem, Act.put, List.setIfInBounds_toArray, List.set_cons_zero, List.set_cons_succ]
                  refine wpAnyH_take (i := 7) (v := ?_) rfl (by kernel_rfl) (by kernel_rfl) (by kernel_rfl) (fun _ _ _ h => h) (Or.inl ⟨by rfl, ?_⟩) (by assumption) ?_
                  rotate_left
                  · (intro w hSw; (try dsimp only at hSw); go_simp; try with_reducible rfl)
                  try simp only [Array.reduceGetElem, Act.put, List.setIfInBounds_toArray, List.set_cons_zero, List.set_cons_succ]
                  refine wpAnyH_take (i := 8) (v := ?_) rfl (by kernel_rfl) (by kernel_rfl) (by kernel_rfl) (fun _ _ _ h => h) (Or.inl ⟨by rfl, ?_⟩) (by assumption) ?_
                  rotate_left
                  · (intro w hSw; (try dsimp only at hSw); go_simp; try with_reducible rfl)
                  try simp only [Array.reduceGetElem, Act.put, List.setIfInBounds_toArray, List.set_cons_zero, List.set_cons_succ]
                  refine wpAnyH_take (i := 9) (v := ?_) rfl (by kernel_rfl) (by kernel_rfl) (by kernel_rfl) (fun _ _ _ h => h) (Or.inl ⟨by rfl, ?_⟩) (by assumption) ?_
                  rotate_left
                  · (intro w hSw; (try dsimp only at hSw); go_simp; try with_reducible rfl)
                  try simp only [Array.reduceGetElem, Act.put, List.setIfInBounds_toArray, List.set_cons_zero, List.set_cons_succ]
                  refine wpAnyH_take (i := 10) (v := ?_) rfl (by kernel_rfl) (by kernel_rfl) (by kernel_rfl) (fun _ _ _ h => h) (Or.inl ⟨by rfl, ?_⟩) (by assumption) ?_
                  rotate_left
                  · (intro w hSw; (try dsimp only at hSw); go_simp; try with_reducible rfl)
                  try simp only [Array.reduceGetElem, Act.put, List.setIfInBounds_toArray, List.set_cons_zero, List.set_cons_succ]
                  refine wpAnyH_take (i := 11) (v := ?_) rfl (by kernel_rfl) (by kernel_rfl) (by kernel_rfl) (fun _ _ _ h => h) (Or.inl ⟨by rfl, ?_⟩) (by assumption) ?_
                  rotate_left
                  · (intro w hSw; (try dsimp only at hSw); go_simp; try with_reducible rfl)
                  try simp only [Array.reduceGetElem, Act.put, List.setIfInBounds_toArray, List.set_cons_zero, List.set_cons_succ]
                  refine wpAnyH_take (i := 12) (v := ?_) rfl (by kernel_rfl) (by kernel_rfl) (by kernel_rfl) (fun _ _ _ h => h) (Or.inl ⟨by rfl, ?_⟩) (by assumption) ?_
                  rotate_left
                  · (intro w hSw; (try dsimp only at hSw); go_simp; try with_reducible rfl)
                  try simp only [Array.reduceGetElem, Act.put, List.setIfInBounds_toArray, List.set_cons_zero, List.set_cons_succ]
                  refine wpAnyH_take (i := 13) (v := ?_) rfl (by kernel_rfl) (by kernel_rfl) (by kernel_rfl) (fun _ _ _ h => h) (Or.inl ⟨by rfl, ?_⟩) (by assumption) ?_
                  rotate_left
                  · (intro w hSw; (try dsimp only at hSw); go_simp; try with_reducible rfl)
                  try simp only [Array.reduceGetElem, Act.put, List.setIfInBounds_toArray, List.set_cons_zero, List.set_cons_succ]
                  refine wpAnyH_take (i := 14) (v := ?_) rfl (by kernel_rfl) (by kernel_rfl) (by kernel_rfl) (fun _ _ _ h => h) (Or.inl ⟨by rfl, ?_⟩) (by assumption) ?_
                  rotate_left
                  · (intro w hSw; (try dsimp only at hSw); go_simp; try with_reducible rfl)
                  try simp only [Array.reduceGetElem, Act.put, List.setIfInBounds_toArray, List.set_cons_zero, List.set_cons_succ]
                  refine wpAnyH_take (i := 15) (v := ?_) rfl (by kernel_rfl) (by kernel_rfl) (by kernel_rfl) (fun _ _ _ h => h) (Or.inl ⟨by rfl, ?_⟩) (by assumption) ?_
                  rotate_left
                  · (intro w hSw; (try dsimp only at hSw); go_simp; try with_reducible rfl)
                  try simp only [Array.reduceGetElem, Act.put, List.setIfInBounds_toArray, List.set_cons_zero, List.set_cons_succ]
                  refine wpAnyH_take (i := 16) (v := ?_) rfl (by kernel_rfl) (by kernel_rfl) (by kernel_rfl) (fun _ _ _ h => h) (Or.inl ⟨by rfl, ?_⟩) (by assumption) ?_
                  rotate_left
                  · (intro w hSw; (try dsimp only at hSw); go_simp; try with_reducible rfl)
                  try simp only [Array.reduceGetElem, Act.put, List.setIfInBounds_toArray, List.set_cons_zero, List.set_cons_succ]
                  refine wpAnyH_take (i := 17) (v := ?_) rfl (by kernel_rfl) (by kernel_rfl) (by kernel_rfl) (fun _ _ _ h => h) (Or.inl ⟨by rfl, ?_⟩) (by assumption) ?_
                  rotate_left
                  · (intro w hSw; (try dsimp only at hSw); go_simp; try with_reducible rfl)
                  try simp only [Array.reduceGetElem, Act.put, List.setIfInBounds_toArray, List.set_cons_zero, List.set_cons_succ]
                  refine wpAnyH_ready (rs := [18]) (by kernel_rfl) (by simp) ?_
                  refine AllReadyH.cons rfl (fun K hK => ?_) AllReadyH.nil
                  go_simp
                  refine (hcl.out _ ?_).mono ?_
                  · rw [hpb'.out]; exact hBy.trans ⟨rfl, rfl, rfl, Nat.le_refl _, fun _ _ => rfl⟩
                  rintro e W3 ⟨rfl, n3, rfl⟩
                  refine hK.out _ _ ?_ (fun hHeld => ?_)
                  · (try dsimp only); first | exact ⟨p0, e1⟩ | exact ⟨hR3, hR4⟩
                  clear hK K
                  try simp only [Array.reduceGetElem, Act.put, List.setIfInBounds_toArray, List.set_cons_zero, List.set_cons_succ]
                  refine wpAnyH_take (i := 19) (v := ?_) rfl (by kernel_rfl) (by kernel_rfl) (by kernel_rfl) (fun _ _ _ h => h) (Or.inl ⟨by rfl, ?_⟩) (by assumption) ?_
                  rotate_left
                  · (intro w hSw; (try dsimp only at hSw); go_simp; try with_reducible rfl)
                  try simp only [Array.reduceGetElem, Act.put, List.setIfInBounds_toArray, List.set_cons_zero, List.set_cons_succ]
                  refine wpAnyH_take (i := 20) (v := ?_) rfl (by kernel_rfl) (by kernel_rfl) (by kernel_rfl) (fun _ _ _ h => h) (Or.inl ⟨by rfl, ?_⟩) (by assumption) ?_
                  rotate_left
                  · (intro w hSw; (try dsimp only at hSw); go_simp; try with_reducible rfl)
                  try simp only [Array.reduceGetElem, Act.put, List.setIfInBounds_toArray, List.set_cons_zero, List.set_cons_succ]
                  refine wpAnyH_ready (rs := [21]) (by kernel_rfl) (by simp) ?_
                  refine AllReadyH.cons rfl (fun K hK => ?_) AllReadyH.nil
                  go_simp
                  skip
                  refine hK.out _ _ ?_ (fun hHeld => ?_)
                  · (try dsimp only); first | exact ⟨p0, e1⟩ | exact ⟨hR3, hR4⟩
                  clear hK K
                  try simp only [Array.reduceGetElem, Act.put, List.setIfInBounds_toArray, List.set_cons_zero, List.set_cons_succ]
                  refine wpAnyH_done (by kernel_rfl) ?_ _
                  try refine NoPanic.normal ?_
                  (try dsimp only)
                  go_wp2
                  go_roundw
                  case rel => exact ⟨j + 1 + 1, by omega, by first | go_num | (congr 1; omega), Lib.hid (hset.out.same rfl), Lib.hid (hR2'.out.same rfl), Lib.hid hb2'.out, hBx'.trans ⟨rfl, rfl, rfl, by simp [World.setCell], fun _ _ => rfl⟩, hBy'.trans ⟨rfl, rfl, rfl, by simp [World.setCell], fun _ _ => rfl⟩⟩
                  case measure => first | (simp [intOf]; done) | (simp [intOf]; omega)
          · obtain rfl : i = s.length + 1 := by omega
            have hfin := Lib.hid (hRn.out.congr (f' := reach (ps ++ [pt]) s) (fun j hj => upTo_lt _ hj))
            have hBz2 := hBx.size
            go_wp2
            go_roundw
            case rel => exact ⟨k + 1, pb + 1, by omega, by go_num, rfl, by omega, by rw [hst.out]; exact hfin, hBx⟩
            case measure => simp [intOf]; omega
    · obtain rfl : k = xs.length := by omega
      have hfin := hR.out.cell (j := s.length) (by omega)
      rw [List.take_length, reach_all] at hfin
      clear hR
      go_wp2
      go_ret
      exact ⟨rfl, hB⟩
end Go.Proofs.YtiibodelcfmnpaaDoor
