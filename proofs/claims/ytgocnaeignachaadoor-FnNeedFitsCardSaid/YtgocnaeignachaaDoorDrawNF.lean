/-
  The walks of DrawNeedPut, DrawNeedFits, DrawNeedGet.
-/
import Derived.Test.YtgocnaeignachaaDoorDrawV
import Derived.Deep.RegionWith
namespace Go.Proofs.YtgocnaeignachaaDoor
open Go.RowKit
set_option linter.unusedVariables false
attribute [local go_sem] mkB_size mkB_extract mkB_get mkB_append mkB_append_raw raw_append_mkB mkB_toList

def DrawnN (w : World) (e : Ending) (w' : World) : Prop :=
  ∃ (nm vr : List UInt8) (kd : Int), nm.length ≤ 20 ∧ vr.length ≤ 20 ∧ -1 ≤ kd ∧ kd ≤ 4 ∧ e = .returned (.agg #[.string (mkB nm), .int .i64 kd, .string (mkB vr)]) ∧ Below w.heap.size w w'

theorem Box3.drew {W : World} {B : Nat} {t : TypeId} {a b c : Value} (h : Box3 W B t a b c) : Box3 W.drew B t a b c := h
theorem Box3.below {W W' : World} {n B : Nat} {t : TypeId} {a b c : Value} (h : Box3 W B t a b c) (hB : Below n W W') (hlt : B < n) : Box3 W' B t a b c := (hB.block B hlt).trans h

set_option maxHeartbeats 1000000 in
theorem DrawNeedPut_any (A : Option Addr) (n c : Nat) (w : World) (h : IsBytes w A n c) :
    Calls Tryd.prog 31 #[.slice A n c] w (DrawnN w) := by
  go_enter Tryd.func31, Tryd.ntmps31
  go_wp2_with fail
  obtain ⟨W0, hW0⟩ : ∃ W0, w.alloc (.cells #[.string { data := #[] }, .int .i64 0, .string { data := #[] }] 27) = W0 := ⟨_, rfl⟩
  have hb0 : Box3 W0 w.heap.size 27 (.string { data := #[] }) (.int .i64 0) (.string { data := #[] }) := by rw [← hW0]; exact Box3.new _ _ _ _ _
  have h0 : IsBytes W0 A n c := by rw [← hW0]; exact h.more _
  have hz0 : W0.heap.size = w.heap.size + 1 := by rw [← hW0]; simp
  have hB0 : Below w.heap.size w W0 := by rw [← hW0]; exact (Below.refl _ _).alloc (Nat.le_refl _) _
  rw [hW0]
  clear hW0
  refine (l1Open_any A n c W0 h0).mono ?_
  rintro e w1 ⟨rb, hr, rfl, hR, hB⟩
  have hb1 := Box3.below hb0 hB (by omega)
  go_wp2_with fail
  refine (l11AnyNeed_any rb 0 w1 hR (by omega)).mono ?_
  rintro e w2 ⟨nm, vr, kd, q, hnm, hvr, hk1, hk2, hq, rfl, hR2, hg⟩
  have hb2 := hb1.kept hg (by intro e; injection e; omega)
  have b0 := hb2.cell0
  have b1 := hb2.cell1
  have b2 := hb2.cell2
  have f0 := hb2.frozen 0
  have f1 := hb2.frozen 1
  have f2 := hb2.frozen 2
  go_wp2_with fail
  have hfin := ((hb2.set0 (.string (mkB nm))).set1 (.int .i64 kd)).set2 (.string (mkB vr))
  have e0 := hfin.cell0
  have e1 := hfin.cell1
  have e2 := hfin.cell2
  refine bodyPost_ret (v := .agg #[.string (mkB nm), .int .i64 kd, .string (mkB vr)]) (by simp [results, Tryd.results31, go_sem, e0, e1, e2]) rfl ⟨nm, vr, kd, hnm, hvr, hk1, hk2, rfl, ?_⟩
  have hBB := below_rb (hB0.trans (hB.mono (by omega))) (by omega) hg
  exact ((hBB.setCell (p := ⟨w.heap.size, 0, none⟩) (Nat.le_refl _) _).setCell (p := ⟨w.heap.size, 1, none⟩) (Nat.le_refl _) _).setCell (p := ⟨w.heap.size, 2, none⟩) (Nat.le_refl _) _

def DrawnF (w : World) (e : Ending) (w' : World) : Prop :=
  ∃ (nm vr s t : List UInt8) (kd : Int), nm.length ≤ 20 ∧ vr.length ≤ 20 ∧ -1 ≤ kd ∧ kd ≤ 4 ∧ s.length ≤ 20 ∧ t.length ≤ 20 ∧ e = .returned (.tuple #[.agg #[.string (mkB nm), .int .i64 kd, .string (mkB vr)], .string (mkB s), .string (mkB t)]) ∧ Below w.heap.size w w'

set_option maxHeartbeats 4000000 in
theorem DrawNeedFits_any (A : Option Addr) (n c : Nat) (w : World) (h : IsBytes w A n c) :
    Calls Tryd.prog 27 #[.slice A n c] w (DrawnF w) := by
  go_enter Tryd.func27, Tryd.ntmps27
  go_wp2_with fail
  obtain ⟨W0, hW0⟩ : ∃ W0, w.alloc (.cells #[.string { data := #[] }, .int .i64 0, .string { data := #[] }] 27) = W0 := ⟨_, rfl⟩
  have hb0 : Box3 W0 w.heap.size 27 (.string { data := #[] }) (.int .i64 0) (.string { data := #[] }) := by rw [← hW0]; exact Box3.new _ _ _ _ _
  have h0 : IsBytes W0 A n c := by rw [← hW0]; exact h.more _
  have hz0 : W0.heap.size = w.heap.size + 1 := by rw [← hW0]; simp
  have hB0 : Below w.heap.size w W0 := by rw [← hW0]; exact (Below.refl _ _).alloc (Nat.le_refl _) _
  rw [hW0]
  clear hW0
  refine (l1Open_any A n c W0 h0).mono ?_
  rintro e w1 ⟨rb, hr, rfl, hR, hB⟩
  have hb1 := Box3.below hb0 hB (by omega)
  go_wp2_with fail
  refine (l11AnyNeed_any rb 0 w1 hR (by omega)).mono ?_
  rintro e w2 ⟨nm, vr, kd, q, hnm, hvr, hk1, hk2, hq, rfl, hR2, hg⟩
  have hb2 := hb1.kept hg (by intro e; injection e; omega)
  have hlt2 := hR2.lt
  have hBB2 := below_rb (hB0.trans (hB.mono (by omega))) (by omega) hg
  go_wp2_with fail
  obtain ⟨W3, hW3⟩ : ∃ W3, w2.alloc (.cells #[.string (mkB nm), .int .i64 kd, .string (mkB vr)] 27) = W3 := ⟨_, rfl⟩
  have hn3 : Box3 W3 w2.heap.size 27 (.string (mkB nm)) (.int .i64 kd) (.string (mkB vr)) := by rw [← hW3]; exact Box3.new _ _ _ _ _
  have hr3 : Box3 W3 w.heap.size 27 (.string { data := #[] }) (.int .i64 0) (.string { data := #[] }) := by rw [← hW3]; exact hb2.kept (World.grownBy_alloc w2 _ none) (fun e => by cases e)
  have hR3 : Rd W3 rb q := by rw [← hW3]; exact hR2.more _
  have hBB3 : Below w.heap.size w W3 := by rw [← hW3]; exact hBB2.alloc hBB2.size _
  rw [hW3]
  clear hW3 hb2 hb1 hb0 hg hBB2 hB hB0 hR hR2 h0 h
  have n0 := hn3.cell0
  have n1 := hn3.cell1
  have n2 := hn3.cell2
  have hlt3 := hn3.lt
  have hof := of_at rb q W3.heap.size 3 [nm, nm, [111, 110, 101]] (W3.alloc (.cells #[.string (mkB nm), .string (mkB nm), .string (mkB [111, 110, 101])] 9)).drew ((hR3.more (.cells #[.string (mkB nm), .string (mkB nm), .string (mkB [111, 110, 101])] 9)).drewN 1) (by omega) (by simp) (by simp) (by omega) (World.alloc_heap_new W3 _)
  have hn3' : Box3 (W3.alloc (.cells #[.string (mkB nm), .string (mkB nm), .string (mkB [111, 110, 101])] 9)).drew w2.heap.size 27 (.string (mkB nm)) (.int .i64 kd) (.string (mkB vr)) := Box3.drew (hn3.kept (World.grownBy_alloc W3 _ none) (fun e => by cases e))
  have hr3' : Box3 (W3.alloc (.cells #[.string (mkB nm), .string (mkB nm), .string (mkB [111, 110, 101])] 9)).drew w.heap.size 27 (.string { data := #[] }) (.int .i64 0) (.string { data := #[] }) := Box3.drew (hr3.kept (World.grownBy_alloc W3 _ none) (fun e => by cases e))
  have hBB3' : Below w.heap.size w (W3.alloc (.cells #[.string (mkB nm), .string (mkB nm), .string (mkB [111, 110, 101])] 9)).drew := (hBB3.alloc hBB3.size _).drew
  go_region_with (first
    | (go_at_call 45; refine hof.mono ?_; rintro e w4 ⟨s, hs, rfl, hR4, hg4⟩; have hn4 := hn3'.kept hg4 (by intro e; injection e; omega); have hr4 := hr3'.kept hg4 (by intro e; injection e; omega); have hBB4 := below_rb hBB3' (by omega) hg4; have p0 := hn4.cell0; have p1 := hn4.cell1; have p2 := hn4.cell2)
    | (go_at_call 42; refine (l11AnyVersion_any rb (q + 1) _ hR4 (by omega)).mono ?_; rintro e w5 ⟨t, q5, ht, hq5, rfl, hR5, hg5⟩; have hn5 := hn4.kept hg5 (by intro e; injection e; omega); have hr5 := hr4.kept hg5 (by intro e; injection e; omega); have hBB5 := below_rb hBB4 (by omega) hg5; have r0 := hr5.cell0; have r1 := hr5.cell1; have r2 := hr5.cell2; have f0 := hr5.frozen 0; have f1 := hr5.frozen 1; have f2 := hr5.frozen 2; have p0' := hn5.cell0; have p1' := hn5.cell1; have p2' := hn5.cell2))
  all_goals go_wp2
  all_goals
    have hfin := ((hr5.set0 (.string (mkB nm))).set1 (.int .i64 kd)).set2 (.string (mkB vr))
    have e0 := hfin.cell0
    have e1 := hfin.cell1
    have e2 := hfin.cell2
    have hsl : s.length ≤ 20 := by
      simp only [List.mem_cons, List.mem_nil_iff, or_false] at hs
      rcases hs with rfl | rfl | rfl
      · exact hnm
      · exact hnm
      · decide
    refine bodyPost_ret (v := .tuple #[.agg #[.string (mkB nm), .int .i64 kd, .string (mkB vr)], .string (mkB s), .string (mkB t)]) (by simp [results, Tryd.results27, go_sem, e0, e1, e2]) rfl ⟨nm, vr, s, t, kd, hnm, hvr, hk1, hk2, hsl, ht, rfl, ?_⟩
    exact ((hBB5.setCell (p := ⟨w.heap.size, 0, none⟩) (Nat.le_refl _) _).setCell (p := ⟨w.heap.size, 1, none⟩) (Nat.le_refl _) _).setCell (p := ⟨w.heap.size, 2, none⟩) (Nat.le_refl _) _

end Go.Proofs.YtgocnaeignachaaDoor
