/-
  The walks of DrawNeedPut, DrawNeedFits, DrawNeedGet.
-/
import Derived.Test.YtdcfifhmldolhaaDoorDrawV
import Derived.Deep.RegionWith
namespace Go.Proofs.YtdcfifhmldolhaaDoor
open Go.RowKit
set_option linter.unusedVariables false
attribute [local go_sem] mkB_size mkB_extract mkB_get mkB_append mkB_append_raw raw_append_mkB mkB_toList

def DrawnN (w : World) (e : Ending) (w' : World) : Prop :=
  ∃ (nm vr : List UInt8) (kd : Int), nm.length ≤ 20 ∧ vr.length ≤ 20 ∧ -1 ≤ kd ∧ kd ≤ 4 ∧ e = .returned (.agg #[.string (mkB nm), .int .i64 kd, .string (mkB vr)]) ∧ Below w.heap.size w w'

theorem Box3.drew {W : World} {B : Nat} {t : TypeId} {a b c : Value} (h : Box3 W B t a b c) : Box3 W.drew B t a b c := h
theorem Box3.below {W W' : World} {n B : Nat} {t : TypeId} {a b c : Value} (h : Box3 W B t a b c) (hB : Below n W W') (hlt : B < n) : Box3 W' B t a b c := (hB.block B hlt).trans h

set_option maxHeartbeats 1000000 in
theorem DrawNeedPut_any (A : Option Addr) (n c : Nat) (w : World) (h : IsBytes w A n c) :
    Calls Tryd.prog 8 #[.slice A n c] w (DrawnN w) := by
  go_enter Tryd.func8, Tryd.ntmps8
  go_wp2_with fail
  obtain ⟨W0, hW0⟩ : ∃ W0, w.alloc (.cells #[.string { data := #[] }, .int .i64 0, .string { data := #[] }] 23) = W0 := ⟨_, rfl⟩
  have hb0 : Box3 W0 w.heap.size 23 (.string { data := #[] }) (.int .i64 0) (.string { data := #[] }) := by rw [← hW0]; exact Box3.new _ _ _ _ _
  have h0 : IsBytes W0 A n c := by rw [← hW0]; exact h.more _
  have hz0 : W0.heap.size = w.heap.size + 1 := by rw [← hW0]; simp
  have hB0 : Below w.heap.size w W0 := by rw [← hW0]; exact (Below.refl _ _).alloc (Nat.le_refl _) _
  rw [hW0]
  clear hW0
  refine (l1Open_any A n c W0 h0).mono ?_
  rintro e w1 ⟨rb, hr, rfl, hR, hB⟩
  have hb1 := Box3.below hb0 hB (by omega)
  go_wp2_with fail
  refine (l11AnyNeed_any rb 0 w1 hR (by omega)).mono ?_
  rintro e w2 ⟨nm, vr, kd, q, hnm, hvr, hk1, hk2, hq, rfl, hR2, hg⟩
  have hb2 := hb1.kept hg (by intro e; injection e; omega)
  have b0 := hb2.cell0
  have b1 := hb2.cell1
  have b2 := hb2.cell2
  have f0 := hb2.frozen 0
  have f1 := hb2.frozen 1
  have f2 := hb2.frozen 2
  go_wp2_with fail
  have hfin := ((hb2.set0 (.string (mkB nm))).set1 (.int .i64 kd)).set2 (.string (mkB vr))
  have e0 := hfin.cell0
  have e1 := hfin.cell1
  have e2 := hfin.cell2
  refine bodyPost_ret (v := .agg #[.string (mkB nm), .int .i64 kd, .string (mkB vr)]) (by simp [results, Tryd.results8, go_sem, e0, e1, e2]) rfl ⟨nm, vr, kd, hnm, hvr, hk1, hk2, rfl, ?_⟩
  have hBB := below_rb (hB0.trans (hB.mono (by omega))) (by omega) hg
  exact ((hBB.setCell (p := ⟨w.heap.size, 0, none⟩) (Nat.le_refl _) _).setCell (p := ⟨w.heap.size, 1, none⟩) (Nat.le_refl _) _).setCell (p := ⟨w.heap.size, 2, none⟩) (Nat.le_refl _) _

def DrawnF (w : World) (e : Ending) (w' : World) : Prop :=
  ∃ (nm vr s t : List UInt8) (kd : Int), nm.length ≤ 20 ∧ vr.length ≤ 20 ∧ -1 ≤ kd ∧ kd ≤ 4 ∧ s.length ≤ 20 ∧ t.length ≤ 20 ∧ e = .returned (.tuple #[.agg #[.string (mkB nm), .int .i64 kd, .string (mkB vr)], .string (mkB s), .string (mkB t)]) ∧ Below w.heap.size w w'

end Go.Proofs.YtdcfifhmldolhaaDoor
