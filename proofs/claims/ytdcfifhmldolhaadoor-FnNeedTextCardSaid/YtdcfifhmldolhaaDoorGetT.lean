/-
  The walk of the reference's NeedGet.
-/
import Derived.Test.YtdcfifhmldolhaaDoorGetS
import Derived.Test.YtdcfifhmldolhaaDoorGetS1
import Derived.Test.YtdcfifhmldolhaaDoorGetS2
import Derived.Test.YtdcfifhmldolhaaDoorGetS3
import Derived.Test.YtdcfifhmldolhaaDoorGetS4
namespace Go.Proofs.YtdcfifhmldolhaaDoor
open Go.RowKit
set_option linter.unusedVariables false
attribute [local go_sem] mkB_size mkB_extract mkB_get mkB_append mkB_append_raw raw_append_mkB mkB_toList take_left' drop_left'

theorem needGet_isSome {l nm vr : List UInt8} {kd : Int} (hp : parts l = some (nm, kd, vr)) : (needGet l).isSome = needOk nm kd vr := by
  unfold needGet; rw [hp]; cases h : needOk nm kd vr <;> simp [h]
theorem needGet_of {l nm vr : List UInt8} {kd : Int} (hp : parts l = some (nm, kd, vr)) (h : (needGet l).isSome = true) : needGet l = some (nm, kd, vr) := by
  rw [needGet_isSome hp] at h; unfold needGet; rw [hp]; simp [h]
theorem l3Get_all (l : List UInt8) (hl : l.length ≤ 1099511627) : ∃ (nm : List UInt8) (kd : Int) (vr : List UInt8), Hid ((needGet l).isSome = true → needGet l = some (nm, kd, vr)) ∧
    ∀ w : World, Calls Tryd.prog 14 #[.string (mkB l)] w fun e w' => e = .returned (.tuple #[.agg #[.string (mkB nm), .int .i64 kd, .string (mkB vr)], .bool (needGet l).isSome]) ∧ Below w.heap.size w w' := by
  rcases forms l with ⟨hs, hp⟩ | ⟨k, nm, v, hs, rfl, rfl, hp⟩ | ⟨k, nm, v, hs, rfl, rfl, hp⟩ | ⟨k, nm, v, hs, rfl, rfl, hp⟩ | ⟨k, nm, v, hs, rfl, rfl, hne, hp⟩
  · exact ⟨l, 0, [], Lib.hid (needGet_of hp), fun w => by rw [needGet_isSome hp]; exact l3Get_plain l hl hs w⟩
  · exact ⟨nm, 1, v, Lib.hid (needGet_of hp), fun w => by rw [needGet_isSome hp]; exact l3Get_same nm v hl hs w⟩
  · exact ⟨nm, 3, v, Lib.hid (needGet_of hp), fun w => by rw [needGet_isSome hp]; exact l3Get_less nm v hl hs w⟩
  · exact ⟨nm, 2, v, Lib.hid (needGet_of hp), fun w => by rw [needGet_isSome hp]; exact l3Get_from nm v hl hs w⟩
  · have hn : needGet (nm ++ 62 :: v) = none := by unfold needGet; rw [hp]
    exact ⟨nm, 0, [], Lib.hid (fun h => by rw [hn] at h; cases h), fun w => by rw [hn]; exact l3Get_none nm v hl hs hne w⟩

theorem getV_is_none {l : List UInt8} (h : (needGet l).isSome = false) : getV l = .tuple #[.agg #[.string { data := #[] }, .int .i64 0, .string { data := #[] }], .bool false] := by
  unfold getV; cases hn : needGet l with
  | none => rfl
  | some x => rw [hn] at h; cases h
theorem getV_is_some {l nm vr : List UInt8} {kd : Int} (h : needGet l = some (nm, kd, vr)) : getV l = .tuple #[.agg #[.string (mkB nm), .int .i64 kd, .string (mkB vr)], .bool true] := by
  unfold getV; rw [h]

set_option maxHeartbeats 4000000 in
theorem specNeedGet_any (l : List UInt8) (hl : l.length ≤ 1099511627) (w : World) :
    Calls Tryd.prog 5 #[.string (mkB l)] w fun e w' => e = .returned (getV l) ∧ Below w.heap.size w w' := by
  obtain ⟨nm, kd, vr, hgive, hcall⟩ := l3Get_all l hl
  have hget := Lib.hid hcall
  clear hcall
  rcases boolOf (needGet l).isSome with hb | hb
  · have hans := Lib.hid (getV_is_none hb.out)
    go_enter Tryd.func5, Tryd.ntmps5
    go_wp2_with fail
    obtain ⟨W1, hW1⟩ : ∃ W1, (w.alloc (.cells #[.string { data := #[] }, .int .i64 0, .string { data := #[] }] 23)) = W1 := ⟨_, rfl⟩
    have hr1 : Box3 W1 w.heap.size 23 (.string { data := #[] }) (.int .i64 0) (.string { data := #[] }) := by rw [← hW1]; exact (Box3.new _ _ _ _ _)
    have hz1 : W1.heap.size = w.heap.size + 1 := by rw [← hW1]; simp
    have hB1 : Below w.heap.size w W1 := by rw [← hW1]; exact ((Below.refl _ _).alloc (Nat.le_refl _) _)
    rw [hW1]
    clear hW1
    refine (hget.out _).mono ?_
    rintro e w2 ⟨rfl, hB⟩
    rw [hb.out]
    have hr2 := Box3.below hr1 hB (by omega)
    have hB2 := hB1.trans (hB.mono (by omega))
    have hz2 : w.heap.size < w2.heap.size := by have := hB.size; omega
    have b0 := hr2.cell0
    have b1 := hr2.cell1
    have b2 := hr2.cell2
    have f0 := hr2.frozen 0
    have f1 := hr2.frozen 1
    have f2 := hr2.frozen 2
    go_wp2
    have hfin := Box3.kept (((hr2.set0 (.string { data := #[] })).set1 (.int .i64 0)).set2 (.string { data := #[] })) (World.grownBy_alloc _ (.cells #[.string (mkB nm), .int .i64 kd, .string (mkB vr)] 23) none) (fun e => by cases e)
    have e0 := hfin.cell0
    have e1 := hfin.cell1
    have e2 := hfin.cell2
    refine bodyPost_ret (v := .tuple #[.agg #[.string { data := #[] }, .int .i64 0, .string { data := #[] }], .bool false]) (by simp [results, Tryd.results5, go_sem, e0, e1, e2]) rfl ⟨by rw [hans.out], ?_⟩
    exact (((hB2.setCell (p := ⟨w.heap.size, 0, none⟩) (Nat.le_refl _) _).setCell (p := ⟨w.heap.size, 1, none⟩) (Nat.le_refl _) _).setCell (p := ⟨w.heap.size, 2, none⟩) (Nat.le_refl _) _).alloc (by simp; omega) _
  · have hans := Lib.hid (getV_is_some (hgive.out hb.out))
    go_enter Tryd.func5, Tryd.ntmps5
    go_wp2_with fail
    obtain ⟨W1, hW1⟩ : ∃ W1, (w.alloc (.cells #[.string { data := #[] }, .int .i64 0, .string { data := #[] }] 23)) = W1 := ⟨_, rfl⟩
    have hr1 : Box3 W1 w.heap.size 23 (.string { data := #[] }) (.int .i64 0) (.string { data := #[] }) := by rw [← hW1]; exact (Box3.new _ _ _ _ _)
    have hz1 : W1.heap.size = w.heap.size + 1 := by rw [← hW1]; simp
    have hB1 : Below w.heap.size w W1 := by rw [← hW1]; exact ((Below.refl _ _).alloc (Nat.le_refl _) _)
    rw [hW1]
    clear hW1
    refine (hget.out _).mono ?_
    rintro e w2 ⟨rfl, hB⟩
    rw [hb.out]
    have hr2 := Box3.below hr1 hB (by omega)
    have hB2 := hB1.trans (hB.mono (by omega))
    have hz2 : w.heap.size < w2.heap.size := by have := hB.size; omega
    have b0 := hr2.cell0
    have b1 := hr2.cell1
    have b2 := hr2.cell2
    have f0 := hr2.frozen 0
    have f1 := hr2.frozen 1
    have f2 := hr2.frozen 2
    go_wp2
    have hfin := Box3.kept (((hr2.set0 (.string (mkB nm))).set1 (.int .i64 kd)).set2 (.string (mkB vr))) (World.grownBy_alloc _ (.cells #[.string (mkB nm), .int .i64 kd, .string (mkB vr)] 23) none) (fun e => by cases e)
    have e0 := hfin.cell0
    have e1 := hfin.cell1
    have e2 := hfin.cell2
    refine bodyPost_ret (v := .tuple #[.agg #[.string (mkB nm), .int .i64 kd, .string (mkB vr)], .bool true]) (by simp [results, Tryd.results5, go_sem, e0, e1, e2]) rfl ⟨by rw [hans.out], ?_⟩
    exact (((hB2.setCell (p := ⟨w.heap.size, 0, none⟩) (Nat.le_refl _) _).setCell (p := ⟨w.heap.size, 1, none⟩) (Nat.le_refl _) _).setCell (p := ⟨w.heap.size, 2, none⟩) (Nat.le_refl _) _).alloc (by simp; omega) _

end Go.Proofs.YtdcfifhmldolhaaDoor
