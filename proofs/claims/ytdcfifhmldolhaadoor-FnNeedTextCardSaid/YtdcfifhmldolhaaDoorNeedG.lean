/-
  The walk of the program's NeedGet.
-/
import Derived.Test.YtdcfifhmldolhaaDoorIdxA
import Derived.Test.YtdcfifhmldolhaaDoorPlainG
import Derived.Test.YtdcfifhmldolhaaDoorHasP
import Derived.Test.YtdcfifhmldolhaaDoorDrawNF
namespace Go.Proofs.YtdcfifhmldolhaaDoor
open Go.RowKit
set_option linter.unusedVariables false
theorem take_left' (f r : List UInt8) : (f ++ r).take f.length = f := List.take_left
theorem drop_left' (f r : List UInt8) : (f ++ r).drop f.length = r := List.drop_left
attribute [local go_sem] mkB_size mkB_extract mkB_get mkB_append mkB_append_raw raw_append_mkB mkB_toList take_left' drop_left'

/-- what NeedGet hands back -/
def getV (l : List UInt8) : Value := match needGet l with
  | some (nm, kd, vr) => .tuple #[.agg #[.string (mkB nm), .int .i64 kd, .string (mkB vr)], .bool true]
  | none => .tuple #[.agg #[.string { data := #[] }, .int .i64 0, .string { data := #[] }], .bool false]
theorem getV_none {l : List UInt8} (h : parts l = none) : getV l = .tuple #[.agg #[.string { data := #[] }, .int .i64 0, .string { data := #[] }], .bool false] := by
  unfold getV needGet; rw [h]
theorem getV_bad {l nm vr : List UInt8} {kd : Int} (h : parts l = some (nm, kd, vr)) (ho : needOk nm kd vr = false) : getV l = .tuple #[.agg #[.string { data := #[] }, .int .i64 0, .string { data := #[] }], .bool false] := by
  unfold getV needGet; rw [h]; simp only [ho]; rfl
theorem getV_ok {l nm vr : List UInt8} {kd : Int} (h : parts l = some (nm, kd, vr)) (ho : needOk nm kd vr = true) : getV l = .tuple #[.agg #[.string (mkB nm), .int .i64 kd, .string (mkB vr)], .bool true] := by
  unfold getV needGet; rw [h]; simp only [ho]; rfl

set_option maxHeartbeats 4000000 in
theorem NeedGet_plain (l : List UInt8) (hl : l.length ≤ 1099511627) (hs : signAt l = none) (hp : parts l = some (l, 0, [])) (w : World) :
    Calls Tryd.prog 6 #[.string (mkB l)] w fun e w' => e = .returned (getV l) ∧ Below w.heap.size w w' := by
  have hsI := Lib.hid (show signI l = -1 by unfold signI; rw [hs])
  go_enter Tryd.func6, Tryd.ntmps6
  go_wp2_with fail
  obtain ⟨W1, hW1⟩ : ∃ W1, (w.alloc (.cells #[.string { data := #[] }, .int .i64 0, .string { data := #[] }] 23)).alloc (.cells #[.string (mkB l), .int .i64 0, .string { data := #[] }] 23) = W1 := ⟨_, rfl⟩
  have hr1 : Box3 W1 w.heap.size 23 (.string { data := #[] }) (.int .i64 0) (.string { data := #[] }) := by rw [← hW1]; exact (Box3.new _ _ _ _ _).kept (World.grownBy_alloc _ _ none) (fun e => by cases e)
  have hn1 : Box3 W1 (w.heap.size + 1) 23 (.string (mkB l)) (.int .i64 0) (.string { data := #[] }) := by
    rw [← hW1]
    have h := Box3.new (w.alloc (.cells #[.string { data := #[] }, .int .i64 0, .string { data := #[] }] 23)) 23 (.string (mkB l)) (.int .i64 0) (.string { data := #[] })
    simp only [World.size_alloc] at h
    exact h
  have hz1 : W1.heap.size = w.heap.size + 2 := by rw [← hW1]; simp
  have hB1 : Below w.heap.size w W1 := by rw [← hW1]; exact ((Below.refl _ _).alloc (Nat.le_refl _) _).alloc (by simp) _
  rw [hW1]
  clear hW1
  refine (IndexAny_any l (by first | omega | (simp at hl ⊢; omega)) _).mono ?_
  rintro e w2 ⟨rfl, hB⟩
  rw [hsI.out]
  have hr2 := Box3.below hr1 hB (by omega)
  have hn2 := Box3.below hn1 hB (by omega)
  have hB2 := hB1.trans (hB.mono (by omega))
  have hz2 : w.heap.size + 2 ≤ w2.heap.size := by have := hB.size; omega
  clear hB hr1 hn1 hB1
  have b0 := hr2.cell0
  have b1 := hr2.cell1
  have b2 := hr2.cell2
  have f0 := hr2.frozen 0
  have f1 := hr2.frozen 1
  have f2 := hr2.frozen 2
  have n0 := hn2.cell0
  have n1 := hn2.cell1
  have n2 := hn2.cell2
  have m0 := hn2.frozen 0
  have m1 := hn2.frozen 1
  have m2 := hn2.frozen 2
  rcases boolOf (needOk l 0 []) with ho | ho
  · have hans := Lib.hid (getV_bad hp ho.out)
    go_wp2_with fail
    refine (NeedOk_any l [] 0 (by first | omega | (simp; done) | (simp at hl ⊢; omega)) (by first | omega | (simp; done) | (simp at hl ⊢; omega)) _).mono ?_
    rintro e w9 ⟨rfl, hB⟩
    rw [ho.out]
    have hr9 := Box3.below hr2 hB (by omega)
    have hn9 := Box3.below hn2 hB (by omega)
    have hB9 := hB2.trans (hB.mono (by omega))
    have hz9 : w.heap.size + 2 ≤ w9.heap.size := by have := hB.size; omega
    clear b0 b1 b2 f0 f1 f2 n0 n1 n2 m0 m1 m2
    have b0 := hr9.cell0
    have b1 := hr9.cell1
    have b2 := hr9.cell2
    have f0 := hr9.frozen 0
    have f1 := hr9.frozen 1
    have f2 := hr9.frozen 2
    have n0 := hn9.cell0
    have n1 := hn9.cell1
    have n2 := hn9.cell2
    have m0 := hn9.frozen 0
    have m1 := hn9.frozen 1
    have m2 := hn9.frozen 2
    go_wp2
    have hfin := ((hr9.set0 (.string { data := #[] })).set1 (.int .i64 0)).set2 (.string { data := #[] })
    have e0 := hfin.cell0
    have e1 := hfin.cell1
    have e2 := hfin.cell2
    refine bodyPost_ret (v := .tuple #[.agg #[(.string { data := #[] }), (.int .i64 0), (.string { data := #[] })], .bool false]) (by simp [results, Tryd.results6, go_sem, e0, e1, e2]) rfl ⟨?_, ?_⟩
    · rw [hans.out]; try rfl
    · exact ((hB9.setCell (p := ⟨w.heap.size, 0, none⟩) (Nat.le_refl _) _).setCell (p := ⟨w.heap.size, 1, none⟩) (Nat.le_refl _) _).setCell (p := ⟨w.heap.size, 2, none⟩) (Nat.le_refl _) _
  · have hans := Lib.hid (getV_ok hp ho.out)
    go_wp2_with fail
    refine (NeedOk_any l [] 0 (by first | omega | (simp; done) | (simp at hl ⊢; omega)) (by first | omega | (simp; done) | (simp at hl ⊢; omega)) _).mono ?_
    rintro e w9 ⟨rfl, hB⟩
    rw [ho.out]
    have hr9 := Box3.below hr2 hB (by omega)
    have hn9 := Box3.below hn2 hB (by omega)
    have hB9 := hB2.trans (hB.mono (by omega))
    have hz9 : w.heap.size + 2 ≤ w9.heap.size := by have := hB.size; omega
    clear b0 b1 b2 f0 f1 f2 n0 n1 n2 m0 m1 m2
    have b0 := hr9.cell0
    have b1 := hr9.cell1
    have b2 := hr9.cell2
    have f0 := hr9.frozen 0
    have f1 := hr9.frozen 1
    have f2 := hr9.frozen 2
    have n0 := hn9.cell0
    have n1 := hn9.cell1
    have n2 := hn9.cell2
    have m0 := hn9.frozen 0
    have m1 := hn9.frozen 1
    have m2 := hn9.frozen 2
    go_wp2
    have hfin := ((hr9.set0 (.string (mkB l))).set1 (.int .i64 0)).set2 (.string { data := #[] })
    have e0 := hfin.cell0
    have e1 := hfin.cell1
    have e2 := hfin.cell2
    refine bodyPost_ret (v := .tuple #[.agg #[(.string (mkB l)), (.int .i64 0), (.string { data := #[] })], .bool true]) (by simp [results, Tryd.results6, go_sem, e0, e1, e2]) rfl ⟨?_, ?_⟩
    · rw [hans.out]; try rfl
    · exact ((hB9.setCell (p := ⟨w.heap.size, 0, none⟩) (Nat.le_refl _) _).setCell (p := ⟨w.heap.size, 1, none⟩) (Nat.le_refl _) _).setCell (p := ⟨w.heap.size, 2, none⟩) (Nat.le_refl _) _

set_option maxHeartbeats 4000000 in
theorem NeedGet_same (nm v : List UInt8) (hl : (nm ++ 61 :: v).length ≤ 1099511627) (hs : signAt (nm ++ 61 :: v) = some nm.length) (hp : parts (nm ++ 61 :: v) = some (nm, 1, v)) (w : World) :
    Calls Tryd.prog 6 #[.string (mkB (nm ++ 61 :: v))] w fun e w' => e = .returned (getV (nm ++ 61 :: v)) ∧ Below w.heap.size w w' := by
  have hsI := Lib.hid (show signI (nm ++ 61 :: v) = nm.length by unfold signI; rw [hs])
  go_enter Tryd.func6, Tryd.ntmps6
  go_wp2_with fail
  obtain ⟨W1, hW1⟩ : ∃ W1, (w.alloc (.cells #[.string { data := #[] }, .int .i64 0, .string { data := #[] }] 23)).alloc (.cells #[.string (mkB (nm ++ 61 :: v)), .int .i64 0, .string { data := #[] }] 23) = W1 := ⟨_, rfl⟩
  have hr1 : Box3 W1 w.heap.size 23 (.string { data := #[] }) (.int .i64 0) (.string { data := #[] }) := by rw [← hW1]; exact (Box3.new _ _ _ _ _).kept (World.grownBy_alloc _ _ none) (fun e => by cases e)
  have hn1 : Box3 W1 (w.heap.size + 1) 23 (.string (mkB ((nm ++ 61 :: v)))) (.int .i64 0) (.string { data := #[] }) := by
    rw [← hW1]
    have h := Box3.new (w.alloc (.cells #[.string { data := #[] }, .int .i64 0, .string { data := #[] }] 23)) 23 (.string (mkB (nm ++ 61 :: v))) (.int .i64 0) (.string { data := #[] })
    simp only [World.size_alloc] at h
    exact h
  have hz1 : W1.heap.size = w.heap.size + 2 := by rw [← hW1]; simp
  have hB1 : Below w.heap.size w W1 := by rw [← hW1]; exact ((Below.refl _ _).alloc (Nat.le_refl _) _).alloc (by simp) _
  rw [hW1]
  clear hW1
  refine (IndexAny_any (nm ++ 61 :: v) (by first | omega | (simp at hl ⊢; omega)) _).mono ?_
  rintro e w2 ⟨rfl, hB⟩
  rw [hsI.out]
  have hr2 := Box3.below hr1 hB (by omega)
  have hn2 := Box3.below hn1 hB (by omega)
  have hB2 := hB1.trans (hB.mono (by omega))
  have hz2 : w.heap.size + 2 ≤ w2.heap.size := by have := hB.size; omega
  clear hB hr1 hn1 hB1
  have b0 := hr2.cell0
  have b1 := hr2.cell1
  have b2 := hr2.cell2
  have f0 := hr2.frozen 0
  have f1 := hr2.frozen 1
  have f2 := hr2.frozen 2
  have n0 := hn2.cell0
  have n1 := hn2.cell1
  have n2 := hn2.cell2
  have m0 := hn2.frozen 0
  have m1 := hn2.frozen 1
  have m2 := hn2.frozen 2
  have hl2 : nm.length + v.length + 2 ≤ 1099511640 := by simp at hl; omega
  have hpre := Lib.hid (show List.isPrefixOf [62, 61] (61 :: v) = false from rfl)
  go_wp2_with (go_at_call 16; refine (HasPrefix_any (61 :: v) [62, 61] (by simp; omega) _).mono ?_; rintro e w' ⟨rfl, rfl⟩; rw [hpre.out])
  go_region
  obtain ⟨W5, hW5⟩ : ∃ W5, (((w2.setCell ⟨w.heap.size + 1, 0, none⟩ (.string (mkB nm))).setCell ⟨w.heap.size + 1, 1, none⟩ (.int .i64 1)).setCell ⟨w.heap.size + 1, 2, none⟩ (.string (mkB v))).drew = W5 := ⟨_, rfl⟩
  have hn5 : Box3 W5 (w.heap.size + 1) 23 (.string (mkB nm)) (.int .i64 1) (.string (mkB v)) := by rw [← hW5]; exact Box3.drew (((hn2.set0 _).set1 _).set2 _)
  have hr5 : Box3 W5 w.heap.size 23 (.string { data := #[] }) (.int .i64 0) (.string { data := #[] }) := by rw [← hW5]; exact Box3.drew (((hr2.kept (grown_set _ _ 0 _) (by intro e; injection e; omega)).kept (grown_set _ _ 1 _) (by intro e; injection e; omega)).kept (grown_set _ _ 2 _) (by intro e; injection e; omega))
  have hB5 : Below w.heap.size w W5 := by rw [← hW5]; exact (((hB2.setCell (p := ⟨w.heap.size + 1, 0, none⟩) (by simp) _).setCell (p := ⟨w.heap.size + 1, 1, none⟩) (by simp) _).setCell (p := ⟨w.heap.size + 1, 2, none⟩) (by simp) _).drew
  have hz5 : w.heap.size + 2 ≤ W5.heap.size := by have := hn5.lt; omega
  rw [hW5]
  clear hW5
  clear b0 b1 b2 f0 f1 f2 n0 n1 n2 m0 m1 m2
  have b0 := hr5.cell0
  have b1 := hr5.cell1
  have b2 := hr5.cell2
  have f0 := hr5.frozen 0
  have f1 := hr5.frozen 1
  have f2 := hr5.frozen 2
  have n0 := hn5.cell0
  have n1 := hn5.cell1
  have n2 := hn5.cell2
  have m0 := hn5.frozen 0
  have m1 := hn5.frozen 1
  have m2 := hn5.frozen 2
  rcases boolOf (needOk nm 1 v) with ho | ho
  · have hans := Lib.hid (getV_bad hp ho.out)
    go_wp2_with fail
    refine (NeedOk_any nm v 1 (by first | omega | (simp; done) | (simp at hl ⊢; omega)) (by first | omega | (simp; done) | (simp at hl ⊢; omega)) _).mono ?_
    rintro e w9 ⟨rfl, hB⟩
    rw [ho.out]
    have hr9 := Box3.below hr5 hB (by omega)
    have hn9 := Box3.below hn5 hB (by omega)
    have hB9 := hB5.trans (hB.mono (by omega))
    have hz9 : w.heap.size + 2 ≤ w9.heap.size := by have := hB.size; omega
    clear b0 b1 b2 f0 f1 f2 n0 n1 n2 m0 m1 m2
    have b0 := hr9.cell0
    have b1 := hr9.cell1
    have b2 := hr9.cell2
    have f0 := hr9.frozen 0
    have f1 := hr9.frozen 1
    have f2 := hr9.frozen 2
    have n0 := hn9.cell0
    have n1 := hn9.cell1
    have n2 := hn9.cell2
    have m0 := hn9.frozen 0
    have m1 := hn9.frozen 1
    have m2 := hn9.frozen 2
    go_wp2
    have hfin := ((hr9.set0 (.string { data := #[] })).set1 (.int .i64 0)).set2 (.string { data := #[] })
    have e0 := hfin.cell0
    have e1 := hfin.cell1
    have e2 := hfin.cell2
    refine bodyPost_ret (v := .tuple #[.agg #[(.string { data := #[] }), (.int .i64 0), (.string { data := #[] })], .bool false]) (by simp [results, Tryd.results6, go_sem, e0, e1, e2]) rfl ⟨?_, ?_⟩
    · rw [hans.out]; try rfl
    · exact ((hB9.setCell (p := ⟨w.heap.size, 0, none⟩) (Nat.le_refl _) _).setCell (p := ⟨w.heap.size, 1, none⟩) (Nat.le_refl _) _).setCell (p := ⟨w.heap.size, 2, none⟩) (Nat.le_refl _) _
  · have hans := Lib.hid (getV_ok hp ho.out)
    go_wp2_with fail
    refine (NeedOk_any nm v 1 (by first | omega | (simp; done) | (simp at hl ⊢; omega)) (by first | omega | (simp; done) | (simp at hl ⊢; omega)) _).mono ?_
    rintro e w9 ⟨rfl, hB⟩
    rw [ho.out]
    have hr9 := Box3.below hr5 hB (by omega)
    have hn9 := Box3.below hn5 hB (by omega)
    have hB9 := hB5.trans (hB.mono (by omega))
    have hz9 : w.heap.size + 2 ≤ w9.heap.size := by have := hB.size; omega
    clear b0 b1 b2 f0 f1 f2 n0 n1 n2 m0 m1 m2
    have b0 := hr9.cell0
    have b1 := hr9.cell1
    have b2 := hr9.cell2
    have f0 := hr9.frozen 0
    have f1 := hr9.frozen 1
    have f2 := hr9.frozen 2
    have n0 := hn9.cell0
    have n1 := hn9.cell1
    have n2 := hn9.cell2
    have m0 := hn9.frozen 0
    have m1 := hn9.frozen 1
    have m2 := hn9.frozen 2
    go_wp2
    have hfin := ((hr9.set0 (.string (mkB nm))).set1 (.int .i64 1)).set2 (.string (mkB v))
    have e0 := hfin.cell0
    have e1 := hfin.cell1
    have e2 := hfin.cell2
    refine bodyPost_ret (v := .tuple #[.agg #[(.string (mkB nm)), (.int .i64 1), (.string (mkB v))], .bool true]) (by simp [results, Tryd.results6, go_sem, e0, e1, e2]) rfl ⟨?_, ?_⟩
    · rw [hans.out]; try rfl
    · exact ((hB9.setCell (p := ⟨w.heap.size, 0, none⟩) (Nat.le_refl _) _).setCell (p := ⟨w.heap.size, 1, none⟩) (Nat.le_refl _) _).setCell (p := ⟨w.heap.size, 2, none⟩) (Nat.le_refl _) _

set_option maxHeartbeats 4000000 in
theorem NeedGet_less (nm v : List UInt8) (hl : (nm ++ 60 :: v).length ≤ 1099511627) (hs : signAt (nm ++ 60 :: v) = some nm.length) (hp : parts (nm ++ 60 :: v) = some (nm, 3, v)) (w : World) :
    Calls Tryd.prog 6 #[.string (mkB (nm ++ 60 :: v))] w fun e w' => e = .returned (getV (nm ++ 60 :: v)) ∧ Below w.heap.size w w' := by
  have hsI := Lib.hid (show signI (nm ++ 60 :: v) = nm.length by unfold signI; rw [hs])
  go_enter Tryd.func6, Tryd.ntmps6
  go_wp2_with fail
  obtain ⟨W1, hW1⟩ : ∃ W1, (w.alloc (.cells #[.string { data := #[] }, .int .i64 0, .string { data := #[] }] 23)).alloc (.cells #[.string (mkB (nm ++ 60 :: v)), .int .i64 0, .string { data := #[] }] 23) = W1 := ⟨_, rfl⟩
  have hr1 : Box3 W1 w.heap.size 23 (.string { data := #[] }) (.int .i64 0) (.string { data := #[] }) := by rw [← hW1]; exact (Box3.new _ _ _ _ _).kept (World.grownBy_alloc _ _ none) (fun e => by cases e)
  have hn1 : Box3 W1 (w.heap.size + 1) 23 (.string (mkB ((nm ++ 60 :: v)))) (.int .i64 0) (.string { data := #[] }) := by
    rw [← hW1]
    have h := Box3.new (w.alloc (.cells #[.string { data := #[] }, .int .i64 0, .string { data := #[] }] 23)) 23 (.string (mkB (nm ++ 60 :: v))) (.int .i64 0) (.string { data := #[] })
    simp only [World.size_alloc] at h
    exact h
  have hz1 : W1.heap.size = w.heap.size + 2 := by rw [← hW1]; simp
  have hB1 : Below w.heap.size w W1 := by rw [← hW1]; exact ((Below.refl _ _).alloc (Nat.le_refl _) _).alloc (by simp) _
  rw [hW1]
  clear hW1
  refine (IndexAny_any (nm ++ 60 :: v) (by first | omega | (simp at hl ⊢; omega)) _).mono ?_
  rintro e w2 ⟨rfl, hB⟩
  rw [hsI.out]
  have hr2 := Box3.below hr1 hB (by omega)
  have hn2 := Box3.below hn1 hB (by omega)
  have hB2 := hB1.trans (hB.mono (by omega))
  have hz2 : w.heap.size + 2 ≤ w2.heap.size := by have := hB.size; omega
  clear hB hr1 hn1 hB1
  have b0 := hr2.cell0
  have b1 := hr2.cell1
  have b2 := hr2.cell2
  have f0 := hr2.frozen 0
  have f1 := hr2.frozen 1
  have f2 := hr2.frozen 2
  have n0 := hn2.cell0
  have n1 := hn2.cell1
  have n2 := hn2.cell2
  have m0 := hn2.frozen 0
  have m1 := hn2.frozen 1
  have m2 := hn2.frozen 2
  have hl2 : nm.length + v.length + 2 ≤ 1099511640 := by simp at hl; omega
  have hpre := Lib.hid (show List.isPrefixOf [62, 61] (60 :: v) = false from rfl)
  go_wp2_with (go_at_call 16; refine (HasPrefix_any (60 :: v) [62, 61] (by simp; omega) _).mono ?_; rintro e w' ⟨rfl, rfl⟩; rw [hpre.out])
  go_region
  obtain ⟨W5, hW5⟩ : ∃ W5, (((w2.setCell ⟨w.heap.size + 1, 0, none⟩ (.string (mkB nm))).setCell ⟨w.heap.size + 1, 1, none⟩ (.int .i64 3)).setCell ⟨w.heap.size + 1, 2, none⟩ (.string (mkB v))).drew = W5 := ⟨_, rfl⟩
  have hn5 : Box3 W5 (w.heap.size + 1) 23 (.string (mkB nm)) (.int .i64 3) (.string (mkB v)) := by rw [← hW5]; exact Box3.drew (((hn2.set0 _).set1 _).set2 _)
  have hr5 : Box3 W5 w.heap.size 23 (.string { data := #[] }) (.int .i64 0) (.string { data := #[] }) := by rw [← hW5]; exact Box3.drew (((hr2.kept (grown_set _ _ 0 _) (by intro e; injection e; omega)).kept (grown_set _ _ 1 _) (by intro e; injection e; omega)).kept (grown_set _ _ 2 _) (by intro e; injection e; omega))
  have hB5 : Below w.heap.size w W5 := by rw [← hW5]; exact (((hB2.setCell (p := ⟨w.heap.size + 1, 0, none⟩) (by simp) _).setCell (p := ⟨w.heap.size + 1, 1, none⟩) (by simp) _).setCell (p := ⟨w.heap.size + 1, 2, none⟩) (by simp) _).drew
  have hz5 : w.heap.size + 2 ≤ W5.heap.size := by have := hn5.lt; omega
  rw [hW5]
  clear hW5
  clear b0 b1 b2 f0 f1 f2 n0 n1 n2 m0 m1 m2
  have b0 := hr5.cell0
  have b1 := hr5.cell1
  have b2 := hr5.cell2
  have f0 := hr5.frozen 0
  have f1 := hr5.frozen 1
  have f2 := hr5.frozen 2
  have n0 := hn5.cell0
  have n1 := hn5.cell1
  have n2 := hn5.cell2
  have m0 := hn5.frozen 0
  have m1 := hn5.frozen 1
  have m2 := hn5.frozen 2
  rcases boolOf (needOk nm 3 v) with ho | ho
  · have hans := Lib.hid (getV_bad hp ho.out)
    go_wp2_with fail
    refine (NeedOk_any nm v 3 (by first | omega | (simp; done) | (simp at hl ⊢; omega)) (by first | omega | (simp; done) | (simp at hl ⊢; omega)) _).mono ?_
    rintro e w9 ⟨rfl, hB⟩
    rw [ho.out]
    have hr9 := Box3.below hr5 hB (by omega)
    have hn9 := Box3.below hn5 hB (by omega)
    have hB9 := hB5.trans (hB.mono (by omega))
    have hz9 : w.heap.size + 2 ≤ w9.heap.size := by have := hB.size; omega
    clear b0 b1 b2 f0 f1 f2 n0 n1 n2 m0 m1 m2
    have b0 := hr9.cell0
    have b1 := hr9.cell1
    have b2 := hr9.cell2
    have f0 := hr9.frozen 0
    have f1 := hr9.frozen 1
    have f2 := hr9.frozen 2
    have n0 := hn9.cell0
    have n1 := hn9.cell1
    have n2 := hn9.cell2
    have m0 := hn9.frozen 0
    have m1 := hn9.frozen 1
    have m2 := hn9.frozen 2
    go_wp2
    have hfin := ((hr9.set0 (.string { data := #[] })).set1 (.int .i64 0)).set2 (.string { data := #[] })
    have e0 := hfin.cell0
    have e1 := hfin.cell1
    have e2 := hfin.cell2
    refine bodyPost_ret (v := .tuple #[.agg #[(.string { data := #[] }), (.int .i64 0), (.string { data := #[] })], .bool false]) (by simp [results, Tryd.results6, go_sem, e0, e1, e2]) rfl ⟨?_, ?_⟩
    · rw [hans.out]; try rfl
    · exact ((hB9.setCell (p := ⟨w.heap.size, 0, none⟩) (Nat.le_refl _) _).setCell (p := ⟨w.heap.size, 1, none⟩) (Nat.le_refl _) _).setCell (p := ⟨w.heap.size, 2, none⟩) (Nat.le_refl _) _
  · have hans := Lib.hid (getV_ok hp ho.out)
    go_wp2_with fail
    refine (NeedOk_any nm v 3 (by first | omega | (simp; done) | (simp at hl ⊢; omega)) (by first | omega | (simp; done) | (simp at hl ⊢; omega)) _).mono ?_
    rintro e w9 ⟨rfl, hB⟩
    rw [ho.out]
    have hr9 := Box3.below hr5 hB (by omega)
    have hn9 := Box3.below hn5 hB (by omega)
    have hB9 := hB5.trans (hB.mono (by omega))
    have hz9 : w.heap.size + 2 ≤ w9.heap.size := by have := hB.size; omega
    clear b0 b1 b2 f0 f1 f2 n0 n1 n2 m0 m1 m2
    have b0 := hr9.cell0
    have b1 := hr9.cell1
    have b2 := hr9.cell2
    have f0 := hr9.frozen 0
    have f1 := hr9.frozen 1
    have f2 := hr9.frozen 2
    have n0 := hn9.cell0
    have n1 := hn9.cell1
    have n2 := hn9.cell2
    have m0 := hn9.frozen 0
    have m1 := hn9.frozen 1
    have m2 := hn9.frozen 2
    go_wp2
    have hfin := ((hr9.set0 (.string (mkB nm))).set1 (.int .i64 3)).set2 (.string (mkB v))
    have e0 := hfin.cell0
    have e1 := hfin.cell1
    have e2 := hfin.cell2
    refine bodyPost_ret (v := .tuple #[.agg #[(.string (mkB nm)), (.int .i64 3), (.string (mkB v))], .bool true]) (by simp [results, Tryd.results6, go_sem, e0, e1, e2]) rfl ⟨?_, ?_⟩
    · rw [hans.out]; try rfl
    · exact ((hB9.setCell (p := ⟨w.heap.size, 0, none⟩) (Nat.le_refl _) _).setCell (p := ⟨w.heap.size, 1, none⟩) (Nat.le_refl _) _).setCell (p := ⟨w.heap.size, 2, none⟩) (Nat.le_refl _) _

set_option maxHeartbeats 4000000 in
theorem NeedGet_from (nm v : List UInt8) (hl : (nm ++ 62 :: 61 :: v).length ≤ 1099511627) (hs : signAt (nm ++ 62 :: 61 :: v) = some nm.length) (hp : parts (nm ++ 62 :: 61 :: v) = some (nm, 2, v)) (w : World) :
    Calls Tryd.prog 6 #[.string (mkB (nm ++ 62 :: 61 :: v))] w fun e w' => e = .returned (getV (nm ++ 62 :: 61 :: v)) ∧ Below w.heap.size w w' := by
  have hsI := Lib.hid (show signI (nm ++ 62 :: 61 :: v) = nm.length by unfold signI; rw [hs])
  go_enter Tryd.func6, Tryd.ntmps6
  go_wp2_with fail
  obtain ⟨W1, hW1⟩ : ∃ W1, (w.alloc (.cells #[.string { data := #[] }, .int .i64 0, .string { data := #[] }] 23)).alloc (.cells #[.string (mkB (nm ++ 62 :: 61 :: v)), .int .i64 0, .string { data := #[] }] 23) = W1 := ⟨_, rfl⟩
  have hr1 : Box3 W1 w.heap.size 23 (.string { data := #[] }) (.int .i64 0) (.string { data := #[] }) := by rw [← hW1]; exact (Box3.new _ _ _ _ _).kept (World.grownBy_alloc _ _ none) (fun e => by cases e)
  have hn1 : Box3 W1 (w.heap.size + 1) 23 (.string (mkB ((nm ++ 62 :: 61 :: v)))) (.int .i64 0) (.string { data := #[] }) := by
    rw [← hW1]
    have h := Box3.new (w.alloc (.cells #[.string { data := #[] }, .int .i64 0, .string { data := #[] }] 23)) 23 (.string (mkB (nm ++ 62 :: 61 :: v))) (.int .i64 0) (.string { data := #[] })
    simp only [World.size_alloc] at h
    exact h
  have hz1 : W1.heap.size = w.heap.size + 2 := by rw [← hW1]; simp
  have hB1 : Below w.heap.size w W1 := by rw [← hW1]; exact ((Below.refl _ _).alloc (Nat.le_refl _) _).alloc (by simp) _
  rw [hW1]
  clear hW1
  refine (IndexAny_any (nm ++ 62 :: 61 :: v) (by first | omega | (simp at hl ⊢; omega)) _).mono ?_
  rintro e w2 ⟨rfl, hB⟩
  rw [hsI.out]
  have hr2 := Box3.below hr1 hB (by omega)
  have hn2 := Box3.below hn1 hB (by omega)
  have hB2 := hB1.trans (hB.mono (by omega))
  have hz2 : w.heap.size + 2 ≤ w2.heap.size := by have := hB.size; omega
  clear hB hr1 hn1 hB1
  have b0 := hr2.cell0
  have b1 := hr2.cell1
  have b2 := hr2.cell2
  have f0 := hr2.frozen 0
  have f1 := hr2.frozen 1
  have f2 := hr2.frozen 2
  have n0 := hn2.cell0
  have n1 := hn2.cell1
  have n2 := hn2.cell2
  have m0 := hn2.frozen 0
  have m1 := hn2.frozen 1
  have m2 := hn2.frozen 2
  have hl2 : nm.length + v.length + 2 ≤ 1099511640 := by simp at hl; omega
  have hpre := Lib.hid (show List.isPrefixOf [62, 61] (62 :: 61 :: v) = true from rfl)
  go_wp2_with (go_at_call 16; refine (HasPrefix_any (62 :: 61 :: v) [62, 61] (by simp; omega) _).mono ?_; rintro e w' ⟨rfl, rfl⟩; rw [hpre.out])
  go_region
  obtain ⟨W5, hW5⟩ : ∃ W5, (((w2.setCell ⟨w.heap.size + 1, 0, none⟩ (.string (mkB nm))).setCell ⟨w.heap.size + 1, 1, none⟩ (.int .i64 2)).setCell ⟨w.heap.size + 1, 2, none⟩ (.string (mkB v))).drew = W5 := ⟨_, rfl⟩
  have hn5 : Box3 W5 (w.heap.size + 1) 23 (.string (mkB nm)) (.int .i64 2) (.string (mkB v)) := by rw [← hW5]; exact Box3.drew (((hn2.set0 _).set1 _).set2 _)
  have hr5 : Box3 W5 w.heap.size 23 (.string { data := #[] }) (.int .i64 0) (.string { data := #[] }) := by rw [← hW5]; exact Box3.drew (((hr2.kept (grown_set _ _ 0 _) (by intro e; injection e; omega)).kept (grown_set _ _ 1 _) (by intro e; injection e; omega)).kept (grown_set _ _ 2 _) (by intro e; injection e; omega))
  have hB5 : Below w.heap.size w W5 := by rw [← hW5]; exact (((hB2.setCell (p := ⟨w.heap.size + 1, 0, none⟩) (by simp) _).setCell (p := ⟨w.heap.size + 1, 1, none⟩) (by simp) _).setCell (p := ⟨w.heap.size + 1, 2, none⟩) (by simp) _).drew
  have hz5 : w.heap.size + 2 ≤ W5.heap.size := by have := hn5.lt; omega
  rw [hW5]
  clear hW5
  clear b0 b1 b2 f0 f1 f2 n0 n1 n2 m0 m1 m2
  have b0 := hr5.cell0
  have b1 := hr5.cell1
  have b2 := hr5.cell2
  have f0 := hr5.frozen 0
  have f1 := hr5.frozen 1
  have f2 := hr5.frozen 2
  have n0 := hn5.cell0
  have n1 := hn5.cell1
  have n2 := hn5.cell2
  have m0 := hn5.frozen 0
  have m1 := hn5.frozen 1
  have m2 := hn5.frozen 2
  rcases boolOf (needOk nm 2 v) with ho | ho
  · have hans := Lib.hid (getV_bad hp ho.out)
    go_wp2_with fail
    refine (NeedOk_any nm v 2 (by first | omega | (simp; done) | (simp at hl ⊢; omega)) (by first | omega | (simp; done) | (simp at hl ⊢; omega)) _).mono ?_
    rintro e w9 ⟨rfl, hB⟩
    rw [ho.out]
    have hr9 := Box3.below hr5 hB (by omega)
    have hn9 := Box3.below hn5 hB (by omega)
    have hB9 := hB5.trans (hB.mono (by omega))
    have hz9 : w.heap.size + 2 ≤ w9.heap.size := by have := hB.size; omega
    clear b0 b1 b2 f0 f1 f2 n0 n1 n2 m0 m1 m2
    have b0 := hr9.cell0
    have b1 := hr9.cell1
    have b2 := hr9.cell2
    have f0 := hr9.frozen 0
    have f1 := hr9.frozen 1
    have f2 := hr9.frozen 2
    have n0 := hn9.cell0
    have n1 := hn9.cell1
    have n2 := hn9.cell2
    have m0 := hn9.frozen 0
    have m1 := hn9.frozen 1
    have m2 := hn9.frozen 2
    go_wp2
    have hfin := ((hr9.set0 (.string { data := #[] })).set1 (.int .i64 0)).set2 (.string { data := #[] })
    have e0 := hfin.cell0
    have e1 := hfin.cell1
    have e2 := hfin.cell2
    refine bodyPost_ret (v := .tuple #[.agg #[(.string { data := #[] }), (.int .i64 0), (.string { data := #[] })], .bool false]) (by simp [results, Tryd.results6, go_sem, e0, e1, e2]) rfl ⟨?_, ?_⟩
    · rw [hans.out]; try rfl
    · exact ((hB9.setCell (p := ⟨w.heap.size, 0, none⟩) (Nat.le_refl _) _).setCell (p := ⟨w.heap.size, 1, none⟩) (Nat.le_refl _) _).setCell (p := ⟨w.heap.size, 2, none⟩) (Nat.le_refl _) _
  · have hans := Lib.hid (getV_ok hp ho.out)
    go_wp2_with fail
    refine (NeedOk_any nm v 2 (by first | omega | (simp; done) | (simp at hl ⊢; omega)) (by first | omega | (simp; done) | (simp at hl ⊢; omega)) _).mono ?_
    rintro e w9 ⟨rfl, hB⟩
    rw [ho.out]
    have hr9 := Box3.below hr5 hB (by omega)
    have hn9 := Box3.below hn5 hB (by omega)
    have hB9 := hB5.trans (hB.mono (by omega))
    have hz9 : w.heap.size + 2 ≤ w9.heap.size := by have := hB.size; omega
    clear b0 b1 b2 f0 f1 f2 n0 n1 n2 m0 m1 m2
    have b0 := hr9.cell0
    have b1 := hr9.cell1
    have b2 := hr9.cell2
    have f0 := hr9.frozen 0
    have f1 := hr9.frozen 1
    have f2 := hr9.frozen 2
    have n0 := hn9.cell0
    have n1 := hn9.cell1
    have n2 := hn9.cell2
    have m0 := hn9.frozen 0
    have m1 := hn9.frozen 1
    have m2 := hn9.frozen 2
    go_wp2
    have hfin := ((hr9.set0 (.string (mkB nm))).set1 (.int .i64 2)).set2 (.string (mkB v))
    have e0 := hfin.cell0
    have e1 := hfin.cell1
    have e2 := hfin.cell2
    refine bodyPost_ret (v := .tuple #[.agg #[(.string (mkB nm)), (.int .i64 2), (.string (mkB v))], .bool true]) (by simp [results, Tryd.results6, go_sem, e0, e1, e2]) rfl ⟨?_, ?_⟩
    · rw [hans.out]; try rfl
    · exact ((hB9.setCell (p := ⟨w.heap.size, 0, none⟩) (Nat.le_refl _) _).setCell (p := ⟨w.heap.size, 1, none⟩) (Nat.le_refl _) _).setCell (p := ⟨w.heap.size, 2, none⟩) (Nat.le_refl _) _

set_option maxHeartbeats 4000000 in
theorem NeedGet_odd (nm v : List UInt8) (hl : (nm ++ 62 :: v).length ≤ 1099511627) (hs : signAt (nm ++ 62 :: v) = some nm.length) (hv : ∀ u, v ≠ 61 :: u) (hp : parts (nm ++ 62 :: v) = none) (w : World) :
    Calls Tryd.prog 6 #[.string (mkB (nm ++ 62 :: v))] w fun e w' => e = .returned (getV (nm ++ 62 :: v)) ∧ Below w.heap.size w w' := by
  have hsI := Lib.hid (show signI (nm ++ 62 :: v) = nm.length by unfold signI; rw [hs])
  go_enter Tryd.func6, Tryd.ntmps6
  go_wp2_with fail
  obtain ⟨W1, hW1⟩ : ∃ W1, (w.alloc (.cells #[.string { data := #[] }, .int .i64 0, .string { data := #[] }] 23)).alloc (.cells #[.string (mkB (nm ++ 62 :: v)), .int .i64 0, .string { data := #[] }] 23) = W1 := ⟨_, rfl⟩
  have hr1 : Box3 W1 w.heap.size 23 (.string { data := #[] }) (.int .i64 0) (.string { data := #[] }) := by rw [← hW1]; exact (Box3.new _ _ _ _ _).kept (World.grownBy_alloc _ _ none) (fun e => by cases e)
  have hn1 : Box3 W1 (w.heap.size + 1) 23 (.string (mkB ((nm ++ 62 :: v)))) (.int .i64 0) (.string { data := #[] }) := by
    rw [← hW1]
    have h := Box3.new (w.alloc (.cells #[.string { data := #[] }, .int .i64 0, .string { data := #[] }] 23)) 23 (.string (mkB (nm ++ 62 :: v))) (.int .i64 0) (.string { data := #[] })
    simp only [World.size_alloc] at h
    exact h
  have hz1 : W1.heap.size = w.heap.size + 2 := by rw [← hW1]; simp
  have hB1 : Below w.heap.size w W1 := by rw [← hW1]; exact ((Below.refl _ _).alloc (Nat.le_refl _) _).alloc (by simp) _
  rw [hW1]
  clear hW1
  refine (IndexAny_any (nm ++ 62 :: v) (by first | omega | (simp at hl ⊢; omega)) _).mono ?_
  rintro e w2 ⟨rfl, hB⟩
  rw [hsI.out]
  have hr2 := Box3.below hr1 hB (by omega)
  have hn2 := Box3.below hn1 hB (by omega)
  have hB2 := hB1.trans (hB.mono (by omega))
  have hz2 : w.heap.size + 2 ≤ w2.heap.size := by have := hB.size; omega
  clear hB hr1 hn1 hB1
  have b0 := hr2.cell0
  have b1 := hr2.cell1
  have b2 := hr2.cell2
  have f0 := hr2.frozen 0
  have f1 := hr2.frozen 1
  have f2 := hr2.frozen 2
  have n0 := hn2.cell0
  have n1 := hn2.cell1
  have n2 := hn2.cell2
  have m0 := hn2.frozen 0
  have m1 := hn2.frozen 1
  have m2 := hn2.frozen 2
  have hl2 : nm.length + v.length + 2 ≤ 1099511640 := by simp at hl; omega
  have hpre := Lib.hid (show List.isPrefixOf [62, 61] (62 :: v) = false by
    cases v with
    | nil => rfl
    | cons a u =>
      have ha : ¬ (61 : UInt8) = a := fun e => hv u (by rw [e])
      simp [List.isPrefixOf, ha])
  have hans := Lib.hid (getV_none hp)
  go_wp2_with (go_at_call 16; refine (HasPrefix_any (62 :: v) [62, 61] (by simp; omega) _).mono ?_; rintro e w' ⟨rfl, rfl⟩; rw [hpre.out])
  have hr5 := hr2.kept (grown_set w2 (w.heap.size + 1) 0 (.string (mkB nm))) (by intro e; injection e; omega)
  have hB5 := hB2.setCell (p := ⟨w.heap.size + 1, 0, none⟩) (by simp) (.string (mkB nm))
  have hfin := ((hr5.set0 (.string { data := #[] })).set1 (.int .i64 0)).set2 (.string { data := #[] })
  have e0 := hfin.cell0
  have e1 := hfin.cell1
  have e2 := hfin.cell2
  refine bodyPost_ret (v := .tuple #[.agg #[(.string { data := #[] }), (.int .i64 0), (.string { data := #[] })], .bool false]) (by simp [results, Tryd.results6, go_sem, e0, e1, e2]) rfl ⟨?_, ?_⟩
  · rw [hans.out]; try rfl
  · exact ((hB5.setCell (p := ⟨w.heap.size, 0, none⟩) (Nat.le_refl _) _).setCell (p := ⟨w.heap.size, 1, none⟩) (Nat.le_refl _) _).setCell (p := ⟨w.heap.size, 2, none⟩) (Nat.le_refl _) _

theorem NeedGet_any (l : List UInt8) (hl : l.length ≤ 1099511627) (w : World) :
    Calls Tryd.prog 6 #[.string (mkB l)] w fun e w' => e = .returned (getV l) ∧ Below w.heap.size w w' := by
  rcases forms l with ⟨hs, hp⟩ | ⟨k, nm, v, hs, rfl, rfl, hp⟩ | ⟨k, nm, v, hs, rfl, rfl, hp⟩ | ⟨k, nm, v, hs, rfl, rfl, hp⟩ | ⟨k, nm, v, hs, rfl, rfl, hv, hp⟩
  · exact NeedGet_plain l hl hs hp w
  · exact NeedGet_same nm v hl hs hp w
  · exact NeedGet_less nm v hl hs hp w
  · exact NeedGet_from nm v hl hs hp w
  · exact NeedGet_odd nm v hl hs hv hp w

end Go.Proofs.YtdcfifhmldolhaaDoor
