/-
  The walks of TreeGet: the reference's and the program's.
-/
import Derived.Test.YtiknkjhdieepbaaDoorGD
namespace Go.Proofs.YtiknkjhdieepbaaDoor
open Go.RowKit
set_option linter.unusedVariables false
set_option linter.unusedSimpArgs false
attribute [local go_sem] mkB_size mkB_extract mkB_get mkB_append mkB_append_raw raw_append_mkB mkB_toList

/-- what is handed back of an entry that may be none -/
def entV : Option En → Value
  | some e => .tuple #[.agg #[.string (mkB e.path), .int .i64 e.kind, .int .i64 e.mode, .string (mkB e.text)], .bool true]
  | none => .tuple #[.agg #[.string { data := #[] }, .int .i64 0, .int .i64 0, .string { data := #[] }], .bool false]
noncomputable def treeGet (es : List En) (p : List UInt8) : Option En := if treeOk es = true then getAt es p else none
theorem treeGet_bad {es : List En} {p : List UInt8} (h : treeOk es = false) : treeGet es p = none := by unfold treeGet; rw [h]; rfl
theorem treeGet_no {es : List En} {p : List UInt8} (h : there es p = false) : treeGet es p = none := by unfold treeGet; rw [getAt_no h]; split <;> rfl
theorem treeGet_yes {es : List En} {p : List UInt8} {k : Nat} (h : treeOk es = true) (hk : k < es.length) (ha : atGo es p = k) (ht : there es p = true) : treeGet es p = some es[k] := by
  subst ha
  obtain ⟨_, h2⟩ := getAt_yes ht
  unfold treeGet; rw [if_pos h, h2]

set_option maxHeartbeats 4000000 in
theorem TreeGet_any (es : List En) (p : List UInt8) (g c : Nat) (w : World) (hE : Ents w g es) (hsm : Small es) (hcap : es.length ≤ c) (hp : p.length ≤ 1048576) :
    Calls Tryd.prog 8 #[.slice (some ⟨g, 0, none⟩) es.length c, .string (mkB p)] w fun e w' => e = .returned (entV (treeGet es p)) ∧ Below w.heap.size w w' := by
  have hEh := Lib.hid hE
  have hsh := Lib.hid hsm
  have hg := hE.1
  have hlen := hsm.1
  clear hE hsm
  rcases boolOf (treeOk es) with hok | hok
  · have hres := Lib.hid (treeGet_bad (p := p) hok.out)
    go_enter Tryd.func8, Tryd.ntmps8
    go_wp2_with fail
    obtain ⟨W1, hW1⟩ : ∃ W1, (w.alloc (.cells #[.string { data := #[] }, .int .i64 0, .int .i64 0, .string { data := #[] }] 30)) = W1 := ⟨_, rfl⟩
    have hr1 : Box4 W1 w.heap.size 30 (.string { data := #[] }) (.int .i64 0) (.int .i64 0) (.string { data := #[] }) := by rw [← hW1]; exact (Box4.new _ _ _ _ _ _)
    have hz1 : W1.heap.size = w.heap.size + 1 := by rw [← hW1]; simp
    have hB1 : Below w.heap.size w W1 := by rw [← hW1]; exact ((Below.refl _ _).alloc (Nat.le_refl _) _)
    have hE1 := Lib.hid (show Ents W1 g es by rw [← hW1]; exact hEh.out.alloc _)
    have hg1 : g < W1.heap.size := hE1.out.1
    rw [hW1]
    clear hW1
    refine (TreeOk_any es g c _ hE1.out hsh.out hcap).mono ?_
    rintro e w2 ⟨rfl, hB⟩
    rw [hok.out]
    have hr2 := Box4.below hr1 hB (by omega)
    have hB2 := hB1.trans (hB.mono (by omega))
    have hE2 := Lib.hid (hE1.out.below hB hg1)
    have hg2 := hE2.out.1
    have hz2 : w.heap.size < w2.heap.size := by have := hB.size; omega
    clear hB
    have b0 := hr2.cell0
    have f0 := hr2.frozen 0
    have b1 := hr2.cell1
    have f1 := hr2.frozen 1
    have b2 := hr2.cell2
    have f2 := hr2.frozen 2
    have b3 := hr2.cell3
    have f3 := hr2.frozen 3
    go_wp2
    have hfin := (((hr2.set0 (.string { data := #[] })).set1 (.int .i64 0)).set2 (.int .i64 0)).set3 (.string { data := #[] })
    have e0 := hfin.cell0
    have e1 := hfin.cell1
    have e2 := hfin.cell2
    have e3 := hfin.cell3
    refine bodyPost_ret (v := .tuple #[.agg #[(.string { data := #[] }), (.int .i64 0), (.int .i64 0), (.string { data := #[] })], .bool false]) (by simp [results, Tryd.results8, go_sem, e0, e1, e2, e3]) rfl ⟨by rw [hres.out]; rfl, ?_⟩
    exact (((hB2.setCell (p := ⟨w.heap.size, 0, none⟩) (Nat.le_refl _) _).setCell (p := ⟨w.heap.size, 1, none⟩) (Nat.le_refl _) _).setCell (p := ⟨w.heap.size, 2, none⟩) (Nat.le_refl _) _).setCell (p := ⟨w.heap.size, 3, none⟩) (Nat.le_refl _) _
  have hso := Lib.hid (treeOk_is hok.out).sorted
  rcases boolOf (there es p) with hth | hth
  · have hres := Lib.hid (treeGet_no hth.out)
    go_enter Tryd.func8, Tryd.ntmps8
    go_wp2_with fail
    obtain ⟨W1, hW1⟩ : ∃ W1, (w.alloc (.cells #[.string { data := #[] }, .int .i64 0, .int .i64 0, .string { data := #[] }] 30)) = W1 := ⟨_, rfl⟩
    have hr1 : Box4 W1 w.heap.size 30 (.string { data := #[] }) (.int .i64 0) (.int .i64 0) (.string { data := #[] }) := by rw [← hW1]; exact (Box4.new _ _ _ _ _ _)
    have hz1 : W1.heap.size = w.heap.size + 1 := by rw [← hW1]; simp
    have hB1 : Below w.heap.size w W1 := by rw [← hW1]; exact ((Below.refl _ _).alloc (Nat.le_refl _) _)
    have hE1 := Lib.hid (show Ents W1 g es by rw [← hW1]; exact hEh.out.alloc _)
    have hg1 : g < W1.heap.size := hE1.out.1
    rw [hW1]
    clear hW1
    refine (TreeOk_any es g c _ hE1.out hsh.out hcap).mono ?_
    rintro e w2 ⟨rfl, hB⟩
    rw [hok.out]
    have hr2 := Box4.below hr1 hB (by omega)
    have hB2 := hB1.trans (hB.mono (by omega))
    have hE2 := Lib.hid (hE1.out.below hB hg1)
    have hg2 := hE2.out.1
    have hz2 : w.heap.size < w2.heap.size := by have := hB.size; omega
    clear hB
    go_wp2_with fail
    refine (findEntry_any es p g c _ hE2.out hso.out hlen).mono ?_
    rintro e w3 ⟨rfl, hB⟩
    rw [hth.out]
    have hr3 := Box4.below hr2 hB (by omega)
    have hB3 := hB2.trans (hB.mono (by omega))
    have hE3 := Lib.hid (hE2.out.below hB hg2)
    have hg3 := hE3.out.1
    have hz3 : w.heap.size < w3.heap.size := by have := hB.size; omega
    clear hB
    have b0 := hr3.cell0
    have f0 := hr3.frozen 0
    have b1 := hr3.cell1
    have f1 := hr3.frozen 1
    have b2 := hr3.cell2
    have f2 := hr3.frozen 2
    have b3 := hr3.cell3
    have f3 := hr3.frozen 3
    go_wp2
    have hfin := (((hr3.set0 (.string { data := #[] })).set1 (.int .i64 0)).set2 (.int .i64 0)).set3 (.string { data := #[] })
    have e0 := hfin.cell0
    have e1 := hfin.cell1
    have e2 := hfin.cell2
    have e3 := hfin.cell3
    refine bodyPost_ret (v := .tuple #[.agg #[(.string { data := #[] }), (.int .i64 0), (.int .i64 0), (.string { data := #[] })], .bool false]) (by simp [results, Tryd.results8, go_sem, e0, e1, e2, e3]) rfl ⟨by rw [hres.out]; rfl, ?_⟩
    exact (((hB3.setCell (p := ⟨w.heap.size, 0, none⟩) (Nat.le_refl _) _).setCell (p := ⟨w.heap.size, 1, none⟩) (Nat.le_refl _) _).setCell (p := ⟨w.heap.size, 2, none⟩) (Nat.le_refl _) _).setCell (p := ⟨w.heap.size, 3, none⟩) (Nat.le_refl _) _
  obtain ⟨k, ha⟩ : ∃ k, atGo es p = k := ⟨_, rfl⟩
  obtain ⟨hk0, -⟩ := there_iff.1 hth.out
  have hk : k < es.length := by omega
  have hkI : (k : Int) < (es.length : Int) := by omega
  clear hk0
  have hres := Lib.hid (treeGet_yes hok.out hk ha hth.out)
  replace ha := Lib.hid ha
  go_enter Tryd.func8, Tryd.ntmps8
  go_wp2_with fail
  obtain ⟨W1, hW1⟩ : ∃ W1, (w.alloc (.cells #[.string { data := #[] }, .int .i64 0, .int .i64 0, .string { data := #[] }] 30)) = W1 := ⟨_, rfl⟩
  have hr1 : Box4 W1 w.heap.size 30 (.string { data := #[] }) (.int .i64 0) (.int .i64 0) (.string { data := #[] }) := by rw [← hW1]; exact (Box4.new _ _ _ _ _ _)
  have hz1 : W1.heap.size = w.heap.size + 1 := by rw [← hW1]; simp
  have hB1 : Below w.heap.size w W1 := by rw [← hW1]; exact ((Below.refl _ _).alloc (Nat.le_refl _) _)
  have hE1 := Lib.hid (show Ents W1 g es by rw [← hW1]; exact hEh.out.alloc _)
  have hg1 : g < W1.heap.size := hE1.out.1
  rw [hW1]
  clear hW1
  refine (TreeOk_any es g c _ hE1.out hsh.out hcap).mono ?_
  rintro e w2 ⟨rfl, hB⟩
  rw [hok.out]
  have hr2 := Box4.below hr1 hB (by omega)
  have hB2 := hB1.trans (hB.mono (by omega))
  have hE2 := Lib.hid (hE1.out.below hB hg1)
  have hg2 := hE2.out.1
  have hz2 : w.heap.size < w2.heap.size := by have := hB.size; omega
  clear hB
  go_wp2_with fail
  refine (findEntry_any es p g c _ hE2.out hso.out hlen).mono ?_
  rintro e w3 ⟨rfl, hB⟩
  rw [hth.out, ha.out]
  have hr3 := Box4.below hr2 hB (by omega)
  have hB3 := hB2.trans (hB.mono (by omega))
  have hE3 := Lib.hid (hE2.out.below hB hg2)
  have hg3 := hE3.out.1
  have hz3 : w.heap.size < w3.heap.size := by have := hB.size; omega
  clear hB
  have b0 := hr3.cell0
  have f0 := hr3.frozen 0
  have b1 := hr3.cell1
  have f1 := hr3.frozen 1
  have b2 := hr3.cell2
  have f2 := hr3.frozen 2
  have b3 := hr3.cell3
  have f3 := hr3.frozen 3
  obtain ⟨c0, c1, c2, c3⟩ := hE3.out.2 k hk
  go_wp2
  have hfin := (((hr3.set0 (.string (mkB es[k].path))).set1 (.int .i64 es[k].kind)).set2 (.int .i64 es[k].mode)).set3 (.string (mkB es[k].text))
  have e0 := hfin.cell0
  have e1 := hfin.cell1
  have e2 := hfin.cell2
  have e3 := hfin.cell3
  refine bodyPost_ret (v := .tuple #[.agg #[(.string (mkB es[k].path)), (.int .i64 es[k].kind), (.int .i64 es[k].mode), (.string (mkB es[k].text))], .bool true]) (by simp [results, Tryd.results8, go_sem, e0, e1, e2, e3]) rfl ⟨by rw [hres.out]; rfl, ?_⟩
  exact (((hB3.setCell (p := ⟨w.heap.size, 0, none⟩) (Nat.le_refl _) _).setCell (p := ⟨w.heap.size, 1, none⟩) (Nat.le_refl _) _).setCell (p := ⟨w.heap.size, 2, none⟩) (Nat.le_refl _) _).setCell (p := ⟨w.heap.size, 3, none⟩) (Nat.le_refl _) _
end Go.Proofs.YtiknkjhdieepbaaDoor
