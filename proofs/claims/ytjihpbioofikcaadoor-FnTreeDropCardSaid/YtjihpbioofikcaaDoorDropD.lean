/-
  The walk of slices.DeleteFunc at entries.
-/
import Derived.Test.YtjihpbioofikcaaDoorDropI
import Derived.Test.YtjihpbioofikcaaDoorMarkE
import Derived.Laws.IdiomCopy
namespace Go.Proofs.YtjihpbioofikcaaDoor
open Go.RowKit
set_option linter.unusedVariables false
set_option linter.unusedSimpArgs false
attribute [local go_sem] mkB_size mkB_extract mkB_get mkB_append mkB_append_raw raw_append_mkB mkB_toList

theorem PBox.gr {w w' : World} {pb g : Nat} {p : List UInt8} (h : PBox w pb p) (hg : w.grownBy w' (some g)) (hne : pb ≠ g) : PBox w' pb p := by
  have hb := hg.block pb h.1 (fun e => hne (by injection e))
  exact ⟨Nat.lt_of_lt_of_le h.1 hg.size, (cell_same hb _).trans h.2⟩
theorem gr_cells {w a : World} {g : Nat} (h : w.grownBy a (some g)) : ∀ (o : Nat) (vs : List Value), w.grownBy (a.setCells g o vs) (some g) := by
  intro o vs
  induction vs generalizing o a with
  | nil => exact h
  | cons v r ih => exact ih (gr_set h o v) (o + 1)
def keeps (p : List UInt8) (e : En) : Bool := !pathIn p e.path
theorem zeros_one (n : Nat) : ∀ u ∈ (Builtin.zeroCells (Value.cells (.agg #[.string { data := #[] }, .int .i64 0, .int .i64 0, .string { data := #[] }])) n).toList, u.oneCell' = true := by
  intro u hu
  simp only [Builtin.zeroCells, Array.toList_map, List.mem_map] at hu
  obtain ⟨i, _, rfl⟩ := hu
  have : i % 4 = 0 ∨ i % 4 = 1 ∨ i % 4 = 2 ∨ i % 4 = 3 := by omega
  have hsz : (Value.cells (.agg #[.string { data := #[] }, .int .i64 0, .int .i64 0, .string { data := #[] }])).size = 4 := rfl
  rw [hsz]
  rcases this with h | h | h | h <;> rw [h] <;> rfl
theorem zeros_len (n : Nat) : (Builtin.zeroCells (Value.cells (.agg #[.string { data := #[] }, .int .i64 0, .int .i64 0, .string { data := #[] }])) n).toList.length = n * 4 := by
  simp only [Builtin.zeroCells, Array.length_toList, Array.size_map, Array.size_range]
  rfl

set_option maxRecDepth 1000000 in
theorem zeroE (W : World) : (zeroValue 31).run Tryd.prog W = .ok (.agg #[.string { data := #[] }, .int .i64 0, .int .i64 0, .string { data := #[] }]) W := by
  obtain ⟨i0, hi, hz0, hz1, hz2⟩ := info_parts infoE
  simp [zeroValue, typeInfo, hi, hz0]
def zerosE (n : Nat) : List Value := (Builtin.zeroCells (Value.cells (.agg #[.string { data := #[] }, .int .i64 0, .int .i64 0, .string { data := #[] }])) n).toList
set_option maxRecDepth 1000000 in
theorem clearE (W : World) (g o n c : Nat) (ty : TypeId) (hn : 0 < n) (hc : ∀ j, j < n * 4 → ∃ v, W.cell? ⟨g, o + j, none⟩ = some v) (hf : ∀ j, j < n * 4 → W.frozen? ⟨g, o + j, none⟩ = false) :
    (Builtin.clear_ #[27] ty #[.slice (some ⟨g, o, none⟩) n c]).run Tryd.prog W = .ok (.tuple #[]) (W.setCells g o (zerosE n)) := by
  have hl : (zerosE n).length = n * 4 := zeros_len n
  have hst := run_storeCells_cells (P := Tryd.prog) g o (zerosE n) 0 W (fun j hj => by obtain ⟨v, hv⟩ := hc j (by omega); rw [Nat.add_zero, hv]; rfl) (fun j hj => by rw [Nat.add_zero]; exact hf j (by omega)) (zeros_one n)
  simp only [Nat.add_zero] at hst
  unfold zerosE at hst ⊢
  obtain ⟨q, rfl⟩ : ∃ q, n = q + 1 := ⟨n - 1, by omega⟩
  simp [Builtin.clear_, run_underlying Tryd.underlying27, zeroE, hst]

set_option maxRecDepth 1000000 in
set_option maxHeartbeats 8000000 in
theorem deleteFunc_any (es : List En) (p : List UInt8) (pb g m c : Nat) (w : World) (hR : RowE w g m es.length es) (hlm : es.length ≤ m) (hmc : es.length ≤ c) (hsm : Small es) (hP : PBox w pb p) (hpg : pb ≠ g) (hp : p.length ≤ 1048576) :
    Calls Tryd.prog 75 #[.slice (some ⟨g, 0, none⟩) es.length c, .func (.func 76) #[] #[.pointer (some ⟨pb, 0, none⟩)]] w
      fun r w' => r = .returned (.slice (some ⟨g, 0, none⟩) (es.filter (keeps p)).length c) ∧ RowE w' g m (es.filter (keeps p)).length (es.filter (keeps p)) ∧ w.grownBy w' (some g) := by
  have hRh := Lib.hid hR
  have hsh := Lib.hid hsm
  have hPh := Lib.hid hP
  have hlen := hsm.1
  have hgl := hR.lt
  have hpl0 := hP.1
  clear hR hsm hP
  go_enter Tryd.func75, Tryd.ntmps75
  go_wp2_with fail
  refine (indexFunc_any es p pb g c _ hRh.out.ents hsh.out hPh.out hp).mono ?_
  rintro r w1 ⟨⟨k, hk, hall, hend⟩, hB1⟩
  replace hall := Lib.hid hall
  rcases hend with ⟨hkl, hgo, rfl⟩ | ⟨hke, rfl⟩
  case inr =>
    have hf : es.filter (keeps p) = es := by
      rw [List.filter_eq_self]
      intro e he
      obtain ⟨i, hi, rfl⟩ := List.getElem_of_mem he
      unfold keeps
      rw [hall.out i hi (by omega)]
      rfl
    replace hf := Lib.hid hf
    replace hke := Lib.hid hke
    go_wp2
    go_ret
    rw [hf.out]
    exact ⟨rfl, hRh.out.below hB1 hgl, gr_below (World.grownBy.refl w (some g)) hB1⟩
  have hR1 := Lib.hid (hRh.out.below hB1 hgl)
  have hP1 := Lib.hid (hPh.out.below hB1 hpl0)
  have hgr1 := Lib.hid (gr_below (World.grownBy.refl w (some g)) hB1)
  have hstart : (es.take (k + 1)).filter (keeps p) = es.take k := by
    rw [filter_take hkl, filter_all (fun i hi h => by unfold keeps; rw [hall.out i hi h]; rfl) (by omega)]
    have : keeps p es[k] = false := by unfold keeps; rw [hgo hkl]; rfl
    rw [this]; simp
  have hrow1 : Row2 w1 g m ((es.take (k + 1)).filter (keeps p)) es (k + 1) := by rw [hstart]; exact (Row2.start hR1.out).skip
  have hla : ((es.take (k + 1)).filter (keeps p)).length = k := by rw [hstart]; simp; omega
  replace hstart := Lib.hid hstart
  replace hrow1 := Lib.hid hrow1
  replace hla := Lib.hid hla
  replace hgo := Lib.hid hgo
  clear hRh hPh
  have hkm : ((k : Int) == -1) = false := by rw [beq_eq_false_iff_ne]; omega
  go_wp2
  go_loopw [5, 6] (fun ii jj wr => ∃ a j : Nat, ii = .int .i64 a ∧ jj = .int .i64 j ∧ a < j ∧ j ≤ es.length ∧ Hid (((es.take j).filter (keeps p)).length = a) ∧ Hid (Row2 wr g m ((es.take j).filter (keeps p)) es j) ∧ Hid (PBox wr pb p) ∧ Hid (w.grownBy wr (some g))) (fun _ jj _ => es.length - (intOf jj).toNat)
  case atStart => exact ⟨k, k + 1, rfl, by go_num, by omega, by omega, hla, hrow1, hP1, hgr1⟩
  case round =>
    clear hrow1 hla hP1 hgr1 hR1 hstart
    obtain ⟨a, j, rfl, rfl, haj, hjl, hal, hrow, hPr, hgr⟩ := hrel
    by_cases hlt : j < es.length
    · obtain ⟨c0, c1, c2, c3⟩ := hrow.out.next hlt (Nat.le_refl _)
      have hjI : (j : Int) < (es.length : Int) := by omega
      have haI : (a : Int) < (es.length : Int) := by omega
      have hpl := (hsh.out.2 j hlt).1
      have hPl := hPr.out.1
      have hrl := hrow.out.lt
      rcases boolOf (pathIn p es[j].path) with hb | hb
      · have hkp : keeps p es[j] = true := by unfold keeps; rw [hb.out]; rfl
        have hnx : (es.take (j + 1)).filter (keeps p) = (es.take j).filter (keeps p) ++ [es[j]] := by rw [filter_take hlt, hkp]; rfl
        replace hnx := Lib.hid hnx
        replace hkp := Lib.hid hkp
        go_wp2_with fail
        obtain ⟨Wb, hWb⟩ : ∃ X, wr.alloc (.cells #[.string (mkB es[j].path), .int .i64 es[j].kind, .int .i64 es[j].mode, .string (mkB es[j].text)] 31) = X := ⟨_, rfl⟩
        have hbx : Box4 Wb wr.heap.size 31 (.string (mkB es[j].path)) (.int .i64 es[j].kind) (.int .i64 es[j].mode) (.string (mkB es[j].text)) := by rw [← hWb]; exact Box4.new _ _ _ _ _ _
        have hBb : Below wr.heap.size wr Wb := by rw [← hWb]; exact (Below.refl _ _).alloc (Nat.le_refl _) _
        have hPb := Lib.hid (hPr.out.below hBb hPl)
        have hrb := Lib.hid (hrow.out.below hBb hrl)
        have hgb := Lib.hid (gr_below hgr.out hBb)
        rw [hWb]
        refine (del_any es[j] p pb _ hPb.out hp hpl).mono ?_
        rintro r w2 ⟨rfl, hB⟩
        rw [hb.out]
        have hbx2 := hbx.below hB hbx.lt
        have hP2 := Lib.hid (hPb.out.below hB hPb.out.1)
        have hrow2 := Lib.hid (hrb.out.below hB hrb.out.lt)
        have hgr2 := Lib.hid (gr_below hgb.out hB)
        clear hWb hBb
        clear c0 c1 c2 c3
        obtain ⟨r0, x0⟩ := hrow2.out.room (k := a * 4) (by omega)
        obtain ⟨r1, x1⟩ := hrow2.out.room (k := a * 4 + 1) (by omega)
        obtain ⟨r2, x2⟩ := hrow2.out.room (k := a * 4 + 2) (by omega)
        obtain ⟨r3, x3⟩ := hrow2.out.room (k := a * 4 + 3) (by omega)
        have f0 := hrow2.out.frozen (a * 4)
        have f1 := hrow2.out.frozen (a * 4 + 1)
        have f2 := hrow2.out.frozen (a * 4 + 2)
        have f3 := hrow2.out.frozen (a * 4 + 3)
        have d0 := hbx2.cell0
        have d1 := hbx2.cell1
        have d2 := hbx2.cell2
        have d3 := hbx2.cell3
        go_wp2
        go_round
        case rel =>
          have hput := hrow2.out.put hal.out (by omega) hlt hlm
          rw [← hnx.out] at hput
          have hg5 := gr_set (gr_set (gr_set (gr_set hgr2.out (a * 4) (.string (mkB es[j].path))) (a * 4 + 1) (.int .i64 es[j].kind)) (a * 4 + 2) (.int .i64 es[j].mode)) (a * 4 + 3) (.string (mkB es[j].text))
          have hP5 := hP2.out.gr (gr_set (gr_set (gr_set (gr_set (World.grownBy.refl w2 (some g)) (a * 4) (.string (mkB es[j].path))) (a * 4 + 1) (.int .i64 es[j].kind)) (a * 4 + 2) (.int .i64 es[j].mode)) (a * 4 + 3) (.string (mkB es[j].text))) hpg
          exact ⟨a + 1, j + 1, by go_num, by go_num, by omega, by omega, Lib.hid (by rw [hnx.out, List.length_append, hal.out]; rfl), Lib.hid hput, Lib.hid hP5, Lib.hid hg5⟩
        case measure => simp [intOf]; omega
      · have hkp : keeps p es[j] = false := by unfold keeps; rw [hb.out]; rfl
        have hnx : (es.take (j + 1)).filter (keeps p) = (es.take j).filter (keeps p) := by rw [filter_take hlt, hkp]; simp
        replace hnx := Lib.hid hnx
        replace hkp := Lib.hid hkp
        go_wp2_with fail
        obtain ⟨Wb, hWb⟩ : ∃ X, wr.alloc (.cells #[.string (mkB es[j].path), .int .i64 es[j].kind, .int .i64 es[j].mode, .string (mkB es[j].text)] 31) = X := ⟨_, rfl⟩
        have hbx : Box4 Wb wr.heap.size 31 (.string (mkB es[j].path)) (.int .i64 es[j].kind) (.int .i64 es[j].mode) (.string (mkB es[j].text)) := by rw [← hWb]; exact Box4.new _ _ _ _ _ _
        have hBb : Below wr.heap.size wr Wb := by rw [← hWb]; exact (Below.refl _ _).alloc (Nat.le_refl _) _
        have hPb := Lib.hid (hPr.out.below hBb hPl)
        have hrb := Lib.hid (hrow.out.below hBb hrl)
        have hgb := Lib.hid (gr_below hgr.out hBb)
        rw [hWb]
        refine (del_any es[j] p pb _ hPb.out hp hpl).mono ?_
        rintro r w2 ⟨rfl, hB⟩
        rw [hb.out]
        have hbx2 := hbx.below hB hbx.lt
        have hP2 := Lib.hid (hPb.out.below hB hPb.out.1)
        have hrow2 := Lib.hid (hrb.out.below hB hrb.out.lt)
        have hgr2 := Lib.hid (gr_below hgb.out hB)
        clear hWb hBb
        clear c0 c1 c2 c3
        go_wp2
        go_round
        case rel => exact ⟨a, j + 1, rfl, by go_num, by omega, by omega, Lib.hid (by rw [hnx.out]; exact hal.out), Lib.hid (by rw [hnx.out]; exact hrow2.out.skip), hP2, hgr2⟩
        case measure => simp [intOf]; omega
    · obtain rfl : j = es.length := by omega
      have hfl : (es.take es.length).filter (keeps p) = es.filter (keeps p) := by rw [List.take_length]
      have hRf : RowE wr g m (es.filter (keeps p)).length (es.filter (keeps p)) := by have h := hrow.out.row; rwa [hfl] at h
      have haf : (es.filter (keeps p)).length = a := by have h := hal.out; rwa [hfl] at h
      have hcl := clearE wr g (a * 4) (es.length - a) (c - a) 0 (by omega) (fun k hk => hrow.out.room (by omega)) (fun k hk => hrow.out.frozen _)
      have hRg : RowE (wr.setCells g (a * 4) (zerosE (es.length - a))) g m (es.filter (keeps p)).length (es.filter (keeps p)) := hRf.cleared (by rw [haf]; exact Nat.le_refl _)
      have hgg : w.grownBy (wr.setCells g (a * 4) (zerosE (es.length - a))) (some g) := gr_cells hgr.out _ _
      obtain ⟨wz, hwz⟩ : ∃ wz, wr.setCells g (a * 4) (zerosE (es.length - a)) = wz := ⟨_, rfl⟩
      rw [hwz] at hcl hRg hgg
      replace hwz := Lib.hid hwz
      replace hfl := Lib.hid hfl
      replace haf := Lib.hid haf
      have hac : (a : Int) ≤ (c : Int) := by omega
      have hac2 : a ≤ c := by omega
      replace hRf := Lib.hid hRf
      replace hRg := Lib.hid hRg
      replace hgg := Lib.hid hgg
      go_wp2
      go_ret
      exact ⟨by rw [haf.out]; rfl, hRg.out, hgg.out⟩
end Go.Proofs.YtjihpbioofikcaaDoor
