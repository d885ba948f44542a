/-
  The walks of strings.Builder's copyCheck and WriteString at a builder of the call's own, and of Itoa at small numbers.
-/
import Derived.Test.YtgokdcdicddccaaDoorPathF
import Derived.Test.YtgokdcdicddccaaDoorLayB
import Derived.Shelf.Strings.Builder1
import Derived.Shelf.Strconv.Itoa3
namespace Go.Proofs.YtgokdcdicddccaaDoor
open Go.RowKit
set_option linter.unusedVariables false
set_option linter.unusedSimpArgs false

def BT : TypeId := 48
abbrev IsB (B b : Nat) (bs : List Value) (w : World) : Prop := Lib.IsBuilder 48 5 B b bs w
theorem sizeB : (Tryd.prog.info? 48).map (·.size) = some 2 := by kernel_rfl
theorem liesB : liesAt Tryd.prog Tryd.prog.depth 48 (2 / Tryd.prog.cellsOf 48) 0 48 1 = true := by kernel_rfl
theorem infoByte : (Tryd.prog.info? 5).map (fun i => (i.zero, i.size, i.bytes)) = some (some (.int .u8 0), 1, 1) := by kernel_rfl

set_option maxHeartbeats 1000000 in
set_option maxRecDepth 1000000 in
theorem copyCheck_used (b : Nat) (w : World) (h0 : w.cell? ⟨b, 0, none⟩ = some (.pointer (some ⟨b, 0, none⟩))) :
    Calls Tryd.prog 43 #[.pointer (some ⟨b, 0, none⟩)] w fun e w' => e = .returned (.tuple #[]) ∧ w' = w := by
  obtain ⟨j, hj, _⟩ := Option.map_eq_some_iff.1 sizeB
  go_enter Tryd.func43, Tryd.ntmps43
  go_wp2
  rw [Lib.run_neq_ptr_same w _ Tryd.underlying45 hj]
  go_wp2
  go_end0
  exact ⟨rfl, rfl⟩
set_option maxHeartbeats 1000000 in
set_option maxRecDepth 1000000 in
theorem copyCheck_fresh (b : Nat) (w : World) (h0 : w.cell? ⟨b, 0, none⟩ = some (.pointer none)) (hsh : w.shape? b = some (48, 2)) (hfz : w.frozen? ⟨b, 0, none⟩ = false) :
    Calls Tryd.prog 43 #[.pointer (some ⟨b, 0, none⟩)] w fun e w' => e = .returned (.tuple #[]) ∧ w' = w.setCell ⟨b, 0, none⟩ (.pointer (some ⟨b, 0, none⟩)) := by
  obtain ⟨j, hj, hjs⟩ := Option.map_eq_some_iff.1 sizeB
  go_enter Tryd.func43, Tryd.ntmps43
  go_wp2
  rw [Lib.run_to_unsafe w ⟨b, 0, none⟩ Tryd.underlying45 Tryd.underlying71 hj (by rw [hjs]; decide) hsh (Nat.zero_lt_succ 1)]
  simp only [Result.andThen]
  rw [Oper.upon_value]
  go_wp2
  rw [run_callFunc_extern Tryd.func53 (by kernel_rfl) (by kernel_rfl) (by kernel_rfl) (e := Extern.AbiNoEscape.same) (by kernel_rfl)]
  rw [Lib.run_noEscape]
  simp only [Result.andThen]
  rw [Oper.upon_value]
  go_wp2
  rw [Lib.run_from_unsafe w ⟨b, 0, none⟩ Tryd.underlying71 Tryd.underlying45 hj hsh liesB]
  simp only [Result.andThen]
  rw [Oper.upon_value]
  go_wp2
  go_end0
  exact ⟨rfl, rfl⟩
/-- blocks of other kinds than a builder's stay as they are -/
def KeptX (w w' : World) : Prop := ∀ (j : Nat) (cs : Array Value) (t : TypeId) (fz : Nat × Nat), w.heap[j]? = some (.cells cs t fz) → t ≠ 5 → t ≠ 48 → w'.heap[j]? = w.heap[j]?
theorem KeptX.refl (w : World) : KeptX w w := fun _ _ _ _ _ _ _ => rfl
theorem KeptX.set {w w' : World} (h : KeptX w w') {b : Nat} {cs : Array Value} {fz : Nat × Nat} (hb : w.heap[b]? = some (.cells cs 48 fz)) (i : Nat) (v : Value) : KeptX w (w'.setCell ⟨b, i, none⟩ v) := by
  intro j cs' t fz' hj h1 h2
  have hne : b ≠ j := by
    rintro rfl
    rw [hb] at hj
    cases hj
    exact h2 rfl
  rw [Below.heap_setCell _ _ _ _ (fun e => hne (by simpa using e.symm))]
  exact h j cs' t fz' hj h1 h2
theorem copyCheck_any (B b : Nat) (bs : List Value) (w : World) (h : IsB B b bs w) :
    Calls Tryd.prog 43 #[.pointer (some ⟨b, 0, none⟩)] w fun e w' => e = .returned (.tuple #[]) ∧ (Lib.BuilderAt 48 5 B b (.pointer (some ⟨b, 0, none⟩)) bs w' ∧ Below B w w' ∧ KeptX w w') := by
  rcases h with h | h
  · refine (copyCheck_fresh b w h.cell0 h.shape h.frozen0).mono ?_
    rintro e w' ⟨rfl, rfl⟩
    exact ⟨rfl, h.used _, (Below.refl B w).setCell (p := ⟨b, 0, none⟩) h.1 _, by obtain ⟨_, _, hbk, _⟩ := h; exact (KeptX.refl w).set hbk 0 _⟩
  · refine (copyCheck_used b w h.cell0).mono ?_
    rintro e w' ⟨rfl, rfl⟩
    exact ⟨rfl, h, Below.refl B _, KeptX.refl _⟩

set_option maxHeartbeats 2000000 in
set_option maxRecDepth 1000000 in
theorem WriteString_any (B b : Nat) (l t : List UInt8) (w : World) (h : IsB B b (Lib.byteCells l) w) (hlen : l.length + t.length ≤ 140737488355328) (hBw : B ≤ w.heap.size) :
    Calls Tryd.prog 31 #[.pointer (some ⟨b, 0, none⟩), .string (mkB t)] w fun e w' => (∃ v, e = .returned v) ∧ IsB B b (Lib.byteCells (l ++ t)) w' ∧ Below B w w' ∧ KeptX w w' := by
  obtain ⟨i0, hi, hz0, hz1, hz2⟩ := info_parts infoByte
  have hsz : (mkB t).size = t.length := mkB_size t
  go_enter Tryd.func31, Tryd.ntmps31
  go_wp2_with (go_at_call 43; refine (copyCheck_any B b _ _ h).mono ?_)
  rintro e w1 ⟨rfl, h1, hb1, hk1⟩
  obtain ⟨hB, v, hbk, hown, hne⟩ := h1
  have c0 : w1.cell? ⟨b, 0, none⟩ = some (.pointer (some ⟨b, 0, none⟩)) := by rw [Lib.cell_of_heap hbk]; rfl
  have c1 : w1.cell? ⟨b, 1, none⟩ = some v := by rw [Lib.cell_of_heap hbk]; rfl
  have hbl : (Lib.byteCells l).length = l.length := Lib.byteCells_length l
  have hq1 : (Lib.byteCells l).length + (mkB t).size ≤ maxLen := by rw [hbl, hsz]; unfold maxLen; omega
  have hq2 : (Lib.byteCells l).length + (mkB t).size ≤ 140737488355328 := by rw [hbl, hsz]; omega
  have hq3 : B ≤ w1.heap.size := by have := hb1.size; omega
  clear hbl hsz
  go_wp2_with (at_builtin; refine Lib.wpList_append_own_string _ rfl _ _ 46 9 rfl B 5 i0 Tryd.underlying46 Tryd.underlying9 hi hz0 hz1 hz2 _ _ _ rfl hown (mkB t) rfl hq1 hq2 hq3 ?_)
  intro v' w2 hown' hgrow _
  have hlt : b < w1.heap.size := by
    rcases Nat.lt_or_ge b w1.heap.size with h' | h'
    · exact h'
    · simp [Array.getElem?_eq_none h'] at hbk
  have hb2 : w2.heap[b]? = some (.cells #[.pointer (some ⟨b, 0, none⟩), v] 48 (0, 0)) := by
    rw [hgrow.block b hlt (fun e => hne e.symm)]
    exact hbk
  have d0 : w2.cell? ⟨b, 0, none⟩ = some (.pointer (some ⟨b, 0, none⟩)) := by rw [Lib.cell_of_heap hb2]; rfl
  have d1 : w2.cell? ⟨b, 1, none⟩ = some v := by rw [Lib.cell_of_heap hb2]; rfl
  have f1 : w2.frozen? ⟨b, 1, none⟩ = false := Lib.frozen_of_heap hb2 1
  obtain ⟨ao, n', cap, rfl⟩ : ∃ ao n' cap, v' = .slice ao n' cap := by
    rcases hown'.2 with ⟨hv, _⟩ | ⟨g, cap, cur, hv, _⟩
    · exact ⟨_, _, _, hv⟩
    · exact ⟨_, _, _, hv⟩
  have hbg : Below B w w2 := hb1.grown hgrow (by have := hb1.size; omega) (fun k hk => (hown.lt k hk).1)
  have hcat : Lib.byteCells (l ++ t) = Lib.byteCells l ++ Lib.strCells (mkB t) := by rw [show Lib.strCells (mkB t) = Lib.byteCells t from rfl]; simp [Lib.byteCells]
  have hput : Lib.BuilderAt 48 5 B b (.pointer (some ⟨b, 0, none⟩)) (Lib.byteCells (l ++ t)) (w2.setCell ⟨b, 1, none⟩ (.slice ao n' cap)) := by
    rw [hcat]
    exact Lib.BuilderAt.put hB hb2 (bs' := Lib.byteCells l ++ Lib.strCells (mkB t)) (by simpa [Lib.strCells_length] using hown') (by decide)
  have hk2 : KeptX w w2 := by
    intro j cs t0 fz hj ht1 ht2
    have hj1 := hk1 j cs t0 fz hj ht1 ht2
    rw [hj] at hj1
    refine (hgrow.block j (Array.getElem?_eq_some_iff.1 hj1).1 ?_).trans (hj1.trans hj.symm)
    rcases hown.2 with ⟨rfl, _⟩ | ⟨g, cap, cur, rfl, hg, _⟩
    · simp [Value.ownBlock]
    · intro e
      simp [Value.ownBlock] at e
      subst e
      first
        | (rw [hj1] at hg; cases hg; exact ht1 rfl)
        | (simp_all)
  have hk3 : KeptX w (w2.setCell ⟨b, 1, none⟩ (.slice ao n' cap)) := by
    rcases h with ⟨_, _, hbk0, _⟩ | ⟨_, _, hbk0, _⟩ <;> exact hk2.set hbk0 1 _
  replace hk3 := Lib.hid hk3
  clear hk2 hk1
  replace hput := Lib.hid hput
  clear hown hown' hgrow hcat hb2 hbk
  go_wp2
  go_ret2
  exact ⟨⟨_, rfl⟩, .inr hput.out, hbg.setCell (p := ⟨b, 1, none⟩) hB _, hk3.out⟩
end Go.Proofs.YtgokdcdicddccaaDoor
