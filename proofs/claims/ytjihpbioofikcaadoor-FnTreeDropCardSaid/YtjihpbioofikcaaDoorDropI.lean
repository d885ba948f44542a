/-
  The walks of the program's TreeDrop: the closure, IndexFunc, DeleteFunc.
-/
import Derived.Test.YtjihpbioofikcaaDoorDropP
import Derived.Test.YtjihpbioofikcaaDoorCopyE
namespace Go.Proofs.YtjihpbioofikcaaDoor
open Go.RowKit
set_option linter.unusedVariables false
set_option linter.unusedSimpArgs false
attribute [local go_sem] mkB_size mkB_extract mkB_get mkB_append mkB_append_raw raw_append_mkB mkB_toList

/-- the path lies in its box -/
def PBox (w : World) (pb : Nat) (p : List UInt8) : Prop := pb < w.heap.size ∧ w.cell? ⟨pb, 0, none⟩ = some (.string (mkB p))
theorem PBox.below {w w' : World} {pb n : Nat} {p : List UInt8} (h : PBox w pb p) (hB : Below n w w') (hn : pb < n) : PBox w' pb p :=
  ⟨by have := hB.block pb hn; have h1 := h.1; rw [Array.getElem?_eq_getElem h1] at this; exact (Array.getElem?_eq_some_iff.1 this).1, (cell_same (hB.block pb hn) _).trans h.2⟩

set_option maxRecDepth 1000000 in
set_option maxHeartbeats 2000000 in
theorem del_any (e : En) (p : List UInt8) (pb : Nat) (w : World) (hP : PBox w pb p) (hp : p.length ≤ 1048576) (he : e.path.length ≤ 1048576) :
    Calls Tryd.prog 76 #[enV e, .pointer (some ⟨pb, 0, none⟩)] w fun r w' => r = .returned (.bool (pathIn p e.path)) ∧ Below w.heap.size w w' := by
  obtain ⟨ep, kind, mode, t⟩ := e
  simp only at he ⊢
  obtain ⟨hl, hc⟩ := hP
  go_enter Tryd.func76, Tryd.ntmps76
  go_wp2_with fail
  refine (PathIn_any p ep (by omega) (by omega) _).mono ?_
  rintro r w1 ⟨rfl, hB⟩
  go_wp2
  go_ret
  exact ⟨rfl, ((Below.refl _ _).alloc (Nat.le_refl _) _).trans (hB.mono (by simp))⟩

/-- the first that goes, or the end -/
def firstGo (es : List En) (p : List UInt8) : Nat := es.findIdx (fun e => pathIn p e.path)
set_option maxRecDepth 1000000 in
set_option maxHeartbeats 8000000 in
theorem indexFunc_any (es : List En) (p : List UInt8) (pb g c : Nat) (w : World) (hE : Ents w g es) (hsm : Small es) (hP : PBox w pb p) (hp : p.length ≤ 1048576) :
    Calls Tryd.prog 109 #[.slice (some ⟨g, 0, none⟩) es.length c, .func (.func 76) #[] #[.pointer (some ⟨pb, 0, none⟩)]] w
      fun r w' => (∃ k, k ≤ es.length ∧ (∀ i (hi : i < es.length), i < k → pathIn p es[i].path = false) ∧ ((k < es.length ∧ (∀ hk : k < es.length, pathIn p es[k].path = true) ∧ r = .returned (.int .i64 k)) ∨ (k = es.length ∧ r = .returned (.int .i64 (-1))))) ∧ Below w.heap.size w w' := by
  have hEh := Lib.hid hE
  have hsh := Lib.hid hsm
  have hPh := Lib.hid hP
  have hg := hE.1
  have hpb := hP.1
  have hlen := hsm.1
  clear hE hsm hP
  go_enter Tryd.func109, Tryd.ntmps109
  go_wp2
  go_loopw [8] (fun i wr => ∃ k : Nat, k ≤ es.length ∧ i = .int .i64 k ∧ Hid (∀ i (hi : i < es.length), i < k → pathIn p es[i].path = false) ∧ Below w.heap.size w wr) (fun i _ => es.length - (intOf i).toNat)
  case atStart => exact ⟨0, Nat.zero_le _, rfl, Lib.hid (fun i hi h => by omega), Below.refl _ _⟩
  case round =>
    obtain ⟨k, hk, rfl, hall, hB1⟩ := hrel
    by_cases hlt : k < es.length
    · obtain ⟨c0, c1, c2, c3⟩ := (hEh.out.below hB1 hg).2 k hlt
      have hP1 := Lib.hid (hPh.out.below hB1 hpb)
      have hkI : (k : Int) < (es.length : Int) := by omega
      have hpl := (hsh.out.2 k hlt).1
      rcases boolOf (pathIn p es[k].path) with hb | hb
      · go_wp2_with (go_at_call 76; refine (del_any es[k] p pb _ hP1.out hp hpl).mono ?_; rintro r w2 ⟨rfl, hB2⟩; rw [hb.out])
        go_round
        case rel => exact ⟨k + 1, by omega, by go_num, Lib.hid (fun i hi h => by
          rcases Nat.lt_or_ge i k with h1 | h1
          · exact hall.out i hi h1
          · obtain rfl : i = k := by omega
            exact hb.out), hB1.trans (hB2.mono hB1.size)⟩
        case measure => simp [intOf]; omega
      · go_wp2_with (go_at_call 76; refine (del_any es[k] p pb _ hP1.out hp hpl).mono ?_; rintro r w2 ⟨rfl, hB2⟩; rw [hb.out])
        go_ret
        exact ⟨⟨k, hk, hall.out, .inl ⟨hlt, fun _ => hb.out, rfl⟩⟩, hB1.trans (hB2.mono hB1.size)⟩
    · obtain rfl : k = es.length := by omega
      go_wp2
      go_ret
      exact ⟨⟨es.length, Nat.le_refl _, hall.out, .inr ⟨rfl, rfl⟩⟩, hB1⟩
end Go.Proofs.YtjihpbioofikcaaDoor
