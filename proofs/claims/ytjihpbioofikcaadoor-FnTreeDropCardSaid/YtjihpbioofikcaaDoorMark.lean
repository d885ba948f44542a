/-
  The walks of markText, markEntryS, heldEntryS, and of eqEntryS at slices that may be empty.
-/
import Derived.Test.YtjihpbioofikcaaDoorMarkP
import Derived.Deep.RegionHeld3
import Derived.Laws.IdiomStrings
namespace Go.Proofs.YtjihpbioofikcaaDoor
open Go.RowKit
set_option linter.unusedVariables false
set_option linter.unusedSimpArgs false
attribute [local go_sem] mkB_size mkB_extract mkB_get mkB_append mkB_append_raw raw_append_mkB mkB_toList

set_option maxRecDepth 1000000 in
set_option maxHeartbeats 4000000 in
theorem markText_any (k : Nat) (hk1 : 1 ≤ k) (hk2 : k ≤ 16777216) (w : World) :
    Calls Tryd.prog 59 #[.int .i64 k] w fun r w' => r = .returned (.string (mkB (markT k))) ∧ Below w.heap.size w w' := by
  have hk0 : ¬ (k : Int) ≤ 0 := by omega
  go_enter Tryd.func59, Tryd.ntmps59
  go_wp2
  go_loopw [0, 3] (fun kk out wr => ∃ (q : Nat) (o : List UInt8), q ≤ 16777216 ∧ kk = .int .i64 q ∧ out = .string (mkB o) ∧ o.length + q ≤ k ∧ Hid (figs (q + 1) q o = figs (k + 1) k []) ∧ Below w.heap.size w wr) (fun kk _ _ => (intOf kk).toNat)
  case atStart => exact ⟨k, [], hk2, rfl, rfl, by simp, Lib.hid rfl, Below.refl _ _⟩
  case round =>
    obtain ⟨q, o, hq, rfl, rfl, hlen, hfig, hB1⟩ := hrel
    by_cases hq0 : q = 0
    · subst hq0
      go_wp2
      go_ret
      refine ⟨?_, hB1⟩
      have h := hfig.out
      rw [figs_zero] at h
      unfold markT
      rw [← h]
      first | rfl | exact ret_str rfl
    · have hq1 : (0 : Int) < (q : Int) := by omega
      have hfig2 := figs_step (out := o) hq0
      have hd : ((UInt8.ofNat (48 + q % 10)).toNat : Int) = 48 + (q : Int) % 10 := by
        rw [UInt8.toNat_ofNat']
        omega
      obtain ⟨d, hdd⟩ : ∃ d : UInt8, UInt8.ofNat (48 + q % 10) = d := ⟨_, rfl⟩
      rw [hdd] at hd hfig2
      clear hdd
      replace hfig2 := Lib.hid hfig2
      have hconv : (convert 42 9 (.slice (some ⟨wr.heap.size, 0, none⟩) 1 1)).run Tryd.prog (wr.alloc (.cells #[.int .u8 (48 + (q : Int) % 10)] 5)) = .ok (.string (mkB [d])) (wr.alloc (.cells #[.int .u8 (48 + (q : Int) % 10)] 5)) := by
        refine run_convert_bytes_back _ _ _ 5 ⟨wr.heap.size, 0, none⟩ 1 [d] Tryd.underlying42 Tryd.underlying5 Tryd.underlying9 (fun j hj => ?_)
        obtain rfl : j = 0 := by simpa using hj
        rw [add_of_head, row_cell _ _ _ _ _ _ (World.alloc_heap_new wr _)]
        simp only [List.getElem_cons_zero]
        rw [hd]
        rfl
      replace hd := Lib.hid hd
      go_wp2
      go_round
      case rel => exact ⟨q / 10, d :: o, by omega, int_eq (by omega), rfl, by simp; omega, Lib.hid (hfig2.out.symm.trans hfig.out), hB1.alloc hB1.size _⟩
      case measure => simp [intOf]; omega

/-- entries in a slice that may be empty, and their block -/
def MarkPost (es : List En) (n k : Nat) (A : Option Addr) (w : World) (r : Ending) (w' : World) : Prop :=
  r = .returned (.int .i64 ((k + 4 * n : Nat) : Int)) ∧ (n = 0 ∧ w = w' ∨ ∃ g m, A = some ⟨g, 0, none⟩ ∧ n ≤ m ∧ RowE w' g m n (marks n k) ∧ w.grownBy w' (some g))
end Go.Proofs.YtjihpbioofikcaaDoor
