/-
  Trees as texts, plainly; the reference's l1Dec at small numbers.
-/
import Derived.Test.YtgokdcdicddccaaDoorBuild
import Derived.Test.YtgokdcdicddccaaDoorTreeF
import Derived.Laws.IdiomStrings
import Derived.Deep.RegionHeld3
import Derived.Deep.RegionWith
namespace Go.Proofs.YtgokdcdicddccaaDoor
open Go.RowKit
set_option linter.unusedVariables false
set_option linter.unusedSimpArgs false
attribute [local go_sem] mkB_size mkB_extract mkB_get mkB_append mkB_append_raw raw_append_mkB mkB_toList

def dd (n : Nat) : List UInt8 := Lib.decDigits n
theorem dd_one (n : Nat) (h : n < 10) : dd n = [UInt8.ofNat (48 + n)] := by unfold dd; rw [Lib.decDigits, dif_pos h]
theorem dd_two (n : Nat) (h : 10 ≤ n) : dd n = dd (n / 10) ++ dd (n % 10) := by
  rw [dd_one (n % 10) (by omega)]
  unfold dd
  conv => lhs; rw [Lib.decDigits, dif_neg (by omega)]
theorem dd_short (n : Nat) (h : n < 100) : (dd n).length ≤ 2 := by
  by_cases h1 : n < 10
  · rw [dd_one n h1]; simp
  · rw [dd_two n (by omega), dd_one (n / 10) (by omega), dd_one (n % 10) (by omega)]; simp
/-- an entry's line -/
def lineE (e : En) : List UInt8 := if e.kind = 1 then [100, 105, 114, 32] ++ (dd e.mode.toNat ++ ([32] ++ (e.path ++ [10])))
  else if e.kind = 3 then [108, 105, 110, 107, 32] ++ (e.path ++ ([32] ++ (e.text ++ [10])))
  else [102, 105, 108, 101, 32] ++ (dd e.mode.toNat ++ ([32] ++ (e.path ++ ([32] ++ (dd e.text.length ++ ([10] ++ (e.text ++ [10])))))))
def linesE (es : List En) : List UInt8 := es.flatMap lineE
noncomputable def treeText (es : List En) : List UInt8 := if treeOk es = true then linesE es else []

set_option maxRecDepth 1000000 in
set_option maxHeartbeats 2000000 in
theorem l1Dec_one (n : Nat) (hn : n < 10) (w : World) :
    Calls Tryd.prog 51 #[.int .i64 n] w fun r w' => r = .returned (.string (mkB (dd n))) ∧ Below w.heap.size w w' := by
  rw [dd_one n hn]
  have hd : ((UInt8.ofNat (48 + n)).toNat : Int) = 48 + (n : Int) := by
    rw [UInt8.toNat_ofNat']
    omega
  obtain ⟨d, hdd⟩ : ∃ d : UInt8, UInt8.ofNat (48 + n) = d := ⟨_, rfl⟩
  rw [hdd] at hd ⊢
  clear hdd
  have hconv : (convert 46 9 (.slice (some ⟨w.heap.size, 0, none⟩) 1 1)).run Tryd.prog (w.alloc (.cells #[.int .u8 (48 + (n : Int))] 5)) = .ok (.string (mkB [d])) (w.alloc (.cells #[.int .u8 (48 + (n : Int))] 5)) := by
    refine run_convert_bytes_back _ _ _ 5 ⟨w.heap.size, 0, none⟩ 1 [d] Tryd.underlying46 Tryd.underlying5 Tryd.underlying9 (fun j hj => ?_)
    obtain rfl : j = 0 := by simpa using hj
    rw [add_of_head, row_cell _ _ _ _ _ _ (World.alloc_heap_new w _)]
    simp only [List.getElem_cons_zero]
    rw [hd]
    rfl
  replace hd := Lib.hid hd
  have hnI : (n : Int) < 10 := by omega
  go_enter Tryd.func51, Tryd.ntmps51
  go_wp2
  go_ret
  exact ⟨rfl, (Below.refl _ _).alloc (Nat.le_refl _) _⟩
end Go.Proofs.YtgokdcdicddccaaDoor
