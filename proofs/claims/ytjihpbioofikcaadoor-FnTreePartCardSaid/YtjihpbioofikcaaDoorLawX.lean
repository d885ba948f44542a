/-
  What the exact laws of tree functions share.
-/
import Derived.Test.YtjihpbioofikcaaDoorResE
import Derived.Test.YtjihpbioofikcaaDoorArgE
namespace Go.Proofs.YtjihpbioofikcaaDoor
open Go.RowKit
set_option linter.unusedVariables false
set_option linter.unusedSimpArgs false
attribute [local go_sem] mkB_size mkB_extract mkB_get mkB_append mkB_append_raw raw_append_mkB mkB_toList

def ResF2 (fs : List En) (b : Bool) (w : World) (r : Ending) (w' : World) : Prop := ∃ A c', r = .returned (.tuple #[.slice A fs.length c', .bool b]) ∧ OwnE w' w.heap.size A fs ∧ Below w.heap.size w w'
def ResF1 (fs : List En) (w : World) (r : Ending) (w' : World) : Prop := ∃ A c', r = .returned (.slice A fs.length c') ∧ OwnE w' w.heap.size A fs ∧ Below w.heap.size w w'
theorem markRowK (es : List En) (g c k K : Nat) (w : World) (hR : RowE w g es.length es.length es) (hn : es.length ≤ 1048576) (hk : 1 ≤ k ∧ k ≤ 4194400) (hK : k + 4 * es.length = K) :
    Calls Tryd.prog 26 #[.slice (some ⟨g, 0, none⟩) es.length c, .int .i64 k] w fun r w' => r = .returned (.int .i64 (K : Int)) ∧ w.grownBy w' (some g) := by
  have hR0 : RowE w g es.length 0 (marks es.length k) := by
    obtain ⟨cur, hh, hs, _⟩ := hR
    exact ⟨cur, hh, hs, fun i _ hi => by omega⟩
  subst hK
  exact (markEntryS_any es.length g es.length c k w hR0 (Nat.le_refl _) hn hk.1 (by omega)).mono fun r w' h => ⟨h.1, h.2.2⟩
theorem markOwnX (es : List En) (A : Option Addr) (c lo K : Nat) (w : World) (hO : OwnE w lo A es) (hn : es.length ≤ 1048576) (hlo : lo ≤ w.heap.size) (hK : 1 + 4 * es.length = K) :
    Calls Tryd.prog 26 #[.slice A es.length c, .int .i64 1] w fun r w' => r = .returned (.int .i64 (K : Int)) ∧ SlE w' A (marks es.length 1) ∧ Below lo w w' := by
  subst hK
  exact markOwn es A c lo w hO hn hlo
theorem heldSlX (n c K : Nat) (A : Option Addr) (w : World) (hS : SlE w A (marks n 1)) (hn : n ≤ 1048576) (hK : 1 + 4 * n = K) :
    Calls Tryd.prog 27 #[.slice A n c, .int .i64 1] w fun r w' => r = .returned (.int .i64 (K : Int)) ∧ Below w.heap.size w w' := by
  subst hK
  exact heldSl n c A w hS hn
theorem markRow1 (es : List En) (g c K : Nat) (w : World) (hR : RowE w g es.length es.length es) (hn : es.length ≤ 1048576) (hK : 1 + 4 * es.length = K) :
    Calls Tryd.prog 26 #[.slice (some ⟨g, 0, none⟩) es.length c, .int .i64 1] w fun r w' => r = .returned (.int .i64 (K : Int)) ∧ w.grownBy w' (some g) :=
  markRowK es g c 1 K w hR hn (by omega) hK
end Go.Proofs.YtjihpbioofikcaaDoor
