/-
  TreeMove's contracts at a named answer, for the drawn laws.
-/
import Derived.Test.YtjihpbioofikcaaDoorMoveS
import Derived.Test.YtjihpbioofikcaaDoorJsT
namespace Go.Proofs.YtjihpbioofikcaaDoor
open Go.RowKit
def ResG (fs : List En) (b : Bool) (w : World) (r : Ending) (w' : World) : Prop := ∃ A c', r = .returned (.tuple #[.slice A fs.length c', .bool b]) ∧ OwnE w' w.heap.size A fs ∧ Below w.heap.size w w'
theorem TreeMove_g {es fs : List En} {f t : List UInt8} {b : Bool} (hx : treeMove es f t = (fs, b)) (g c : Nat) (w : World) (hE : Ents w g es) (hsm : Small es) (hcap : es.length ≤ c) (hf : f.length ≤ 1048576) (ht : t.length ≤ 1048576) :
    Calls Tryd.prog 31 #[.slice (some ⟨g, 0, none⟩) es.length c, .string (mkB f), .string (mkB t)] w (ResG fs b w) := by
  have h := TreeMove_any es f t g c w hE hsm hcap hf ht
  rw [hx] at h
  exact h
theorem specTreeMove_g {es fs : List En} {f t : List UInt8} {b : Bool} (hx : treeMove es f t = (fs, b)) (g c : Nat) (w : World) (hE : Ents w g es) (hsm : Small es) (hcap : es.length ≤ c) (hf : f.length ≤ 1048576) (ht : t.length ≤ 1048576) :
    Calls Tryd.prog 30 #[.slice (some ⟨g, 0, none⟩) es.length c, .string (mkB f), .string (mkB t)] w (ResG fs b w) := by
  have h := specTreeMove_any es f t g c w hE hsm hcap hf ht
  rw [hx] at h
  exact h
theorem moveLen (es : List En) (f t : List UInt8) : (treeMove es f t).1.length ≤ 1048576 := by
  rcases boolOf (treeOk es) with h | h
  · rw [treeMove_bad h.out]; simp
  · have := (treeOk_is h.out).len
    have := treeMove_len es f t
    omega
end Go.Proofs.YtjihpbioofikcaaDoor
