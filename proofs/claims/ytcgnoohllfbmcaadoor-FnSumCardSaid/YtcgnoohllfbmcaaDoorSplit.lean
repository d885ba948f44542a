/-
  The walk of strings.Index at a text of one byte, and of the iterator of strings.SplitSeq at a separator of one byte: it hands over the pieces of the text, in their order.
-/
import Derived.Test.YtcgnoohllfbmcaaDoorProg
import Derived.Test.YtcgnoohllfbmcaaDoorLaw
import Derived.Test.YtcgnoohllfbmcaaDoorPlain
import Derived.Shelf.Abstract
import Derived.Shelf.RegionOpen
import Derived.WalkKit
import Derived.OwnWalkIn
import Derived.TacticsInMore
import Derived.LoopNIn
import Derived.LoopIn
import Derived.Lib.Hide
import Derived.Lib.Bytealg
import Derived.Lib.IndexLaws
import Derived.Lib.IndexBytes
import Derived.BigCall
import Derived.Laws.Strings3
namespace Go.Proofs.YtcgnoohllfbmcaaDoor
open Go.RowKit Go.Shelf
attribute [local go_sem] Oper.semAt_some

/-! ### endings -/
theorem ret_bool {a b : Bool} (h : a = b) : Ending.returned (.bool a) = .returned (.bool b) := by rw [h]
theorem ret_int {k : IntKind} {a b : Int} (h : a = b) : Ending.returned (.int k a) = .returned (.int k b) := by rw [h]
theorem ret_str {a b : ByteArray} (h : a = b) : Ending.returned (.string a) = .returned (.string b) := by rw [h]

/-! ### texts -/
def mkB (l : List UInt8) : ByteArray := ⟨l.toArray⟩
theorem mkB_size (l : List UInt8) : (mkB l).size = l.length := by simp [mkB, ByteArray.size]
theorem mkB_data (l : List UInt8) : (mkB l).data.toList = l := by simp [mkB]
theorem mkB_toList (l : List UInt8) : (mkB l).toList = l := by rw [Lib.toList_data, mkB_data]
theorem mkB_self (s : ByteArray) : mkB s.data.toList = s := by cases s; simp [mkB]
theorem mkB_extract (l : List UInt8) (a b : Nat) : (mkB l).extract a b = mkB ((l.drop a).take (b - a)) := by
  rw [← mkB_self ((mkB l).extract a b), Lib.extract_data, mkB_data]
theorem mkB_one : (mkB [47]) = { data := #[47] } := rfl
theorem take_left_len (f r : List UInt8) : (f ++ r).take f.length = f := List.take_left
theorem drop_left_len (f r : List UInt8) (c : UInt8) : (f ++ c :: r).drop (f.length + 1) = r := by
  rw [show f ++ c :: r = (f ++ [c]) ++ r by simp]
  rw [show f.length + 1 = (f ++ [c]).length by simp]
  exact List.drop_left

theorem indexByte_of_none {l : List UInt8} {c : UInt8} (h : c ∉ l) : Lib.indexByte l c = -1 := by
  have hg := Lib.indexByte_ge l c
  rcases Int.lt_or_le (Lib.indexByte l c) 0 with hlt | hge
  · omega
  · obtain ⟨o, ho⟩ := Int.eq_ofNat_of_zero_le hge
    have := (Lib.indexByte_some ho).1
    exact absurd (List.mem_of_getElem? this) h
theorem indexByte_at {f r : List UInt8} {c : UInt8} (h : c ∉ f) : Lib.indexByte (f ++ c :: r) c = f.length := by
  induction f with
  | nil => simp [Lib.indexByte]
  | cons x f ih =>
    have hx : (x == c) = false := by
      rw [beq_eq_false_iff_ne]; rintro rfl; exact h (by simp)
    have hf := ih (fun e => h (by simp [e]))
    simp only [List.cons_append, Lib.indexByte, hx, hf]
    rw [if_neg (by decide), if_neg]
    · simp
    · simp only [beq_iff_eq]; omega

/-! ### strings.Index at one byte -/
/-! ### the iterator -/
attribute [local go_sem] mkB_size mkB_extract take_left_len drop_left_len
def KpB (bs : Nat) (W W' : World) : Prop := ∀ k, bs ≤ k → k ≤ bs + 2 → W'.heap[k]? = W.heap[k]?
theorem kpB_t {bs : Nat} {A B C : World} (h : KpB bs A B) (k : KpB bs B C) : KpB bs A C := fun i h1 h2 => (k i h1 h2).trans (h i h1 h2)
theorem kpB_g {bs : Nat} {w : World} (hz : bs + 2 < w.heap.size) (W W' : World) (row : Option Nat) (hg : W.grownBy W' row) (hW : w.heap.size ≤ W.heap.size) (hr : ∀ r, row = some r → w.heap.size ≤ r) : KpB bs W W' :=
  fun i _ h2 => hg.block i (by omega) (fun e => by have := hr i e.symm; omega)
theorem KpB.boxed {bs : Nat} {W W' : World} (h : KpB bs W W') {k : Nat} {t : TypeId} {v : Value} (h1 : bs ≤ k) (h2 : k ≤ bs + 2) (hb : Boxed W k t v) : Boxed W' k t v := (h k h1 h2).trans hb
/-- how much of the text is left -/
def leftOf (bs : Nat) (w : World) : Nat := match w.cell? ⟨bs, 0, none⟩ with
  | some (.string s) => s.size
  | _ => 0
theorem leftOf_eq {bs : Nat} {w : World} {t : TypeId} {l : List UInt8} (h : Boxed w bs t (.string (mkB l))) : leftOf bs w = l.length := by
  unfold leftOf; rw [h.cell]; simp [mkB_size]

end Go.Proofs.YtcgnoohllfbmcaaDoor
