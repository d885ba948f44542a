/-
  Small lemmas of every walk; the walk of the reference's l1In.
-/
import Derived.Test.YtcgnoohllfbmcaaDoorSplit
import Derived.Lib.SmallJoins
namespace Go.Proofs.YtcgnoohllfbmcaaDoor
open Go.RowKit

theorem mkB_append (a b : List UInt8) : mkB a ++ mkB b = mkB (a ++ b) := by
  rw [← mkB_self (mkB a ++ mkB b), Joins.data_append, mkB_data, mkB_data]
theorem mkB_append_raw (a b : List UInt8) : mkB a ++ (ByteArray.mk b.toArray) = mkB (a ++ b) := mkB_append a b
theorem raw_append_mkB (a b : List UInt8) : (ByteArray.mk a.toArray) ++ mkB b = mkB (a ++ b) := mkB_append a b
theorem int_eq {k : IntKind} {a b : Int} (h : a = b) : Value.int k a = Value.int k b := by rw [h]
theorem u8_ne {a b : UInt8} (h : ¬ a = b) : ((a.toNat : Int) == (b.toNat : Int)) = false := by
  rw [beq_eq_false_iff_ne]; intro e; exact h (UInt8.toNat_inj.1 (by omega))
theorem u8_is {a b : UInt8} (h : a = b) : ((a.toNat : Int) == (b.toNat : Int)) = true := by rw [h]; simp
theorem boolOf (b : Bool) : Hid (b = false) ∨ Hid (b = true) := by
  cases b
  · exact .inl rfl
  · exact .inr rfl
theorem take_snoc (s : ByteArray) (k : Nat) (h : k < s.size) : s.data.toList.take (k + 1) = s.data.toList.take k ++ [s[k]] := by
  rw [List.take_succ_eq_append_getElem (by simpa using h)]; rfl
theorem all_snoc (p : UInt8 → Bool) (s : ByteArray) (k : Nat) (h : k < s.size) (ha : (s.data.toList.take k).all p = true) (hc : p s[k] = true) : (s.data.toList.take (k + 1)).all p = true := by
  rw [take_snoc s k h, List.all_append, ha]; simp [hc]
theorem all_not (p : UInt8 → Bool) (s : ByteArray) (k : Nat) (h : k < s.size) (hc : p s[k] = false) : s.data.toList.all p = false := by
  rw [← List.take_append_drop (k + 1) s.data.toList, take_snoc s k h]; simp [hc]
theorem take_all (s : ByteArray) (k : Nat) (h : s.size ≤ k) : s.data.toList.take k = s.data.toList := List.take_of_length_le (by rw [← Lib.size_eq]; exact h)

def inI (n lo hi : Int) : Bool := decide (lo ≤ n) && decide (n ≤ hi)

end Go.Proofs.YtcgnoohllfbmcaaDoor
