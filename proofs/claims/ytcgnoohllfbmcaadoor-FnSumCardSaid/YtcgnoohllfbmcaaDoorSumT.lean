/-
  Words of 32 bits in the walk; turning.
-/
import Derived.WalkKit
import Derived.BigQuiet
import Derived.Deep.QuietTactic
import Derived.Laws.BitsAllLaws
import Derived.RangeFuncBox
import Derived.Test.YtcgnoohllfbmcaaDoorPush
import Derived.Test.YtcgnoohllfbmcaaDoorBasic
namespace Go.Proofs.YtcgnoohllfbmcaaDoor
open Go.RowKit
set_option linter.unusedVariables false
set_option linter.unusedSimpArgs false

/-- a word turned to the right -/
def rotr (x : UInt32) (n : Nat) : UInt32 := UInt32.ofNat (x.toNat / 2 ^ n ||| x.toNat * 2 ^ (32 - n) % 4294967296)
theorem rotr_lt (x : UInt32) (n : Nat) : x.toNat / 2 ^ n ||| x.toNat * 2 ^ (32 - n) % 4294967296 < 2 ^ 32 := by
  have h := x.toNat_lt
  refine Nat.or_lt_two_pow ?_ (by omega)
  exact Nat.lt_of_le_of_lt (Nat.div_le_self _ _) h
theorem rotr_nat (x : UInt32) (n : Nat) : (rotr x n).toNat = x.toNat / 2 ^ n ||| x.toNat * 2 ^ (32 - n) % 4294967296 := by
  unfold rotr
  rw [UInt32.toNat_ofNat']
  exact Nat.mod_eq_of_lt (rotr_lt x n)
theorem rotr_int (x : UInt32) (n : Nat) : bits .or .u32 ((x.toNat : Int) / 2 ^ n) ((x.toNat : Int) * 2 ^ (32 - n) % 4294967296) = ((rotr x n).toNat : Int) := by
  rw [rotr_nat]
  have h := x.toNat_lt
  have e1 : ((x.toNat : Int) / 2 ^ n) = ((x.toNat / 2 ^ n : Nat) : Int) := by simp
  have e2 : ((x.toNat : Int) * 2 ^ (32 - n) % 4294967296) = ((x.toNat * 2 ^ (32 - n) % 4294967296 : Nat) : Int) := by simp
  rw [e1, e2]
  exact u32_or_nat _ _ (Nat.lt_of_le_of_lt (Nat.div_le_self _ _) h) (by omega)
theorem rotr_int2 (x : UInt32) (n : Nat) : bits .or .u32 ((x.toNat : Int) * 2 ^ (32 - n) % 4294967296) ((x.toNat : Int) / 2 ^ n) = ((rotr x n).toNat : Int) := by
  rw [rotr_nat]
  have h := x.toNat_lt
  have e1 : ((x.toNat : Int) / 2 ^ n) = ((x.toNat / 2 ^ n : Nat) : Int) := by simp
  have e2 : ((x.toNat : Int) * 2 ^ (32 - n) % 4294967296) = ((x.toNat * 2 ^ (32 - n) % 4294967296 : Nat) : Int) := by simp
  rw [e1, e2, Nat.or_comm]
  exact u32_or_nat _ _ (by omega) (Nat.lt_of_le_of_lt (Nat.div_le_self _ _) h)
theorem spec_turn (x : UInt32) (n : Nat) (h1 : 0 < n) (h2 : n < 32) (w : World) :
    Calls Tryd.prog 24 #[.int .u32 (x.toNat : Int), .int .i64 (n : Int)] w fun e w' => e = .returned (.int .u32 ((rotr x n).toNat : Int)) ∧ ∃ m, w' = w.drewN m := by
  have hn1 : (0 : Int) < (n : Int) := by omega
  have hn2 : (n : Int) < 32 := by omega
  go_enter Tryd.func24, Tryd.ntmps24
  go_wp2_with fail
  go_quiet (fail)
  go_wp2
  go_ret
  exact ⟨by rw [← rotr_int]; rfl, nq, rfl⟩
theorem neg_and : ∀ n : Fin 32, 0 < n.val → bits .and .u64 (IntKind.u64.wrap (-(n.val : Int))) 31 = 32 - (n.val : Int) := by decide +kernel
theorem impl_rot (x : UInt32) (n : Nat) (h1 : 0 < n) (h2 : n < 32) (w : World) :
    Calls Tryd.prog 25 #[.int .u32 (x.toNat : Int), .int .i64 (-(n : Int))] w fun e w' => e = .returned (.int .u32 ((rotr x n).toNat : Int)) ∧ w' = w := by
  have hn1 : (0 : Int) < (n : Int) := by omega
  have hn2 : (n : Int) < 32 := by omega
  go_enter Tryd.func25, Tryd.ntmps25
  have hb := neg_and ⟨n, h2⟩ h1
  simp only at hb
  have hnn : 32 - (32 - n) = n := by omega
  go_wp2
  go_ret
  exact ⟨by rw [← rotr_int2]; rfl, rfl⟩
theorem impl_turn (x : UInt32) (n : Nat) (h1 : 0 < n) (h2 : n < 32) (w : World) :
    Calls Tryd.prog 19 #[.int .u32 (x.toNat : Int), .int .i64 (n : Int)] w fun e w' => e = .returned (.int .u32 ((rotr x n).toNat : Int)) ∧ w' = w := by
  have hn1 : (0 : Int) < (n : Int) := by omega
  have hn2 : (n : Int) < 32 := by omega
  go_enter Tryd.func19, Tryd.ntmps19
  go_wp2_with fail
  with_reducible refine (impl_rot x n h1 h2 w).mono ?_
  rintro e w' ⟨rfl, rfl⟩
  go_wp2
  go_ret
  exact ⟨rfl, rfl⟩
end Go.Proofs.YtcgnoohllfbmcaaDoor
