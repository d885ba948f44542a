/-
  The law FnExactNeedGet, walked: the reference's answer and the program's are one.
-/
import Derived.Test.YtdcfifhmldolhaaDoorGetT
namespace Go.Proofs.YtdcfifhmldolhaaDoor
open Go.RowKit
set_option linter.unusedVariables false
attribute [local go_sem] mkB_size mkB_extract mkB_toList

theorem getV_shape (l : List UInt8) : ∃ (nm : List UInt8) (kd : Int) (vr : List UInt8) (b : Bool), getV l = .tuple #[.agg #[.string (mkB nm), .int .i64 kd, .string (mkB vr)], .bool b] := by
  unfold getV
  cases needGet l with
  | none => exact ⟨[], 0, [], false, rfl⟩
  | some x => obtain ⟨nm, kd, vr⟩ := x; exact ⟨nm, kd, vr, true, rfl⟩

set_option maxHeartbeats 2000000 in
theorem law_FnExactNeedGet (s0 : ByteArray) (hs0 : s0.size ≤ maxLen) (w : World) :
    Calls Tryd.prog 3 #[.string s0] w fun e w' => e = .returned (.bool true) ∧ Below w.heap.size w w' := by
  obtain ⟨s0, rfl⟩ : ∃ l, s0 = mkB l := ⟨_, (mkB_self s0).symm⟩
  unfold maxLen at hs0
  rw [mkB_size] at hs0
  by_cases h0 : s0.length ≤ 1048576
  case neg =>
    go_enter Tryd.func3, Tryd.ntmps3
    go_wp2
    go_ret
    exact ⟨rfl, Below.refl _ _⟩
  obtain ⟨nm, kd, vr, b, hsh⟩ := getV_shape s0
  replace hsh := Lib.hid hsh
  have hl : s0.length ≤ 1099511627 := by omega
  cases b with
  | false =>
    go_enter Tryd.func3, Tryd.ntmps3
    go_wp2_with fail
    refine (specNeedGet_any s0 hl _).mono ?_
    rintro e w1 ⟨rfl, hB1⟩
    rw [hsh.out]
    go_wp2_with fail
    obtain ⟨W1, hW1⟩ : ∃ W1, (w1.alloc (.cells #[.string (mkB nm), .int .i64 kd, .string (mkB vr)] 23)) = W1 := ⟨_, rfl⟩
    have hr1 : Box3 W1 w1.heap.size 23 (.string (mkB nm)) (.int .i64 kd) (.string (mkB vr)) := by rw [← hW1]; exact (Box3.new _ _ _ _ _)
    have hz1 : W1.heap.size = w1.heap.size + 1 := by rw [← hW1]; simp
    have hBB1 : Below w.heap.size w W1 := by rw [← hW1]; exact hB1.alloc hB1.size _
    rw [hW1]
    clear hW1
    refine (NeedGet_any s0 hl _).mono ?_
    rintro e w2 ⟨rfl, hB2⟩
    rw [hsh.out]
    have hr2 := Box3.below hr1 hB2 (by omega)
    have hBB2 := hBB1.trans (hB2.mono hBB1.size)
    have hr3 : Box3 (w2.alloc (.cells #[.string (mkB nm), .int .i64 kd, .string (mkB vr)] 23)) w1.heap.size 23 (.string (mkB nm)) (.int .i64 kd) (.string (mkB vr)) := hr2.kept (World.grownBy_alloc _ _ none) (fun e => by cases e)
    have a0 := hr3.cell0
    have a1 := hr3.cell1
    have a2 := hr3.cell2
    go_wp2_with (go_at_call 7; refine (eqNeed_any _ _ _ _).mono ?_; rintro e w3 ⟨rfl, hB3⟩)
    go_ret
    exact ⟨rfl, (hBB2.alloc hBB2.size _).trans (hB3.mono (by have := hBB2.size; simp; omega))⟩
  | true =>
    go_enter Tryd.func3, Tryd.ntmps3
    go_wp2_with fail
    refine (specNeedGet_any s0 hl _).mono ?_
    rintro e w1 ⟨rfl, hB1⟩
    rw [hsh.out]
    go_wp2_with fail
    obtain ⟨W1, hW1⟩ : ∃ W1, (w1.alloc (.cells #[.string (mkB nm), .int .i64 kd, .string (mkB vr)] 23)) = W1 := ⟨_, rfl⟩
    have hr1 : Box3 W1 w1.heap.size 23 (.string (mkB nm)) (.int .i64 kd) (.string (mkB vr)) := by rw [← hW1]; exact (Box3.new _ _ _ _ _)
    have hz1 : W1.heap.size = w1.heap.size + 1 := by rw [← hW1]; simp
    have hBB1 : Below w.heap.size w W1 := by rw [← hW1]; exact hB1.alloc hB1.size _
    rw [hW1]
    clear hW1
    refine (NeedGet_any s0 hl _).mono ?_
    rintro e w2 ⟨rfl, hB2⟩
    rw [hsh.out]
    have hr2 := Box3.below hr1 hB2 (by omega)
    have hBB2 := hBB1.trans (hB2.mono hBB1.size)
    have hr3 : Box3 (w2.alloc (.cells #[.string (mkB nm), .int .i64 kd, .string (mkB vr)] 23)) w1.heap.size 23 (.string (mkB nm)) (.int .i64 kd) (.string (mkB vr)) := hr2.kept (World.grownBy_alloc _ _ none) (fun e => by cases e)
    have a0 := hr3.cell0
    have a1 := hr3.cell1
    have a2 := hr3.cell2
    go_wp2_with (go_at_call 7; refine (eqNeed_any _ _ _ _).mono ?_; rintro e w3 ⟨rfl, hB3⟩)
    go_ret
    exact ⟨rfl, (hBB2.alloc hBB2.size _).trans (hB3.mono (by have := hBB2.size; simp; omega))⟩
end Go.Proofs.YtdcfifhmldolhaaDoor
