/-
  The law FnExactTreeFollow, walked: the reference's answer and the program's are one.
-/
import Derived.Test.YtgokdcdicddccaaDoorLawTreeGet
import Derived.Test.YtgokdcdicddccaaDoorTreeW
namespace Go.Proofs.YtgokdcdicddccaaDoor
open Go.RowKit
set_option linter.unusedVariables false
set_option linter.unusedSimpArgs false
attribute [local go_sem] mkB_size mkB_extract mkB_get mkB_append mkB_append_raw raw_append_mkB mkB_toList

set_option maxHeartbeats 8000000 in
theorem law_FnExactTreeFollow (es : List En) (A : Option Addr) (n c : Nat) (s0 : ByteArray) (hs0 : s0.size ≤ maxLen) (w : World) (hE : ArgE w A n c es) :
    Calls Tryd.prog 5 #[.slice A n c, .string s0] w fun e w' => e = .returned (.bool true) ∧ Below w.heap.size w w' := by
  obtain ⟨s0, rfl⟩ : ∃ l, s0 = mkB l := ⟨_, (mkB_self s0).symm⟩
  unfold maxLen at hs0
  rw [mkB_size] at hs0
  by_cases h0 : s0.length ≤ 1048576
  case neg =>
    go_enter Tryd.func5, Tryd.ntmps5
    go_wp2
    go_ret
    exact ⟨rfl, Below.refl _ _⟩
  have hEh := Lib.hid hE
  clear hE
  obtain ⟨e0, b, hsh⟩ := entV_shape (treeFollow es s0)
  replace hsh := Lib.hid hsh
  cases b with
  | false =>
    go_enter Tryd.func5, Tryd.ntmps5
    go_wp2_with fail
    refine (szEntryS_any es A n c w hEh.out).mono ?_
    rintro e w1 ⟨v, rfl, hv0, hv1, hsm, hB1⟩
    by_cases hv : v < 0
    · go_wp2
      go_ret
      exact ⟨rfl, hB1⟩
    replace hsm := Lib.hid (hsm.out (by omega))
    have hlen := hsm.out.1
    have hE1 := Lib.hid (hEh.out.below hB1)
    go_wp2_with fail
    refine (toEntryS_any es A n c w1 hE1.out hsm.out).mono ?_
    rintro e w2 ⟨rfl, hx2, hB2⟩
    have hC2 := hB1.trans (hB2.mono hB1.size)
    replace hx2 := Lib.hid hx2
    go_wp2_with fail
    refine (specTreeFollow_any es s0 _ _ _ hx2.out hsm.out h0).mono ?_
    rintro e w3 ⟨rfl, hB3⟩
    rw [hsh.out]
    have hC3 := hC2.trans (hB3.mono hC2.size)
    go_wp2_with fail
    obtain ⟨W3, hW3⟩ : ∃ X, w3.alloc (.cells #[.string (mkB e0.path), .int .i64 e0.kind, .int .i64 e0.mode, .string (mkB e0.text)] 30) = X := ⟨_, rfl⟩
    have hb3 : Box4 W3 w3.heap.size 30 (.string (mkB e0.path)) (.int .i64 e0.kind) (.int .i64 e0.mode) (.string (mkB e0.text)) := by rw [← hW3]; exact Box4.new _ _ _ _ _ _
    have hC3' : Below w.heap.size w W3 := by rw [← hW3]; exact hC3.alloc hC3.size _
    have hl3 := hb3.lt
    rw [hW3]
    clear hW3
    have hE3 := Lib.hid (hEh.out.below hC3')
    refine (toEntryS_any es A n c _ hE3.out hsm.out).mono ?_
    rintro e w4 ⟨rfl, hx4, hB4⟩
    have hC4 := hC3'.trans (hB4.mono hC3'.size)
    have hg4 := hx4.1
    have hb4 := hb3.below hB4 hl3
    have hl4 := hb4.lt
    replace hx4 := Lib.hid hx4
    go_wp2_with fail
    refine (TreeFollow_any es s0 _ _ _ hx4.out hsm.out (Nat.le_refl _) h0).mono ?_
    rintro e w5 ⟨rfl, hB5⟩
    rw [hsh.out]
    have hC5 := hC4.trans (hB5.mono hC4.size)
    have hx5 := Lib.hid (hx4.out.below hB5 hg4)
    have hb5 := hb4.below hB5 hl4
    have hb6 : Box4 (w5.alloc (.cells #[.string (mkB e0.path), .int .i64 e0.kind, .int .i64 e0.mode, .string (mkB e0.text)] 30)) w3.heap.size 30 (.string (mkB e0.path)) (.int .i64 e0.kind) (.int .i64 e0.mode) (.string (mkB e0.text)) := hb5.kept (World.grownBy_alloc _ _ none) (fun e => by cases e)
    have a0 := hb6.cell0
    have a1 := hb6.cell1
    have a2 := hb6.cell2
    have a3 := hb6.cell3
    go_wp2_with (go_at_call 14; refine (eqEntry_any e0 _).mono ?_; rintro e w6 ⟨rfl, hB6⟩)
    have hx6 := hx5.out.alloc (.cells #[.string (mkB e0.path), .int .i64 e0.kind, .int .i64 e0.mode, .string (mkB e0.text)] 30)
    have hg6 := hx6.1
    have hx7 := Lib.hid (hx6.below hB6 hg6)
    have hg7 := hx7.out.1
    have hC6 := (hC5.alloc hC5.size (.cells #[.string (mkB e0.path), .int .i64 e0.kind, .int .i64 e0.mode, .string (mkB e0.text)] 30)).trans (hB6.mono (by have := hC5.size; simp; omega))
    have hE6 := Lib.hid (hEh.out.below hC6)
    refine (toEntryS_any es A n c _ hE6.out hsm.out).mono ?_
    rintro e w7 ⟨rfl, hx8, hB7⟩
    have hC7 := hC6.trans (hB7.mono hC6.size)
    have hx9 := Lib.hid (hx7.out.below hB7 hg7)
    replace hx8 := Lib.hid hx8
    go_wp2_with (go_at_call 11; refine (eqEntryS_any es _ _ _ _ _ _ _ hx9.out hx8.out rfl rfl hlen).mono ?_; rintro e w8 ⟨rfl, hB8⟩)
    go_ret
    exact ⟨rfl, hC7.trans (hB8.mono hC7.size)⟩
  | true =>
    go_enter Tryd.func5, Tryd.ntmps5
    go_wp2_with fail
    refine (szEntryS_any es A n c w hEh.out).mono ?_
    rintro e w1 ⟨v, rfl, hv0, hv1, hsm, hB1⟩
    by_cases hv : v < 0
    · go_wp2
      go_ret
      exact ⟨rfl, hB1⟩
    replace hsm := Lib.hid (hsm.out (by omega))
    have hlen := hsm.out.1
    have hE1 := Lib.hid (hEh.out.below hB1)
    go_wp2_with fail
    refine (toEntryS_any es A n c w1 hE1.out hsm.out).mono ?_
    rintro e w2 ⟨rfl, hx2, hB2⟩
    have hC2 := hB1.trans (hB2.mono hB1.size)
    replace hx2 := Lib.hid hx2
    go_wp2_with fail
    refine (specTreeFollow_any es s0 _ _ _ hx2.out hsm.out h0).mono ?_
    rintro e w3 ⟨rfl, hB3⟩
    rw [hsh.out]
    have hC3 := hC2.trans (hB3.mono hC2.size)
    go_wp2_with fail
    obtain ⟨W3, hW3⟩ : ∃ X, w3.alloc (.cells #[.string (mkB e0.path), .int .i64 e0.kind, .int .i64 e0.mode, .string (mkB e0.text)] 30) = X := ⟨_, rfl⟩
    have hb3 : Box4 W3 w3.heap.size 30 (.string (mkB e0.path)) (.int .i64 e0.kind) (.int .i64 e0.mode) (.string (mkB e0.text)) := by rw [← hW3]; exact Box4.new _ _ _ _ _ _
    have hC3' : Below w.heap.size w W3 := by rw [← hW3]; exact hC3.alloc hC3.size _
    have hl3 := hb3.lt
    rw [hW3]
    clear hW3
    have hE3 := Lib.hid (hEh.out.below hC3')
    refine (toEntryS_any es A n c _ hE3.out hsm.out).mono ?_
    rintro e w4 ⟨rfl, hx4, hB4⟩
    have hC4 := hC3'.trans (hB4.mono hC3'.size)
    have hg4 := hx4.1
    have hb4 := hb3.below hB4 hl3
    have hl4 := hb4.lt
    replace hx4 := Lib.hid hx4
    go_wp2_with fail
    refine (TreeFollow_any es s0 _ _ _ hx4.out hsm.out (Nat.le_refl _) h0).mono ?_
    rintro e w5 ⟨rfl, hB5⟩
    rw [hsh.out]
    have hC5 := hC4.trans (hB5.mono hC4.size)
    have hx5 := Lib.hid (hx4.out.below hB5 hg4)
    have hb5 := hb4.below hB5 hl4
    have hb6 : Box4 (w5.alloc (.cells #[.string (mkB e0.path), .int .i64 e0.kind, .int .i64 e0.mode, .string (mkB e0.text)] 30)) w3.heap.size 30 (.string (mkB e0.path)) (.int .i64 e0.kind) (.int .i64 e0.mode) (.string (mkB e0.text)) := hb5.kept (World.grownBy_alloc _ _ none) (fun e => by cases e)
    have a0 := hb6.cell0
    have a1 := hb6.cell1
    have a2 := hb6.cell2
    have a3 := hb6.cell3
    go_wp2_with (go_at_call 14; refine (eqEntry_any e0 _).mono ?_; rintro e w6 ⟨rfl, hB6⟩)
    have hx6 := hx5.out.alloc (.cells #[.string (mkB e0.path), .int .i64 e0.kind, .int .i64 e0.mode, .string (mkB e0.text)] 30)
    have hg6 := hx6.1
    have hx7 := Lib.hid (hx6.below hB6 hg6)
    have hg7 := hx7.out.1
    have hC6 := (hC5.alloc hC5.size (.cells #[.string (mkB e0.path), .int .i64 e0.kind, .int .i64 e0.mode, .string (mkB e0.text)] 30)).trans (hB6.mono (by have := hC5.size; simp; omega))
    have hE6 := Lib.hid (hEh.out.below hC6)
    refine (toEntryS_any es A n c _ hE6.out hsm.out).mono ?_
    rintro e w7 ⟨rfl, hx8, hB7⟩
    have hC7 := hC6.trans (hB7.mono hC6.size)
    have hx9 := Lib.hid (hx7.out.below hB7 hg7)
    replace hx8 := Lib.hid hx8
    go_wp2_with (go_at_call 11; refine (eqEntryS_any es _ _ _ _ _ _ _ hx9.out hx8.out rfl rfl hlen).mono ?_; rintro e w8 ⟨rfl, hB8⟩)
    go_ret
    exact ⟨rfl, hC7.trans (hB8.mono hC7.size)⟩
end Go.Proofs.YtgokdcdicddccaaDoor
