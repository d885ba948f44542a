/-
  The law FnVersionOrder, walked: of two versions one is elder, or they are the same.
-/
import Derived.Test.YtgocnaeignachaaDoorVers
import Derived.Test.YtgocnaeignachaaDoorDrawV
import Derived.Test.YtgocnaeignachaaDoorPlainVO
namespace Go.Proofs.YtgocnaeignachaaDoor
open Go.RowKit
set_option linter.unusedVariables false
attribute [local go_sem] mkB_size mkB_extract mkB_get mkB_append mkB_append_raw raw_append_mkB mkB_toList

theorem IsBytes.below {w w' : World} {A : Option Addr} {n c : Nat} (h : IsBytes w A n c) (hB : Below w.heap.size w w') : IsBytes w' A n c := by
  obtain ⟨h1, h2, h3⟩ := h
  refine ⟨h1, h2, ?_⟩
  rcases h3 with h3 | ⟨b, off, rfl, hb, hc⟩
  · exact .inl h3
  · refine .inr ⟨b, off, rfl, Nat.lt_of_lt_of_le hb hB.size, fun i hi => ?_⟩
    obtain ⟨x, hx, hcx⟩ := hc i hi
    exact ⟨x, hx, (hB.cell (by simpa using hb)).trans hcx⟩
theorem cmpL_vals : ∀ x y : List Nat, cmpL x y = -1 ∨ cmpL x y = 0 ∨ cmpL x y = 1
  | [], [] => .inr (.inl rfl)
  | [], _ :: _ => .inl rfl
  | _ :: _, [] => .inr (.inr rfl)
  | a :: r, b :: q => by
    simp only [cmpL]
    by_cases h : a < b
    · rw [if_pos h]; exact .inl rfl
    · rw [if_neg h]
      by_cases h2 : b < a
      · rw [if_pos h2]; exact .inr (.inr rfl)
      · rw [if_neg h2]; exact cmpL_vals r q
theorem order_vals (a b : List UInt8) : versionOrder a b = -1 ∨ versionOrder a b = 0 ∨ versionOrder a b = 1 := by
  unfold versionOrder
  cases version a with
  | none => exact .inr (.inl rfl)
  | some x =>
    cases version b with
    | none => exact .inr (.inl rfl)
    | some y => exact cmpL_vals x y

set_option maxHeartbeats 2000000 in
set_option maxRecDepth 100000 in
theorem law_FnVersionOrder (A0 : Option Addr) (n0 c0 : Nat) (A1 : Option Addr) (n1 c1 : Nat) (w : World) (h0 : IsBytes w A0 n0 c0) (h1 : IsBytes w A1 n1 c1) :
    Calls Tryd.prog 8 #[.slice A0 n0 c0, .slice A1 n1 c1] w fun e w' => e = .returned (.bool true) ∧ Below w.heap.size w w' := by
  by_cases hn : n0 ≤ 1048576
  case neg =>
    obtain ⟨g1, g2, _⟩ := h0
    obtain ⟨g3, g4, _⟩ := h1
    unfold maxLen at g2 g4
    go_enter Tryd.func8, Tryd.ntmps8
    go_wp2
    go_ret
    exact ⟨rfl, Below.refl _ _⟩
  by_cases hn1 : n1 ≤ 1048576
  case neg =>
    obtain ⟨g1, g2, _⟩ := h0
    obtain ⟨g3, g4, _⟩ := h1
    unfold maxLen at g2 g4
    go_enter Tryd.func8, Tryd.ntmps8
    go_wp2
    go_ret
    exact ⟨rfl, Below.refl _ _⟩
  go_enter Tryd.func8, Tryd.ntmps8
  go_wp2_with fail
  refine (DrawVersionOrder_any A0 n0 c0 w h0).mono ?_
  rintro e w1 ⟨a, b, ha, hb, rfl, hB⟩
  go_wp2_with fail
  refine (DrawVersionOrder_any A1 n1 c1 _ (h1.below hB)).mono ?_
  rintro e w2 ⟨c, d, hc, hd, rfl, hB'⟩
  replace hB := hB.trans (hB'.mono hB.size)
  clear hB'
  have hneg := versionOrder_neg a b
  have hlong := order_longer (a := a) (x := [48]) (n := 0) (by decide) (by rfl)
  rcases boolOf (versionOk a) with oa | oa
  · rcases order_vals a b with hk | hk | hk
    · rw [hk] at hneg
      replace hneg := Lib.hid hneg
      clear hlong
      replace hk := Lib.hid hk
      go_wp2_with fail
      refine (VersionOrder_any a b (by first | omega | (simp; done) | (simp; omega)) (by first | omega | (simp; done) | (simp; omega)) _).mono ?_
      rintro e w3 ⟨rfl, hB'⟩
      replace hB := hB.trans (hB'.mono hB.size)
      clear hB'
      rw [hk.out]
      go_wp2_with fail
      refine (specVersionOrder_any a b (by first | omega | (simp; done) | (simp; omega)) (by first | omega | (simp; done) | (simp; omega)) _).mono ?_
      rintro e w4 ⟨rfl, hB'⟩
      replace hB := hB.trans (hB'.mono hB.size)
      clear hB'
      rw [hk.out]
      go_wp2_with fail
      refine (VersionOrder_any b a (by first | omega | (simp; done) | (simp; omega)) (by first | omega | (simp; done) | (simp; omega)) _).mono ?_
      rintro e w5 ⟨rfl, hB'⟩
      replace hB := hB.trans (hB'.mono hB.size)
      clear hB'
      rw [hneg.out]
      go_wp2_with fail
      refine (specVersionOk_any a (by first | omega | (simp; done) | (simp; omega)) _).mono ?_
      rintro e w6 ⟨rfl, hB'⟩
      replace hB := hB.trans (hB'.mono hB.size)
      clear hB'
      rw [oa.out]
      go_wp2_with fail
      refine (specVersionOrder_any a b (by first | omega | (simp; done) | (simp; omega)) (by first | omega | (simp; done) | (simp; omega)) _).mono ?_
      rintro e w7 ⟨rfl, hB'⟩
      replace hB := hB.trans (hB'.mono hB.size)
      clear hB'
      rw [hk.out]
      go_wp2_with fail
      refine (VersionOrder_any b a (by first | omega | (simp; done) | (simp; omega)) (by first | omega | (simp; done) | (simp; omega)) _).mono ?_
      rintro e w8 ⟨rfl, hB'⟩
      replace hB := hB.trans (hB'.mono hB.size)
      clear hB'
      rw [hneg.out]
      go_wp2
      go_ret
      exact ⟨rfl, hB⟩
    · rw [hk] at hneg
      replace hneg := Lib.hid hneg
      clear hlong
      replace hk := Lib.hid hk
      go_wp2_with fail
      refine (VersionOrder_any a b (by first | omega | (simp; done) | (simp; omega)) (by first | omega | (simp; done) | (simp; omega)) _).mono ?_
      rintro e w3 ⟨rfl, hB'⟩
      replace hB := hB.trans (hB'.mono hB.size)
      clear hB'
      rw [hk.out]
      go_wp2_with fail
      refine (specVersionOrder_any a b (by first | omega | (simp; done) | (simp; omega)) (by first | omega | (simp; done) | (simp; omega)) _).mono ?_
      rintro e w4 ⟨rfl, hB'⟩
      replace hB := hB.trans (hB'.mono hB.size)
      clear hB'
      rw [hk.out]
      go_wp2_with fail
      refine (VersionOrder_any b a (by first | omega | (simp; done) | (simp; omega)) (by first | omega | (simp; done) | (simp; omega)) _).mono ?_
      rintro e w5 ⟨rfl, hB'⟩
      replace hB := hB.trans (hB'.mono hB.size)
      clear hB'
      rw [hneg.out]
      go_wp2_with fail
      refine (specVersionOk_any a (by first | omega | (simp; done) | (simp; omega)) _).mono ?_
      rintro e w6 ⟨rfl, hB'⟩
      replace hB := hB.trans (hB'.mono hB.size)
      clear hB'
      rw [oa.out]
      go_wp2_with fail
      refine (specVersionOrder_any a b (by first | omega | (simp; done) | (simp; omega)) (by first | omega | (simp; done) | (simp; omega)) _).mono ?_
      rintro e w7 ⟨rfl, hB'⟩
      replace hB := hB.trans (hB'.mono hB.size)
      clear hB'
      rw [hk.out]
      go_wp2_with fail
      refine (VersionOrder_any b a (by first | omega | (simp; done) | (simp; omega)) (by first | omega | (simp; done) | (simp; omega)) _).mono ?_
      rintro e w8 ⟨rfl, hB'⟩
      replace hB := hB.trans (hB'.mono hB.size)
      clear hB'
      rw [hneg.out]
      go_wp2
      go_ret
      exact ⟨rfl, hB⟩
    · rw [hk] at hneg
      replace hneg := Lib.hid hneg
      clear hlong
      replace hk := Lib.hid hk
      go_wp2_with fail
      refine (VersionOrder_any a b (by first | omega | (simp; done) | (simp; omega)) (by first | omega | (simp; done) | (simp; omega)) _).mono ?_
      rintro e w3 ⟨rfl, hB'⟩
      replace hB := hB.trans (hB'.mono hB.size)
      clear hB'
      rw [hk.out]
      go_wp2_with fail
      refine (specVersionOrder_any a b (by first | omega | (simp; done) | (simp; omega)) (by first | omega | (simp; done) | (simp; omega)) _).mono ?_
      rintro e w4 ⟨rfl, hB'⟩
      replace hB := hB.trans (hB'.mono hB.size)
      clear hB'
      rw [hk.out]
      go_wp2_with fail
      refine (VersionOrder_any b a (by first | omega | (simp; done) | (simp; omega)) (by first | omega | (simp; done) | (simp; omega)) _).mono ?_
      rintro e w5 ⟨rfl, hB'⟩
      replace hB := hB.trans (hB'.mono hB.size)
      clear hB'
      rw [hneg.out]
      go_wp2_with fail
      refine (specVersionOk_any a (by first | omega | (simp; done) | (simp; omega)) _).mono ?_
      rintro e w6 ⟨rfl, hB'⟩
      replace hB := hB.trans (hB'.mono hB.size)
      clear hB'
      rw [oa.out]
      go_wp2_with fail
      refine (specVersionOrder_any a b (by first | omega | (simp; done) | (simp; omega)) (by first | omega | (simp; done) | (simp; omega)) _).mono ?_
      rintro e w7 ⟨rfl, hB'⟩
      replace hB := hB.trans (hB'.mono hB.size)
      clear hB'
      rw [hk.out]
      go_wp2_with fail
      refine (VersionOrder_any b a (by first | omega | (simp; done) | (simp; omega)) (by first | omega | (simp; done) | (simp; omega)) _).mono ?_
      rintro e w8 ⟨rfl, hB'⟩
      replace hB := hB.trans (hB'.mono hB.size)
      clear hB'
      rw [hneg.out]
      go_wp2
      go_ret
      exact ⟨rfl, hB⟩
  · rcases boolOf (versionOk b) with ob | ob
    · rcases order_vals a b with hk | hk | hk
      · rw [hk] at hneg
        replace hneg := Lib.hid hneg
        clear hlong
        replace hk := Lib.hid hk
        go_wp2_with fail
        refine (VersionOrder_any a b (by first | omega | (simp; done) | (simp; omega)) (by first | omega | (simp; done) | (simp; omega)) _).mono ?_
        rintro e w3 ⟨rfl, hB'⟩
        replace hB := hB.trans (hB'.mono hB.size)
        clear hB'
        rw [hk.out]
        go_wp2_with fail
        refine (specVersionOrder_any a b (by first | omega | (simp; done) | (simp; omega)) (by first | omega | (simp; done) | (simp; omega)) _).mono ?_
        rintro e w4 ⟨rfl, hB'⟩
        replace hB := hB.trans (hB'.mono hB.size)
        clear hB'
        rw [hk.out]
        go_wp2_with fail
        refine (VersionOrder_any b a (by first | omega | (simp; done) | (simp; omega)) (by first | omega | (simp; done) | (simp; omega)) _).mono ?_
        rintro e w5 ⟨rfl, hB'⟩
        replace hB := hB.trans (hB'.mono hB.size)
        clear hB'
        rw [hneg.out]
        go_wp2_with fail
        refine (specVersionOk_any a (by first | omega | (simp; done) | (simp; omega)) _).mono ?_
        rintro e w6 ⟨rfl, hB'⟩
        replace hB := hB.trans (hB'.mono hB.size)
        clear hB'
        rw [oa.out]
        go_wp2_with fail
        refine (specVersionOk_any b (by first | omega | (simp; done) | (simp; omega)) _).mono ?_
        rintro e w7 ⟨rfl, hB'⟩
        replace hB := hB.trans (hB'.mono hB.size)
        clear hB'
        rw [ob.out]
        go_wp2_with fail
        refine (specVersionOrder_any a b (by first | omega | (simp; done) | (simp; omega)) (by first | omega | (simp; done) | (simp; omega)) _).mono ?_
        rintro e w8 ⟨rfl, hB'⟩
        replace hB := hB.trans (hB'.mono hB.size)
        clear hB'
        rw [hk.out]
        go_wp2_with fail
        refine (VersionOrder_any b a (by first | omega | (simp; done) | (simp; omega)) (by first | omega | (simp; done) | (simp; omega)) _).mono ?_
        rintro e w9 ⟨rfl, hB'⟩
        replace hB := hB.trans (hB'.mono hB.size)
        clear hB'
        rw [hneg.out]
        go_wp2
        go_ret
        exact ⟨rfl, hB⟩
      · rw [hk] at hneg
        replace hneg := Lib.hid hneg
        clear hlong
        replace hk := Lib.hid hk
        go_wp2_with fail
        refine (VersionOrder_any a b (by first | omega | (simp; done) | (simp; omega)) (by first | omega | (simp; done) | (simp; omega)) _).mono ?_
        rintro e w3 ⟨rfl, hB'⟩
        replace hB := hB.trans (hB'.mono hB.size)
        clear hB'
        rw [hk.out]
        go_wp2_with fail
        refine (specVersionOrder_any a b (by first | omega | (simp; done) | (simp; omega)) (by first | omega | (simp; done) | (simp; omega)) _).mono ?_
        rintro e w4 ⟨rfl, hB'⟩
        replace hB := hB.trans (hB'.mono hB.size)
        clear hB'
        rw [hk.out]
        go_wp2_with fail
        refine (VersionOrder_any b a (by first | omega | (simp; done) | (simp; omega)) (by first | omega | (simp; done) | (simp; omega)) _).mono ?_
        rintro e w5 ⟨rfl, hB'⟩
        replace hB := hB.trans (hB'.mono hB.size)
        clear hB'
        rw [hneg.out]
        go_wp2_with fail
        refine (specVersionOk_any a (by first | omega | (simp; done) | (simp; omega)) _).mono ?_
        rintro e w6 ⟨rfl, hB'⟩
        replace hB := hB.trans (hB'.mono hB.size)
        clear hB'
        rw [oa.out]
        go_wp2_with fail
        refine (specVersionOk_any b (by first | omega | (simp; done) | (simp; omega)) _).mono ?_
        rintro e w7 ⟨rfl, hB'⟩
        replace hB := hB.trans (hB'.mono hB.size)
        clear hB'
        rw [ob.out]
        go_wp2_with fail
        refine (specVersionOrder_any a b (by first | omega | (simp; done) | (simp; omega)) (by first | omega | (simp; done) | (simp; omega)) _).mono ?_
        rintro e w8 ⟨rfl, hB'⟩
        replace hB := hB.trans (hB'.mono hB.size)
        clear hB'
        rw [hk.out]
        go_wp2_with fail
        refine (VersionOrder_any b a (by first | omega | (simp; done) | (simp; omega)) (by first | omega | (simp; done) | (simp; omega)) _).mono ?_
        rintro e w9 ⟨rfl, hB'⟩
        replace hB := hB.trans (hB'.mono hB.size)
        clear hB'
        rw [hneg.out]
        go_wp2
        go_ret
        exact ⟨rfl, hB⟩
      · rw [hk] at hneg
        replace hneg := Lib.hid hneg
        clear hlong
        replace hk := Lib.hid hk
        go_wp2_with fail
        refine (VersionOrder_any a b (by first | omega | (simp; done) | (simp; omega)) (by first | omega | (simp; done) | (simp; omega)) _).mono ?_
        rintro e w3 ⟨rfl, hB'⟩
        replace hB := hB.trans (hB'.mono hB.size)
        clear hB'
        rw [hk.out]
        go_wp2_with fail
        refine (specVersionOrder_any a b (by first | omega | (simp; done) | (simp; omega)) (by first | omega | (simp; done) | (simp; omega)) _).mono ?_
        rintro e w4 ⟨rfl, hB'⟩
        replace hB := hB.trans (hB'.mono hB.size)
        clear hB'
        rw [hk.out]
        go_wp2_with fail
        refine (VersionOrder_any b a (by first | omega | (simp; done) | (simp; omega)) (by first | omega | (simp; done) | (simp; omega)) _).mono ?_
        rintro e w5 ⟨rfl, hB'⟩
        replace hB := hB.trans (hB'.mono hB.size)
        clear hB'
        rw [hneg.out]
        go_wp2_with fail
        refine (specVersionOk_any a (by first | omega | (simp; done) | (simp; omega)) _).mono ?_
        rintro e w6 ⟨rfl, hB'⟩
        replace hB := hB.trans (hB'.mono hB.size)
        clear hB'
        rw [oa.out]
        go_wp2_with fail
        refine (specVersionOk_any b (by first | omega | (simp; done) | (simp; omega)) _).mono ?_
        rintro e w7 ⟨rfl, hB'⟩
        replace hB := hB.trans (hB'.mono hB.size)
        clear hB'
        rw [ob.out]
        go_wp2_with fail
        refine (specVersionOrder_any a b (by first | omega | (simp; done) | (simp; omega)) (by first | omega | (simp; done) | (simp; omega)) _).mono ?_
        rintro e w8 ⟨rfl, hB'⟩
        replace hB := hB.trans (hB'.mono hB.size)
        clear hB'
        rw [hk.out]
        go_wp2_with fail
        refine (VersionOrder_any b a (by first | omega | (simp; done) | (simp; omega)) (by first | omega | (simp; done) | (simp; omega)) _).mono ?_
        rintro e w9 ⟨rfl, hB'⟩
        replace hB := hB.trans (hB'.mono hB.size)
        clear hB'
        rw [hneg.out]
        go_wp2
        go_ret
        exact ⟨rfl, hB⟩
    · rcases boolOf (versionOk c) with oc | oc
      · rcases order_vals a b with hk | hk | hk
        · rw [hk] at hneg
          replace hneg := Lib.hid hneg
          clear hlong
          replace hk := Lib.hid hk
          go_wp2_with fail
          refine (VersionOrder_any a b (by first | omega | (simp; done) | (simp; omega)) (by first | omega | (simp; done) | (simp; omega)) _).mono ?_
          rintro e w3 ⟨rfl, hB'⟩
          replace hB := hB.trans (hB'.mono hB.size)
          clear hB'
          rw [hk.out]
          go_wp2_with fail
          refine (specVersionOrder_any a b (by first | omega | (simp; done) | (simp; omega)) (by first | omega | (simp; done) | (simp; omega)) _).mono ?_
          rintro e w4 ⟨rfl, hB'⟩
          replace hB := hB.trans (hB'.mono hB.size)
          clear hB'
          rw [hk.out]
          go_wp2_with fail
          refine (VersionOrder_any b a (by first | omega | (simp; done) | (simp; omega)) (by first | omega | (simp; done) | (simp; omega)) _).mono ?_
          rintro e w5 ⟨rfl, hB'⟩
          replace hB := hB.trans (hB'.mono hB.size)
          clear hB'
          rw [hneg.out]
          go_wp2_with fail
          refine (specVersionOk_any a (by first | omega | (simp; done) | (simp; omega)) _).mono ?_
          rintro e w6 ⟨rfl, hB'⟩
          replace hB := hB.trans (hB'.mono hB.size)
          clear hB'
          rw [oa.out]
          go_wp2_with fail
          refine (specVersionOk_any b (by first | omega | (simp; done) | (simp; omega)) _).mono ?_
          rintro e w7 ⟨rfl, hB'⟩
          replace hB := hB.trans (hB'.mono hB.size)
          clear hB'
          rw [ob.out]
          go_wp2_with fail
          refine (specVersionOk_any c (by first | omega | (simp; done) | (simp; omega)) _).mono ?_
          rintro e w8 ⟨rfl, hB'⟩
          replace hB := hB.trans (hB'.mono hB.size)
          clear hB'
          rw [oc.out]
          go_wp2_with fail
          refine (specVersionOrder_any a b (by first | omega | (simp; done) | (simp; omega)) (by first | omega | (simp; done) | (simp; omega)) _).mono ?_
          rintro e w9 ⟨rfl, hB'⟩
          replace hB := hB.trans (hB'.mono hB.size)
          clear hB'
          rw [hk.out]
          go_wp2_with fail
          refine (VersionOrder_any b a (by first | omega | (simp; done) | (simp; omega)) (by first | omega | (simp; done) | (simp; omega)) _).mono ?_
          rintro e w10 ⟨rfl, hB'⟩
          replace hB := hB.trans (hB'.mono hB.size)
          clear hB'
          rw [hneg.out]
          go_wp2
          go_ret
          exact ⟨rfl, hB⟩
        · rw [hk] at hneg
          replace hneg := Lib.hid hneg
          clear hlong
          replace hk := Lib.hid hk
          go_wp2_with fail
          refine (VersionOrder_any a b (by first | omega | (simp; done) | (simp; omega)) (by first | omega | (simp; done) | (simp; omega)) _).mono ?_
          rintro e w3 ⟨rfl, hB'⟩
          replace hB := hB.trans (hB'.mono hB.size)
          clear hB'
          rw [hk.out]
          go_wp2_with fail
          refine (specVersionOrder_any a b (by first | omega | (simp; done) | (simp; omega)) (by first | omega | (simp; done) | (simp; omega)) _).mono ?_
          rintro e w4 ⟨rfl, hB'⟩
          replace hB := hB.trans (hB'.mono hB.size)
          clear hB'
          rw [hk.out]
          go_wp2_with fail
          refine (VersionOrder_any b a (by first | omega | (simp; done) | (simp; omega)) (by first | omega | (simp; done) | (simp; omega)) _).mono ?_
          rintro e w5 ⟨rfl, hB'⟩
          replace hB := hB.trans (hB'.mono hB.size)
          clear hB'
          rw [hneg.out]
          go_wp2_with fail
          refine (specVersionOk_any a (by first | omega | (simp; done) | (simp; omega)) _).mono ?_
          rintro e w6 ⟨rfl, hB'⟩
          replace hB := hB.trans (hB'.mono hB.size)
          clear hB'
          rw [oa.out]
          go_wp2_with fail
          refine (specVersionOk_any b (by first | omega | (simp; done) | (simp; omega)) _).mono ?_
          rintro e w7 ⟨rfl, hB'⟩
          replace hB := hB.trans (hB'.mono hB.size)
          clear hB'
          rw [ob.out]
          go_wp2_with fail
          refine (specVersionOk_any c (by first | omega | (simp; done) | (simp; omega)) _).mono ?_
          rintro e w8 ⟨rfl, hB'⟩
          replace hB := hB.trans (hB'.mono hB.size)
          clear hB'
          rw [oc.out]
          go_wp2_with fail
          refine (specVersionOrder_any a b (by first | omega | (simp; done) | (simp; omega)) (by first | omega | (simp; done) | (simp; omega)) _).mono ?_
          rintro e w9 ⟨rfl, hB'⟩
          replace hB := hB.trans (hB'.mono hB.size)
          clear hB'
          rw [hk.out]
          go_wp2_with fail
          refine (VersionOrder_any b a (by first | omega | (simp; done) | (simp; omega)) (by first | omega | (simp; done) | (simp; omega)) _).mono ?_
          rintro e w10 ⟨rfl, hB'⟩
          replace hB := hB.trans (hB'.mono hB.size)
          clear hB'
          rw [hneg.out]
          go_wp2
          go_ret
          exact ⟨rfl, hB⟩
        · rw [hk] at hneg
          replace hneg := Lib.hid hneg
          clear hlong
          replace hk := Lib.hid hk
          go_wp2_with fail
          refine (VersionOrder_any a b (by first | omega | (simp; done) | (simp; omega)) (by first | omega | (simp; done) | (simp; omega)) _).mono ?_
          rintro e w3 ⟨rfl, hB'⟩
          replace hB := hB.trans (hB'.mono hB.size)
          clear hB'
          rw [hk.out]
          go_wp2_with fail
          refine (specVersionOrder_any a b (by first | omega | (simp; done) | (simp; omega)) (by first | omega | (simp; done) | (simp; omega)) _).mono ?_
          rintro e w4 ⟨rfl, hB'⟩
          replace hB := hB.trans (hB'.mono hB.size)
          clear hB'
          rw [hk.out]
          go_wp2_with fail
          refine (VersionOrder_any b a (by first | omega | (simp; done) | (simp; omega)) (by first | omega | (simp; done) | (simp; omega)) _).mono ?_
          rintro e w5 ⟨rfl, hB'⟩
          replace hB := hB.trans (hB'.mono hB.size)
          clear hB'
          rw [hneg.out]
          go_wp2_with fail
          refine (specVersionOk_any a (by first | omega | (simp; done) | (simp; omega)) _).mono ?_
          rintro e w6 ⟨rfl, hB'⟩
          replace hB := hB.trans (hB'.mono hB.size)
          clear hB'
          rw [oa.out]
          go_wp2_with fail
          refine (specVersionOk_any b (by first | omega | (simp; done) | (simp; omega)) _).mono ?_
          rintro e w7 ⟨rfl, hB'⟩
          replace hB := hB.trans (hB'.mono hB.size)
          clear hB'
          rw [ob.out]
          go_wp2_with fail
          refine (specVersionOk_any c (by first | omega | (simp; done) | (simp; omega)) _).mono ?_
          rintro e w8 ⟨rfl, hB'⟩
          replace hB := hB.trans (hB'.mono hB.size)
          clear hB'
          rw [oc.out]
          go_wp2_with fail
          refine (specVersionOrder_any a b (by first | omega | (simp; done) | (simp; omega)) (by first | omega | (simp; done) | (simp; omega)) _).mono ?_
          rintro e w9 ⟨rfl, hB'⟩
          replace hB := hB.trans (hB'.mono hB.size)
          clear hB'
          rw [hk.out]
          go_wp2_with fail
          refine (VersionOrder_any b a (by first | omega | (simp; done) | (simp; omega)) (by first | omega | (simp; done) | (simp; omega)) _).mono ?_
          rintro e w10 ⟨rfl, hB'⟩
          replace hB := hB.trans (hB'.mono hB.size)
          clear hB'
          rw [hneg.out]
          go_wp2
          go_ret
          exact ⟨rfl, hB⟩
      · have hsame := order_same oa.out ob.out
        have htr := versionOrder_trans oa.out ob.out oc.out
        rcases boolOf (versionOk (a ++ [46, 48])) with ol | ol
        · clear hlong
          rcases order_vals a b with hk | hk | hk
          · rw [hk] at hneg
            replace hneg := Lib.hid hneg
            rw [hk] at hsame
            have hab : (a == b) = false := by simpa using hsame.symm
            clear hsame
            replace htr := htr (by rw [hk]; decide)
            replace hk := Lib.hid hk
            rcases order_vals b c with hm | hm | hm
            · replace htr := Lib.hid (htr (by rw [hm]; decide))
              replace hm := Lib.hid hm
              go_wp2_with fail
              refine (VersionOrder_any a b (by first | omega | (simp; done) | (simp; omega)) (by first | omega | (simp; done) | (simp; omega)) _).mono ?_
              rintro e w3 ⟨rfl, hB'⟩
              replace hB := hB.trans (hB'.mono hB.size)
              clear hB'
              rw [hk.out]
              go_wp2_with fail
              refine (specVersionOrder_any a b (by first | omega | (simp; done) | (simp; omega)) (by first | omega | (simp; done) | (simp; omega)) _).mono ?_
              rintro e w4 ⟨rfl, hB'⟩
              replace hB := hB.trans (hB'.mono hB.size)
              clear hB'
              rw [hk.out]
              go_wp2_with fail
              refine (VersionOrder_any b a (by first | omega | (simp; done) | (simp; omega)) (by first | omega | (simp; done) | (simp; omega)) _).mono ?_
              rintro e w5 ⟨rfl, hB'⟩
              replace hB := hB.trans (hB'.mono hB.size)
              clear hB'
              rw [hneg.out]
              go_wp2_with fail
              refine (specVersionOk_any a (by first | omega | (simp; done) | (simp; omega)) _).mono ?_
              rintro e w6 ⟨rfl, hB'⟩
              replace hB := hB.trans (hB'.mono hB.size)
              clear hB'
              rw [oa.out]
              go_wp2_with fail
              refine (specVersionOk_any b (by first | omega | (simp; done) | (simp; omega)) _).mono ?_
              rintro e w7 ⟨rfl, hB'⟩
              replace hB := hB.trans (hB'.mono hB.size)
              clear hB'
              rw [ob.out]
              go_wp2_with fail
              refine (specVersionOk_any c (by first | omega | (simp; done) | (simp; omega)) _).mono ?_
              rintro e w8 ⟨rfl, hB'⟩
              replace hB := hB.trans (hB'.mono hB.size)
              clear hB'
              rw [oc.out]
              go_wp2_with fail
              refine (VersionOrder_any b c (by first | omega | (simp; done) | (simp; omega)) (by first | omega | (simp; done) | (simp; omega)) _).mono ?_
              rintro e w9 ⟨rfl, hB'⟩
              replace hB := hB.trans (hB'.mono hB.size)
              clear hB'
              rw [hm.out]
              have hle := htr.out
              obtain ⟨l, hl2⟩ : ∃ l, versionOrder a c = l := ⟨_, rfl⟩
              rw [hl2] at hle
              replace hl2 := Lib.hid hl2
              go_wp2_with fail
              refine (VersionOrder_any a c (by first | omega | (simp; done) | (simp; omega)) (by first | omega | (simp; done) | (simp; omega)) _).mono ?_
              rintro e w10 ⟨rfl, hB'⟩
              replace hB := hB.trans (hB'.mono hB.size)
              clear hB'
              rw [hl2.out]
              go_wp2_with fail
              refine (VersionOk_any (a ++ [46, 48]) (by first | omega | (simp; done) | (simp; omega)) _).mono ?_
              rintro e w11 ⟨rfl, hB'⟩
              replace hB := hB.trans (hB'.mono hB.size)
              clear hB'
              rw [ol.out]
              go_wp2
              go_ret
              exact ⟨rfl, hB⟩
            · replace htr := Lib.hid (htr (by rw [hm]; decide))
              replace hm := Lib.hid hm
              go_wp2_with fail
              refine (VersionOrder_any a b (by first | omega | (simp; done) | (simp; omega)) (by first | omega | (simp; done) | (simp; omega)) _).mono ?_
              rintro e w3 ⟨rfl, hB'⟩
              replace hB := hB.trans (hB'.mono hB.size)
              clear hB'
              rw [hk.out]
              go_wp2_with fail
              refine (specVersionOrder_any a b (by first | omega | (simp; done) | (simp; omega)) (by first | omega | (simp; done) | (simp; omega)) _).mono ?_
              rintro e w4 ⟨rfl, hB'⟩
              replace hB := hB.trans (hB'.mono hB.size)
              clear hB'
              rw [hk.out]
              go_wp2_with fail
              refine (VersionOrder_any b a (by first | omega | (simp; done) | (simp; omega)) (by first | omega | (simp; done) | (simp; omega)) _).mono ?_
              rintro e w5 ⟨rfl, hB'⟩
              replace hB := hB.trans (hB'.mono hB.size)
              clear hB'
              rw [hneg.out]
              go_wp2_with fail
              refine (specVersionOk_any a (by first | omega | (simp; done) | (simp; omega)) _).mono ?_
              rintro e w6 ⟨rfl, hB'⟩
              replace hB := hB.trans (hB'.mono hB.size)
              clear hB'
              rw [oa.out]
              go_wp2_with fail
              refine (specVersionOk_any b (by first | omega | (simp; done) | (simp; omega)) _).mono ?_
              rintro e w7 ⟨rfl, hB'⟩
              replace hB := hB.trans (hB'.mono hB.size)
              clear hB'
              rw [ob.out]
              go_wp2_with fail
              refine (specVersionOk_any c (by first | omega | (simp; done) | (simp; omega)) _).mono ?_
              rintro e w8 ⟨rfl, hB'⟩
              replace hB := hB.trans (hB'.mono hB.size)
              clear hB'
              rw [oc.out]
              go_wp2_with fail
              refine (VersionOrder_any b c (by first | omega | (simp; done) | (simp; omega)) (by first | omega | (simp; done) | (simp; omega)) _).mono ?_
              rintro e w9 ⟨rfl, hB'⟩
              replace hB := hB.trans (hB'.mono hB.size)
              clear hB'
              rw [hm.out]
              have hle := htr.out
              obtain ⟨l, hl2⟩ : ∃ l, versionOrder a c = l := ⟨_, rfl⟩
              rw [hl2] at hle
              replace hl2 := Lib.hid hl2
              go_wp2_with fail
              refine (VersionOrder_any a c (by first | omega | (simp; done) | (simp; omega)) (by first | omega | (simp; done) | (simp; omega)) _).mono ?_
              rintro e w10 ⟨rfl, hB'⟩
              replace hB := hB.trans (hB'.mono hB.size)
              clear hB'
              rw [hl2.out]
              go_wp2_with fail
              refine (VersionOk_any (a ++ [46, 48]) (by first | omega | (simp; done) | (simp; omega)) _).mono ?_
              rintro e w11 ⟨rfl, hB'⟩
              replace hB := hB.trans (hB'.mono hB.size)
              clear hB'
              rw [ol.out]
              go_wp2
              go_ret
              exact ⟨rfl, hB⟩
            · clear htr
              replace hm := Lib.hid hm
              go_wp2_with fail
              refine (VersionOrder_any a b (by first | omega | (simp; done) | (simp; omega)) (by first | omega | (simp; done) | (simp; omega)) _).mono ?_
              rintro e w3 ⟨rfl, hB'⟩
              replace hB := hB.trans (hB'.mono hB.size)
              clear hB'
              rw [hk.out]
              go_wp2_with fail
              refine (specVersionOrder_any a b (by first | omega | (simp; done) | (simp; omega)) (by first | omega | (simp; done) | (simp; omega)) _).mono ?_
              rintro e w4 ⟨rfl, hB'⟩
              replace hB := hB.trans (hB'.mono hB.size)
              clear hB'
              rw [hk.out]
              go_wp2_with fail
              refine (VersionOrder_any b a (by first | omega | (simp; done) | (simp; omega)) (by first | omega | (simp; done) | (simp; omega)) _).mono ?_
              rintro e w5 ⟨rfl, hB'⟩
              replace hB := hB.trans (hB'.mono hB.size)
              clear hB'
              rw [hneg.out]
              go_wp2_with fail
              refine (specVersionOk_any a (by first | omega | (simp; done) | (simp; omega)) _).mono ?_
              rintro e w6 ⟨rfl, hB'⟩
              replace hB := hB.trans (hB'.mono hB.size)
              clear hB'
              rw [oa.out]
              go_wp2_with fail
              refine (specVersionOk_any b (by first | omega | (simp; done) | (simp; omega)) _).mono ?_
              rintro e w7 ⟨rfl, hB'⟩
              replace hB := hB.trans (hB'.mono hB.size)
              clear hB'
              rw [ob.out]
              go_wp2_with fail
              refine (specVersionOk_any c (by first | omega | (simp; done) | (simp; omega)) _).mono ?_
              rintro e w8 ⟨rfl, hB'⟩
              replace hB := hB.trans (hB'.mono hB.size)
              clear hB'
              rw [oc.out]
              go_wp2_with fail
              refine (VersionOrder_any b c (by first | omega | (simp; done) | (simp; omega)) (by first | omega | (simp; done) | (simp; omega)) _).mono ?_
              rintro e w9 ⟨rfl, hB'⟩
              replace hB := hB.trans (hB'.mono hB.size)
              clear hB'
              rw [hm.out]
              go_wp2_with fail
              refine (VersionOk_any (a ++ [46, 48]) (by first | omega | (simp; done) | (simp; omega)) _).mono ?_
              rintro e w10 ⟨rfl, hB'⟩
              replace hB := hB.trans (hB'.mono hB.size)
              clear hB'
              rw [ol.out]
              go_wp2
              go_ret
              exact ⟨rfl, hB⟩
          · rw [hk] at hneg
            replace hneg := Lib.hid hneg
            rw [hk] at hsame
            have hab : a = b := by simpa using hsame.symm
            subst hab
            clear hsame
            replace htr := htr (by rw [hk]; decide)
            replace hk := Lib.hid hk
            rcases order_vals a c with hm | hm | hm
            · replace htr := Lib.hid (htr (by rw [hm]; decide))
              replace hm := Lib.hid hm
              go_wp2_with fail
              refine (VersionOrder_any a a (by first | omega | (simp; done) | (simp; omega)) (by first | omega | (simp; done) | (simp; omega)) _).mono ?_
              rintro e w3 ⟨rfl, hB'⟩
              replace hB := hB.trans (hB'.mono hB.size)
              clear hB'
              rw [hk.out]
              go_wp2_with fail
              refine (specVersionOrder_any a a (by first | omega | (simp; done) | (simp; omega)) (by first | omega | (simp; done) | (simp; omega)) _).mono ?_
              rintro e w4 ⟨rfl, hB'⟩
              replace hB := hB.trans (hB'.mono hB.size)
              clear hB'
              rw [hk.out]
              go_wp2_with fail
              refine (VersionOrder_any a a (by first | omega | (simp; done) | (simp; omega)) (by first | omega | (simp; done) | (simp; omega)) _).mono ?_
              rintro e w5 ⟨rfl, hB'⟩
              replace hB := hB.trans (hB'.mono hB.size)
              clear hB'
              rw [hneg.out]
              go_wp2_with fail
              refine (specVersionOk_any a (by first | omega | (simp; done) | (simp; omega)) _).mono ?_
              rintro e w6 ⟨rfl, hB'⟩
              replace hB := hB.trans (hB'.mono hB.size)
              clear hB'
              rw [oa.out]
              go_wp2_with fail
              refine (specVersionOk_any a (by first | omega | (simp; done) | (simp; omega)) _).mono ?_
              rintro e w7 ⟨rfl, hB'⟩
              replace hB := hB.trans (hB'.mono hB.size)
              clear hB'
              rw [ob.out]
              go_wp2_with fail
              refine (specVersionOk_any c (by first | omega | (simp; done) | (simp; omega)) _).mono ?_
              rintro e w8 ⟨rfl, hB'⟩
              replace hB := hB.trans (hB'.mono hB.size)
              clear hB'
              rw [oc.out]
              go_wp2_with fail
              refine (VersionOrder_any a c (by first | omega | (simp; done) | (simp; omega)) (by first | omega | (simp; done) | (simp; omega)) _).mono ?_
              rintro e w9 ⟨rfl, hB'⟩
              replace hB := hB.trans (hB'.mono hB.size)
              clear hB'
              rw [hm.out]
              go_wp2_with fail
              refine (VersionOrder_any a c (by first | omega | (simp; done) | (simp; omega)) (by first | omega | (simp; done) | (simp; omega)) _).mono ?_
              rintro e w10 ⟨rfl, hB'⟩
              replace hB := hB.trans (hB'.mono hB.size)
              clear hB'
              rw [hm.out]
              go_wp2_with fail
              refine (VersionOk_any (a ++ [46, 48]) (by first | omega | (simp; done) | (simp; omega)) _).mono ?_
              rintro e w11 ⟨rfl, hB'⟩
              replace hB := hB.trans (hB'.mono hB.size)
              clear hB'
              rw [ol.out]
              go_wp2
              go_ret
              exact ⟨rfl, hB⟩
            · replace htr := Lib.hid (htr (by rw [hm]; decide))
              replace hm := Lib.hid hm
              go_wp2_with fail
              refine (VersionOrder_any a a (by first | omega | (simp; done) | (simp; omega)) (by first | omega | (simp; done) | (simp; omega)) _).mono ?_
              rintro e w3 ⟨rfl, hB'⟩
              replace hB := hB.trans (hB'.mono hB.size)
              clear hB'
              rw [hk.out]
              go_wp2_with fail
              refine (specVersionOrder_any a a (by first | omega | (simp; done) | (simp; omega)) (by first | omega | (simp; done) | (simp; omega)) _).mono ?_
              rintro e w4 ⟨rfl, hB'⟩
              replace hB := hB.trans (hB'.mono hB.size)
              clear hB'
              rw [hk.out]
              go_wp2_with fail
              refine (VersionOrder_any a a (by first | omega | (simp; done) | (simp; omega)) (by first | omega | (simp; done) | (simp; omega)) _).mono ?_
              rintro e w5 ⟨rfl, hB'⟩
              replace hB := hB.trans (hB'.mono hB.size)
              clear hB'
              rw [hneg.out]
              go_wp2_with fail
              refine (specVersionOk_any a (by first | omega | (simp; done) | (simp; omega)) _).mono ?_
              rintro e w6 ⟨rfl, hB'⟩
              replace hB := hB.trans (hB'.mono hB.size)
              clear hB'
              rw [oa.out]
              go_wp2_with fail
              refine (specVersionOk_any a (by first | omega | (simp; done) | (simp; omega)) _).mono ?_
              rintro e w7 ⟨rfl, hB'⟩
              replace hB := hB.trans (hB'.mono hB.size)
              clear hB'
              rw [ob.out]
              go_wp2_with fail
              refine (specVersionOk_any c (by first | omega | (simp; done) | (simp; omega)) _).mono ?_
              rintro e w8 ⟨rfl, hB'⟩
              replace hB := hB.trans (hB'.mono hB.size)
              clear hB'
              rw [oc.out]
              go_wp2_with fail
              refine (VersionOrder_any a c (by first | omega | (simp; done) | (simp; omega)) (by first | omega | (simp; done) | (simp; omega)) _).mono ?_
              rintro e w9 ⟨rfl, hB'⟩
              replace hB := hB.trans (hB'.mono hB.size)
              clear hB'
              rw [hm.out]
              go_wp2_with fail
              refine (VersionOrder_any a c (by first | omega | (simp; done) | (simp; omega)) (by first | omega | (simp; done) | (simp; omega)) _).mono ?_
              rintro e w10 ⟨rfl, hB'⟩
              replace hB := hB.trans (hB'.mono hB.size)
              clear hB'
              rw [hm.out]
              go_wp2_with fail
              refine (VersionOk_any (a ++ [46, 48]) (by first | omega | (simp; done) | (simp; omega)) _).mono ?_
              rintro e w11 ⟨rfl, hB'⟩
              replace hB := hB.trans (hB'.mono hB.size)
              clear hB'
              rw [ol.out]
              go_wp2
              go_ret
              exact ⟨rfl, hB⟩
            · clear htr
              replace hm := Lib.hid hm
              go_wp2_with fail
              refine (VersionOrder_any a a (by first | omega | (simp; done) | (simp; omega)) (by first | omega | (simp; done) | (simp; omega)) _).mono ?_
              rintro e w3 ⟨rfl, hB'⟩
              replace hB := hB.trans (hB'.mono hB.size)
              clear hB'
              rw [hk.out]
              go_wp2_with fail
              refine (specVersionOrder_any a a (by first | omega | (simp; done) | (simp; omega)) (by first | omega | (simp; done) | (simp; omega)) _).mono ?_
              rintro e w4 ⟨rfl, hB'⟩
              replace hB := hB.trans (hB'.mono hB.size)
              clear hB'
              rw [hk.out]
              go_wp2_with fail
              refine (VersionOrder_any a a (by first | omega | (simp; done) | (simp; omega)) (by first | omega | (simp; done) | (simp; omega)) _).mono ?_
              rintro e w5 ⟨rfl, hB'⟩
              replace hB := hB.trans (hB'.mono hB.size)
              clear hB'
              rw [hneg.out]
              go_wp2_with fail
              refine (specVersionOk_any a (by first | omega | (simp; done) | (simp; omega)) _).mono ?_
              rintro e w6 ⟨rfl, hB'⟩
              replace hB := hB.trans (hB'.mono hB.size)
              clear hB'
              rw [oa.out]
              go_wp2_with fail
              refine (specVersionOk_any a (by first | omega | (simp; done) | (simp; omega)) _).mono ?_
              rintro e w7 ⟨rfl, hB'⟩
              replace hB := hB.trans (hB'.mono hB.size)
              clear hB'
              rw [ob.out]
              go_wp2_with fail
              refine (specVersionOk_any c (by first | omega | (simp; done) | (simp; omega)) _).mono ?_
              rintro e w8 ⟨rfl, hB'⟩
              replace hB := hB.trans (hB'.mono hB.size)
              clear hB'
              rw [oc.out]
              go_wp2_with fail
              refine (VersionOrder_any a c (by first | omega | (simp; done) | (simp; omega)) (by first | omega | (simp; done) | (simp; omega)) _).mono ?_
              rintro e w9 ⟨rfl, hB'⟩
              replace hB := hB.trans (hB'.mono hB.size)
              clear hB'
              rw [hm.out]
              go_wp2_with fail
              refine (VersionOk_any (a ++ [46, 48]) (by first | omega | (simp; done) | (simp; omega)) _).mono ?_
              rintro e w10 ⟨rfl, hB'⟩
              replace hB := hB.trans (hB'.mono hB.size)
              clear hB'
              rw [ol.out]
              go_wp2
              go_ret
              exact ⟨rfl, hB⟩
          · rw [hk] at hneg
            replace hneg := Lib.hid hneg
            rw [hk] at hsame
            have hab : (a == b) = false := by simpa using hsame.symm
            clear hsame
            clear htr
            replace hk := Lib.hid hk
            go_wp2_with fail
            refine (VersionOrder_any a b (by first | omega | (simp; done) | (simp; omega)) (by first | omega | (simp; done) | (simp; omega)) _).mono ?_
            rintro e w3 ⟨rfl, hB'⟩
            replace hB := hB.trans (hB'.mono hB.size)
            clear hB'
            rw [hk.out]
            go_wp2_with fail
            refine (specVersionOrder_any a b (by first | omega | (simp; done) | (simp; omega)) (by first | omega | (simp; done) | (simp; omega)) _).mono ?_
            rintro e w4 ⟨rfl, hB'⟩
            replace hB := hB.trans (hB'.mono hB.size)
            clear hB'
            rw [hk.out]
            go_wp2_with fail
            refine (VersionOrder_any b a (by first | omega | (simp; done) | (simp; omega)) (by first | omega | (simp; done) | (simp; omega)) _).mono ?_
            rintro e w5 ⟨rfl, hB'⟩
            replace hB := hB.trans (hB'.mono hB.size)
            clear hB'
            rw [hneg.out]
            go_wp2_with fail
            refine (specVersionOk_any a (by first | omega | (simp; done) | (simp; omega)) _).mono ?_
            rintro e w6 ⟨rfl, hB'⟩
            replace hB := hB.trans (hB'.mono hB.size)
            clear hB'
            rw [oa.out]
            go_wp2_with fail
            refine (specVersionOk_any b (by first | omega | (simp; done) | (simp; omega)) _).mono ?_
            rintro e w7 ⟨rfl, hB'⟩
            replace hB := hB.trans (hB'.mono hB.size)
            clear hB'
            rw [ob.out]
            go_wp2_with fail
            refine (specVersionOk_any c (by first | omega | (simp; done) | (simp; omega)) _).mono ?_
            rintro e w8 ⟨rfl, hB'⟩
            replace hB := hB.trans (hB'.mono hB.size)
            clear hB'
            rw [oc.out]
            go_wp2_with fail
            refine (VersionOk_any (a ++ [46, 48]) (by first | omega | (simp; done) | (simp; omega)) _).mono ?_
            rintro e w9 ⟨rfl, hB'⟩
            replace hB := hB.trans (hB'.mono hB.size)
            clear hB'
            rw [ol.out]
            go_wp2
            go_ret
            exact ⟨rfl, hB⟩
        · have hl := Lib.hid (hlong ol.out)
          clear hlong
          rcases order_vals a b with hk | hk | hk
          · rw [hk] at hneg
            replace hneg := Lib.hid hneg
            rw [hk] at hsame
            have hab : (a == b) = false := by simpa using hsame.symm
            clear hsame
            replace htr := htr (by rw [hk]; decide)
            replace hk := Lib.hid hk
            rcases order_vals b c with hm | hm | hm
            · replace htr := Lib.hid (htr (by rw [hm]; decide))
              replace hm := Lib.hid hm
              go_wp2_with fail
              refine (VersionOrder_any a b (by first | omega | (simp; done) | (simp; omega)) (by first | omega | (simp; done) | (simp; omega)) _).mono ?_
              rintro e w3 ⟨rfl, hB'⟩
              replace hB := hB.trans (hB'.mono hB.size)
              clear hB'
              rw [hk.out]
              go_wp2_with fail
              refine (specVersionOrder_any a b (by first | omega | (simp; done) | (simp; omega)) (by first | omega | (simp; done) | (simp; omega)) _).mono ?_
              rintro e w4 ⟨rfl, hB'⟩
              replace hB := hB.trans (hB'.mono hB.size)
              clear hB'
              rw [hk.out]
              go_wp2_with fail
              refine (VersionOrder_any b a (by first | omega | (simp; done) | (simp; omega)) (by first | omega | (simp; done) | (simp; omega)) _).mono ?_
              rintro e w5 ⟨rfl, hB'⟩
              replace hB := hB.trans (hB'.mono hB.size)
              clear hB'
              rw [hneg.out]
              go_wp2_with fail
              refine (specVersionOk_any a (by first | omega | (simp; done) | (simp; omega)) _).mono ?_
              rintro e w6 ⟨rfl, hB'⟩
              replace hB := hB.trans (hB'.mono hB.size)
              clear hB'
              rw [oa.out]
              go_wp2_with fail
              refine (specVersionOk_any b (by first | omega | (simp; done) | (simp; omega)) _).mono ?_
              rintro e w7 ⟨rfl, hB'⟩
              replace hB := hB.trans (hB'.mono hB.size)
              clear hB'
              rw [ob.out]
              go_wp2_with fail
              refine (specVersionOk_any c (by first | omega | (simp; done) | (simp; omega)) _).mono ?_
              rintro e w8 ⟨rfl, hB'⟩
              replace hB := hB.trans (hB'.mono hB.size)
              clear hB'
              rw [oc.out]
              go_wp2_with fail
              refine (VersionOrder_any b c (by first | omega | (simp; done) | (simp; omega)) (by first | omega | (simp; done) | (simp; omega)) _).mono ?_
              rintro e w9 ⟨rfl, hB'⟩
              replace hB := hB.trans (hB'.mono hB.size)
              clear hB'
              rw [hm.out]
              have hle := htr.out
              obtain ⟨l, hl2⟩ : ∃ l, versionOrder a c = l := ⟨_, rfl⟩
              rw [hl2] at hle
              replace hl2 := Lib.hid hl2
              go_wp2_with fail
              refine (VersionOrder_any a c (by first | omega | (simp; done) | (simp; omega)) (by first | omega | (simp; done) | (simp; omega)) _).mono ?_
              rintro e w10 ⟨rfl, hB'⟩
              replace hB := hB.trans (hB'.mono hB.size)
              clear hB'
              rw [hl2.out]
              go_wp2_with fail
              refine (VersionOk_any (a ++ [46, 48]) (by first | omega | (simp; done) | (simp; omega)) _).mono ?_
              rintro e w11 ⟨rfl, hB'⟩
              replace hB := hB.trans (hB'.mono hB.size)
              clear hB'
              rw [ol.out]
              go_wp2_with fail
              refine (VersionOrder_any a (a ++ [46, 48]) (by first | omega | (simp; done) | (simp; omega)) (by first | omega | (simp; done) | (simp; omega)) _).mono ?_
              rintro e w12 ⟨rfl, hB'⟩
              replace hB := hB.trans (hB'.mono hB.size)
              clear hB'
              rw [hl.out]
              go_wp2
              go_ret
              exact ⟨rfl, hB⟩
            · replace htr := Lib.hid (htr (by rw [hm]; decide))
              replace hm := Lib.hid hm
              go_wp2_with fail
              refine (VersionOrder_any a b (by first | omega | (simp; done) | (simp; omega)) (by first | omega | (simp; done) | (simp; omega)) _).mono ?_
              rintro e w3 ⟨rfl, hB'⟩
              replace hB := hB.trans (hB'.mono hB.size)
              clear hB'
              rw [hk.out]
              go_wp2_with fail
              refine (specVersionOrder_any a b (by first | omega | (simp; done) | (simp; omega)) (by first | omega | (simp; done) | (simp; omega)) _).mono ?_
              rintro e w4 ⟨rfl, hB'⟩
              replace hB := hB.trans (hB'.mono hB.size)
              clear hB'
              rw [hk.out]
              go_wp2_with fail
              refine (VersionOrder_any b a (by first | omega | (simp; done) | (simp; omega)) (by first | omega | (simp; done) | (simp; omega)) _).mono ?_
              rintro e w5 ⟨rfl, hB'⟩
              replace hB := hB.trans (hB'.mono hB.size)
              clear hB'
              rw [hneg.out]
              go_wp2_with fail
              refine (specVersionOk_any a (by first | omega | (simp; done) | (simp; omega)) _).mono ?_
              rintro e w6 ⟨rfl, hB'⟩
              replace hB := hB.trans (hB'.mono hB.size)
              clear hB'
              rw [oa.out]
              go_wp2_with fail
              refine (specVersionOk_any b (by first | omega | (simp; done) | (simp; omega)) _).mono ?_
              rintro e w7 ⟨rfl, hB'⟩
              replace hB := hB.trans (hB'.mono hB.size)
              clear hB'
              rw [ob.out]
              go_wp2_with fail
              refine (specVersionOk_any c (by first | omega | (simp; done) | (simp; omega)) _).mono ?_
              rintro e w8 ⟨rfl, hB'⟩
              replace hB := hB.trans (hB'.mono hB.size)
              clear hB'
              rw [oc.out]
              go_wp2_with fail
              refine (VersionOrder_any b c (by first | omega | (simp; done) | (simp; omega)) (by first | omega | (simp; done) | (simp; omega)) _).mono ?_
              rintro e w9 ⟨rfl, hB'⟩
              replace hB := hB.trans (hB'.mono hB.size)
              clear hB'
              rw [hm.out]
              have hle := htr.out
              obtain ⟨l, hl2⟩ : ∃ l, versionOrder a c = l := ⟨_, rfl⟩
              rw [hl2] at hle
              replace hl2 := Lib.hid hl2
              go_wp2_with fail
              refine (VersionOrder_any a c (by first | omega | (simp; done) | (simp; omega)) (by first | omega | (simp; done) | (simp; omega)) _).mono ?_
              rintro e w10 ⟨rfl, hB'⟩
              replace hB := hB.trans (hB'.mono hB.size)
              clear hB'
              rw [hl2.out]
              go_wp2_with fail
              refine (VersionOk_any (a ++ [46, 48]) (by first | omega | (simp; done) | (simp; omega)) _).mono ?_
              rintro e w11 ⟨rfl, hB'⟩
              replace hB := hB.trans (hB'.mono hB.size)
              clear hB'
              rw [ol.out]
              go_wp2_with fail
              refine (VersionOrder_any a (a ++ [46, 48]) (by first | omega | (simp; done) | (simp; omega)) (by first | omega | (simp; done) | (simp; omega)) _).mono ?_
              rintro e w12 ⟨rfl, hB'⟩
              replace hB := hB.trans (hB'.mono hB.size)
              clear hB'
              rw [hl.out]
              go_wp2
              go_ret
              exact ⟨rfl, hB⟩
            · clear htr
              replace hm := Lib.hid hm
              go_wp2_with fail
              refine (VersionOrder_any a b (by first | omega | (simp; done) | (simp; omega)) (by first | omega | (simp; done) | (simp; omega)) _).mono ?_
              rintro e w3 ⟨rfl, hB'⟩
              replace hB := hB.trans (hB'.mono hB.size)
              clear hB'
              rw [hk.out]
              go_wp2_with fail
              refine (specVersionOrder_any a b (by first | omega | (simp; done) | (simp; omega)) (by first | omega | (simp; done) | (simp; omega)) _).mono ?_
              rintro e w4 ⟨rfl, hB'⟩
              replace hB := hB.trans (hB'.mono hB.size)
              clear hB'
              rw [hk.out]
              go_wp2_with fail
              refine (VersionOrder_any b a (by first | omega | (simp; done) | (simp; omega)) (by first | omega | (simp; done) | (simp; omega)) _).mono ?_
              rintro e w5 ⟨rfl, hB'⟩
              replace hB := hB.trans (hB'.mono hB.size)
              clear hB'
              rw [hneg.out]
              go_wp2_with fail
              refine (specVersionOk_any a (by first | omega | (simp; done) | (simp; omega)) _).mono ?_
              rintro e w6 ⟨rfl, hB'⟩
              replace hB := hB.trans (hB'.mono hB.size)
              clear hB'
              rw [oa.out]
              go_wp2_with fail
              refine (specVersionOk_any b (by first | omega | (simp; done) | (simp; omega)) _).mono ?_
              rintro e w7 ⟨rfl, hB'⟩
              replace hB := hB.trans (hB'.mono hB.size)
              clear hB'
              rw [ob.out]
              go_wp2_with fail
              refine (specVersionOk_any c (by first | omega | (simp; done) | (simp; omega)) _).mono ?_
              rintro e w8 ⟨rfl, hB'⟩
              replace hB := hB.trans (hB'.mono hB.size)
              clear hB'
              rw [oc.out]
              go_wp2_with fail
              refine (VersionOrder_any b c (by first | omega | (simp; done) | (simp; omega)) (by first | omega | (simp; done) | (simp; omega)) _).mono ?_
              rintro e w9 ⟨rfl, hB'⟩
              replace hB := hB.trans (hB'.mono hB.size)
              clear hB'
              rw [hm.out]
              go_wp2_with fail
              refine (VersionOk_any (a ++ [46, 48]) (by first | omega | (simp; done) | (simp; omega)) _).mono ?_
              rintro e w10 ⟨rfl, hB'⟩
              replace hB := hB.trans (hB'.mono hB.size)
              clear hB'
              rw [ol.out]
              go_wp2_with fail
              refine (VersionOrder_any a (a ++ [46, 48]) (by first | omega | (simp; done) | (simp; omega)) (by first | omega | (simp; done) | (simp; omega)) _).mono ?_
              rintro e w11 ⟨rfl, hB'⟩
              replace hB := hB.trans (hB'.mono hB.size)
              clear hB'
              rw [hl.out]
              go_wp2
              go_ret
              exact ⟨rfl, hB⟩
          · rw [hk] at hneg
            replace hneg := Lib.hid hneg
            rw [hk] at hsame
            have hab : a = b := by simpa using hsame.symm
            subst hab
            clear hsame
            replace htr := htr (by rw [hk]; decide)
            replace hk := Lib.hid hk
            rcases order_vals a c with hm | hm | hm
            · replace htr := Lib.hid (htr (by rw [hm]; decide))
              replace hm := Lib.hid hm
              go_wp2_with fail
              refine (VersionOrder_any a a (by first | omega | (simp; done) | (simp; omega)) (by first | omega | (simp; done) | (simp; omega)) _).mono ?_
              rintro e w3 ⟨rfl, hB'⟩
              replace hB := hB.trans (hB'.mono hB.size)
              clear hB'
              rw [hk.out]
              go_wp2_with fail
              refine (specVersionOrder_any a a (by first | omega | (simp; done) | (simp; omega)) (by first | omega | (simp; done) | (simp; omega)) _).mono ?_
              rintro e w4 ⟨rfl, hB'⟩
              replace hB := hB.trans (hB'.mono hB.size)
              clear hB'
              rw [hk.out]
              go_wp2_with fail
              refine (VersionOrder_any a a (by first | omega | (simp; done) | (simp; omega)) (by first | omega | (simp; done) | (simp; omega)) _).mono ?_
              rintro e w5 ⟨rfl, hB'⟩
              replace hB := hB.trans (hB'.mono hB.size)
              clear hB'
              rw [hneg.out]
              go_wp2_with fail
              refine (specVersionOk_any a (by first | omega | (simp; done) | (simp; omega)) _).mono ?_
              rintro e w6 ⟨rfl, hB'⟩
              replace hB := hB.trans (hB'.mono hB.size)
              clear hB'
              rw [oa.out]
              go_wp2_with fail
              refine (specVersionOk_any a (by first | omega | (simp; done) | (simp; omega)) _).mono ?_
              rintro e w7 ⟨rfl, hB'⟩
              replace hB := hB.trans (hB'.mono hB.size)
              clear hB'
              rw [ob.out]
              go_wp2_with fail
              refine (specVersionOk_any c (by first | omega | (simp; done) | (simp; omega)) _).mono ?_
              rintro e w8 ⟨rfl, hB'⟩
              replace hB := hB.trans (hB'.mono hB.size)
              clear hB'
              rw [oc.out]
              go_wp2_with fail
              refine (VersionOrder_any a c (by first | omega | (simp; done) | (simp; omega)) (by first | omega | (simp; done) | (simp; omega)) _).mono ?_
              rintro e w9 ⟨rfl, hB'⟩
              replace hB := hB.trans (hB'.mono hB.size)
              clear hB'
              rw [hm.out]
              go_wp2_with fail
              refine (VersionOrder_any a c (by first | omega | (simp; done) | (simp; omega)) (by first | omega | (simp; done) | (simp; omega)) _).mono ?_
              rintro e w10 ⟨rfl, hB'⟩
              replace hB := hB.trans (hB'.mono hB.size)
              clear hB'
              rw [hm.out]
              go_wp2_with fail
              refine (VersionOk_any (a ++ [46, 48]) (by first | omega | (simp; done) | (simp; omega)) _).mono ?_
              rintro e w11 ⟨rfl, hB'⟩
              replace hB := hB.trans (hB'.mono hB.size)
              clear hB'
              rw [ol.out]
              go_wp2_with fail
              refine (VersionOrder_any a (a ++ [46, 48]) (by first | omega | (simp; done) | (simp; omega)) (by first | omega | (simp; done) | (simp; omega)) _).mono ?_
              rintro e w12 ⟨rfl, hB'⟩
              replace hB := hB.trans (hB'.mono hB.size)
              clear hB'
              rw [hl.out]
              go_wp2
              go_ret
              exact ⟨rfl, hB⟩
            · replace htr := Lib.hid (htr (by rw [hm]; decide))
              replace hm := Lib.hid hm
              go_wp2_with fail
              refine (VersionOrder_any a a (by first | omega | (simp; done) | (simp; omega)) (by first | omega | (simp; done) | (simp; omega)) _).mono ?_
              rintro e w3 ⟨rfl, hB'⟩
              replace hB := hB.trans (hB'.mono hB.size)
              clear hB'
              rw [hk.out]
              go_wp2_with fail
              refine (specVersionOrder_any a a (by first | omega | (simp; done) | (simp; omega)) (by first | omega | (simp; done) | (simp; omega)) _).mono ?_
              rintro e w4 ⟨rfl, hB'⟩
              replace hB := hB.trans (hB'.mono hB.size)
              clear hB'
              rw [hk.out]
              go_wp2_with fail
              refine (VersionOrder_any a a (by first | omega | (simp; done) | (simp; omega)) (by first | omega | (simp; done) | (simp; omega)) _).mono ?_
              rintro e w5 ⟨rfl, hB'⟩
              replace hB := hB.trans (hB'.mono hB.size)
              clear hB'
              rw [hneg.out]
              go_wp2_with fail
              refine (specVersionOk_any a (by first | omega | (simp; done) | (simp; omega)) _).mono ?_
              rintro e w6 ⟨rfl, hB'⟩
              replace hB := hB.trans (hB'.mono hB.size)
              clear hB'
              rw [oa.out]
              go_wp2_with fail
              refine (specVersionOk_any a (by first | omega | (simp; done) | (simp; omega)) _).mono ?_
              rintro e w7 ⟨rfl, hB'⟩
              replace hB := hB.trans (hB'.mono hB.size)
              clear hB'
              rw [ob.out]
              go_wp2_with fail
              refine (specVersionOk_any c (by first | omega | (simp; done) | (simp; omega)) _).mono ?_
              rintro e w8 ⟨rfl, hB'⟩
              replace hB := hB.trans (hB'.mono hB.size)
              clear hB'
              rw [oc.out]
              go_wp2_with fail
              refine (VersionOrder_any a c (by first | omega | (simp; done) | (simp; omega)) (by first | omega | (simp; done) | (simp; omega)) _).mono ?_
              rintro e w9 ⟨rfl, hB'⟩
              replace hB := hB.trans (hB'.mono hB.size)
              clear hB'
              rw [hm.out]
              go_wp2_with fail
              refine (VersionOrder_any a c (by first | omega | (simp; done) | (simp; omega)) (by first | omega | (simp; done) | (simp; omega)) _).mono ?_
              rintro e w10 ⟨rfl, hB'⟩
              replace hB := hB.trans (hB'.mono hB.size)
              clear hB'
              rw [hm.out]
              go_wp2_with fail
              refine (VersionOk_any (a ++ [46, 48]) (by first | omega | (simp; done) | (simp; omega)) _).mono ?_
              rintro e w11 ⟨rfl, hB'⟩
              replace hB := hB.trans (hB'.mono hB.size)
              clear hB'
              rw [ol.out]
              go_wp2_with fail
              refine (VersionOrder_any a (a ++ [46, 48]) (by first | omega | (simp; done) | (simp; omega)) (by first | omega | (simp; done) | (simp; omega)) _).mono ?_
              rintro e w12 ⟨rfl, hB'⟩
              replace hB := hB.trans (hB'.mono hB.size)
              clear hB'
              rw [hl.out]
              go_wp2
              go_ret
              exact ⟨rfl, hB⟩
            · clear htr
              replace hm := Lib.hid hm
              go_wp2_with fail
              refine (VersionOrder_any a a (by first | omega | (simp; done) | (simp; omega)) (by first | omega | (simp; done) | (simp; omega)) _).mono ?_
              rintro e w3 ⟨rfl, hB'⟩
              replace hB := hB.trans (hB'.mono hB.size)
              clear hB'
              rw [hk.out]
              go_wp2_with fail
              refine (specVersionOrder_any a a (by first | omega | (simp; done) | (simp; omega)) (by first | omega | (simp; done) | (simp; omega)) _).mono ?_
              rintro e w4 ⟨rfl, hB'⟩
              replace hB := hB.trans (hB'.mono hB.size)
              clear hB'
              rw [hk.out]
              go_wp2_with fail
              refine (VersionOrder_any a a (by first | omega | (simp; done) | (simp; omega)) (by first | omega | (simp; done) | (simp; omega)) _).mono ?_
              rintro e w5 ⟨rfl, hB'⟩
              replace hB := hB.trans (hB'.mono hB.size)
              clear hB'
              rw [hneg.out]
              go_wp2_with fail
              refine (specVersionOk_any a (by first | omega | (simp; done) | (simp; omega)) _).mono ?_
              rintro e w6 ⟨rfl, hB'⟩
              replace hB := hB.trans (hB'.mono hB.size)
              clear hB'
              rw [oa.out]
              go_wp2_with fail
              refine (specVersionOk_any a (by first | omega | (simp; done) | (simp; omega)) _).mono ?_
              rintro e w7 ⟨rfl, hB'⟩
              replace hB := hB.trans (hB'.mono hB.size)
              clear hB'
              rw [ob.out]
              go_wp2_with fail
              refine (specVersionOk_any c (by first | omega | (simp; done) | (simp; omega)) _).mono ?_
              rintro e w8 ⟨rfl, hB'⟩
              replace hB := hB.trans (hB'.mono hB.size)
              clear hB'
              rw [oc.out]
              go_wp2_with fail
              refine (VersionOrder_any a c (by first | omega | (simp; done) | (simp; omega)) (by first | omega | (simp; done) | (simp; omega)) _).mono ?_
              rintro e w9 ⟨rfl, hB'⟩
              replace hB := hB.trans (hB'.mono hB.size)
              clear hB'
              rw [hm.out]
              go_wp2_with fail
              refine (VersionOk_any (a ++ [46, 48]) (by first | omega | (simp; done) | (simp; omega)) _).mono ?_
              rintro e w10 ⟨rfl, hB'⟩
              replace hB := hB.trans (hB'.mono hB.size)
              clear hB'
              rw [ol.out]
              go_wp2_with fail
              refine (VersionOrder_any a (a ++ [46, 48]) (by first | omega | (simp; done) | (simp; omega)) (by first | omega | (simp; done) | (simp; omega)) _).mono ?_
              rintro e w11 ⟨rfl, hB'⟩
              replace hB := hB.trans (hB'.mono hB.size)
              clear hB'
              rw [hl.out]
              go_wp2
              go_ret
              exact ⟨rfl, hB⟩
          · rw [hk] at hneg
            replace hneg := Lib.hid hneg
            rw [hk] at hsame
            have hab : (a == b) = false := by simpa using hsame.symm
            clear hsame
            clear htr
            replace hk := Lib.hid hk
            go_wp2_with fail
            refine (VersionOrder_any a b (by first | omega | (simp; done) | (simp; omega)) (by first | omega | (simp; done) | (simp; omega)) _).mono ?_
            rintro e w3 ⟨rfl, hB'⟩
            replace hB := hB.trans (hB'.mono hB.size)
            clear hB'
            rw [hk.out]
            go_wp2_with fail
            refine (specVersionOrder_any a b (by first | omega | (simp; done) | (simp; omega)) (by first | omega | (simp; done) | (simp; omega)) _).mono ?_
            rintro e w4 ⟨rfl, hB'⟩
            replace hB := hB.trans (hB'.mono hB.size)
            clear hB'
            rw [hk.out]
            go_wp2_with fail
            refine (VersionOrder_any b a (by first | omega | (simp; done) | (simp; omega)) (by first | omega | (simp; done) | (simp; omega)) _).mono ?_
            rintro e w5 ⟨rfl, hB'⟩
            replace hB := hB.trans (hB'.mono hB.size)
            clear hB'
            rw [hneg.out]
            go_wp2_with fail
            refine (specVersionOk_any a (by first | omega | (simp; done) | (simp; omega)) _).mono ?_
            rintro e w6 ⟨rfl, hB'⟩
            replace hB := hB.trans (hB'.mono hB.size)
            clear hB'
            rw [oa.out]
            go_wp2_with fail
            refine (specVersionOk_any b (by first | omega | (simp; done) | (simp; omega)) _).mono ?_
            rintro e w7 ⟨rfl, hB'⟩
            replace hB := hB.trans (hB'.mono hB.size)
            clear hB'
            rw [ob.out]
            go_wp2_with fail
            refine (specVersionOk_any c (by first | omega | (simp; done) | (simp; omega)) _).mono ?_
            rintro e w8 ⟨rfl, hB'⟩
            replace hB := hB.trans (hB'.mono hB.size)
            clear hB'
            rw [oc.out]
            go_wp2_with fail
            refine (VersionOk_any (a ++ [46, 48]) (by first | omega | (simp; done) | (simp; omega)) _).mono ?_
            rintro e w9 ⟨rfl, hB'⟩
            replace hB := hB.trans (hB'.mono hB.size)
            clear hB'
            rw [ol.out]
            go_wp2_with fail
            refine (VersionOrder_any a (a ++ [46, 48]) (by first | omega | (simp; done) | (simp; omega)) (by first | omega | (simp; done) | (simp; omega)) _).mono ?_
            rintro e w10 ⟨rfl, hB'⟩
            replace hB := hB.trans (hB'.mono hB.size)
            clear hB'
            rw [hl.out]
            go_wp2
            go_ret
            exact ⟨rfl, hB⟩
end Go.Proofs.YtgocnaeignachaaDoor
