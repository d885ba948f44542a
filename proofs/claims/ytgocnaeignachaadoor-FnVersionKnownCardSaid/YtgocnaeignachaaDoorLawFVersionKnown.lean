/-
  The law FnVersionKnown, walked: numbers of versions are numbers.
-/
import Derived.Test.YtgocnaeignachaaDoorVers
import Derived.Test.YtgocnaeignachaaDoorDrawV
import Derived.Test.YtgocnaeignachaaDoorPlainVO
namespace Go.Proofs.YtgocnaeignachaaDoor
open Go.RowKit
set_option linter.unusedVariables false
attribute [local go_sem] mkB_size mkB_extract mkB_get mkB_append mkB_append_raw raw_append_mkB mkB_toList

theorem known1 : versionOrder [49, 46, 50] [49, 46, 49, 48] = -1 := by rfl
theorem known2 : versionOrder [50] [49, 46, 57, 57] = 1 := by rfl
theorem known3 : versionOrder [49] [49, 46, 48] = -1 := by rfl

set_option maxHeartbeats 2000000 in
set_option maxRecDepth 100000 in
theorem law_FnVersionKnown (A0 : Option Addr) (n0 c0 : Nat) (w : World) (h0 : IsBytes w A0 n0 c0) :
    Calls Tryd.prog 7 #[.slice A0 n0 c0] w fun e w' => e = .returned (.bool true) ∧ Below w.heap.size w w' := by
  by_cases hn : n0 ≤ 1048576
  · go_enter Tryd.func7, Tryd.ntmps7
    go_wp2_with fail
    refine (DrawVersionOrder_any A0 n0 c0 w h0).mono ?_
    rintro e w1 ⟨a, b, ha, hb, rfl, hB⟩
    obtain ⟨k, hk⟩ : ∃ k, versionOrder a b = k := ⟨_, rfl⟩
    have hk := Lib.hid hk
    have hlast := order_last (a := a) (x := [57]) (y := [49, 48]) (n := 9) (m := 10) (by decide) (by rfl) (by decide) (by rfl) (by decide)
    rcases boolOf (versionOk (a ++ [46, 57])) with ho | ho
    · have hz := hn
      clear hlast hz
      go_wp2_with fail
      refine (VersionOrder_any a b (by first | omega | (simp; done) | (simp; omega)) (by first | omega | (simp; done) | (simp; omega)) _).mono ?_
      rintro e w2 ⟨rfl, hB'⟩
      replace hB := hB.trans (hB'.mono hB.size)
      clear hB'
      rw [hk.out]
      go_wp2_with fail
      refine (specVersionOrder_any a b (by first | omega | (simp; done) | (simp; omega)) (by first | omega | (simp; done) | (simp; omega)) _).mono ?_
      rintro e w3 ⟨rfl, hB'⟩
      replace hB := hB.trans (hB'.mono hB.size)
      clear hB'
      rw [hk.out]
      go_wp2_with fail
      refine (VersionOrder_any [49, 46, 50] [49, 46, 49, 48] (by first | omega | (simp; done) | (simp; omega)) (by first | omega | (simp; done) | (simp; omega)) _).mono ?_
      rintro e w4 ⟨rfl, hB'⟩
      replace hB := hB.trans (hB'.mono hB.size)
      clear hB'
      rw [known1]
      go_wp2_with fail
      refine (VersionOrder_any [50] [49, 46, 57, 57] (by first | omega | (simp; done) | (simp; omega)) (by first | omega | (simp; done) | (simp; omega)) _).mono ?_
      rintro e w5 ⟨rfl, hB'⟩
      replace hB := hB.trans (hB'.mono hB.size)
      clear hB'
      rw [known2]
      go_wp2_with fail
      refine (VersionOrder_any [49] [49, 46, 48] (by first | omega | (simp; done) | (simp; omega)) (by first | omega | (simp; done) | (simp; omega)) _).mono ?_
      rintro e w6 ⟨rfl, hB'⟩
      replace hB := hB.trans (hB'.mono hB.size)
      clear hB'
      rw [known3]
      go_wp2_with fail
      refine (VersionOk_any (a ++ [46, 57]) (by first | omega | (simp; done) | (simp; omega)) _).mono ?_
      rintro e w7 ⟨rfl, hB'⟩
      replace hB := hB.trans (hB'.mono hB.size)
      clear hB'
      rw [ho.out]
      go_wp2
      go_ret
      exact ⟨rfl, hB⟩
    · have hz := hn
      have hl := Lib.hid (hlast ho.out)
      clear hlast hz
      go_wp2_with fail
      refine (VersionOrder_any a b (by first | omega | (simp; done) | (simp; omega)) (by first | omega | (simp; done) | (simp; omega)) _).mono ?_
      rintro e w2 ⟨rfl, hB'⟩
      replace hB := hB.trans (hB'.mono hB.size)
      clear hB'
      rw [hk.out]
      go_wp2_with fail
      refine (specVersionOrder_any a b (by first | omega | (simp; done) | (simp; omega)) (by first | omega | (simp; done) | (simp; omega)) _).mono ?_
      rintro e w3 ⟨rfl, hB'⟩
      replace hB := hB.trans (hB'.mono hB.size)
      clear hB'
      rw [hk.out]
      go_wp2_with fail
      refine (VersionOrder_any [49, 46, 50] [49, 46, 49, 48] (by first | omega | (simp; done) | (simp; omega)) (by first | omega | (simp; done) | (simp; omega)) _).mono ?_
      rintro e w4 ⟨rfl, hB'⟩
      replace hB := hB.trans (hB'.mono hB.size)
      clear hB'
      rw [known1]
      go_wp2_with fail
      refine (VersionOrder_any [50] [49, 46, 57, 57] (by first | omega | (simp; done) | (simp; omega)) (by first | omega | (simp; done) | (simp; omega)) _).mono ?_
      rintro e w5 ⟨rfl, hB'⟩
      replace hB := hB.trans (hB'.mono hB.size)
      clear hB'
      rw [known2]
      go_wp2_with fail
      refine (VersionOrder_any [49] [49, 46, 48] (by first | omega | (simp; done) | (simp; omega)) (by first | omega | (simp; done) | (simp; omega)) _).mono ?_
      rintro e w6 ⟨rfl, hB'⟩
      replace hB := hB.trans (hB'.mono hB.size)
      clear hB'
      rw [known3]
      go_wp2_with fail
      refine (VersionOk_any (a ++ [46, 57]) (by first | omega | (simp; done) | (simp; omega)) _).mono ?_
      rintro e w7 ⟨rfl, hB'⟩
      replace hB := hB.trans (hB'.mono hB.size)
      clear hB'
      rw [ho.out]
      go_wp2_with fail
      refine (VersionOrder_any (a ++ [46, 57]) (a ++ [46, 49, 48]) (by first | omega | (simp; done) | (simp; omega)) (by first | omega | (simp; done) | (simp; omega)) _).mono ?_
      rintro e w8 ⟨rfl, hB'⟩
      replace hB := hB.trans (hB'.mono hB.size)
      clear hB'
      rw [hl.out]
      go_wp2
      go_ret
      exact ⟨rfl, hB⟩
  · obtain ⟨g1, g2, _⟩ := h0
    unfold maxLen at g2
    go_enter Tryd.func7, Tryd.ntmps7
    go_wp2
    go_ret
    exact ⟨rfl, Below.refl _ _⟩
end Go.Proofs.YtgocnaeignachaaDoor
