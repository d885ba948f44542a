/-
  The law FnNeedOther, walked: what has another name is never what is needed.
-/
import Derived.Test.YtgocnaeignachaaDoorDrawNF
import Derived.Test.YtgocnaeignachaaDoorPlainNF
namespace Go.Proofs.YtgocnaeignachaaDoor
open Go.RowKit
set_option linter.unusedVariables false
attribute [local go_sem] mkB_size mkB_extract mkB_get mkB_append mkB_append_raw raw_append_mkB mkB_toList

set_option maxHeartbeats 2000000 in
set_option maxRecDepth 100000 in
theorem law_FnNeedOther (A0 : Option Addr) (n0 c0 : Nat) (w : World) (h0 : IsBytes w A0 n0 c0) :
    Calls Tryd.prog 11 #[.slice A0 n0 c0] w fun e w' => e = .returned (.bool true) ∧ Below w.heap.size w w' := by
  by_cases hn : n0 ≤ 1048576
  · go_enter Tryd.func11, Tryd.ntmps11
    go_wp2_with fail
    refine (DrawNeedFits_any A0 n0 c0 _ h0).mono ?_
    rintro e w1 ⟨nm, vr, name, ver, kd, hnm, hvr, hk1, hk2, hna, hve, rfl, hB⟩
    rcases boolOf (needFits nm kd vr name ver) with hf | hf
    · have ht := hn
      go_wp2_with fail
      refine (NeedFits_any nm vr name ver kd (by first | omega | (simp; done) | (simp; omega)) (by first | omega | (simp; done) | (simp; omega)) (by first | omega | (simp; done) | (simp; omega)) (by first | omega | (simp; done) | (simp; omega)) _).mono ?_
      rintro e w2 ⟨rfl, hA⟩
      obtain ⟨ha0, ha1, ha2⟩ := cells3 hA
      rw [hf.out]
      go_wp2_with fail
      refine (specNeedFits_any nm vr name ver kd (by first | omega | (simp; done) | (simp; omega)) (by first | omega | (simp; done) | (simp; omega)) (by first | omega | (simp; done) | (simp; omega)) (by first | omega | (simp; done) | (simp; omega)) _).mono ?_
      rintro e w3 ⟨rfl, hB'⟩
      replace hA := hA.trans (hB'.mono hA.size)
      clear hB' ha0 ha1 ha2
      obtain ⟨ha0, ha1, ha2⟩ := cells3 hA
      rw [hf.out]
      go_wp2_with fail
      refine (NeedFits_any nm vr (nm ++ [120]) ver kd (by first | omega | (simp; done) | (simp; omega)) (by first | omega | (simp; done) | (simp; omega)) (by first | omega | (simp; done) | (simp; omega)) (by first | omega | (simp; done) | (simp; omega)) _).mono ?_
      rintro e w4 ⟨rfl, hB'⟩
      replace hA := hA.trans (hB'.mono hA.size)
      clear hB' ha0 ha1 ha2
      obtain ⟨ha0, ha1, ha2⟩ := cells3 hA
      rw [fits_other]
      go_wp2_with fail
      refine (NeedFits_any nm vr [] ver kd (by first | omega | (simp; done) | (simp; omega)) (by first | omega | (simp; done) | (simp; omega)) (by first | omega | (simp; done) | (simp; omega)) (by first | omega | (simp; done) | (simp; omega)) _).mono ?_
      rintro e w5 ⟨rfl, hB'⟩
      replace hA := hA.trans (hB'.mono hA.size)
      clear hB' ha0 ha1 ha2
      obtain ⟨ha0, ha1, ha2⟩ := cells3 hA
      rw [fits_empty]
      go_wp2
      go_ret
      exact ⟨rfl, hB.trans ((((Below.refl _ _).alloc (Nat.le_refl _) _).trans (hA.mono (by simp))).mono hB.size)⟩
    · have hp := fits_parts hf.out
      have ho := Lib.hid hp.1
      have hv := Lib.hid hp.2
      clear hp
      go_wp2_with fail
      refine (NeedFits_any nm vr name ver kd (by first | omega | (simp; done) | (simp; omega)) (by first | omega | (simp; done) | (simp; omega)) (by first | omega | (simp; done) | (simp; omega)) (by first | omega | (simp; done) | (simp; omega)) _).mono ?_
      rintro e w2 ⟨rfl, hA⟩
      obtain ⟨ha0, ha1, ha2⟩ := cells3 hA
      rw [hf.out]
      go_wp2_with fail
      refine (specNeedFits_any nm vr name ver kd (by first | omega | (simp; done) | (simp; omega)) (by first | omega | (simp; done) | (simp; omega)) (by first | omega | (simp; done) | (simp; omega)) (by first | omega | (simp; done) | (simp; omega)) _).mono ?_
      rintro e w3 ⟨rfl, hB'⟩
      replace hA := hA.trans (hB'.mono hA.size)
      clear hB' ha0 ha1 ha2
      obtain ⟨ha0, ha1, ha2⟩ := cells3 hA
      rw [hf.out]
      go_wp2_with fail
      refine (NeedFits_any nm vr (nm ++ [120]) ver kd (by first | omega | (simp; done) | (simp; omega)) (by first | omega | (simp; done) | (simp; omega)) (by first | omega | (simp; done) | (simp; omega)) (by first | omega | (simp; done) | (simp; omega)) _).mono ?_
      rintro e w4 ⟨rfl, hB'⟩
      replace hA := hA.trans (hB'.mono hA.size)
      clear hB' ha0 ha1 ha2
      obtain ⟨ha0, ha1, ha2⟩ := cells3 hA
      rw [fits_other]
      go_wp2_with fail
      refine (NeedFits_any nm vr [] ver kd (by first | omega | (simp; done) | (simp; omega)) (by first | omega | (simp; done) | (simp; omega)) (by first | omega | (simp; done) | (simp; omega)) (by first | omega | (simp; done) | (simp; omega)) _).mono ?_
      rintro e w5 ⟨rfl, hB'⟩
      replace hA := hA.trans (hB'.mono hA.size)
      clear hB' ha0 ha1 ha2
      obtain ⟨ha0, ha1, ha2⟩ := cells3 hA
      rw [fits_empty]
      go_wp2_with fail
      refine (NeedOk_any nm vr kd (by first | omega | (simp; done) | (simp; omega)) (by first | omega | (simp; done) | (simp; omega)) _).mono ?_
      rintro e w6 ⟨rfl, hB'⟩
      replace hA := hA.trans (hB'.mono hA.size)
      clear hB' ha0 ha1 ha2
      obtain ⟨ha0, ha1, ha2⟩ := cells3 hA
      rw [ho.out]
      go_wp2_with fail
      refine (VersionOk_any ver (by first | omega | (simp; done) | (simp; omega)) _).mono ?_
      rintro e w7 ⟨rfl, hB'⟩
      replace hA := hA.trans (hB'.mono hA.size)
      clear hB' ha0 ha1 ha2
      obtain ⟨ha0, ha1, ha2⟩ := cells3 hA
      rw [hv.out]
      go_wp2
      go_ret
      exact ⟨rfl, hB.trans ((((Below.refl _ _).alloc (Nat.le_refl _) _).trans (hA.mono (by simp))).mono hB.size)⟩
  · obtain ⟨g1, g2, _⟩ := h0
    unfold maxLen at g2
    go_enter Tryd.func11, Tryd.ntmps11
    go_wp2
    go_ret
    exact ⟨rfl, Below.refl _ _⟩
end Go.Proofs.YtgocnaeignachaaDoor
