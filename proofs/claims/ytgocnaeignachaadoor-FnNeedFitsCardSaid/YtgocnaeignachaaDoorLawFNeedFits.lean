/-
  The law FnNeedFits, walked: a version is from another one on, or less than it, and not both.
-/
import Derived.Test.YtgocnaeignachaaDoorDrawNF
import Derived.Test.YtgocnaeignachaaDoorPlainNF
namespace Go.Proofs.YtgocnaeignachaaDoor
open Go.RowKit
set_option linter.unusedVariables false
attribute [local go_sem] mkB_size mkB_extract mkB_get mkB_append mkB_append_raw raw_append_mkB mkB_toList

set_option maxHeartbeats 2000000 in
set_option maxRecDepth 100000 in
theorem law_FnNeedFits (A0 : Option Addr) (n0 c0 : Nat) (w : World) (h0 : IsBytes w A0 n0 c0) :
    Calls Tryd.prog 10 #[.slice A0 n0 c0] w fun e w' => e = .returned (.bool true) ∧ Below w.heap.size w w' := by
  by_cases hn : n0 ≤ 1048576
  · go_enter Tryd.func10, Tryd.ntmps10
    go_wp2_with fail
    refine (DrawNeedFits_any A0 n0 c0 _ h0).mono ?_
    rintro e w1 ⟨nm, vr, name, ver, kd, hnm, hvr, hk1, hk2, hna, hve, rfl, hB⟩
    obtain ⟨f, hf⟩ : ∃ f, needFits nm kd vr name ver = f := ⟨_, rfl⟩
    rcases boolOf (needOk nm kd vr) with ho | ho
    · replace hf := Lib.hid hf
      go_wp2_with fail
      refine (NeedFits_any nm vr name ver kd (by first | omega | (simp; done) | (simp; omega)) (by first | omega | (simp; done) | (simp; omega)) (by first | omega | (simp; done) | (simp; omega)) (by first | omega | (simp; done) | (simp; omega)) _).mono ?_
      rintro e w2 ⟨rfl, hA⟩
      obtain ⟨ha0, ha1, ha2⟩ := cells3 hA
      rw [hf.out]
      go_wp2_with fail
      refine (specNeedFits_any nm vr name ver kd (by first | omega | (simp; done) | (simp; omega)) (by first | omega | (simp; done) | (simp; omega)) (by first | omega | (simp; done) | (simp; omega)) (by first | omega | (simp; done) | (simp; omega)) _).mono ?_
      rintro e w3 ⟨rfl, hB'⟩
      replace hA := hA.trans (hB'.mono hA.size)
      clear hB' ha0 ha1 ha2
      obtain ⟨ha0, ha1, ha2⟩ := cells3 hA
      rw [hf.out]
      go_wp2_with fail
      refine (specNeedOk_any nm vr kd (by first | omega | (simp; done) | (simp; omega)) (by first | omega | (simp; done) | (simp; omega)) _).mono ?_
      rintro e w4 ⟨rfl, hB'⟩
      replace hA := hA.trans (hB'.mono hA.size)
      clear hB' ha0 ha1 ha2
      obtain ⟨ha0, ha1, ha2⟩ := cells3 hA
      rw [ho.out]
      go_wp2_with fail
      refine (specNeedFits_any nm vr name ver kd (by first | omega | (simp; done) | (simp; omega)) (by first | omega | (simp; done) | (simp; omega)) (by first | omega | (simp; done) | (simp; omega)) (by first | omega | (simp; done) | (simp; omega)) _).mono ?_
      rintro e w5 ⟨rfl, hB'⟩
      replace hA := hA.trans (hB'.mono hA.size)
      clear hB' ha0 ha1 ha2
      obtain ⟨ha0, ha1, ha2⟩ := cells3 hA
      rw [hf.out]
      go_wp2
      go_ret
      exact ⟨rfl, hB.trans ((((Below.refl _ _).alloc (Nat.le_refl _) _).trans (hA.mono (by simp))).mono hB.size)⟩
    · rcases boolOf (versionOk ver) with hv | hv
      · replace hf := Lib.hid hf
        go_wp2_with fail
        refine (NeedFits_any nm vr name ver kd (by first | omega | (simp; done) | (simp; omega)) (by first | omega | (simp; done) | (simp; omega)) (by first | omega | (simp; done) | (simp; omega)) (by first | omega | (simp; done) | (simp; omega)) _).mono ?_
        rintro e w2 ⟨rfl, hA⟩
        obtain ⟨ha0, ha1, ha2⟩ := cells3 hA
        rw [hf.out]
        go_wp2_with fail
        refine (specNeedFits_any nm vr name ver kd (by first | omega | (simp; done) | (simp; omega)) (by first | omega | (simp; done) | (simp; omega)) (by first | omega | (simp; done) | (simp; omega)) (by first | omega | (simp; done) | (simp; omega)) _).mono ?_
        rintro e w3 ⟨rfl, hB'⟩
        replace hA := hA.trans (hB'.mono hA.size)
        clear hB' ha0 ha1 ha2
        obtain ⟨ha0, ha1, ha2⟩ := cells3 hA
        rw [hf.out]
        go_wp2_with fail
        refine (specNeedOk_any nm vr kd (by first | omega | (simp; done) | (simp; omega)) (by first | omega | (simp; done) | (simp; omega)) _).mono ?_
        rintro e w4 ⟨rfl, hB'⟩
        replace hA := hA.trans (hB'.mono hA.size)
        clear hB' ha0 ha1 ha2
        obtain ⟨ha0, ha1, ha2⟩ := cells3 hA
        rw [ho.out]
        go_wp2_with fail
        refine (specVersionOk_any ver (by first | omega | (simp; done) | (simp; omega)) _).mono ?_
        rintro e w5 ⟨rfl, hB'⟩
        replace hA := hA.trans (hB'.mono hA.size)
        clear hB' ha0 ha1 ha2
        obtain ⟨ha0, ha1, ha2⟩ := cells3 hA
        rw [hv.out]
        go_wp2_with fail
        refine (specNeedFits_any nm vr name ver kd (by first | omega | (simp; done) | (simp; omega)) (by first | omega | (simp; done) | (simp; omega)) (by first | omega | (simp; done) | (simp; omega)) (by first | omega | (simp; done) | (simp; omega)) _).mono ?_
        rintro e w6 ⟨rfl, hB'⟩
        replace hA := hA.trans (hB'.mono hA.size)
        clear hB' ha0 ha1 ha2
        obtain ⟨ha0, ha1, ha2⟩ := cells3 hA
        rw [hf.out]
        go_wp2
        go_ret
        exact ⟨rfl, hB.trans ((((Below.refl _ _).alloc (Nat.le_refl _) _).trans (hA.mono (by simp))).mono hB.size)⟩
      · by_cases h00 : kd = 0
        · subst h00
          replace hf := Lib.hid hf
          go_wp2_with fail
          refine (NeedFits_any nm vr name ver 0 (by first | omega | (simp; done) | (simp; omega)) (by first | omega | (simp; done) | (simp; omega)) (by first | omega | (simp; done) | (simp; omega)) (by first | omega | (simp; done) | (simp; omega)) _).mono ?_
          rintro e w2 ⟨rfl, hA⟩
          obtain ⟨ha0, ha1, ha2⟩ := cells3 hA
          rw [hf.out]
          go_wp2_with fail
          refine (specNeedFits_any nm vr name ver 0 (by first | omega | (simp; done) | (simp; omega)) (by first | omega | (simp; done) | (simp; omega)) (by first | omega | (simp; done) | (simp; omega)) (by first | omega | (simp; done) | (simp; omega)) _).mono ?_
          rintro e w3 ⟨rfl, hB'⟩
          replace hA := hA.trans (hB'.mono hA.size)
          clear hB' ha0 ha1 ha2
          obtain ⟨ha0, ha1, ha2⟩ := cells3 hA
          rw [hf.out]
          go_wp2_with fail
          refine (specNeedOk_any nm vr 0 (by first | omega | (simp; done) | (simp; omega)) (by first | omega | (simp; done) | (simp; omega)) _).mono ?_
          rintro e w4 ⟨rfl, hB'⟩
          replace hA := hA.trans (hB'.mono hA.size)
          clear hB' ha0 ha1 ha2
          obtain ⟨ha0, ha1, ha2⟩ := cells3 hA
          rw [ho.out]
          go_wp2_with fail
          refine (specVersionOk_any ver (by first | omega | (simp; done) | (simp; omega)) _).mono ?_
          rintro e w5 ⟨rfl, hB'⟩
          replace hA := hA.trans (hB'.mono hA.size)
          clear hB' ha0 ha1 ha2
          obtain ⟨ha0, ha1, ha2⟩ := cells3 hA
          rw [hv.out]
          go_wp2_with fail
          refine (specNeedFits_any nm vr name ver 0 (by first | omega | (simp; done) | (simp; omega)) (by first | omega | (simp; done) | (simp; omega)) (by first | omega | (simp; done) | (simp; omega)) (by first | omega | (simp; done) | (simp; omega)) _).mono ?_
          rintro e w6 ⟨rfl, hB'⟩
          replace hA := hA.trans (hB'.mono hA.size)
          clear hB' ha0 ha1 ha2
          obtain ⟨ha0, ha1, ha2⟩ := cells3 hA
          rw [hf.out]
          go_wp2
          go_ret
          exact ⟨rfl, hB.trans ((((Below.refl _ _).alloc (Nat.le_refl _) _).trans (hA.mono (by simp))).mono hB.size)⟩
        · have hpp := needOk_parts ho.out h00
          have hkz : (kd == 0) = false := by rw [beq_eq_false_iff_ne]; exact h00
          have g2 := fits_from hpp.1 hpp.2.1 hv.out
          have g3 := fits_less hpp.1 hpp.2.1 hv.out
          have g1 := fits_same hpp.1 hpp.2.1 hv.out
          have g0 := Lib.hid (fits_any hpp.1 hv.out)
          have hsame := order_same hv.out hpp.2.1
          clear hpp h00
          rcases order_vals ver vr with ov | ov | ov
          · rw [ov] at g1 g2 g3 hsame
            clear ov
            have hvv : (ver == vr) = false := by simpa using hsame.symm
            clear hsame
            replace g1 := Lib.hid (g1.trans (show _ = false from rfl))
            replace g2 := Lib.hid (g2.trans (show _ = false from rfl))
            replace g3 := Lib.hid (g3.trans (show _ = true from rfl))
            by_cases hnn : nm = name
            · subst hnn
              replace hf := Lib.hid hf
              go_wp2_with fail
              refine (NeedFits_any nm vr nm ver kd (by first | omega | (simp; done) | (simp; omega)) (by first | omega | (simp; done) | (simp; omega)) (by first | omega | (simp; done) | (simp; omega)) (by first | omega | (simp; done) | (simp; omega)) _).mono ?_
              rintro e w2 ⟨rfl, hA⟩
              obtain ⟨ha0, ha1, ha2⟩ := cells3 hA
              rw [hf.out]
              go_wp2_with fail
              refine (specNeedFits_any nm vr nm ver kd (by first | omega | (simp; done) | (simp; omega)) (by first | omega | (simp; done) | (simp; omega)) (by first | omega | (simp; done) | (simp; omega)) (by first | omega | (simp; done) | (simp; omega)) _).mono ?_
              rintro e w3 ⟨rfl, hB'⟩
              replace hA := hA.trans (hB'.mono hA.size)
              clear hB' ha0 ha1 ha2
              obtain ⟨ha0, ha1, ha2⟩ := cells3 hA
              rw [hf.out]
              go_wp2_with fail
              refine (specNeedOk_any nm vr kd (by first | omega | (simp; done) | (simp; omega)) (by first | omega | (simp; done) | (simp; omega)) _).mono ?_
              rintro e w4 ⟨rfl, hB'⟩
              replace hA := hA.trans (hB'.mono hA.size)
              clear hB' ha0 ha1 ha2
              obtain ⟨ha0, ha1, ha2⟩ := cells3 hA
              rw [ho.out]
              go_wp2_with fail
              refine (specVersionOk_any ver (by first | omega | (simp; done) | (simp; omega)) _).mono ?_
              rintro e w5 ⟨rfl, hB'⟩
              replace hA := hA.trans (hB'.mono hA.size)
              clear hB' ha0 ha1 ha2
              obtain ⟨ha0, ha1, ha2⟩ := cells3 hA
              rw [hv.out]
              go_wp2_with fail
              refine (NeedFits_any nm vr nm ver 2 (by first | omega | (simp; done) | (simp; omega)) (by first | omega | (simp; done) | (simp; omega)) (by first | omega | (simp; done) | (simp; omega)) (by first | omega | (simp; done) | (simp; omega)) _).mono ?_
              rintro e w6 ⟨rfl, hB'⟩
              replace hA := hA.trans (hB'.mono hA.size)
              clear hB' ha0 ha1 ha2
              obtain ⟨ha0, ha1, ha2⟩ := cells3 hA
              rw [g2.out]
              go_wp2_with fail
              refine (NeedFits_any nm vr nm ver 3 (by first | omega | (simp; done) | (simp; omega)) (by first | omega | (simp; done) | (simp; omega)) (by first | omega | (simp; done) | (simp; omega)) (by first | omega | (simp; done) | (simp; omega)) _).mono ?_
              rintro e w7 ⟨rfl, hB'⟩
              replace hA := hA.trans (hB'.mono hA.size)
              clear hB' ha0 ha1 ha2
              obtain ⟨ha0, ha1, ha2⟩ := cells3 hA
              rw [g3.out]
              go_wp2_with fail
              refine (NeedFits_any nm vr nm ver 1 (by first | omega | (simp; done) | (simp; omega)) (by first | omega | (simp; done) | (simp; omega)) (by first | omega | (simp; done) | (simp; omega)) (by first | omega | (simp; done) | (simp; omega)) _).mono ?_
              rintro e w8 ⟨rfl, hB'⟩
              replace hA := hA.trans (hB'.mono hA.size)
              clear hB' ha0 ha1 ha2
              obtain ⟨ha0, ha1, ha2⟩ := cells3 hA
              rw [g1.out]
              go_wp2_with fail
              refine (NeedFits_any nm [] nm ver 0 (by first | omega | (simp; done) | (simp; omega)) (by first | omega | (simp; done) | (simp; omega)) (by first | omega | (simp; done) | (simp; omega)) (by first | omega | (simp; done) | (simp; omega)) _).mono ?_
              rintro e w9 ⟨rfl, hB'⟩
              replace hA := hA.trans (hB'.mono hA.size)
              clear hB' ha0 ha1 ha2
              obtain ⟨ha0, ha1, ha2⟩ := cells3 hA
              rw [g0.out]
              go_wp2
              go_ret
              exact ⟨rfl, hB.trans ((((Below.refl _ _).alloc (Nat.le_refl _) _).trans (hA.mono (by simp))).mono hB.size)⟩
            · rw [fits_name (fun h => hnn h.symm)] at hf
              subst hf
              have hf := fits_name (vr := vr) (ver := ver) (kd := kd) (fun h : name = nm => hnn h.symm)
              have hnb : (name == nm) = false := by simpa using fun h : name = nm => hnn h.symm
              clear hnn
              replace hf := Lib.hid hf
              go_wp2_with fail
              refine (NeedFits_any nm vr name ver kd (by first | omega | (simp; done) | (simp; omega)) (by first | omega | (simp; done) | (simp; omega)) (by first | omega | (simp; done) | (simp; omega)) (by first | omega | (simp; done) | (simp; omega)) _).mono ?_
              rintro e w2 ⟨rfl, hA⟩
              obtain ⟨ha0, ha1, ha2⟩ := cells3 hA
              rw [hf.out]
              go_wp2_with fail
              refine (specNeedFits_any nm vr name ver kd (by first | omega | (simp; done) | (simp; omega)) (by first | omega | (simp; done) | (simp; omega)) (by first | omega | (simp; done) | (simp; omega)) (by first | omega | (simp; done) | (simp; omega)) _).mono ?_
              rintro e w3 ⟨rfl, hB'⟩
              replace hA := hA.trans (hB'.mono hA.size)
              clear hB' ha0 ha1 ha2
              obtain ⟨ha0, ha1, ha2⟩ := cells3 hA
              rw [hf.out]
              go_wp2_with fail
              refine (specNeedOk_any nm vr kd (by first | omega | (simp; done) | (simp; omega)) (by first | omega | (simp; done) | (simp; omega)) _).mono ?_
              rintro e w4 ⟨rfl, hB'⟩
              replace hA := hA.trans (hB'.mono hA.size)
              clear hB' ha0 ha1 ha2
              obtain ⟨ha0, ha1, ha2⟩ := cells3 hA
              rw [ho.out]
              go_wp2_with fail
              refine (specVersionOk_any ver (by first | omega | (simp; done) | (simp; omega)) _).mono ?_
              rintro e w5 ⟨rfl, hB'⟩
              replace hA := hA.trans (hB'.mono hA.size)
              clear hB' ha0 ha1 ha2
              obtain ⟨ha0, ha1, ha2⟩ := cells3 hA
              rw [hv.out]
              go_wp2_with fail
              refine (NeedFits_any nm vr nm ver 2 (by first | omega | (simp; done) | (simp; omega)) (by first | omega | (simp; done) | (simp; omega)) (by first | omega | (simp; done) | (simp; omega)) (by first | omega | (simp; done) | (simp; omega)) _).mono ?_
              rintro e w6 ⟨rfl, hB'⟩
              replace hA := hA.trans (hB'.mono hA.size)
              clear hB' ha0 ha1 ha2
              obtain ⟨ha0, ha1, ha2⟩ := cells3 hA
              rw [g2.out]
              go_wp2_with fail
              refine (NeedFits_any nm vr nm ver 3 (by first | omega | (simp; done) | (simp; omega)) (by first | omega | (simp; done) | (simp; omega)) (by first | omega | (simp; done) | (simp; omega)) (by first | omega | (simp; done) | (simp; omega)) _).mono ?_
              rintro e w7 ⟨rfl, hB'⟩
              replace hA := hA.trans (hB'.mono hA.size)
              clear hB' ha0 ha1 ha2
              obtain ⟨ha0, ha1, ha2⟩ := cells3 hA
              rw [g3.out]
              go_wp2_with fail
              refine (NeedFits_any nm vr nm ver 1 (by first | omega | (simp; done) | (simp; omega)) (by first | omega | (simp; done) | (simp; omega)) (by first | omega | (simp; done) | (simp; omega)) (by first | omega | (simp; done) | (simp; omega)) _).mono ?_
              rintro e w8 ⟨rfl, hB'⟩
              replace hA := hA.trans (hB'.mono hA.size)
              clear hB' ha0 ha1 ha2
              obtain ⟨ha0, ha1, ha2⟩ := cells3 hA
              rw [g1.out]
              go_wp2_with fail
              refine (NeedFits_any nm [] nm ver 0 (by first | omega | (simp; done) | (simp; omega)) (by first | omega | (simp; done) | (simp; omega)) (by first | omega | (simp; done) | (simp; omega)) (by first | omega | (simp; done) | (simp; omega)) _).mono ?_
              rintro e w9 ⟨rfl, hB'⟩
              replace hA := hA.trans (hB'.mono hA.size)
              clear hB' ha0 ha1 ha2
              obtain ⟨ha0, ha1, ha2⟩ := cells3 hA
              rw [g0.out]
              go_wp2
              go_ret
              exact ⟨rfl, hB.trans ((((Below.refl _ _).alloc (Nat.le_refl _) _).trans (hA.mono (by simp))).mono hB.size)⟩
          · rw [ov] at g1 g2 g3 hsame
            clear ov
            have hvv : vr = ver := by simpa using (hsame.symm ▸ rfl : decide (ver = vr) = true) |> fun h => (of_decide_eq_true h).symm
            subst hvv
            clear hsame
            replace g1 := Lib.hid (g1.trans (show _ = true from rfl))
            replace g2 := Lib.hid (g2.trans (show _ = true from rfl))
            replace g3 := Lib.hid (g3.trans (show _ = false from rfl))
            by_cases hnn : nm = name
            · subst hnn
              replace hf := Lib.hid hf
              go_wp2_with fail
              refine (NeedFits_any nm vr nm vr kd (by first | omega | (simp; done) | (simp; omega)) (by first | omega | (simp; done) | (simp; omega)) (by first | omega | (simp; done) | (simp; omega)) (by first | omega | (simp; done) | (simp; omega)) _).mono ?_
              rintro e w2 ⟨rfl, hA⟩
              obtain ⟨ha0, ha1, ha2⟩ := cells3 hA
              rw [hf.out]
              go_wp2_with fail
              refine (specNeedFits_any nm vr nm vr kd (by first | omega | (simp; done) | (simp; omega)) (by first | omega | (simp; done) | (simp; omega)) (by first | omega | (simp; done) | (simp; omega)) (by first | omega | (simp; done) | (simp; omega)) _).mono ?_
              rintro e w3 ⟨rfl, hB'⟩
              replace hA := hA.trans (hB'.mono hA.size)
              clear hB' ha0 ha1 ha2
              obtain ⟨ha0, ha1, ha2⟩ := cells3 hA
              rw [hf.out]
              go_wp2_with fail
              refine (specNeedOk_any nm vr kd (by first | omega | (simp; done) | (simp; omega)) (by first | omega | (simp; done) | (simp; omega)) _).mono ?_
              rintro e w4 ⟨rfl, hB'⟩
              replace hA := hA.trans (hB'.mono hA.size)
              clear hB' ha0 ha1 ha2
              obtain ⟨ha0, ha1, ha2⟩ := cells3 hA
              rw [ho.out]
              go_wp2_with fail
              refine (specVersionOk_any vr (by first | omega | (simp; done) | (simp; omega)) _).mono ?_
              rintro e w5 ⟨rfl, hB'⟩
              replace hA := hA.trans (hB'.mono hA.size)
              clear hB' ha0 ha1 ha2
              obtain ⟨ha0, ha1, ha2⟩ := cells3 hA
              rw [hv.out]
              go_wp2_with fail
              refine (NeedFits_any nm vr nm vr 2 (by first | omega | (simp; done) | (simp; omega)) (by first | omega | (simp; done) | (simp; omega)) (by first | omega | (simp; done) | (simp; omega)) (by first | omega | (simp; done) | (simp; omega)) _).mono ?_
              rintro e w6 ⟨rfl, hB'⟩
              replace hA := hA.trans (hB'.mono hA.size)
              clear hB' ha0 ha1 ha2
              obtain ⟨ha0, ha1, ha2⟩ := cells3 hA
              rw [g2.out]
              go_wp2_with fail
              refine (NeedFits_any nm vr nm vr 3 (by first | omega | (simp; done) | (simp; omega)) (by first | omega | (simp; done) | (simp; omega)) (by first | omega | (simp; done) | (simp; omega)) (by first | omega | (simp; done) | (simp; omega)) _).mono ?_
              rintro e w7 ⟨rfl, hB'⟩
              replace hA := hA.trans (hB'.mono hA.size)
              clear hB' ha0 ha1 ha2
              obtain ⟨ha0, ha1, ha2⟩ := cells3 hA
              rw [g3.out]
              go_wp2_with fail
              refine (NeedFits_any nm vr nm vr 1 (by first | omega | (simp; done) | (simp; omega)) (by first | omega | (simp; done) | (simp; omega)) (by first | omega | (simp; done) | (simp; omega)) (by first | omega | (simp; done) | (simp; omega)) _).mono ?_
              rintro e w8 ⟨rfl, hB'⟩
              replace hA := hA.trans (hB'.mono hA.size)
              clear hB' ha0 ha1 ha2
              obtain ⟨ha0, ha1, ha2⟩ := cells3 hA
              rw [g1.out]
              go_wp2_with fail
              refine (NeedFits_any nm [] nm vr 0 (by first | omega | (simp; done) | (simp; omega)) (by first | omega | (simp; done) | (simp; omega)) (by first | omega | (simp; done) | (simp; omega)) (by first | omega | (simp; done) | (simp; omega)) _).mono ?_
              rintro e w9 ⟨rfl, hB'⟩
              replace hA := hA.trans (hB'.mono hA.size)
              clear hB' ha0 ha1 ha2
              obtain ⟨ha0, ha1, ha2⟩ := cells3 hA
              rw [g0.out]
              go_wp2
              go_ret
              exact ⟨rfl, hB.trans ((((Below.refl _ _).alloc (Nat.le_refl _) _).trans (hA.mono (by simp))).mono hB.size)⟩
            · rw [fits_name (fun h => hnn h.symm)] at hf
              subst hf
              have hf := fits_name (vr := vr) (ver := vr) (kd := kd) (fun h : name = nm => hnn h.symm)
              have hnb : (name == nm) = false := by simpa using fun h : name = nm => hnn h.symm
              clear hnn
              replace hf := Lib.hid hf
              go_wp2_with fail
              refine (NeedFits_any nm vr name vr kd (by first | omega | (simp; done) | (simp; omega)) (by first | omega | (simp; done) | (simp; omega)) (by first | omega | (simp; done) | (simp; omega)) (by first | omega | (simp; done) | (simp; omega)) _).mono ?_
              rintro e w2 ⟨rfl, hA⟩
              obtain ⟨ha0, ha1, ha2⟩ := cells3 hA
              rw [hf.out]
              go_wp2_with fail
              refine (specNeedFits_any nm vr name vr kd (by first | omega | (simp; done) | (simp; omega)) (by first | omega | (simp; done) | (simp; omega)) (by first | omega | (simp; done) | (simp; omega)) (by first | omega | (simp; done) | (simp; omega)) _).mono ?_
              rintro e w3 ⟨rfl, hB'⟩
              replace hA := hA.trans (hB'.mono hA.size)
              clear hB' ha0 ha1 ha2
              obtain ⟨ha0, ha1, ha2⟩ := cells3 hA
              rw [hf.out]
              go_wp2_with fail
              refine (specNeedOk_any nm vr kd (by first | omega | (simp; done) | (simp; omega)) (by first | omega | (simp; done) | (simp; omega)) _).mono ?_
              rintro e w4 ⟨rfl, hB'⟩
              replace hA := hA.trans (hB'.mono hA.size)
              clear hB' ha0 ha1 ha2
              obtain ⟨ha0, ha1, ha2⟩ := cells3 hA
              rw [ho.out]
              go_wp2_with fail
              refine (specVersionOk_any vr (by first | omega | (simp; done) | (simp; omega)) _).mono ?_
              rintro e w5 ⟨rfl, hB'⟩
              replace hA := hA.trans (hB'.mono hA.size)
              clear hB' ha0 ha1 ha2
              obtain ⟨ha0, ha1, ha2⟩ := cells3 hA
              rw [hv.out]
              go_wp2_with fail
              refine (NeedFits_any nm vr nm vr 2 (by first | omega | (simp; done) | (simp; omega)) (by first | omega | (simp; done) | (simp; omega)) (by first | omega | (simp; done) | (simp; omega)) (by first | omega | (simp; done) | (simp; omega)) _).mono ?_
              rintro e w6 ⟨rfl, hB'⟩
              replace hA := hA.trans (hB'.mono hA.size)
              clear hB' ha0 ha1 ha2
              obtain ⟨ha0, ha1, ha2⟩ := cells3 hA
              rw [g2.out]
              go_wp2_with fail
              refine (NeedFits_any nm vr nm vr 3 (by first | omega | (simp; done) | (simp; omega)) (by first | omega | (simp; done) | (simp; omega)) (by first | omega | (simp; done) | (simp; omega)) (by first | omega | (simp; done) | (simp; omega)) _).mono ?_
              rintro e w7 ⟨rfl, hB'⟩
              replace hA := hA.trans (hB'.mono hA.size)
              clear hB' ha0 ha1 ha2
              obtain ⟨ha0, ha1, ha2⟩ := cells3 hA
              rw [g3.out]
              go_wp2_with fail
              refine (NeedFits_any nm vr nm vr 1 (by first | omega | (simp; done) | (simp; omega)) (by first | omega | (simp; done) | (simp; omega)) (by first | omega | (simp; done) | (simp; omega)) (by first | omega | (simp; done) | (simp; omega)) _).mono ?_
              rintro e w8 ⟨rfl, hB'⟩
              replace hA := hA.trans (hB'.mono hA.size)
              clear hB' ha0 ha1 ha2
              obtain ⟨ha0, ha1, ha2⟩ := cells3 hA
              rw [g1.out]
              go_wp2_with fail
              refine (NeedFits_any nm [] nm vr 0 (by first | omega | (simp; done) | (simp; omega)) (by first | omega | (simp; done) | (simp; omega)) (by first | omega | (simp; done) | (simp; omega)) (by first | omega | (simp; done) | (simp; omega)) _).mono ?_
              rintro e w9 ⟨rfl, hB'⟩
              replace hA := hA.trans (hB'.mono hA.size)
              clear hB' ha0 ha1 ha2
              obtain ⟨ha0, ha1, ha2⟩ := cells3 hA
              rw [g0.out]
              go_wp2
              go_ret
              exact ⟨rfl, hB.trans ((((Below.refl _ _).alloc (Nat.le_refl _) _).trans (hA.mono (by simp))).mono hB.size)⟩
          · rw [ov] at g1 g2 g3 hsame
            clear ov
            have hvv : (ver == vr) = false := by simpa using hsame.symm
            clear hsame
            replace g1 := Lib.hid (g1.trans (show _ = false from rfl))
            replace g2 := Lib.hid (g2.trans (show _ = true from rfl))
            replace g3 := Lib.hid (g3.trans (show _ = false from rfl))
            by_cases hnn : nm = name
            · subst hnn
              replace hf := Lib.hid hf
              go_wp2_with fail
              refine (NeedFits_any nm vr nm ver kd (by first | omega | (simp; done) | (simp; omega)) (by first | omega | (simp; done) | (simp; omega)) (by first | omega | (simp; done) | (simp; omega)) (by first | omega | (simp; done) | (simp; omega)) _).mono ?_
              rintro e w2 ⟨rfl, hA⟩
              obtain ⟨ha0, ha1, ha2⟩ := cells3 hA
              rw [hf.out]
              go_wp2_with fail
              refine (specNeedFits_any nm vr nm ver kd (by first | omega | (simp; done) | (simp; omega)) (by first | omega | (simp; done) | (simp; omega)) (by first | omega | (simp; done) | (simp; omega)) (by first | omega | (simp; done) | (simp; omega)) _).mono ?_
              rintro e w3 ⟨rfl, hB'⟩
              replace hA := hA.trans (hB'.mono hA.size)
              clear hB' ha0 ha1 ha2
              obtain ⟨ha0, ha1, ha2⟩ := cells3 hA
              rw [hf.out]
              go_wp2_with fail
              refine (specNeedOk_any nm vr kd (by first | omega | (simp; done) | (simp; omega)) (by first | omega | (simp; done) | (simp; omega)) _).mono ?_
              rintro e w4 ⟨rfl, hB'⟩
              replace hA := hA.trans (hB'.mono hA.size)
              clear hB' ha0 ha1 ha2
              obtain ⟨ha0, ha1, ha2⟩ := cells3 hA
              rw [ho.out]
              go_wp2_with fail
              refine (specVersionOk_any ver (by first | omega | (simp; done) | (simp; omega)) _).mono ?_
              rintro e w5 ⟨rfl, hB'⟩
              replace hA := hA.trans (hB'.mono hA.size)
              clear hB' ha0 ha1 ha2
              obtain ⟨ha0, ha1, ha2⟩ := cells3 hA
              rw [hv.out]
              go_wp2_with fail
              refine (NeedFits_any nm vr nm ver 2 (by first | omega | (simp; done) | (simp; omega)) (by first | omega | (simp; done) | (simp; omega)) (by first | omega | (simp; done) | (simp; omega)) (by first | omega | (simp; done) | (simp; omega)) _).mono ?_
              rintro e w6 ⟨rfl, hB'⟩
              replace hA := hA.trans (hB'.mono hA.size)
              clear hB' ha0 ha1 ha2
              obtain ⟨ha0, ha1, ha2⟩ := cells3 hA
              rw [g2.out]
              go_wp2_with fail
              refine (NeedFits_any nm vr nm ver 3 (by first | omega | (simp; done) | (simp; omega)) (by first | omega | (simp; done) | (simp; omega)) (by first | omega | (simp; done) | (simp; omega)) (by first | omega | (simp; done) | (simp; omega)) _).mono ?_
              rintro e w7 ⟨rfl, hB'⟩
              replace hA := hA.trans (hB'.mono hA.size)
              clear hB' ha0 ha1 ha2
              obtain ⟨ha0, ha1, ha2⟩ := cells3 hA
              rw [g3.out]
              go_wp2_with fail
              refine (NeedFits_any nm vr nm ver 1 (by first | omega | (simp; done) | (simp; omega)) (by first | omega | (simp; done) | (simp; omega)) (by first | omega | (simp; done) | (simp; omega)) (by first | omega | (simp; done) | (simp; omega)) _).mono ?_
              rintro e w8 ⟨rfl, hB'⟩
              replace hA := hA.trans (hB'.mono hA.size)
              clear hB' ha0 ha1 ha2
              obtain ⟨ha0, ha1, ha2⟩ := cells3 hA
              rw [g1.out]
              go_wp2_with fail
              refine (NeedFits_any nm [] nm ver 0 (by first | omega | (simp; done) | (simp; omega)) (by first | omega | (simp; done) | (simp; omega)) (by first | omega | (simp; done) | (simp; omega)) (by first | omega | (simp; done) | (simp; omega)) _).mono ?_
              rintro e w9 ⟨rfl, hB'⟩
              replace hA := hA.trans (hB'.mono hA.size)
              clear hB' ha0 ha1 ha2
              obtain ⟨ha0, ha1, ha2⟩ := cells3 hA
              rw [g0.out]
              go_wp2
              go_ret
              exact ⟨rfl, hB.trans ((((Below.refl _ _).alloc (Nat.le_refl _) _).trans (hA.mono (by simp))).mono hB.size)⟩
            · rw [fits_name (fun h => hnn h.symm)] at hf
              subst hf
              have hf := fits_name (vr := vr) (ver := ver) (kd := kd) (fun h : name = nm => hnn h.symm)
              have hnb : (name == nm) = false := by simpa using fun h : name = nm => hnn h.symm
              clear hnn
              replace hf := Lib.hid hf
              go_wp2_with fail
              refine (NeedFits_any nm vr name ver kd (by first | omega | (simp; done) | (simp; omega)) (by first | omega | (simp; done) | (simp; omega)) (by first | omega | (simp; done) | (simp; omega)) (by first | omega | (simp; done) | (simp; omega)) _).mono ?_
              rintro e w2 ⟨rfl, hA⟩
              obtain ⟨ha0, ha1, ha2⟩ := cells3 hA
              rw [hf.out]
              go_wp2_with fail
              refine (specNeedFits_any nm vr name ver kd (by first | omega | (simp; done) | (simp; omega)) (by first | omega | (simp; done) | (simp; omega)) (by first | omega | (simp; done) | (simp; omega)) (by first | omega | (simp; done) | (simp; omega)) _).mono ?_
              rintro e w3 ⟨rfl, hB'⟩
              replace hA := hA.trans (hB'.mono hA.size)
              clear hB' ha0 ha1 ha2
              obtain ⟨ha0, ha1, ha2⟩ := cells3 hA
              rw [hf.out]
              go_wp2_with fail
              refine (specNeedOk_any nm vr kd (by first | omega | (simp; done) | (simp; omega)) (by first | omega | (simp; done) | (simp; omega)) _).mono ?_
              rintro e w4 ⟨rfl, hB'⟩
              replace hA := hA.trans (hB'.mono hA.size)
              clear hB' ha0 ha1 ha2
              obtain ⟨ha0, ha1, ha2⟩ := cells3 hA
              rw [ho.out]
              go_wp2_with fail
              refine (specVersionOk_any ver (by first | omega | (simp; done) | (simp; omega)) _).mono ?_
              rintro e w5 ⟨rfl, hB'⟩
              replace hA := hA.trans (hB'.mono hA.size)
              clear hB' ha0 ha1 ha2
              obtain ⟨ha0, ha1, ha2⟩ := cells3 hA
              rw [hv.out]
              go_wp2_with fail
              refine (NeedFits_any nm vr nm ver 2 (by first | omega | (simp; done) | (simp; omega)) (by first | omega | (simp; done) | (simp; omega)) (by first | omega | (simp; done) | (simp; omega)) (by first | omega | (simp; done) | (simp; omega)) _).mono ?_
              rintro e w6 ⟨rfl, hB'⟩
              replace hA := hA.trans (hB'.mono hA.size)
              clear hB' ha0 ha1 ha2
              obtain ⟨ha0, ha1, ha2⟩ := cells3 hA
              rw [g2.out]
              go_wp2_with fail
              refine (NeedFits_any nm vr nm ver 3 (by first | omega | (simp; done) | (simp; omega)) (by first | omega | (simp; done) | (simp; omega)) (by first | omega | (simp; done) | (simp; omega)) (by first | omega | (simp; done) | (simp; omega)) _).mono ?_
              rintro e w7 ⟨rfl, hB'⟩
              replace hA := hA.trans (hB'.mono hA.size)
              clear hB' ha0 ha1 ha2
              obtain ⟨ha0, ha1, ha2⟩ := cells3 hA
              rw [g3.out]
              go_wp2_with fail
              refine (NeedFits_any nm vr nm ver 1 (by first | omega | (simp; done) | (simp; omega)) (by first | omega | (simp; done) | (simp; omega)) (by first | omega | (simp; done) | (simp; omega)) (by first | omega | (simp; done) | (simp; omega)) _).mono ?_
              rintro e w8 ⟨rfl, hB'⟩
              replace hA := hA.trans (hB'.mono hA.size)
              clear hB' ha0 ha1 ha2
              obtain ⟨ha0, ha1, ha2⟩ := cells3 hA
              rw [g1.out]
              go_wp2_with fail
              refine (NeedFits_any nm [] nm ver 0 (by first | omega | (simp; done) | (simp; omega)) (by first | omega | (simp; done) | (simp; omega)) (by first | omega | (simp; done) | (simp; omega)) (by first | omega | (simp; done) | (simp; omega)) _).mono ?_
              rintro e w9 ⟨rfl, hB'⟩
              replace hA := hA.trans (hB'.mono hA.size)
              clear hB' ha0 ha1 ha2
              obtain ⟨ha0, ha1, ha2⟩ := cells3 hA
              rw [g0.out]
              go_wp2
              go_ret
              exact ⟨rfl, hB.trans ((((Below.refl _ _).alloc (Nat.le_refl _) _).trans (hA.mono (by simp))).mono hB.size)⟩
  · obtain ⟨g1, g2, _⟩ := h0
    unfold maxLen at g2
    go_enter Tryd.func10, Tryd.ntmps10
    go_wp2
    go_ret
    exact ⟨rfl, Below.refl _ _⟩
end Go.Proofs.YtgocnaeignachaaDoor
