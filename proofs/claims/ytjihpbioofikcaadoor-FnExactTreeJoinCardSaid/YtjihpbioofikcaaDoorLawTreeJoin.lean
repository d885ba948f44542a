/-
  The law FnExactTreeJoin, walked: the reference's answer and the program's are one.
-/
import Derived.Test.YtjihpbioofikcaaDoorLawX
import Derived.Test.YtjihpbioofikcaaDoorJoinS
import Derived.Test.YtjihpbioofikcaaDoorSzLeft
import Derived.Deep.RegionHeld3
namespace Go.Proofs.YtjihpbioofikcaaDoor
open Go.RowKit
set_option linter.unusedVariables false
set_option linter.unusedSimpArgs false
attribute [local go_sem] mkB_size mkB_extract mkB_get mkB_append mkB_append_raw raw_append_mkB mkB_toList

theorem treeJoin_small (a b : List En) : (treeJoin a b).1.length ≤ 1048576 := by
  rcases boolOf (treeOk a) with h | h
  · rw [treeJoin_bad1 h.out]; simp
  · rcases boolOf (treeOk b) with h2 | h2
    · rw [treeJoin_bad2 h2.out]; simp
    · have := (treeOk_is h.out).len
      have := (treeOk_is h2.out).len
      have := treeJoin_len a b
      omega
theorem specTreeJoin_fs {a b fs : List En} {r : Bool} (hx : treeJoin a b = (fs, r)) (g c gb cb : Nat) (w : World) (hE : Ents w g a) (hsm : Small a) (hEb : Ents w gb b) (hsmb : Small b) :
    Calls Tryd.prog 28 #[.slice (some ⟨g, 0, none⟩) a.length c, .slice (some ⟨gb, 0, none⟩) b.length cb] w (ResF2 fs r w) := by
  have h := specTreeJoin_any a b g c gb cb w hE hsm hEb hsmb
  rw [hx] at h
  exact h
theorem TreeJoin_fs {a b fs : List En} {r : Bool} (hx : treeJoin a b = (fs, r)) (g c gb cb : Nat) (w : World) (hE : Ents w g a) (hsm : Small a) (hcap : a.length ≤ c) (hEb : Ents w gb b) (hsmb : Small b) (hcapb : b.length ≤ cb) :
    Calls Tryd.prog 29 #[.slice (some ⟨g, 0, none⟩) a.length c, .slice (some ⟨gb, 0, none⟩) b.length cb] w (ResF2 fs r w) := by
  have h := TreeJoin_any a b g c _ cb w hE hsm hcap (InE.of hEb hcapb) hsmb
  rw [hx] at h
  exact h

set_option maxRecDepth 1000000 in
set_option maxHeartbeats 32000000 in
theorem law_FnExactTreeJoin (esa : List En) (Aa : Option Addr) (na ca : Nat) (esb : List En) (Ab : Option Addr) (nb cb : Nat) (w : World) (hAa : ArgE w Aa na ca esa) (hAb : ArgE w Ab nb cb esb) :
    Calls Tryd.prog 4 #[.slice Aa na ca, .slice Ab nb cb] w fun e w' => e = .returned (.bool true) ∧ Below w.heap.size w w' := by
  replace hAa := Lib.hid hAa
  replace hAb := Lib.hid hAb
  obtain ⟨⟨fs, b⟩, hans⟩ : ∃ x, treeJoin esa esb = x := ⟨_, rfl⟩
  have hfl : fs.length ≤ 1048576 := by have := treeJoin_small esa esb; rwa [hans] at this
  replace hans := Lib.hid hans
  obtain ⟨Ka, hKa⟩ : ∃ K, 1 + 4 * esa.length = K := ⟨_, rfl⟩
  obtain ⟨Kb, hKb⟩ : ∃ K, Ka + 4 * esb.length = K := ⟨_, rfl⟩
  obtain ⟨M, hM⟩ : ∃ M, 1 + 4 * fs.length = M := ⟨_, rfl⟩
  replace hKa := Lib.hid hKa
  replace hKb := Lib.hid hKb
  replace hM := Lib.hid hM
  cases b with
  | false =>
    go_enter Tryd.func4, Tryd.ntmps4
    obtain ⟨w0, hw0⟩ : ∃ x, x = w := ⟨_, rfl⟩
    have hC : Below w0.heap.size w0 w0 := by rw [hw0]; exact Below.refl _ _
    have hgo : True := trivial
    subst hw0
    have hA' := Lib.hid (hAa.out.below hC)
    go_wp2_with fail
    with_reducible refine (szEntryS_any esa Aa na ca _ hA'.out).mono ?_
    rintro e w1 ⟨v, rfl, hv0, hv1, hsma, hB⟩
    clear hA'
    replace hC := hC.trans (hB.mono hC.size)
    have hmon := hB.size
    clear hmon hB
    by_cases hv : v < 0
    · go_wp2
      go_ret
      exact ⟨rfl, hC⟩
    replace hsma := Lib.hid (hsma.out (by omega))
    have hlena := hsma.out.1
    have hA' := Lib.hid (hAb.out.below hC)
    go_wp2_with fail
    with_reducible refine (szEntryS_left esb Ab nb cb v _ (by omega) hA'.out).mono ?_
    rintro e w2 ⟨v2, rfl, hv20, hv21, hsmb, hB⟩
    clear hA'
    replace hC := hC.trans (hB.mono hC.size)
    have hmon := hB.size
    clear hmon hB
    by_cases hv : v2 < 0
    · go_wp2
      go_ret
      exact ⟨rfl, hC⟩
    replace hsmb := Lib.hid (hsmb.out (by omega))
    have hlenb := hsmb.out.1
    have hA' := Lib.hid (hAa.out.below hC)
    go_wp2_with fail
    with_reducible refine (toEntryS_any esa Aa na ca _ hA'.out hsma.out).mono ?_
    rintro e w3 ⟨rfl, hr, hB⟩
    clear hA'
    have hBs := hB.size
    have hya := Lib.hid hr
    clear hr
    replace hC := hC.trans (hB.mono hC.size)
    have hmon := hB.size
    clear hmon hB
    clear hBs
    have hA' := Lib.hid (hAb.out.below hC)
    go_wp2_with fail
    with_reducible refine (toEntryS_any esb Ab nb cb _ hA'.out hsmb.out).mono ?_
    rintro e w4 ⟨rfl, hr, hB⟩
    clear hA'
    have hBs := hB.size
    have hyb := Lib.hid hr
    clear hr
    replace hC := hC.trans (hB.mono hC.size)
    replace hya := Lib.hid (hya.out.below hB hya.out.1)
    have hmon := hB.size
    clear hmon hB
    clear hBs
    go_wp2_with fail
    with_reducible refine (specTreeJoin_fs hans.out _ _ _ _ _ hya.out hsma.out hyb.out hsmb.out).mono ?_
    rintro e w5 ⟨A0, cc0, rfl, hO, hB⟩
    clear hya
    clear hyb
    have hS := Lib.hid (SlB.of hO)
    clear hO
    replace hC := hC.trans (hB.mono hC.size)
    have hmon := hB.size
    clear hmon hB
    obtain ⟨HS, hHS⟩ : ∃ x, x = w5.heap.size := ⟨_, rfl⟩
    rw [← hHS] at hS
    have hHW : w0.heap.size ≤ HS := by rw [hHS]; exact hC.size
    have HSz : HS ≤ w5.heap.size := by omega
    clear hHS
    have hA' := Lib.hid (hAa.out.below hC)
    go_wp2_with fail
    with_reducible refine (toEntryS_row esa Aa na ca _ hA'.out hsma.out).mono ?_
    rintro e w6 ⟨rfl, hr, hB⟩
    clear hA'
    have hBs := hB.size
    obtain ⟨hxag, hhxag⟩ : ∃ x, x = w5.heap.size := ⟨_, rfl⟩
    rw [← hhxag] at hr ⊢
    have hxaz := hr.lt
    have hxa := Lib.hid hr
    clear hr
    have hxal : HS ≤ hxag := by omega
    clear hhxag
    replace hC := hC.trans (hB.mono hC.size)
    replace hS := Lib.hid (hS.out.below hB (by omega))
    have hmon := hB.size
    replace HSz : HS ≤ w6.heap.size := by omega
    clear hmon hB
    clear hBs
    have hA' := Lib.hid (hAb.out.below hC)
    go_wp2_with fail
    with_reducible refine (toEntryS_row esb Ab nb cb _ hA'.out hsmb.out).mono ?_
    rintro e w7 ⟨rfl, hr, hB⟩
    clear hA'
    have hBs := hB.size
    obtain ⟨hxbg, hhxbg⟩ : ∃ x, x = w6.heap.size := ⟨_, rfl⟩
    rw [← hhxbg] at hr ⊢
    have hxa_hxb : hxag < hxbg := by omega
    have hxbz := hr.lt
    have hxb := Lib.hid hr
    clear hr
    have hxbl : HS ≤ hxbg := by omega
    clear hhxbg
    replace hC := hC.trans (hB.mono hC.size)
    replace hS := Lib.hid (hS.out.below hB (by omega))
    replace hxa := Lib.hid (hxa.out.below hB (by omega))
    have hmon := hB.size
    replace HSz : HS ≤ w7.heap.size := by omega
    replace hxaz : hxag < w7.heap.size := by omega
    clear hmon hB
    clear hBs
    obtain ⟨LO, hLO⟩ : ∃ x, x = w7.heap.size := ⟨_, rfl⟩
    go_wp2_with fail
    with_reducible refine (TreeJoin_fs hans.out _ _ _ _ _ hxa.out.ents hsma.out (Nat.le_refl _) hxb.out.ents hsmb.out (Nat.le_refl _)).mono ?_
    rintro e w8 ⟨A1, cc1, rfl, hOo, hB⟩
    rw [← hLO] at hOo
    have hO := Lib.hid hOo
    clear hOo
    have hxau : hxag < LO := by omega
    have hxbu : hxbg < LO := by omega
    have hHL : HS ≤ LO := by omega
    have LOz : LO ≤ w8.heap.size := by have := hB.size; omega
    clear hLO
    replace hC := hC.trans (hB.mono hC.size)
    replace hS := Lib.hid (hS.out.below hB (by omega))
    replace hxa := Lib.hid (hxa.out.below hB (by omega))
    replace hxb := Lib.hid (hxb.out.below hB (by omega))
    have hmon := hB.size
    replace HSz : HS ≤ w8.heap.size := by omega
    replace hxaz : hxag < w8.heap.size := by omega
    replace hxbz : hxbg < w8.heap.size := by omega
    clear hmon hB
    go_wp2_with fail
    with_reducible refine (eqEntryS_sl fs A1 A0 _ _ _ _ _ hO.out.sl hS.out.sl rfl rfl hfl).mono ?_
    rintro e w9 ⟨rfl, hB⟩
    replace hC := hC.trans (hB.mono hC.size)
    replace hS := Lib.hid (hS.out.below hB (by omega))
    replace hxa := Lib.hid (hxa.out.below hB (by omega))
    replace hxb := Lib.hid (hxb.out.below hB (by omega))
    replace hO := Lib.hid (hO.out.below hB)
    have hmon := hB.size
    replace HSz : HS ≤ w9.heap.size := by omega
    replace LOz : LO ≤ w9.heap.size := by omega
    replace hxaz : hxag < w9.heap.size := by omega
    replace hxbz : hxbg < w9.heap.size := by omega
    clear hmon hB
    have hA' := Lib.hid (hAa.out.below hC)
    go_wp2_with fail
    with_reducible refine (toEntryS_any esa Aa na ca _ hA'.out hsma.out).mono ?_
    rintro e w10 ⟨rfl, hr, hB⟩
    clear hA'
    have hBs := hB.size
    have hya := Lib.hid hr
    clear hr
    replace hC := hC.trans (hB.mono hC.size)
    replace hS := Lib.hid (hS.out.below hB (by omega))
    replace hxa := Lib.hid (hxa.out.below hB (by omega))
    replace hxb := Lib.hid (hxb.out.below hB (by omega))
    replace hO := Lib.hid (hO.out.below hB)
    have hmon := hB.size
    replace HSz : HS ≤ w10.heap.size := by omega
    replace LOz : LO ≤ w10.heap.size := by omega
    replace hxaz : hxag < w10.heap.size := by omega
    replace hxbz : hxbg < w10.heap.size := by omega
    clear hmon hB
    clear hBs
    go_wp2_with fail
    with_reducible refine (eqEntryS_any esa _ _ _ _ _ _ _ hxa.out.ents hya.out rfl rfl hlena).mono ?_
    rintro e w11 ⟨rfl, hB⟩
    clear hya
    replace hC := hC.trans (hB.mono hC.size)
    replace hS := Lib.hid (hS.out.below hB (by omega))
    replace hxa := Lib.hid (hxa.out.below hB (by omega))
    replace hxb := Lib.hid (hxb.out.below hB (by omega))
    replace hO := Lib.hid (hO.out.below hB)
    have hmon := hB.size
    replace HSz : HS ≤ w11.heap.size := by omega
    replace LOz : LO ≤ w11.heap.size := by omega
    replace hxaz : hxag < w11.heap.size := by omega
    replace hxbz : hxbg < w11.heap.size := by omega
    clear hmon hB
    have hA' := Lib.hid (hAb.out.below hC)
    go_wp2_with fail
    with_reducible refine (toEntryS_any esb Ab nb cb _ hA'.out hsmb.out).mono ?_
    rintro e w12 ⟨rfl, hr, hB⟩
    clear hA'
    have hBs := hB.size
    have hyb := Lib.hid hr
    clear hr
    replace hC := hC.trans (hB.mono hC.size)
    replace hS := Lib.hid (hS.out.below hB (by omega))
    replace hxa := Lib.hid (hxa.out.below hB (by omega))
    replace hxb := Lib.hid (hxb.out.below hB (by omega))
    replace hO := Lib.hid (hO.out.below hB)
    have hmon := hB.size
    replace HSz : HS ≤ w12.heap.size := by omega
    replace LOz : LO ≤ w12.heap.size := by omega
    replace hxaz : hxag < w12.heap.size := by omega
    replace hxbz : hxbg < w12.heap.size := by omega
    clear hmon hB
    clear hBs
    go_wp2_with fail
    with_reducible refine (eqEntryS_any esb _ _ _ _ _ _ _ hxb.out.ents hyb.out rfl rfl hlenb).mono ?_
    rintro e w13 ⟨rfl, hB⟩
    clear hyb
    replace hC := hC.trans (hB.mono hC.size)
    replace hS := Lib.hid (hS.out.below hB (by omega))
    replace hxa := Lib.hid (hxa.out.below hB (by omega))
    replace hxb := Lib.hid (hxb.out.below hB (by omega))
    replace hO := Lib.hid (hO.out.below hB)
    have hmon := hB.size
    replace HSz : HS ≤ w13.heap.size := by omega
    replace LOz : LO ≤ w13.heap.size := by omega
    replace hxaz : hxag < w13.heap.size := by omega
    replace hxbz : hxbg < w13.heap.size := by omega
    clear hmon hB
    go_wp2_with fail
    with_reducible refine (markRow1 esa _ _ Ka _ hxa.out hlena hKa.out).mono ?_
    rintro e w14 ⟨rfl, hg⟩
    have hb : Below HS w13 w14 := gr_is_below hg (by omega) (by omega)
    have hmon := hg.size
    replace hC := hC.trans (hb.mono hHW)
    replace hS := Lib.hid (hS.out.below hb (Nat.le_refl _))
    replace hO := Lib.hid (hO.out.gr hg (by omega))
    replace hxb := Lib.hid (hxb.out.gr hg (by omega))
    replace hxbz : hxbg < w14.heap.size := by omega
    replace HSz : HS ≤ w14.heap.size := by omega
    replace LOz : LO ≤ w14.heap.size := by omega
    clear hmon hg hb hxa
    go_wp2_with fail
    with_reducible refine (markRowK esb _ _ Ka Kb _ hxb.out hlenb (by have := hKa.out; omega) hKb.out).mono ?_
    rintro e w15 ⟨rfl, hg⟩
    have hb : Below HS w14 w15 := gr_is_below hg (by omega) (by omega)
    have hmon := hg.size
    replace hC := hC.trans (hb.mono hHW)
    replace hS := Lib.hid (hS.out.below hb (Nat.le_refl _))
    replace hO := Lib.hid (hO.out.gr hg (by omega))
    replace HSz : HS ≤ w15.heap.size := by omega
    replace LOz : LO ≤ w15.heap.size := by omega
    clear hmon hg hb hxb
    go_wp2_with fail
    with_reducible refine (eqEntryS_sl fs A1 A0 _ _ _ _ _ hO.out.sl hS.out.sl rfl rfl hfl).mono ?_
    rintro e w16 ⟨rfl, hB⟩
    replace hC := hC.trans (hB.mono hC.size)
    replace hS := Lib.hid (hS.out.below hB (by omega))
    replace hO := Lib.hid (hO.out.below hB)
    have hmon := hB.size
    replace HSz : HS ≤ w16.heap.size := by omega
    replace LOz : LO ≤ w16.heap.size := by omega
    clear hmon hB
    go_wp2_with fail
    with_reducible refine (markOwnX fs A1 _ LO M _ hO.out hfl LOz hM.out).mono ?_
    rintro e w17 ⟨rfl, hMo, hb⟩
    have hM1 := Lib.hid hMo
    clear hMo
    have hmon := hb.size
    replace hC := hC.trans (hb.mono (by omega))
    replace hS := Lib.hid (hS.out.below hb (by omega))
    clear hO
    replace HSz : HS ≤ w17.heap.size := by omega
    clear hmon hb LOz
    go_wp2_with fail
    with_reducible refine (heldSlX fs.length _ M A1 _ hM1.out hfl hM.out).mono ?_
    rintro e w18 ⟨rfl, hB⟩
    replace hC := hC.trans (hB.mono hC.size)
    replace hS := Lib.hid (hS.out.below hB (by omega))
    replace hM1 := Lib.hid (hM1.out.below hB)
    have hmon := hB.size
    replace HSz : HS ≤ w18.heap.size := by omega
    clear hmon hB
    have hA' := Lib.hid (hAa.out.below hC)
    go_wp2_with fail
    with_reducible refine (toEntryS_any esa Aa na ca _ hA'.out hsma.out).mono ?_
    rintro e w19 ⟨rfl, hr, hB⟩
    clear hA'
    have hBs := hB.size
    have hya := Lib.hid hr
    clear hr
    replace hC := hC.trans (hB.mono hC.size)
    replace hS := Lib.hid (hS.out.below hB (by omega))
    replace hM1 := Lib.hid (hM1.out.below hB)
    have hmon := hB.size
    replace HSz : HS ≤ w19.heap.size := by omega
    clear hmon hB
    clear hBs
    have hA' := Lib.hid (hAb.out.below hC)
    go_wp2_with fail
    with_reducible refine (toEntryS_any esb Ab nb cb _ hA'.out hsmb.out).mono ?_
    rintro e w20 ⟨rfl, hr, hB⟩
    clear hA'
    have hBs := hB.size
    have hyb := Lib.hid hr
    clear hr
    replace hC := hC.trans (hB.mono hC.size)
    replace hS := Lib.hid (hS.out.below hB (by omega))
    replace hM1 := Lib.hid (hM1.out.below hB)
    replace hya := Lib.hid (hya.out.below hB hya.out.1)
    have hmon := hB.size
    replace HSz : HS ≤ w20.heap.size := by omega
    clear hmon hB
    clear hBs
    go_wp2_with fail
    with_reducible refine (TreeJoin_fs hans.out _ _ _ _ _ hya.out hsma.out (Nat.le_refl _) hyb.out hsmb.out (Nat.le_refl _)).mono ?_
    rintro e w21 ⟨A2, cc2, rfl, hOo, hB⟩
    clear hya
    clear hyb
    have hO2 := Lib.hid hOo
    clear hOo
    replace hC := hC.trans (hB.mono hC.size)
    replace hS := Lib.hid (hS.out.below hB (by omega))
    replace hM1 := Lib.hid (hM1.out.below hB)
    have hmon := hB.size
    replace HSz : HS ≤ w21.heap.size := by omega
    clear hmon hB
    go_wp2_with fail
    with_reducible refine (eqEntryS_sl fs A2 A0 _ _ _ _ _ hO2.out.sl hS.out.sl rfl rfl hfl).mono ?_
    rintro e w22 ⟨rfl, hB⟩
    replace hC := hC.trans (hB.mono hC.size)
    replace hS := Lib.hid (hS.out.below hB (by omega))
    replace hM1 := Lib.hid (hM1.out.below hB)
    replace hO2 := Lib.hid (hO2.out.below hB)
    have hmon := hB.size
    replace HSz : HS ≤ w22.heap.size := by omega
    clear hmon hB
    go_wp2_with fail
    with_reducible refine (heldSlX fs.length _ M A1 _ hM1.out hfl hM.out).mono ?_
    rintro e w23 ⟨rfl, hB⟩
    go_wp2
    go_ret
    exact ⟨rfl, hC.trans (hB.mono hC.size)⟩
  | true =>
    go_enter Tryd.func4, Tryd.ntmps4
    obtain ⟨w0, hw0⟩ : ∃ x, x = w := ⟨_, rfl⟩
    have hC : Below w0.heap.size w0 w0 := by rw [hw0]; exact Below.refl _ _
    have hgo : True := trivial
    subst hw0
    have hA' := Lib.hid (hAa.out.below hC)
    go_wp2_with fail
    with_reducible refine (szEntryS_any esa Aa na ca _ hA'.out).mono ?_
    rintro e w1 ⟨v, rfl, hv0, hv1, hsma, hB⟩
    clear hA'
    replace hC := hC.trans (hB.mono hC.size)
    have hmon := hB.size
    clear hmon hB
    by_cases hv : v < 0
    · go_wp2
      go_ret
      exact ⟨rfl, hC⟩
    replace hsma := Lib.hid (hsma.out (by omega))
    have hlena := hsma.out.1
    have hA' := Lib.hid (hAb.out.below hC)
    go_wp2_with fail
    with_reducible refine (szEntryS_left esb Ab nb cb v _ (by omega) hA'.out).mono ?_
    rintro e w2 ⟨v2, rfl, hv20, hv21, hsmb, hB⟩
    clear hA'
    replace hC := hC.trans (hB.mono hC.size)
    have hmon := hB.size
    clear hmon hB
    by_cases hv : v2 < 0
    · go_wp2
      go_ret
      exact ⟨rfl, hC⟩
    replace hsmb := Lib.hid (hsmb.out (by omega))
    have hlenb := hsmb.out.1
    have hA' := Lib.hid (hAa.out.below hC)
    go_wp2_with fail
    with_reducible refine (toEntryS_any esa Aa na ca _ hA'.out hsma.out).mono ?_
    rintro e w3 ⟨rfl, hr, hB⟩
    clear hA'
    have hBs := hB.size
    have hya := Lib.hid hr
    clear hr
    replace hC := hC.trans (hB.mono hC.size)
    have hmon := hB.size
    clear hmon hB
    clear hBs
    have hA' := Lib.hid (hAb.out.below hC)
    go_wp2_with fail
    with_reducible refine (toEntryS_any esb Ab nb cb _ hA'.out hsmb.out).mono ?_
    rintro e w4 ⟨rfl, hr, hB⟩
    clear hA'
    have hBs := hB.size
    have hyb := Lib.hid hr
    clear hr
    replace hC := hC.trans (hB.mono hC.size)
    replace hya := Lib.hid (hya.out.below hB hya.out.1)
    have hmon := hB.size
    clear hmon hB
    clear hBs
    go_wp2_with fail
    with_reducible refine (specTreeJoin_fs hans.out _ _ _ _ _ hya.out hsma.out hyb.out hsmb.out).mono ?_
    rintro e w5 ⟨A0, cc0, rfl, hO, hB⟩
    clear hya
    clear hyb
    have hS := Lib.hid (SlB.of hO)
    clear hO
    replace hC := hC.trans (hB.mono hC.size)
    have hmon := hB.size
    clear hmon hB
    obtain ⟨HS, hHS⟩ : ∃ x, x = w5.heap.size := ⟨_, rfl⟩
    rw [← hHS] at hS
    have hHW : w0.heap.size ≤ HS := by rw [hHS]; exact hC.size
    have HSz : HS ≤ w5.heap.size := by omega
    clear hHS
    have hA' := Lib.hid (hAa.out.below hC)
    go_wp2_with fail
    with_reducible refine (toEntryS_row esa Aa na ca _ hA'.out hsma.out).mono ?_
    rintro e w6 ⟨rfl, hr, hB⟩
    clear hA'
    have hBs := hB.size
    obtain ⟨hxag, hhxag⟩ : ∃ x, x = w5.heap.size := ⟨_, rfl⟩
    rw [← hhxag] at hr ⊢
    have hxaz := hr.lt
    have hxa := Lib.hid hr
    clear hr
    have hxal : HS ≤ hxag := by omega
    clear hhxag
    replace hC := hC.trans (hB.mono hC.size)
    replace hS := Lib.hid (hS.out.below hB (by omega))
    have hmon := hB.size
    replace HSz : HS ≤ w6.heap.size := by omega
    clear hmon hB
    clear hBs
    have hA' := Lib.hid (hAb.out.below hC)
    go_wp2_with fail
    with_reducible refine (toEntryS_row esb Ab nb cb _ hA'.out hsmb.out).mono ?_
    rintro e w7 ⟨rfl, hr, hB⟩
    clear hA'
    have hBs := hB.size
    obtain ⟨hxbg, hhxbg⟩ : ∃ x, x = w6.heap.size := ⟨_, rfl⟩
    rw [← hhxbg] at hr ⊢
    have hxa_hxb : hxag < hxbg := by omega
    have hxbz := hr.lt
    have hxb := Lib.hid hr
    clear hr
    have hxbl : HS ≤ hxbg := by omega
    clear hhxbg
    replace hC := hC.trans (hB.mono hC.size)
    replace hS := Lib.hid (hS.out.below hB (by omega))
    replace hxa := Lib.hid (hxa.out.below hB (by omega))
    have hmon := hB.size
    replace HSz : HS ≤ w7.heap.size := by omega
    replace hxaz : hxag < w7.heap.size := by omega
    clear hmon hB
    clear hBs
    obtain ⟨LO, hLO⟩ : ∃ x, x = w7.heap.size := ⟨_, rfl⟩
    go_wp2_with fail
    with_reducible refine (TreeJoin_fs hans.out _ _ _ _ _ hxa.out.ents hsma.out (Nat.le_refl _) hxb.out.ents hsmb.out (Nat.le_refl _)).mono ?_
    rintro e w8 ⟨A1, cc1, rfl, hOo, hB⟩
    rw [← hLO] at hOo
    have hO := Lib.hid hOo
    clear hOo
    have hxau : hxag < LO := by omega
    have hxbu : hxbg < LO := by omega
    have hHL : HS ≤ LO := by omega
    have LOz : LO ≤ w8.heap.size := by have := hB.size; omega
    clear hLO
    replace hC := hC.trans (hB.mono hC.size)
    replace hS := Lib.hid (hS.out.below hB (by omega))
    replace hxa := Lib.hid (hxa.out.below hB (by omega))
    replace hxb := Lib.hid (hxb.out.below hB (by omega))
    have hmon := hB.size
    replace HSz : HS ≤ w8.heap.size := by omega
    replace hxaz : hxag < w8.heap.size := by omega
    replace hxbz : hxbg < w8.heap.size := by omega
    clear hmon hB
    go_wp2_with fail
    with_reducible refine (eqEntryS_sl fs A1 A0 _ _ _ _ _ hO.out.sl hS.out.sl rfl rfl hfl).mono ?_
    rintro e w9 ⟨rfl, hB⟩
    replace hC := hC.trans (hB.mono hC.size)
    replace hS := Lib.hid (hS.out.below hB (by omega))
    replace hxa := Lib.hid (hxa.out.below hB (by omega))
    replace hxb := Lib.hid (hxb.out.below hB (by omega))
    replace hO := Lib.hid (hO.out.below hB)
    have hmon := hB.size
    replace HSz : HS ≤ w9.heap.size := by omega
    replace LOz : LO ≤ w9.heap.size := by omega
    replace hxaz : hxag < w9.heap.size := by omega
    replace hxbz : hxbg < w9.heap.size := by omega
    clear hmon hB
    have hA' := Lib.hid (hAa.out.below hC)
    go_wp2_with fail
    with_reducible refine (toEntryS_any esa Aa na ca _ hA'.out hsma.out).mono ?_
    rintro e w10 ⟨rfl, hr, hB⟩
    clear hA'
    have hBs := hB.size
    have hya := Lib.hid hr
    clear hr
    replace hC := hC.trans (hB.mono hC.size)
    replace hS := Lib.hid (hS.out.below hB (by omega))
    replace hxa := Lib.hid (hxa.out.below hB (by omega))
    replace hxb := Lib.hid (hxb.out.below hB (by omega))
    replace hO := Lib.hid (hO.out.below hB)
    have hmon := hB.size
    replace HSz : HS ≤ w10.heap.size := by omega
    replace LOz : LO ≤ w10.heap.size := by omega
    replace hxaz : hxag < w10.heap.size := by omega
    replace hxbz : hxbg < w10.heap.size := by omega
    clear hmon hB
    clear hBs
    go_wp2_with fail
    with_reducible refine (eqEntryS_any esa _ _ _ _ _ _ _ hxa.out.ents hya.out rfl rfl hlena).mono ?_
    rintro e w11 ⟨rfl, hB⟩
    clear hya
    replace hC := hC.trans (hB.mono hC.size)
    replace hS := Lib.hid (hS.out.below hB (by omega))
    replace hxa := Lib.hid (hxa.out.below hB (by omega))
    replace hxb := Lib.hid (hxb.out.below hB (by omega))
    replace hO := Lib.hid (hO.out.below hB)
    have hmon := hB.size
    replace HSz : HS ≤ w11.heap.size := by omega
    replace LOz : LO ≤ w11.heap.size := by omega
    replace hxaz : hxag < w11.heap.size := by omega
    replace hxbz : hxbg < w11.heap.size := by omega
    clear hmon hB
    have hA' := Lib.hid (hAb.out.below hC)
    go_wp2_with fail
    with_reducible refine (toEntryS_any esb Ab nb cb _ hA'.out hsmb.out).mono ?_
    rintro e w12 ⟨rfl, hr, hB⟩
    clear hA'
    have hBs := hB.size
    have hyb := Lib.hid hr
    clear hr
    replace hC := hC.trans (hB.mono hC.size)
    replace hS := Lib.hid (hS.out.below hB (by omega))
    replace hxa := Lib.hid (hxa.out.below hB (by omega))
    replace hxb := Lib.hid (hxb.out.below hB (by omega))
    replace hO := Lib.hid (hO.out.below hB)
    have hmon := hB.size
    replace HSz : HS ≤ w12.heap.size := by omega
    replace LOz : LO ≤ w12.heap.size := by omega
    replace hxaz : hxag < w12.heap.size := by omega
    replace hxbz : hxbg < w12.heap.size := by omega
    clear hmon hB
    clear hBs
    go_wp2_with fail
    with_reducible refine (eqEntryS_any esb _ _ _ _ _ _ _ hxb.out.ents hyb.out rfl rfl hlenb).mono ?_
    rintro e w13 ⟨rfl, hB⟩
    clear hyb
    replace hC := hC.trans (hB.mono hC.size)
    replace hS := Lib.hid (hS.out.below hB (by omega))
    replace hxa := Lib.hid (hxa.out.below hB (by omega))
    replace hxb := Lib.hid (hxb.out.below hB (by omega))
    replace hO := Lib.hid (hO.out.below hB)
    have hmon := hB.size
    replace HSz : HS ≤ w13.heap.size := by omega
    replace LOz : LO ≤ w13.heap.size := by omega
    replace hxaz : hxag < w13.heap.size := by omega
    replace hxbz : hxbg < w13.heap.size := by omega
    clear hmon hB
    go_wp2_with fail
    with_reducible refine (markRow1 esa _ _ Ka _ hxa.out hlena hKa.out).mono ?_
    rintro e w14 ⟨rfl, hg⟩
    have hb : Below HS w13 w14 := gr_is_below hg (by omega) (by omega)
    have hmon := hg.size
    replace hC := hC.trans (hb.mono hHW)
    replace hS := Lib.hid (hS.out.below hb (Nat.le_refl _))
    replace hO := Lib.hid (hO.out.gr hg (by omega))
    replace hxb := Lib.hid (hxb.out.gr hg (by omega))
    replace hxbz : hxbg < w14.heap.size := by omega
    replace HSz : HS ≤ w14.heap.size := by omega
    replace LOz : LO ≤ w14.heap.size := by omega
    clear hmon hg hb hxa
    go_wp2_with fail
    with_reducible refine (markRowK esb _ _ Ka Kb _ hxb.out hlenb (by have := hKa.out; omega) hKb.out).mono ?_
    rintro e w15 ⟨rfl, hg⟩
    have hb : Below HS w14 w15 := gr_is_below hg (by omega) (by omega)
    have hmon := hg.size
    replace hC := hC.trans (hb.mono hHW)
    replace hS := Lib.hid (hS.out.below hb (Nat.le_refl _))
    replace hO := Lib.hid (hO.out.gr hg (by omega))
    replace HSz : HS ≤ w15.heap.size := by omega
    replace LOz : LO ≤ w15.heap.size := by omega
    clear hmon hg hb hxb
    go_wp2_with fail
    with_reducible refine (eqEntryS_sl fs A1 A0 _ _ _ _ _ hO.out.sl hS.out.sl rfl rfl hfl).mono ?_
    rintro e w16 ⟨rfl, hB⟩
    replace hC := hC.trans (hB.mono hC.size)
    replace hS := Lib.hid (hS.out.below hB (by omega))
    replace hO := Lib.hid (hO.out.below hB)
    have hmon := hB.size
    replace HSz : HS ≤ w16.heap.size := by omega
    replace LOz : LO ≤ w16.heap.size := by omega
    clear hmon hB
    go_wp2_with fail
    with_reducible refine (markOwnX fs A1 _ LO M _ hO.out hfl LOz hM.out).mono ?_
    rintro e w17 ⟨rfl, hMo, hb⟩
    have hM1 := Lib.hid hMo
    clear hMo
    have hmon := hb.size
    replace hC := hC.trans (hb.mono (by omega))
    replace hS := Lib.hid (hS.out.below hb (by omega))
    clear hO
    replace HSz : HS ≤ w17.heap.size := by omega
    clear hmon hb LOz
    go_wp2_with fail
    with_reducible refine (heldSlX fs.length _ M A1 _ hM1.out hfl hM.out).mono ?_
    rintro e w18 ⟨rfl, hB⟩
    replace hC := hC.trans (hB.mono hC.size)
    replace hS := Lib.hid (hS.out.below hB (by omega))
    replace hM1 := Lib.hid (hM1.out.below hB)
    have hmon := hB.size
    replace HSz : HS ≤ w18.heap.size := by omega
    clear hmon hB
    have hA' := Lib.hid (hAa.out.below hC)
    go_wp2_with fail
    with_reducible refine (toEntryS_any esa Aa na ca _ hA'.out hsma.out).mono ?_
    rintro e w19 ⟨rfl, hr, hB⟩
    clear hA'
    have hBs := hB.size
    have hya := Lib.hid hr
    clear hr
    replace hC := hC.trans (hB.mono hC.size)
    replace hS := Lib.hid (hS.out.below hB (by omega))
    replace hM1 := Lib.hid (hM1.out.below hB)
    have hmon := hB.size
    replace HSz : HS ≤ w19.heap.size := by omega
    clear hmon hB
    clear hBs
    have hA' := Lib.hid (hAb.out.below hC)
    go_wp2_with fail
    with_reducible refine (toEntryS_any esb Ab nb cb _ hA'.out hsmb.out).mono ?_
    rintro e w20 ⟨rfl, hr, hB⟩
    clear hA'
    have hBs := hB.size
    have hyb := Lib.hid hr
    clear hr
    replace hC := hC.trans (hB.mono hC.size)
    replace hS := Lib.hid (hS.out.below hB (by omega))
    replace hM1 := Lib.hid (hM1.out.below hB)
    replace hya := Lib.hid (hya.out.below hB hya.out.1)
    have hmon := hB.size
    replace HSz : HS ≤ w20.heap.size := by omega
    clear hmon hB
    clear hBs
    go_wp2_with fail
    with_reducible refine (TreeJoin_fs hans.out _ _ _ _ _ hya.out hsma.out (Nat.le_refl _) hyb.out hsmb.out (Nat.le_refl _)).mono ?_
    rintro e w21 ⟨A2, cc2, rfl, hOo, hB⟩
    clear hya
    clear hyb
    have hO2 := Lib.hid hOo
    clear hOo
    replace hC := hC.trans (hB.mono hC.size)
    replace hS := Lib.hid (hS.out.below hB (by omega))
    replace hM1 := Lib.hid (hM1.out.below hB)
    have hmon := hB.size
    replace HSz : HS ≤ w21.heap.size := by omega
    clear hmon hB
    go_wp2_with fail
    with_reducible refine (eqEntryS_sl fs A2 A0 _ _ _ _ _ hO2.out.sl hS.out.sl rfl rfl hfl).mono ?_
    rintro e w22 ⟨rfl, hB⟩
    replace hC := hC.trans (hB.mono hC.size)
    replace hS := Lib.hid (hS.out.below hB (by omega))
    replace hM1 := Lib.hid (hM1.out.below hB)
    replace hO2 := Lib.hid (hO2.out.below hB)
    have hmon := hB.size
    replace HSz : HS ≤ w22.heap.size := by omega
    clear hmon hB
    go_wp2_with fail
    with_reducible refine (heldSlX fs.length _ M A1 _ hM1.out hfl hM.out).mono ?_
    rintro e w23 ⟨rfl, hB⟩
    go_wp2
    go_ret
    exact ⟨rfl, hC.trans (hB.mono hC.size)⟩
end Go.Proofs.YtjihpbioofikcaaDoor
