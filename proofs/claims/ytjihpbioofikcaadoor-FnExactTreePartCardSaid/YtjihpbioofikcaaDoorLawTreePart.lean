/-
  The law FnExactTreePart, walked: the reference's answer and the program's are one.
-/
import Derived.Test.YtjihpbioofikcaaDoorLawX
import Derived.Test.YtjihpbioofikcaaDoorPartI
import Derived.Deep.RegionHeld3
namespace Go.Proofs.YtjihpbioofikcaaDoor
open Go.RowKit
set_option linter.unusedVariables false
set_option linter.unusedSimpArgs false
attribute [local go_sem] mkB_size mkB_extract mkB_get mkB_append mkB_append_raw raw_append_mkB mkB_toList

theorem treePart_small (es : List En) (l : List UInt8) : (treePart es l).length ≤ 1048576 := by
  rcases boolOf (treeOk es) with h | h
  · rw [treePart_bad h.out]; simp
  · have := (treeOk_is h.out).len
    have := treePart_len es l
    omega
theorem specTreePart_fs {es fs : List En} {l : List UInt8} (hx : treePart es l = fs) (g c : Nat) (w : World) (hE : Ents w g es) (hsm : Small es) (hcap : es.length ≤ c) (hl : l.length ≤ 1048576) :
    Calls Tryd.prog 32 #[.slice (some ⟨g, 0, none⟩) es.length c, .string (mkB l)] w (ResF1 fs w) := by
  have h := specTreePart_any es l g c w hE hsm hl
  rw [hx] at h
  exact h
theorem TreePart_fs {es fs : List En} {l : List UInt8} (hx : treePart es l = fs) (g c : Nat) (w : World) (hE : Ents w g es) (hsm : Small es) (hcap : es.length ≤ c) (hl : l.length ≤ 1048576) :
    Calls Tryd.prog 33 #[.slice (some ⟨g, 0, none⟩) es.length c, .string (mkB l)] w (ResF1 fs w) := by
  have h := TreePart_any es l g c w hE hsm hcap hl
  rw [hx] at h
  exact h

set_option maxRecDepth 1000000 in
set_option maxHeartbeats 32000000 in
theorem law_FnExactTreePart (es : List En) (A : Option Addr) (n c : Nat) (gl : ByteArray) (hgl : gl.size ≤ maxLen) (w : World) (hA : ArgE w A n c es) :
    Calls Tryd.prog 6 #[.slice A n c, .string gl] w fun e w' => e = .returned (.bool true) ∧ Below w.heap.size w w' := by
  obtain ⟨gl, rfl⟩ : ∃ l, gl = mkB l := ⟨_, (mkB_self gl).symm⟩
  unfold maxLen at hgl
  rw [mkB_size] at hgl
  by_cases qgl : gl.length ≤ 1048576
  case neg =>
    go_enter Tryd.func6, Tryd.ntmps6
    go_wp2
    go_ret
    exact ⟨rfl, Below.refl _ _⟩
  replace hA := Lib.hid hA
  obtain ⟨fs, hans⟩ : ∃ x, treePart es gl = x := ⟨_, rfl⟩
  have hfl : fs.length ≤ 1048576 := by have := treePart_small es gl; rwa [hans] at this
  replace hans := Lib.hid hans
  obtain ⟨K, hK⟩ : ∃ K, 1 + 4 * es.length = K := ⟨_, rfl⟩
  obtain ⟨M, hM⟩ : ∃ M, 1 + 4 * fs.length = M := ⟨_, rfl⟩
  replace hK := Lib.hid hK
  replace hM := Lib.hid hM
  go_enter Tryd.func6, Tryd.ntmps6
  obtain ⟨w0, hw0⟩ : ∃ x, x = w := ⟨_, rfl⟩
  have hC : Below w0.heap.size w0 w0 := by rw [hw0]; exact Below.refl _ _
  have hgo : True := trivial
  subst hw0
  have hA' := Lib.hid (hA.out.below hC)
  go_wp2_with fail
  with_reducible refine (szEntryS_any es A n c _ hA'.out).mono ?_
  rintro e w1 ⟨v, rfl, hv0, hv1, hsm, hB⟩
  clear hA'
  replace hC := hC.trans (hB.mono hC.size)
  have hmon := hB.size
  clear hmon hB
  by_cases hv : v < 0
  · go_wp2
    go_ret
    exact ⟨rfl, hC⟩
  replace hsm := Lib.hid (hsm.out (by omega))
  have hlen := hsm.out.1
  have hA' := Lib.hid (hA.out.below hC)
  go_wp2_with fail
  with_reducible refine (toEntryS_any es A n c _ hA'.out hsm.out).mono ?_
  rintro e w2 ⟨rfl, hr, hB⟩
  clear hA'
  have hBs := hB.size
  have hy := Lib.hid hr
  clear hr
  replace hC := hC.trans (hB.mono hC.size)
  have hmon := hB.size
  clear hmon hB
  clear hBs
  go_wp2_with fail
  with_reducible refine (specTreePart_fs hans.out _ _ _ hy.out hsm.out (Nat.le_refl _) qgl).mono ?_
  rintro e w3 ⟨A0, cc0, rfl, hO, hB⟩
  clear hy
  have hS := Lib.hid (SlB.of hO)
  clear hO
  replace hC := hC.trans (hB.mono hC.size)
  have hmon := hB.size
  clear hmon hB
  obtain ⟨HS, hHS⟩ : ∃ x, x = w3.heap.size := ⟨_, rfl⟩
  rw [← hHS] at hS
  have hHW : w0.heap.size ≤ HS := by rw [hHS]; exact hC.size
  have HSz : HS ≤ w3.heap.size := by omega
  clear hHS
  have hA' := Lib.hid (hA.out.below hC)
  go_wp2_with fail
  with_reducible refine (toEntryS_row es A n c _ hA'.out hsm.out).mono ?_
  rintro e w4 ⟨rfl, hr, hB⟩
  clear hA'
  have hBs := hB.size
  obtain ⟨hxg, hhxg⟩ : ∃ x, x = w3.heap.size := ⟨_, rfl⟩
  rw [← hhxg] at hr ⊢
  have hxz := hr.lt
  have hx := Lib.hid hr
  clear hr
  have hxl : HS ≤ hxg := by omega
  clear hhxg
  replace hC := hC.trans (hB.mono hC.size)
  replace hS := Lib.hid (hS.out.below hB (by omega))
  have hmon := hB.size
  replace HSz : HS ≤ w4.heap.size := by omega
  clear hmon hB
  clear hBs
  obtain ⟨LO, hLO⟩ : ∃ x, x = w4.heap.size := ⟨_, rfl⟩
  go_wp2_with fail
  with_reducible refine (TreePart_fs hans.out _ _ _ hx.out.ents hsm.out (Nat.le_refl _) qgl).mono ?_
  rintro e w5 ⟨A1, cc1, rfl, hOo, hB⟩
  rw [← hLO] at hOo
  have hO := Lib.hid hOo
  clear hOo
  have hxu : hxg < LO := by omega
  have hHL : HS ≤ LO := by omega
  have LOz : LO ≤ w5.heap.size := by have := hB.size; omega
  clear hLO
  replace hC := hC.trans (hB.mono hC.size)
  replace hS := Lib.hid (hS.out.below hB (by omega))
  replace hx := Lib.hid (hx.out.below hB (by omega))
  have hmon := hB.size
  replace HSz : HS ≤ w5.heap.size := by omega
  replace hxz : hxg < w5.heap.size := by omega
  clear hmon hB
  go_wp2_with fail
  with_reducible refine (eqEntryS_sl fs A1 A0 _ _ _ _ _ hO.out.sl hS.out.sl rfl rfl hfl).mono ?_
  rintro e w6 ⟨rfl, hB⟩
  replace hC := hC.trans (hB.mono hC.size)
  replace hS := Lib.hid (hS.out.below hB (by omega))
  replace hx := Lib.hid (hx.out.below hB (by omega))
  replace hO := Lib.hid (hO.out.below hB)
  have hmon := hB.size
  replace HSz : HS ≤ w6.heap.size := by omega
  replace LOz : LO ≤ w6.heap.size := by omega
  replace hxz : hxg < w6.heap.size := by omega
  clear hmon hB
  have hA' := Lib.hid (hA.out.below hC)
  go_wp2_with fail
  with_reducible refine (toEntryS_any es A n c _ hA'.out hsm.out).mono ?_
  rintro e w7 ⟨rfl, hr, hB⟩
  clear hA'
  have hBs := hB.size
  have hy := Lib.hid hr
  clear hr
  replace hC := hC.trans (hB.mono hC.size)
  replace hS := Lib.hid (hS.out.below hB (by omega))
  replace hx := Lib.hid (hx.out.below hB (by omega))
  replace hO := Lib.hid (hO.out.below hB)
  have hmon := hB.size
  replace HSz : HS ≤ w7.heap.size := by omega
  replace LOz : LO ≤ w7.heap.size := by omega
  replace hxz : hxg < w7.heap.size := by omega
  clear hmon hB
  clear hBs
  go_wp2_with fail
  with_reducible refine (eqEntryS_any es _ _ _ _ _ _ _ hx.out.ents hy.out rfl rfl hlen).mono ?_
  rintro e w8 ⟨rfl, hB⟩
  clear hy
  replace hC := hC.trans (hB.mono hC.size)
  replace hS := Lib.hid (hS.out.below hB (by omega))
  replace hx := Lib.hid (hx.out.below hB (by omega))
  replace hO := Lib.hid (hO.out.below hB)
  have hmon := hB.size
  replace HSz : HS ≤ w8.heap.size := by omega
  replace LOz : LO ≤ w8.heap.size := by omega
  replace hxz : hxg < w8.heap.size := by omega
  clear hmon hB
  go_wp2_with fail
  with_reducible refine (markRow1 es _ _ K _ hx.out hlen hK.out).mono ?_
  rintro e w9 ⟨rfl, hg⟩
  have hb : Below HS w8 w9 := gr_is_below hg (by omega) (by omega)
  have hmon := hg.size
  replace hC := hC.trans (hb.mono hHW)
  replace hS := Lib.hid (hS.out.below hb (Nat.le_refl _))
  replace hO := Lib.hid (hO.out.gr hg (by omega))
  replace HSz : HS ≤ w9.heap.size := by omega
  replace LOz : LO ≤ w9.heap.size := by omega
  clear hmon hg hb hx
  go_wp2_with fail
  with_reducible refine (eqEntryS_sl fs A1 A0 _ _ _ _ _ hO.out.sl hS.out.sl rfl rfl hfl).mono ?_
  rintro e w10 ⟨rfl, hB⟩
  replace hC := hC.trans (hB.mono hC.size)
  replace hS := Lib.hid (hS.out.below hB (by omega))
  replace hO := Lib.hid (hO.out.below hB)
  have hmon := hB.size
  replace HSz : HS ≤ w10.heap.size := by omega
  replace LOz : LO ≤ w10.heap.size := by omega
  clear hmon hB
  go_wp2_with fail
  with_reducible refine (markOwnX fs A1 _ LO M _ hO.out hfl LOz hM.out).mono ?_
  rintro e w11 ⟨rfl, hMo, hb⟩
  have hM1 := Lib.hid hMo
  clear hMo
  have hmon := hb.size
  replace hC := hC.trans (hb.mono (by omega))
  replace hS := Lib.hid (hS.out.below hb (by omega))
  clear hO
  replace HSz : HS ≤ w11.heap.size := by omega
  clear hmon hb LOz
  go_wp2_with fail
  with_reducible refine (heldSlX fs.length _ M A1 _ hM1.out hfl hM.out).mono ?_
  rintro e w12 ⟨rfl, hB⟩
  replace hC := hC.trans (hB.mono hC.size)
  replace hS := Lib.hid (hS.out.below hB (by omega))
  replace hM1 := Lib.hid (hM1.out.below hB)
  have hmon := hB.size
  replace HSz : HS ≤ w12.heap.size := by omega
  clear hmon hB
  have hA' := Lib.hid (hA.out.below hC)
  go_wp2_with fail
  with_reducible refine (toEntryS_any es A n c _ hA'.out hsm.out).mono ?_
  rintro e w13 ⟨rfl, hr, hB⟩
  clear hA'
  have hBs := hB.size
  have hy := Lib.hid hr
  clear hr
  replace hC := hC.trans (hB.mono hC.size)
  replace hS := Lib.hid (hS.out.below hB (by omega))
  replace hM1 := Lib.hid (hM1.out.below hB)
  have hmon := hB.size
  replace HSz : HS ≤ w13.heap.size := by omega
  clear hmon hB
  clear hBs
  go_wp2_with fail
  with_reducible refine (TreePart_fs hans.out _ _ _ hy.out hsm.out (Nat.le_refl _) qgl).mono ?_
  rintro e w14 ⟨A2, cc2, rfl, hOo, hB⟩
  clear hy
  have hO2 := Lib.hid hOo
  clear hOo
  replace hC := hC.trans (hB.mono hC.size)
  replace hS := Lib.hid (hS.out.below hB (by omega))
  replace hM1 := Lib.hid (hM1.out.below hB)
  have hmon := hB.size
  replace HSz : HS ≤ w14.heap.size := by omega
  clear hmon hB
  go_wp2_with fail
  with_reducible refine (eqEntryS_sl fs A2 A0 _ _ _ _ _ hO2.out.sl hS.out.sl rfl rfl hfl).mono ?_
  rintro e w15 ⟨rfl, hB⟩
  replace hC := hC.trans (hB.mono hC.size)
  replace hS := Lib.hid (hS.out.below hB (by omega))
  replace hM1 := Lib.hid (hM1.out.below hB)
  replace hO2 := Lib.hid (hO2.out.below hB)
  have hmon := hB.size
  replace HSz : HS ≤ w15.heap.size := by omega
  clear hmon hB
  go_wp2_with fail
  with_reducible refine (heldSlX fs.length _ M A1 _ hM1.out hfl hM.out).mono ?_
  rintro e w16 ⟨rfl, hB⟩
  go_wp2
  go_ret
  exact ⟨rfl, hC.trans (hB.mono hC.size)⟩
end Go.Proofs.YtjihpbioofikcaaDoor
