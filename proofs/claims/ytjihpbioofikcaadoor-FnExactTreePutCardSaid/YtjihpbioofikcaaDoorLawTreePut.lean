/-
  The law FnExactTreePut, walked: the reference's answer and the program's are one.
-/
import Derived.Test.YtjihpbioofikcaaDoorLawX
import Derived.Test.YtjihpbioofikcaaDoorPutS
import Derived.Deep.RegionHeld3
namespace Go.Proofs.YtjihpbioofikcaaDoor
open Go.RowKit
set_option linter.unusedVariables false
set_option linter.unusedSimpArgs false
attribute [local go_sem] mkB_size mkB_extract mkB_get mkB_append mkB_append_raw raw_append_mkB mkB_toList

theorem treePut_small (es : List En) (e : En) : (treePut es e).1.length ≤ 1048576 := by
  rcases boolOf (treeOk es) with h | h
  · rw [treePut_bad h.out]; simp
  · have := (treeOk_is h.out).len
    have := treePut_len es e
    omega
theorem specTreePut_fs {es fs : List En} {e : En} {b : Bool} (hx : treePut es e = (fs, b)) (g c : Nat) (w : World) (hE : Ents w g es) (hsm : Small es) (hcap : es.length ≤ c) (hp : e.path.length ≤ 1048576) (ht : e.text.length ≤ 1048576) :
    Calls Tryd.prog 21 #[.slice (some ⟨g, 0, none⟩) es.length c, enV e] w (ResF2 fs b w) := by
  have h := specTreePut_any es e g c w hE hsm hcap hp ht
  rw [hx] at h
  exact h
theorem TreePut_fs {es fs : List En} {e : En} {b : Bool} (hx : treePut es e = (fs, b)) (g c : Nat) (w : World) (hE : Ents w g es) (hsm : Small es) (hcap : es.length ≤ c) (hp : e.path.length ≤ 1048576) (ht : e.text.length ≤ 1048576) :
    Calls Tryd.prog 24 #[.slice (some ⟨g, 0, none⟩) es.length c, enV e] w (ResF2 fs b w) := by
  have h := TreePut_any es e g c w hE hsm hcap hp ht
  rw [hx] at h
  exact h

set_option maxRecDepth 1000000 in
set_option maxHeartbeats 32000000 in
theorem law_FnExactTreePut (es : List En) (A : Option Addr) (n c : Nat) (en : En) (w : World) (hA : ArgE w A n c es) (hen : en.path.length ≤ 9223372036854775807 ∧ en.text.length ≤ 9223372036854775807) :
    Calls Tryd.prog 3 #[.slice A n c, enV en] w fun e w' => e = .returned (.bool true) ∧ Below w.heap.size w w' := by
  obtain ⟨pa, kd, md, tx⟩ := en
  simp only at hen
  replace hA := Lib.hid hA
  obtain ⟨⟨fs, b⟩, hans⟩ : ∃ x, treePut es ⟨pa, kd, md, tx⟩ = x := ⟨_, rfl⟩
  have hfl : fs.length ≤ 1048576 := by have := treePut_small es ⟨pa, kd, md, tx⟩; rwa [hans] at this
  replace hans := Lib.hid hans
  obtain ⟨K, hK⟩ : ∃ K, 1 + 4 * es.length = K := ⟨_, rfl⟩
  obtain ⟨M, hM⟩ : ∃ M, 1 + 4 * fs.length = M := ⟨_, rfl⟩
  replace hK := Lib.hid hK
  replace hM := Lib.hid hM
  have hst : ∃ W1, w.alloc (.cells #[.string (mkB pa), .int .i64 kd, .int .i64 md, .string (mkB tx)] 24) = W1 ∧ Box4 W1 w.heap.size 24 (.string (mkB pa)) (.int .i64 kd) (.int .i64 md) (.string (mkB tx)) ∧ Below w.heap.size w W1 := ⟨_, rfl, Box4.new _ _ _ _ _ _, (Below.refl _ _).alloc (Nat.le_refl _) _⟩
  replace hst := Lib.hid hst
  cases b with
  | false =>
    go_enter Tryd.func3, Tryd.ntmps3
    go_wp2_with fail
    obtain ⟨w0, hW0, hb, hC⟩ := hst.out
    rw [hW0]
    clear hW0
    have hbx := Lib.hid hb
    clear hb
    have d0 := hbx.out.cell0
    have d1 := hbx.out.cell1
    have d2 := hbx.out.cell2
    have d3 := hbx.out.cell3
    have hA' := Lib.hid (hA.out.below hC)
    go_wp2_with fail
    with_reducible refine (szEntryS_any es A n c _ hA'.out).mono ?_
    rintro e w1 ⟨v, rfl, hv0, hv1, hsm, hB⟩
    clear hA'
    replace hC := hC.trans (hB.mono hC.size)
    replace hbx := Lib.hid (hbx.out.below hB hbx.out.lt)
    have hmon := hB.size
    clear hmon hB
    by_cases hv : v < 0
    · go_wp2
      go_ret
      exact ⟨rfl, hC⟩
    replace hsm := Lib.hid (hsm.out (by omega))
    have hlen := hsm.out.1
    obtain ⟨u, hu⟩ : ∃ u, szE pa tx v = u := ⟨_, rfl⟩
    clear d0 d1 d2 d3
    have d0 := hbx.out.cell0
    have d1 := hbx.out.cell1
    have d2 := hbx.out.cell2
    have d3 := hbx.out.cell3
    go_wp2_with fail
    with_reducible refine (szEntry_any ⟨pa, kd, md, tx⟩ v ⟨by omega, hv1⟩ hen.1 hen.2 _).mono ?_
    rintro e w2 ⟨rfl, hB⟩
    simp only [hu]
    replace hC := hC.trans (hB.mono hC.size)
    replace hbx := Lib.hid (hbx.out.below hB hbx.out.lt)
    have hmon := hB.size
    clear hmon hB
    clear d0 d1 d2 d3
    by_cases hu0 : u < 0
    · replace hu := Lib.hid hu
      go_wp2
      go_ret
      exact ⟨rfl, hC⟩
    have hszo := szE_ok hu (by omega)
    replace hu := Lib.hid hu
    have hqp : pa.length ≤ 1048576 := by omega
    have hqt : tx.length ≤ 1048576 := by omega
    have hA' := Lib.hid (hA.out.below hC)
    have d0 := hbx.out.cell0
    have d1 := hbx.out.cell1
    have d2 := hbx.out.cell2
    have d3 := hbx.out.cell3
    go_wp2_with fail
    have hcA := toEntryS_any es A n c w2.drew hA'.out hsm.out
    replace hcA := Lib.hid hcA
    clear hA'
    first | refine wp_region_noPanic ?_ | skip
    refine wp_region_held_drew (S := (fun W' => W'.cell? ⟨w.heap.size, 0, none⟩ = some (.string (mkB pa)) ∧ W'.cell? ⟨w.heap.size, 1, none⟩ = some (.int .i64 kd) ∧ W'.cell? ⟨w.heap.size, 2, none⟩ = some (.int .i64 md) ∧ W'.cell? ⟨w.heap.size, 3, none⟩ = some (.string (mkB tx)))) (by kernel_rfl) ?_ (fun hHeld => ?_)
    · exact ⟨d0, d1, d2, d3⟩
    refine wpAnyH_take (i := 0) (v := ?_) rfl (by kernel_rfl) (by kernel_rfl) (by kernel_rfl) (fun _ _ _ h => h) (Or.inl ⟨by rfl, ?_⟩) (by assumption) ?_
    rotate_left
    · (intro w hSw; (try dsimp only at hSw); go_simp; try with_reducible rfl)
    try simp only [Array.reduceGetElem, Act.put, List.setIfInBounds_toArray, List.set_cons_zero, List.set_cons_succ]
    refine wpAnyH_take (i := 2) (v := ?_) rfl (by kernel_rfl) (by kernel_rfl) (by kernel_rfl) (fun _ _ _ h => h) (Or.inl ⟨by rfl, ?_⟩) (by assumption) ?_
    rotate_left
    · (intro w hSw; (try dsimp only at hSw); go_simp; try with_reducible rfl)
    try simp only [Array.reduceGetElem, Act.put, List.setIfInBounds_toArray, List.set_cons_zero, List.set_cons_succ]
    refine wpAnyH_ready (rs := [1]) (by kernel_rfl) (by simp) ?_
    refine AllReadyH.cons rfl (fun K hK => ?_) AllReadyH.nil
    go_simp
    go_at_call 22
    with_reducible refine hcA.out.mono ?_
    rintro e w3 ⟨rfl, hr, hB⟩
    have hyq := Lib.hid hr
    clear hr hcA
    have hBs := hB.size
    clear d0 d1 d2 d3
    replace hB : Below w2.heap.size w2 w3 := Below.trans (Below.refl _ w2).drew hB
    replace hC := hC.trans (hB.mono hC.size)
    replace hbx := Lib.hid (hbx.out.below hB hbx.out.lt)
    have hmon := hB.size
    clear hmon hB
    have d0 := hbx.out.cell0
    have d1 := hbx.out.cell1
    have d2 := hbx.out.cell2
    have d3 := hbx.out.cell3
    refine hK.out _ _ ?_ (fun hHeld => ?_)
    · (try dsimp only); exact ⟨d0, d1, d2, d3⟩
    clear hK K
    try simp only [Array.reduceGetElem, Act.put, List.setIfInBounds_toArray, List.set_cons_zero, List.set_cons_succ]
    refine wpAnyH_ready (rs := [3]) (by kernel_rfl) (by simp) ?_
    refine AllReadyH.cons rfl (fun K hK => ?_) AllReadyH.nil
    go_simp
    go_at_call 23
    with_reducible refine (toEntry_any ⟨pa, kd, md, tx⟩ _).mono ?_
    rintro e w4 ⟨rfl, hB⟩
    clear d0 d1 d2 d3
    replace hC := hC.trans (hB.mono hC.size)
    replace hbx := Lib.hid (hbx.out.below hB hbx.out.lt)
    replace hyq := Lib.hid (hyq.out.below hB hyq.out.1)
    have hmon := hB.size
    clear hmon hB
    have d0 := hbx.out.cell0
    have d1 := hbx.out.cell1
    have d2 := hbx.out.cell2
    have d3 := hbx.out.cell3
    refine hK.out _ _ ?_ (fun hHeld => ?_)
    · (try dsimp only); exact ⟨d0, d1, d2, d3⟩
    clear hK K
    try simp only [Array.reduceGetElem, Act.put, List.setIfInBounds_toArray, List.set_cons_zero, List.set_cons_succ]
    refine wpAnyH_ready (rs := [4]) (by kernel_rfl) (by simp) ?_
    refine AllReadyH.cons rfl (fun K hK => ?_) AllReadyH.nil
    go_simp
    go_at_call 21
    refine (specTreePut_fs hans.out _ _ _ hyq.out hsm.out (Nat.le_refl _) hqp hqt).mono ?_
    rintro e w5 ⟨A0, cc0, rfl, hOo, hB⟩
    clear d0 d1 d2 d3
    have hB3 := hB
    clear hyq
    have hbt := Lib.hid (hbx.out.below hB hbx.out.lt)
    have d0 := hbt.out.cell0
    have d1 := hbt.out.cell1
    have d2 := hbt.out.cell2
    have d3 := hbt.out.cell3
    clear hbt
    refine hK.out _ _ ?_ (fun hHeld => ?_)
    · (try dsimp only); exact ⟨d0, d1, d2, d3⟩
    clear hK K
    try simp only [Array.reduceGetElem, Act.put, List.setIfInBounds_toArray, List.set_cons_zero, List.set_cons_succ]
    refine wpAnyH_take (i := 5) (v := ?_) rfl (by kernel_rfl) (by kernel_rfl) (by kernel_rfl) (fun _ _ _ h => h) (Or.inl ⟨by rfl, ?_⟩) (by assumption) ?_
    rotate_left
    · (intro w hSw; (try dsimp only at hSw); go_simp; try with_reducible rfl)
    try simp only [Array.reduceGetElem, Act.put, List.setIfInBounds_toArray, List.set_cons_zero, List.set_cons_succ]
    refine wpAnyH_take (i := 6) (v := ?_) rfl (by kernel_rfl) (by kernel_rfl) (by kernel_rfl) (fun _ _ _ h => h) (Or.inl ⟨by rfl, ?_⟩) (by assumption) ?_
    rotate_left
    · (intro w hSw; (try dsimp only at hSw); go_simp; try with_reducible rfl)
    try simp only [Array.reduceGetElem, Act.put, List.setIfInBounds_toArray, List.set_cons_zero, List.set_cons_succ]
    refine wpAnyH_take (i := 7) (v := ?_) rfl (by kernel_rfl) (by kernel_rfl) (by kernel_rfl) (fun _ _ _ h => h) (Or.inl ⟨by rfl, ?_⟩) (by assumption) ?_
    rotate_left
    · (intro w hSw; (try dsimp only at hSw); go_simp; try with_reducible rfl)
    try simp only [Array.reduceGetElem, Act.put, List.setIfInBounds_toArray, List.set_cons_zero, List.set_cons_succ]
    refine wpAnyH_take (i := 8) (v := ?_) rfl (by kernel_rfl) (by kernel_rfl) (by kernel_rfl) (fun _ _ _ h => h) (Or.inl ⟨by rfl, ?_⟩) (by assumption) ?_
    rotate_left
    · (intro w hSw; (try dsimp only at hSw); go_simp; try with_reducible rfl)
    try simp only [Array.reduceGetElem, Act.put, List.setIfInBounds_toArray, List.set_cons_zero, List.set_cons_succ]
    refine wpAnyH_take (i := 9) (v := ?_) rfl (by kernel_rfl) (by kernel_rfl) (by kernel_rfl) (fun _ _ _ h => h) (Or.inl ⟨by rfl, ?_⟩) (by assumption) ?_
    rotate_left
    · (intro w hSw; (try dsimp only at hSw); go_simp; try with_reducible rfl)
    try simp only [Array.reduceGetElem, Act.put, List.setIfInBounds_toArray, List.set_cons_zero, List.set_cons_succ]
    refine wpAnyH_done (by kernel_rfl) ?_ _
    try refine NoPanic.normal ?_
    (try dsimp only)
    clear hHeld
    clear d0 d1 d2 d3
    have hB := hB3
    clear hB3
    have hO := hOo
    clear hOo
    have hS := Lib.hid (SlB.of hO)
    clear hO
    replace hC := hC.trans (hB.mono hC.size)
    replace hbx := Lib.hid (hbx.out.below hB hbx.out.lt)
    have hmon := hB.size
    clear hmon hB
    obtain ⟨HS, hHS⟩ : ∃ x, x = w5.heap.size := ⟨_, rfl⟩
    rw [← hHS] at hS
    have hHW : w.heap.size ≤ HS := by rw [hHS]; exact hC.size
    have HSz : HS ≤ w5.heap.size := by omega
    have hbxl : w.heap.size < HS := by have := hbx.out.lt; omega
    clear hHS
    have hA' := Lib.hid (hA.out.below hC)
    go_wp2_with fail
    with_reducible refine (toEntryS_row es A n c _ hA'.out hsm.out).mono ?_
    rintro e w6 ⟨rfl, hr, hB⟩
    clear hA'
    have hBs := hB.size
    obtain ⟨hxg, hhxg⟩ : ∃ x, x = w5.heap.size := ⟨_, rfl⟩
    rw [← hhxg] at hr ⊢
    have hxz := hr.lt
    have hx := Lib.hid hr
    clear hr
    have hxl : HS ≤ hxg := by omega
    clear hhxg
    replace hC := hC.trans (hB.mono hC.size)
    replace hbx := Lib.hid (hbx.out.below hB hbx.out.lt)
    replace hS := Lib.hid (hS.out.below hB (by omega))
    have hmon := hB.size
    replace HSz : HS ≤ w6.heap.size := by omega
    clear hmon hB
    clear hBs
    have d0 := hbx.out.cell0
    have d1 := hbx.out.cell1
    have d2 := hbx.out.cell2
    have d3 := hbx.out.cell3
    go_wp2_with fail
    with_reducible refine (toEntry_any ⟨pa, kd, md, tx⟩ _).mono ?_
    rintro e w7 ⟨rfl, hB⟩
    clear d0 d1 d2 d3
    replace hC := hC.trans (hB.mono hC.size)
    replace hbx := Lib.hid (hbx.out.below hB hbx.out.lt)
    replace hS := Lib.hid (hS.out.below hB (by omega))
    replace hx := Lib.hid (hx.out.below hB (by omega))
    have hmon := hB.size
    replace HSz : HS ≤ w7.heap.size := by omega
    replace hxz : hxg < w7.heap.size := by omega
    clear hmon hB
    obtain ⟨LO, hLO⟩ : ∃ x, x = w7.heap.size := ⟨_, rfl⟩
    go_wp2_with fail
    with_reducible refine (TreePut_fs hans.out _ _ _ hx.out.ents hsm.out (Nat.le_refl _) hqp hqt).mono ?_
    rintro e w8 ⟨A1, cc1, rfl, hOo, hB⟩
    rw [← hLO] at hOo
    have hO := Lib.hid hOo
    clear hOo
    have hxu : hxg < LO := by omega
    have hHL : HS ≤ LO := by omega
    have LOz : LO ≤ w8.heap.size := by have := hB.size; omega
    clear hLO
    replace hC := hC.trans (hB.mono hC.size)
    replace hbx := Lib.hid (hbx.out.below hB hbx.out.lt)
    replace hS := Lib.hid (hS.out.below hB (by omega))
    replace hx := Lib.hid (hx.out.below hB (by omega))
    have hmon := hB.size
    replace HSz : HS ≤ w8.heap.size := by omega
    replace hxz : hxg < w8.heap.size := by omega
    clear hmon hB
    go_wp2_with fail
    with_reducible refine (eqEntryS_sl fs A1 A0 _ _ _ _ _ hO.out.sl hS.out.sl rfl rfl hfl).mono ?_
    rintro e w9 ⟨rfl, hB⟩
    replace hC := hC.trans (hB.mono hC.size)
    replace hbx := Lib.hid (hbx.out.below hB hbx.out.lt)
    replace hS := Lib.hid (hS.out.below hB (by omega))
    replace hx := Lib.hid (hx.out.below hB (by omega))
    replace hO := Lib.hid (hO.out.below hB)
    have hmon := hB.size
    replace HSz : HS ≤ w9.heap.size := by omega
    replace LOz : LO ≤ w9.heap.size := by omega
    replace hxz : hxg < w9.heap.size := by omega
    clear hmon hB
    have hA' := Lib.hid (hA.out.below hC)
    go_wp2_with fail
    with_reducible refine (toEntryS_any es A n c _ hA'.out hsm.out).mono ?_
    rintro e w10 ⟨rfl, hr, hB⟩
    clear hA'
    have hBs := hB.size
    have hy := Lib.hid hr
    clear hr
    replace hC := hC.trans (hB.mono hC.size)
    replace hbx := Lib.hid (hbx.out.below hB hbx.out.lt)
    replace hS := Lib.hid (hS.out.below hB (by omega))
    replace hx := Lib.hid (hx.out.below hB (by omega))
    replace hO := Lib.hid (hO.out.below hB)
    have hmon := hB.size
    replace HSz : HS ≤ w10.heap.size := by omega
    replace LOz : LO ≤ w10.heap.size := by omega
    replace hxz : hxg < w10.heap.size := by omega
    clear hmon hB
    clear hBs
    go_wp2_with fail
    with_reducible refine (eqEntryS_any es _ _ _ _ _ _ _ hx.out.ents hy.out rfl rfl hlen).mono ?_
    rintro e w11 ⟨rfl, hB⟩
    clear hy
    replace hC := hC.trans (hB.mono hC.size)
    replace hbx := Lib.hid (hbx.out.below hB hbx.out.lt)
    replace hS := Lib.hid (hS.out.below hB (by omega))
    replace hx := Lib.hid (hx.out.below hB (by omega))
    replace hO := Lib.hid (hO.out.below hB)
    have hmon := hB.size
    replace HSz : HS ≤ w11.heap.size := by omega
    replace LOz : LO ≤ w11.heap.size := by omega
    replace hxz : hxg < w11.heap.size := by omega
    clear hmon hB
    go_wp2_with fail
    with_reducible refine (markRow1 es _ _ K _ hx.out hlen hK.out).mono ?_
    rintro e w12 ⟨rfl, hg⟩
    have hb : Below HS w11 w12 := gr_is_below hg (by omega) (by omega)
    have hmon := hg.size
    replace hC := hC.trans (hb.mono hHW)
    replace hS := Lib.hid (hS.out.below hb (Nat.le_refl _))
    replace hO := Lib.hid (hO.out.gr hg (by omega))
    replace hbx := Lib.hid (hbx.out.kept hg (by intro e; injection e; omega))
    replace HSz : HS ≤ w12.heap.size := by omega
    replace LOz : LO ≤ w12.heap.size := by omega
    clear hmon hg hb hx
    go_wp2_with fail
    with_reducible refine (eqEntryS_sl fs A1 A0 _ _ _ _ _ hO.out.sl hS.out.sl rfl rfl hfl).mono ?_
    rintro e w13 ⟨rfl, hB⟩
    replace hC := hC.trans (hB.mono hC.size)
    replace hbx := Lib.hid (hbx.out.below hB hbx.out.lt)
    replace hS := Lib.hid (hS.out.below hB (by omega))
    replace hO := Lib.hid (hO.out.below hB)
    have hmon := hB.size
    replace HSz : HS ≤ w13.heap.size := by omega
    replace LOz : LO ≤ w13.heap.size := by omega
    clear hmon hB
    go_wp2_with fail
    with_reducible refine (markOwnX fs A1 _ LO M _ hO.out hfl LOz hM.out).mono ?_
    rintro e w14 ⟨rfl, hMo, hb⟩
    have hM1 := Lib.hid hMo
    clear hMo
    have hmon := hb.size
    replace hC := hC.trans (hb.mono (by omega))
    replace hS := Lib.hid (hS.out.below hb (by omega))
    replace hbx := Lib.hid (hbx.out.below hb (by omega))
    clear hO
    replace HSz : HS ≤ w14.heap.size := by omega
    clear hmon hb LOz
    go_wp2_with fail
    with_reducible refine (heldSlX fs.length _ M A1 _ hM1.out hfl hM.out).mono ?_
    rintro e w15 ⟨rfl, hB⟩
    replace hC := hC.trans (hB.mono hC.size)
    replace hbx := Lib.hid (hbx.out.below hB hbx.out.lt)
    replace hS := Lib.hid (hS.out.below hB (by omega))
    replace hM1 := Lib.hid (hM1.out.below hB)
    have hmon := hB.size
    replace HSz : HS ≤ w15.heap.size := by omega
    clear hmon hB
    have hA' := Lib.hid (hA.out.below hC)
    have d0 := hbx.out.cell0
    have d1 := hbx.out.cell1
    have d2 := hbx.out.cell2
    have d3 := hbx.out.cell3
    go_wp2_with fail
    have hcA := toEntryS_any es A n c w15.drew hA'.out hsm.out
    replace hcA := Lib.hid hcA
    clear hA'
    first | refine wp_region_noPanic ?_ | skip
    refine wp_region_held_drew (S := (fun W' => W'.cell? ⟨w.heap.size, 0, none⟩ = some (.string (mkB pa)) ∧ W'.cell? ⟨w.heap.size, 1, none⟩ = some (.int .i64 kd) ∧ W'.cell? ⟨w.heap.size, 2, none⟩ = some (.int .i64 md) ∧ W'.cell? ⟨w.heap.size, 3, none⟩ = some (.string (mkB tx)))) (by kernel_rfl) ?_ (fun hHeld => ?_)
    · exact ⟨d0, d1, d2, d3⟩
    refine wpAnyH_take (i := 0) (v := ?_) rfl (by kernel_rfl) (by kernel_rfl) (by kernel_rfl) (fun _ _ _ h => h) (Or.inl ⟨by rfl, ?_⟩) (by assumption) ?_
    rotate_left
    · (intro w hSw; (try dsimp only at hSw); go_simp; try with_reducible rfl)
    try simp only [Array.reduceGetElem, Act.put, List.setIfInBounds_toArray, List.set_cons_zero, List.set_cons_succ]
    refine wpAnyH_take (i := 2) (v := ?_) rfl (by kernel_rfl) (by kernel_rfl) (by kernel_rfl) (fun _ _ _ h => h) (Or.inl ⟨by rfl, ?_⟩) (by assumption) ?_
    rotate_left
    · (intro w hSw; (try dsimp only at hSw); go_simp; try with_reducible rfl)
    try simp only [Array.reduceGetElem, Act.put, List.setIfInBounds_toArray, List.set_cons_zero, List.set_cons_succ]
    refine wpAnyH_ready (rs := [1]) (by kernel_rfl) (by simp) ?_
    refine AllReadyH.cons rfl (fun K hK => ?_) AllReadyH.nil
    go_simp
    go_at_call 22
    with_reducible refine hcA.out.mono ?_
    rintro e w16 ⟨rfl, hr, hB⟩
    have hyq := Lib.hid hr
    clear hr hcA
    have hBs := hB.size
    clear d0 d1 d2 d3
    replace hB : Below w15.heap.size w15 w16 := Below.trans (Below.refl _ w15).drew hB
    replace hC := hC.trans (hB.mono hC.size)
    replace hbx := Lib.hid (hbx.out.below hB hbx.out.lt)
    replace hS := Lib.hid (hS.out.below hB (by omega))
    replace hM1 := Lib.hid (hM1.out.below hB)
    have hmon := hB.size
    replace HSz : HS ≤ w16.heap.size := by omega
    clear hmon hB
    have d0 := hbx.out.cell0
    have d1 := hbx.out.cell1
    have d2 := hbx.out.cell2
    have d3 := hbx.out.cell3
    refine hK.out _ _ ?_ (fun hHeld => ?_)
    · (try dsimp only); exact ⟨d0, d1, d2, d3⟩
    clear hK K
    try simp only [Array.reduceGetElem, Act.put, List.setIfInBounds_toArray, List.set_cons_zero, List.set_cons_succ]
    refine wpAnyH_ready (rs := [3]) (by kernel_rfl) (by simp) ?_
    refine AllReadyH.cons rfl (fun K hK => ?_) AllReadyH.nil
    go_simp
    go_at_call 23
    with_reducible refine (toEntry_any ⟨pa, kd, md, tx⟩ _).mono ?_
    rintro e w17 ⟨rfl, hB⟩
    clear d0 d1 d2 d3
    replace hC := hC.trans (hB.mono hC.size)
    replace hbx := Lib.hid (hbx.out.below hB hbx.out.lt)
    replace hS := Lib.hid (hS.out.below hB (by omega))
    replace hM1 := Lib.hid (hM1.out.below hB)
    replace hyq := Lib.hid (hyq.out.below hB hyq.out.1)
    have hmon := hB.size
    replace HSz : HS ≤ w17.heap.size := by omega
    clear hmon hB
    have d0 := hbx.out.cell0
    have d1 := hbx.out.cell1
    have d2 := hbx.out.cell2
    have d3 := hbx.out.cell3
    refine hK.out _ _ ?_ (fun hHeld => ?_)
    · (try dsimp only); exact ⟨d0, d1, d2, d3⟩
    clear hK K
    try simp only [Array.reduceGetElem, Act.put, List.setIfInBounds_toArray, List.set_cons_zero, List.set_cons_succ]
    refine wpAnyH_ready (rs := [4]) (by kernel_rfl) (by simp) ?_
    refine AllReadyH.cons rfl (fun K hK => ?_) AllReadyH.nil
    go_simp
    go_at_call 24
    refine (TreePut_fs hans.out _ _ _ hyq.out hsm.out (Nat.le_refl _) hqp hqt).mono ?_
    rintro e w18 ⟨A2, cc2, rfl, hOo, hB⟩
    clear d0 d1 d2 d3
    have hB3 := hB
    clear hyq
    have hbt := Lib.hid (hbx.out.below hB hbx.out.lt)
    have d0 := hbt.out.cell0
    have d1 := hbt.out.cell1
    have d2 := hbt.out.cell2
    have d3 := hbt.out.cell3
    clear hbt
    refine hK.out _ _ ?_ (fun hHeld => ?_)
    · (try dsimp only); exact ⟨d0, d1, d2, d3⟩
    clear hK K
    try simp only [Array.reduceGetElem, Act.put, List.setIfInBounds_toArray, List.set_cons_zero, List.set_cons_succ]
    refine wpAnyH_take (i := 5) (v := ?_) rfl (by kernel_rfl) (by kernel_rfl) (by kernel_rfl) (fun _ _ _ h => h) (Or.inl ⟨by rfl, ?_⟩) (by assumption) ?_
    rotate_left
    · (intro w hSw; (try dsimp only at hSw); go_simp; try with_reducible rfl)
    try simp only [Array.reduceGetElem, Act.put, List.setIfInBounds_toArray, List.set_cons_zero, List.set_cons_succ]
    refine wpAnyH_take (i := 6) (v := ?_) rfl (by kernel_rfl) (by kernel_rfl) (by kernel_rfl) (fun _ _ _ h => h) (Or.inl ⟨by rfl, ?_⟩) (by assumption) ?_
    rotate_left
    · (intro w hSw; (try dsimp only at hSw); go_simp; try with_reducible rfl)
    try simp only [Array.reduceGetElem, Act.put, List.setIfInBounds_toArray, List.set_cons_zero, List.set_cons_succ]
    refine wpAnyH_take (i := 7) (v := ?_) rfl (by kernel_rfl) (by kernel_rfl) (by kernel_rfl) (fun _ _ _ h => h) (Or.inl ⟨by rfl, ?_⟩) (by assumption) ?_
    rotate_left
    · (intro w hSw; (try dsimp only at hSw); go_simp; try with_reducible rfl)
    try simp only [Array.reduceGetElem, Act.put, List.setIfInBounds_toArray, List.set_cons_zero, List.set_cons_succ]
    refine wpAnyH_take (i := 8) (v := ?_) rfl (by kernel_rfl) (by kernel_rfl) (by kernel_rfl) (fun _ _ _ h => h) (Or.inl ⟨by rfl, ?_⟩) (by assumption) ?_
    rotate_left
    · (intro w hSw; (try dsimp only at hSw); go_simp; try with_reducible rfl)
    try simp only [Array.reduceGetElem, Act.put, List.setIfInBounds_toArray, List.set_cons_zero, List.set_cons_succ]
    refine wpAnyH_take (i := 9) (v := ?_) rfl (by kernel_rfl) (by kernel_rfl) (by kernel_rfl) (fun _ _ _ h => h) (Or.inl ⟨by rfl, ?_⟩) (by assumption) ?_
    rotate_left
    · (intro w hSw; (try dsimp only at hSw); go_simp; try with_reducible rfl)
    try simp only [Array.reduceGetElem, Act.put, List.setIfInBounds_toArray, List.set_cons_zero, List.set_cons_succ]
    refine wpAnyH_done (by kernel_rfl) ?_ _
    try refine NoPanic.normal ?_
    (try dsimp only)
    clear hHeld
    clear d0 d1 d2 d3
    have hB := hB3
    clear hB3
    have hO2 := Lib.hid hOo
    clear hOo
    replace hC := hC.trans (hB.mono hC.size)
    replace hbx := Lib.hid (hbx.out.below hB hbx.out.lt)
    replace hS := Lib.hid (hS.out.below hB (by omega))
    replace hM1 := Lib.hid (hM1.out.below hB)
    have hmon := hB.size
    replace HSz : HS ≤ w18.heap.size := by omega
    clear hmon hB
    go_wp2_with fail
    with_reducible refine (eqEntryS_sl fs A2 A0 _ _ _ _ _ hO2.out.sl hS.out.sl rfl rfl hfl).mono ?_
    rintro e w19 ⟨rfl, hB⟩
    replace hC := hC.trans (hB.mono hC.size)
    replace hbx := Lib.hid (hbx.out.below hB hbx.out.lt)
    replace hS := Lib.hid (hS.out.below hB (by omega))
    replace hM1 := Lib.hid (hM1.out.below hB)
    replace hO2 := Lib.hid (hO2.out.below hB)
    have hmon := hB.size
    replace HSz : HS ≤ w19.heap.size := by omega
    clear hmon hB
    go_wp2_with fail
    with_reducible refine (heldSlX fs.length _ M A1 _ hM1.out hfl hM.out).mono ?_
    rintro e w20 ⟨rfl, hB⟩
    go_wp2
    go_ret
    exact ⟨rfl, hC.trans (hB.mono hC.size)⟩
  | true =>
    go_enter Tryd.func3, Tryd.ntmps3
    go_wp2_with fail
    obtain ⟨w0, hW0, hb, hC⟩ := hst.out
    rw [hW0]
    clear hW0
    have hbx := Lib.hid hb
    clear hb
    have d0 := hbx.out.cell0
    have d1 := hbx.out.cell1
    have d2 := hbx.out.cell2
    have d3 := hbx.out.cell3
    have hA' := Lib.hid (hA.out.below hC)
    go_wp2_with fail
    with_reducible refine (szEntryS_any es A n c _ hA'.out).mono ?_
    rintro e w1 ⟨v, rfl, hv0, hv1, hsm, hB⟩
    clear hA'
    replace hC := hC.trans (hB.mono hC.size)
    replace hbx := Lib.hid (hbx.out.below hB hbx.out.lt)
    have hmon := hB.size
    clear hmon hB
    by_cases hv : v < 0
    · go_wp2
      go_ret
      exact ⟨rfl, hC⟩
    replace hsm := Lib.hid (hsm.out (by omega))
    have hlen := hsm.out.1
    obtain ⟨u, hu⟩ : ∃ u, szE pa tx v = u := ⟨_, rfl⟩
    clear d0 d1 d2 d3
    have d0 := hbx.out.cell0
    have d1 := hbx.out.cell1
    have d2 := hbx.out.cell2
    have d3 := hbx.out.cell3
    go_wp2_with fail
    with_reducible refine (szEntry_any ⟨pa, kd, md, tx⟩ v ⟨by omega, hv1⟩ hen.1 hen.2 _).mono ?_
    rintro e w2 ⟨rfl, hB⟩
    simp only [hu]
    replace hC := hC.trans (hB.mono hC.size)
    replace hbx := Lib.hid (hbx.out.below hB hbx.out.lt)
    have hmon := hB.size
    clear hmon hB
    clear d0 d1 d2 d3
    by_cases hu0 : u < 0
    · replace hu := Lib.hid hu
      go_wp2
      go_ret
      exact ⟨rfl, hC⟩
    have hszo := szE_ok hu (by omega)
    replace hu := Lib.hid hu
    have hqp : pa.length ≤ 1048576 := by omega
    have hqt : tx.length ≤ 1048576 := by omega
    have hA' := Lib.hid (hA.out.below hC)
    have d0 := hbx.out.cell0
    have d1 := hbx.out.cell1
    have d2 := hbx.out.cell2
    have d3 := hbx.out.cell3
    go_wp2_with fail
    have hcA := toEntryS_any es A n c w2.drew hA'.out hsm.out
    replace hcA := Lib.hid hcA
    clear hA'
    first | refine wp_region_noPanic ?_ | skip
    refine wp_region_held_drew (S := (fun W' => W'.cell? ⟨w.heap.size, 0, none⟩ = some (.string (mkB pa)) ∧ W'.cell? ⟨w.heap.size, 1, none⟩ = some (.int .i64 kd) ∧ W'.cell? ⟨w.heap.size, 2, none⟩ = some (.int .i64 md) ∧ W'.cell? ⟨w.heap.size, 3, none⟩ = some (.string (mkB tx)))) (by kernel_rfl) ?_ (fun hHeld => ?_)
    · exact ⟨d0, d1, d2, d3⟩
    refine wpAnyH_take (i := 0) (v := ?_) rfl (by kernel_rfl) (by kernel_rfl) (by kernel_rfl) (fun _ _ _ h => h) (Or.inl ⟨by rfl, ?_⟩) (by assumption) ?_
    rotate_left
    · (intro w hSw; (try dsimp only at hSw); go_simp; try with_reducible rfl)
    try simp only [Array.reduceGetElem, Act.put, List.setIfInBounds_toArray, List.set_cons_zero, List.set_cons_succ]
    refine wpAnyH_take (i := 2) (v := ?_) rfl (by kernel_rfl) (by kernel_rfl) (by kernel_rfl) (fun _ _ _ h => h) (Or.inl ⟨by rfl, ?_⟩) (by assumption) ?_
    rotate_left
    · (intro w hSw; (try dsimp only at hSw); go_simp; try with_reducible rfl)
    try simp only [Array.reduceGetElem, Act.put, List.setIfInBounds_toArray, List.set_cons_zero, List.set_cons_succ]
    refine wpAnyH_ready (rs := [1]) (by kernel_rfl) (by simp) ?_
    refine AllReadyH.cons rfl (fun K hK => ?_) AllReadyH.nil
    go_simp
    go_at_call 22
    with_reducible refine hcA.out.mono ?_
    rintro e w3 ⟨rfl, hr, hB⟩
    have hyq := Lib.hid hr
    clear hr hcA
    have hBs := hB.size
    clear d0 d1 d2 d3
    replace hB : Below w2.heap.size w2 w3 := Below.trans (Below.refl _ w2).drew hB
    replace hC := hC.trans (hB.mono hC.size)
    replace hbx := Lib.hid (hbx.out.below hB hbx.out.lt)
    have hmon := hB.size
    clear hmon hB
    have d0 := hbx.out.cell0
    have d1 := hbx.out.cell1
    have d2 := hbx.out.cell2
    have d3 := hbx.out.cell3
    refine hK.out _ _ ?_ (fun hHeld => ?_)
    · (try dsimp only); exact ⟨d0, d1, d2, d3⟩
    clear hK K
    try simp only [Array.reduceGetElem, Act.put, List.setIfInBounds_toArray, List.set_cons_zero, List.set_cons_succ]
    refine wpAnyH_ready (rs := [3]) (by kernel_rfl) (by simp) ?_
    refine AllReadyH.cons rfl (fun K hK => ?_) AllReadyH.nil
    go_simp
    go_at_call 23
    with_reducible refine (toEntry_any ⟨pa, kd, md, tx⟩ _).mono ?_
    rintro e w4 ⟨rfl, hB⟩
    clear d0 d1 d2 d3
    replace hC := hC.trans (hB.mono hC.size)
    replace hbx := Lib.hid (hbx.out.below hB hbx.out.lt)
    replace hyq := Lib.hid (hyq.out.below hB hyq.out.1)
    have hmon := hB.size
    clear hmon hB
    have d0 := hbx.out.cell0
    have d1 := hbx.out.cell1
    have d2 := hbx.out.cell2
    have d3 := hbx.out.cell3
    refine hK.out _ _ ?_ (fun hHeld => ?_)
    · (try dsimp only); exact ⟨d0, d1, d2, d3⟩
    clear hK K
    try simp only [Array.reduceGetElem, Act.put, List.setIfInBounds_toArray, List.set_cons_zero, List.set_cons_succ]
    refine wpAnyH_ready (rs := [4]) (by kernel_rfl) (by simp) ?_
    refine AllReadyH.cons rfl (fun K hK => ?_) AllReadyH.nil
    go_simp
    go_at_call 21
    refine (specTreePut_fs hans.out _ _ _ hyq.out hsm.out (Nat.le_refl _) hqp hqt).mono ?_
    rintro e w5 ⟨A0, cc0, rfl, hOo, hB⟩
    clear d0 d1 d2 d3
    have hB3 := hB
    clear hyq
    have hbt := Lib.hid (hbx.out.below hB hbx.out.lt)
    have d0 := hbt.out.cell0
    have d1 := hbt.out.cell1
    have d2 := hbt.out.cell2
    have d3 := hbt.out.cell3
    clear hbt
    refine hK.out _ _ ?_ (fun hHeld => ?_)
    · (try dsimp only); exact ⟨d0, d1, d2, d3⟩
    clear hK K
    try simp only [Array.reduceGetElem, Act.put, List.setIfInBounds_toArray, List.set_cons_zero, List.set_cons_succ]
    refine wpAnyH_take (i := 5) (v := ?_) rfl (by kernel_rfl) (by kernel_rfl) (by kernel_rfl) (fun _ _ _ h => h) (Or.inl ⟨by rfl, ?_⟩) (by assumption) ?_
    rotate_left
    · (intro w hSw; (try dsimp only at hSw); go_simp; try with_reducible rfl)
    try simp only [Array.reduceGetElem, Act.put, List.setIfInBounds_toArray, List.set_cons_zero, List.set_cons_succ]
    refine wpAnyH_take (i := 6) (v := ?_) rfl (by kernel_rfl) (by kernel_rfl) (by kernel_rfl) (fun _ _ _ h => h) (Or.inl ⟨by rfl, ?_⟩) (by assumption) ?_
    rotate_left
    · (intro w hSw; (try dsimp only at hSw); go_simp; try with_reducible rfl)
    try simp only [Array.reduceGetElem, Act.put, List.setIfInBounds_toArray, List.set_cons_zero, List.set_cons_succ]
    refine wpAnyH_take (i := 7) (v := ?_) rfl (by kernel_rfl) (by kernel_rfl) (by kernel_rfl) (fun _ _ _ h => h) (Or.inl ⟨by rfl, ?_⟩) (by assumption) ?_
    rotate_left
    · (intro w hSw; (try dsimp only at hSw); go_simp; try with_reducible rfl)
    try simp only [Array.reduceGetElem, Act.put, List.setIfInBounds_toArray, List.set_cons_zero, List.set_cons_succ]
    refine wpAnyH_take (i := 8) (v := ?_) rfl (by kernel_rfl) (by kernel_rfl) (by kernel_rfl) (fun _ _ _ h => h) (Or.inl ⟨by rfl, ?_⟩) (by assumption) ?_
    rotate_left
    · (intro w hSw; (try dsimp only at hSw); go_simp; try with_reducible rfl)
    try simp only [Array.reduceGetElem, Act.put, List.setIfInBounds_toArray, List.set_cons_zero, List.set_cons_succ]
    refine wpAnyH_take (i := 9) (v := ?_) rfl (by kernel_rfl) (by kernel_rfl) (by kernel_rfl) (fun _ _ _ h => h) (Or.inl ⟨by rfl, ?_⟩) (by assumption) ?_
    rotate_left
    · (intro w hSw; (try dsimp only at hSw); go_simp; try with_reducible rfl)
    try simp only [Array.reduceGetElem, Act.put, List.setIfInBounds_toArray, List.set_cons_zero, List.set_cons_succ]
    refine wpAnyH_done (by kernel_rfl) ?_ _
    try refine NoPanic.normal ?_
    (try dsimp only)
    clear hHeld
    clear d0 d1 d2 d3
    have hB := hB3
    clear hB3
    have hO := hOo
    clear hOo
    have hS := Lib.hid (SlB.of hO)
    clear hO
    replace hC := hC.trans (hB.mono hC.size)
    replace hbx := Lib.hid (hbx.out.below hB hbx.out.lt)
    have hmon := hB.size
    clear hmon hB
    obtain ⟨HS, hHS⟩ : ∃ x, x = w5.heap.size := ⟨_, rfl⟩
    rw [← hHS] at hS
    have hHW : w.heap.size ≤ HS := by rw [hHS]; exact hC.size
    have HSz : HS ≤ w5.heap.size := by omega
    have hbxl : w.heap.size < HS := by have := hbx.out.lt; omega
    clear hHS
    have hA' := Lib.hid (hA.out.below hC)
    go_wp2_with fail
    with_reducible refine (toEntryS_row es A n c _ hA'.out hsm.out).mono ?_
    rintro e w6 ⟨rfl, hr, hB⟩
    clear hA'
    have hBs := hB.size
    obtain ⟨hxg, hhxg⟩ : ∃ x, x = w5.heap.size := ⟨_, rfl⟩
    rw [← hhxg] at hr ⊢
    have hxz := hr.lt
    have hx := Lib.hid hr
    clear hr
    have hxl : HS ≤ hxg := by omega
    clear hhxg
    replace hC := hC.trans (hB.mono hC.size)
    replace hbx := Lib.hid (hbx.out.below hB hbx.out.lt)
    replace hS := Lib.hid (hS.out.below hB (by omega))
    have hmon := hB.size
    replace HSz : HS ≤ w6.heap.size := by omega
    clear hmon hB
    clear hBs
    have d0 := hbx.out.cell0
    have d1 := hbx.out.cell1
    have d2 := hbx.out.cell2
    have d3 := hbx.out.cell3
    go_wp2_with fail
    with_reducible refine (toEntry_any ⟨pa, kd, md, tx⟩ _).mono ?_
    rintro e w7 ⟨rfl, hB⟩
    clear d0 d1 d2 d3
    replace hC := hC.trans (hB.mono hC.size)
    replace hbx := Lib.hid (hbx.out.below hB hbx.out.lt)
    replace hS := Lib.hid (hS.out.below hB (by omega))
    replace hx := Lib.hid (hx.out.below hB (by omega))
    have hmon := hB.size
    replace HSz : HS ≤ w7.heap.size := by omega
    replace hxz : hxg < w7.heap.size := by omega
    clear hmon hB
    obtain ⟨LO, hLO⟩ : ∃ x, x = w7.heap.size := ⟨_, rfl⟩
    go_wp2_with fail
    with_reducible refine (TreePut_fs hans.out _ _ _ hx.out.ents hsm.out (Nat.le_refl _) hqp hqt).mono ?_
    rintro e w8 ⟨A1, cc1, rfl, hOo, hB⟩
    rw [← hLO] at hOo
    have hO := Lib.hid hOo
    clear hOo
    have hxu : hxg < LO := by omega
    have hHL : HS ≤ LO := by omega
    have LOz : LO ≤ w8.heap.size := by have := hB.size; omega
    clear hLO
    replace hC := hC.trans (hB.mono hC.size)
    replace hbx := Lib.hid (hbx.out.below hB hbx.out.lt)
    replace hS := Lib.hid (hS.out.below hB (by omega))
    replace hx := Lib.hid (hx.out.below hB (by omega))
    have hmon := hB.size
    replace HSz : HS ≤ w8.heap.size := by omega
    replace hxz : hxg < w8.heap.size := by omega
    clear hmon hB
    go_wp2_with fail
    with_reducible refine (eqEntryS_sl fs A1 A0 _ _ _ _ _ hO.out.sl hS.out.sl rfl rfl hfl).mono ?_
    rintro e w9 ⟨rfl, hB⟩
    replace hC := hC.trans (hB.mono hC.size)
    replace hbx := Lib.hid (hbx.out.below hB hbx.out.lt)
    replace hS := Lib.hid (hS.out.below hB (by omega))
    replace hx := Lib.hid (hx.out.below hB (by omega))
    replace hO := Lib.hid (hO.out.below hB)
    have hmon := hB.size
    replace HSz : HS ≤ w9.heap.size := by omega
    replace LOz : LO ≤ w9.heap.size := by omega
    replace hxz : hxg < w9.heap.size := by omega
    clear hmon hB
    have hA' := Lib.hid (hA.out.below hC)
    go_wp2_with fail
    with_reducible refine (toEntryS_any es A n c _ hA'.out hsm.out).mono ?_
    rintro e w10 ⟨rfl, hr, hB⟩
    clear hA'
    have hBs := hB.size
    have hy := Lib.hid hr
    clear hr
    replace hC := hC.trans (hB.mono hC.size)
    replace hbx := Lib.hid (hbx.out.below hB hbx.out.lt)
    replace hS := Lib.hid (hS.out.below hB (by omega))
    replace hx := Lib.hid (hx.out.below hB (by omega))
    replace hO := Lib.hid (hO.out.below hB)
    have hmon := hB.size
    replace HSz : HS ≤ w10.heap.size := by omega
    replace LOz : LO ≤ w10.heap.size := by omega
    replace hxz : hxg < w10.heap.size := by omega
    clear hmon hB
    clear hBs
    go_wp2_with fail
    with_reducible refine (eqEntryS_any es _ _ _ _ _ _ _ hx.out.ents hy.out rfl rfl hlen).mono ?_
    rintro e w11 ⟨rfl, hB⟩
    clear hy
    replace hC := hC.trans (hB.mono hC.size)
    replace hbx := Lib.hid (hbx.out.below hB hbx.out.lt)
    replace hS := Lib.hid (hS.out.below hB (by omega))
    replace hx := Lib.hid (hx.out.below hB (by omega))
    replace hO := Lib.hid (hO.out.below hB)
    have hmon := hB.size
    replace HSz : HS ≤ w11.heap.size := by omega
    replace LOz : LO ≤ w11.heap.size := by omega
    replace hxz : hxg < w11.heap.size := by omega
    clear hmon hB
    go_wp2_with fail
    with_reducible refine (markRow1 es _ _ K _ hx.out hlen hK.out).mono ?_
    rintro e w12 ⟨rfl, hg⟩
    have hb : Below HS w11 w12 := gr_is_below hg (by omega) (by omega)
    have hmon := hg.size
    replace hC := hC.trans (hb.mono hHW)
    replace hS := Lib.hid (hS.out.below hb (Nat.le_refl _))
    replace hO := Lib.hid (hO.out.gr hg (by omega))
    replace hbx := Lib.hid (hbx.out.kept hg (by intro e; injection e; omega))
    replace HSz : HS ≤ w12.heap.size := by omega
    replace LOz : LO ≤ w12.heap.size := by omega
    clear hmon hg hb hx
    go_wp2_with fail
    with_reducible refine (eqEntryS_sl fs A1 A0 _ _ _ _ _ hO.out.sl hS.out.sl rfl rfl hfl).mono ?_
    rintro e w13 ⟨rfl, hB⟩
    replace hC := hC.trans (hB.mono hC.size)
    replace hbx := Lib.hid (hbx.out.below hB hbx.out.lt)
    replace hS := Lib.hid (hS.out.below hB (by omega))
    replace hO := Lib.hid (hO.out.below hB)
    have hmon := hB.size
    replace HSz : HS ≤ w13.heap.size := by omega
    replace LOz : LO ≤ w13.heap.size := by omega
    clear hmon hB
    go_wp2_with fail
    with_reducible refine (markOwnX fs A1 _ LO M _ hO.out hfl LOz hM.out).mono ?_
    rintro e w14 ⟨rfl, hMo, hb⟩
    have hM1 := Lib.hid hMo
    clear hMo
    have hmon := hb.size
    replace hC := hC.trans (hb.mono (by omega))
    replace hS := Lib.hid (hS.out.below hb (by omega))
    replace hbx := Lib.hid (hbx.out.below hb (by omega))
    clear hO
    replace HSz : HS ≤ w14.heap.size := by omega
    clear hmon hb LOz
    go_wp2_with fail
    with_reducible refine (heldSlX fs.length _ M A1 _ hM1.out hfl hM.out).mono ?_
    rintro e w15 ⟨rfl, hB⟩
    replace hC := hC.trans (hB.mono hC.size)
    replace hbx := Lib.hid (hbx.out.below hB hbx.out.lt)
    replace hS := Lib.hid (hS.out.below hB (by omega))
    replace hM1 := Lib.hid (hM1.out.below hB)
    have hmon := hB.size
    replace HSz : HS ≤ w15.heap.size := by omega
    clear hmon hB
    have hA' := Lib.hid (hA.out.below hC)
    have d0 := hbx.out.cell0
    have d1 := hbx.out.cell1
    have d2 := hbx.out.cell2
    have d3 := hbx.out.cell3
    go_wp2_with fail
    have hcA := toEntryS_any es A n c w15.drew hA'.out hsm.out
    replace hcA := Lib.hid hcA
    clear hA'
    first | refine wp_region_noPanic ?_ | skip
    refine wp_region_held_drew (S := (fun W' => W'.cell? ⟨w.heap.size, 0, none⟩ = some (.string (mkB pa)) ∧ W'.cell? ⟨w.heap.size, 1, none⟩ = some (.int .i64 kd) ∧ W'.cell? ⟨w.heap.size, 2, none⟩ = some (.int .i64 md) ∧ W'.cell? ⟨w.heap.size, 3, none⟩ = some (.string (mkB tx)))) (by kernel_rfl) ?_ (fun hHeld => ?_)
    · exact ⟨d0, d1, d2, d3⟩
    refine wpAnyH_take (i := 0) (v := ?_) rfl (by kernel_rfl) (by kernel_rfl) (by kernel_rfl) (fun _ _ _ h => h) (Or.inl ⟨by rfl, ?_⟩) (by assumption) ?_
    rotate_left
    · (intro w hSw; (try dsimp only at hSw); go_simp; try with_reducible rfl)
    try simp only [Array.reduceGetElem, Act.put, List.setIfInBounds_toArray, List.set_cons_zero, List.set_cons_succ]
    refine wpAnyH_take (i := 2) (v := ?_) rfl (by kernel_rfl) (by kernel_rfl) (by kernel_rfl) (fun _ _ _ h => h) (Or.inl ⟨by rfl, ?_⟩) (by assumption) ?_
    rotate_left
    · (intro w hSw; (try dsimp only at hSw); go_simp; try with_reducible rfl)
    try simp only [Array.reduceGetElem, Act.put, List.setIfInBounds_toArray, List.set_cons_zero, List.set_cons_succ]
    refine wpAnyH_ready (rs := [1]) (by kernel_rfl) (by simp) ?_
    refine AllReadyH.cons rfl (fun K hK => ?_) AllReadyH.nil
    go_simp
    go_at_call 22
    with_reducible refine hcA.out.mono ?_
    rintro e w16 ⟨rfl, hr, hB⟩
    have hyq := Lib.hid hr
    clear hr hcA
    have hBs := hB.size
    clear d0 d1 d2 d3
    replace hB : Below w15.heap.size w15 w16 := Below.trans (Below.refl _ w15).drew hB
    replace hC := hC.trans (hB.mono hC.size)
    replace hbx := Lib.hid (hbx.out.below hB hbx.out.lt)
    replace hS := Lib.hid (hS.out.below hB (by omega))
    replace hM1 := Lib.hid (hM1.out.below hB)
    have hmon := hB.size
    replace HSz : HS ≤ w16.heap.size := by omega
    clear hmon hB
    have d0 := hbx.out.cell0
    have d1 := hbx.out.cell1
    have d2 := hbx.out.cell2
    have d3 := hbx.out.cell3
    refine hK.out _ _ ?_ (fun hHeld => ?_)
    · (try dsimp only); exact ⟨d0, d1, d2, d3⟩
    clear hK K
    try simp only [Array.reduceGetElem, Act.put, List.setIfInBounds_toArray, List.set_cons_zero, List.set_cons_succ]
    refine wpAnyH_ready (rs := [3]) (by kernel_rfl) (by simp) ?_
    refine AllReadyH.cons rfl (fun K hK => ?_) AllReadyH.nil
    go_simp
    go_at_call 23
    with_reducible refine (toEntry_any ⟨pa, kd, md, tx⟩ _).mono ?_
    rintro e w17 ⟨rfl, hB⟩
    clear d0 d1 d2 d3
    replace hC := hC.trans (hB.mono hC.size)
    replace hbx := Lib.hid (hbx.out.below hB hbx.out.lt)
    replace hS := Lib.hid (hS.out.below hB (by omega))
    replace hM1 := Lib.hid (hM1.out.below hB)
    replace hyq := Lib.hid (hyq.out.below hB hyq.out.1)
    have hmon := hB.size
    replace HSz : HS ≤ w17.heap.size := by omega
    clear hmon hB
    have d0 := hbx.out.cell0
    have d1 := hbx.out.cell1
    have d2 := hbx.out.cell2
    have d3 := hbx.out.cell3
    refine hK.out _ _ ?_ (fun hHeld => ?_)
    · (try dsimp only); exact ⟨d0, d1, d2, d3⟩
    clear hK K
    try simp only [Array.reduceGetElem, Act.put, List.setIfInBounds_toArray, List.set_cons_zero, List.set_cons_succ]
    refine wpAnyH_ready (rs := [4]) (by kernel_rfl) (by simp) ?_
    refine AllReadyH.cons rfl (fun K hK => ?_) AllReadyH.nil
    go_simp
    go_at_call 24
    refine (TreePut_fs hans.out _ _ _ hyq.out hsm.out (Nat.le_refl _) hqp hqt).mono ?_
    rintro e w18 ⟨A2, cc2, rfl, hOo, hB⟩
    clear d0 d1 d2 d3
    have hB3 := hB
    clear hyq
    have hbt := Lib.hid (hbx.out.below hB hbx.out.lt)
    have d0 := hbt.out.cell0
    have d1 := hbt.out.cell1
    have d2 := hbt.out.cell2
    have d3 := hbt.out.cell3
    clear hbt
    refine hK.out _ _ ?_ (fun hHeld => ?_)
    · (try dsimp only); exact ⟨d0, d1, d2, d3⟩
    clear hK K
    try simp only [Array.reduceGetElem, Act.put, List.setIfInBounds_toArray, List.set_cons_zero, List.set_cons_succ]
    refine wpAnyH_take (i := 5) (v := ?_) rfl (by kernel_rfl) (by kernel_rfl) (by kernel_rfl) (fun _ _ _ h => h) (Or.inl ⟨by rfl, ?_⟩) (by assumption) ?_
    rotate_left
    · (intro w hSw; (try dsimp only at hSw); go_simp; try with_reducible rfl)
    try simp only [Array.reduceGetElem, Act.put, List.setIfInBounds_toArray, List.set_cons_zero, List.set_cons_succ]
    refine wpAnyH_take (i := 6) (v := ?_) rfl (by kernel_rfl) (by kernel_rfl) (by kernel_rfl) (fun _ _ _ h => h) (Or.inl ⟨by rfl, ?_⟩) (by assumption) ?_
    rotate_left
    · (intro w hSw; (try dsimp only at hSw); go_simp; try with_reducible rfl)
    try simp only [Array.reduceGetElem, Act.put, List.setIfInBounds_toArray, List.set_cons_zero, List.set_cons_succ]
    refine wpAnyH_take (i := 7) (v := ?_) rfl (by kernel_rfl) (by kernel_rfl) (by kernel_rfl) (fun _ _ _ h => h) (Or.inl ⟨by rfl, ?_⟩) (by assumption) ?_
    rotate_left
    · (intro w hSw; (try dsimp only at hSw); go_simp; try with_reducible rfl)
    try simp only [Array.reduceGetElem, Act.put, List.setIfInBounds_toArray, List.set_cons_zero, List.set_cons_succ]
    refine wpAnyH_take (i := 8) (v := ?_) rfl (by kernel_rfl) (by kernel_rfl) (by kernel_rfl) (fun _ _ _ h => h) (Or.inl ⟨by rfl, ?_⟩) (by assumption) ?_
    rotate_left
    · (intro w hSw; (try dsimp only at hSw); go_simp; try with_reducible rfl)
    try simp only [Array.reduceGetElem, Act.put, List.setIfInBounds_toArray, List.set_cons_zero, List.set_cons_succ]
    refine wpAnyH_take (i := 9) (v := ?_) rfl (by kernel_rfl) (by kernel_rfl) (by kernel_rfl) (fun _ _ _ h => h) (Or.inl ⟨by rfl, ?_⟩) (by assumption) ?_
    rotate_left
    · (intro w hSw; (try dsimp only at hSw); go_simp; try with_reducible rfl)
    try simp only [Array.reduceGetElem, Act.put, List.setIfInBounds_toArray, List.set_cons_zero, List.set_cons_succ]
    refine wpAnyH_done (by kernel_rfl) ?_ _
    try refine NoPanic.normal ?_
    (try dsimp only)
    clear hHeld
    clear d0 d1 d2 d3
    have hB := hB3
    clear hB3
    have hO2 := Lib.hid hOo
    clear hOo
    replace hC := hC.trans (hB.mono hC.size)
    replace hbx := Lib.hid (hbx.out.below hB hbx.out.lt)
    replace hS := Lib.hid (hS.out.below hB (by omega))
    replace hM1 := Lib.hid (hM1.out.below hB)
    have hmon := hB.size
    replace HSz : HS ≤ w18.heap.size := by omega
    clear hmon hB
    go_wp2_with fail
    with_reducible refine (eqEntryS_sl fs A2 A0 _ _ _ _ _ hO2.out.sl hS.out.sl rfl rfl hfl).mono ?_
    rintro e w19 ⟨rfl, hB⟩
    replace hC := hC.trans (hB.mono hC.size)
    replace hbx := Lib.hid (hbx.out.below hB hbx.out.lt)
    replace hS := Lib.hid (hS.out.below hB (by omega))
    replace hM1 := Lib.hid (hM1.out.below hB)
    replace hO2 := Lib.hid (hO2.out.below hB)
    have hmon := hB.size
    replace HSz : HS ≤ w19.heap.size := by omega
    clear hmon hB
    go_wp2_with fail
    with_reducible refine (heldSlX fs.length _ M A1 _ hM1.out hfl hM.out).mono ?_
    rintro e w20 ⟨rfl, hB⟩
    go_wp2
    go_ret
    exact ⟨rfl, hC.trans (hB.mono hC.size)⟩
end Go.Proofs.YtjihpbioofikcaaDoor
