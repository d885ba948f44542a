/-
  TreeJoin at a first tree that is nil.
-/
import Derived.Test.YtiknkjhdieepbaaDoorJoinI
import Derived.Test.YtiknkjhdieepbaaDoorJoinK
namespace Go.Proofs.YtiknkjhdieepbaaDoor
open Go.RowKit
set_option linter.unusedVariables false
set_option linter.unusedSimpArgs false
attribute [local go_sem] mkB_size mkB_extract mkB_get mkB_append mkB_append_raw raw_append_mkB mkB_toList

set_option maxRecDepth 1000000 in
set_option maxHeartbeats 8000000 in
theorem Insert_nil (e : En) (lo vb : Nat) (w : World) (hlo : lo ≤ w.heap.size)
    (hv : Box4 w vb 30 (.string (mkB e.path)) (.int .i64 e.kind) (.int .i64 e.mode) (.string (mkB e.text))) :
    Calls Tryd.prog 18 #[.slice none 0 0, .int .i64 0, .slice (some ⟨vb, 0, none⟩) 1 1] w
      fun r w' => ∃ g' c', r = .returned (.slice (some ⟨g', 0, none⟩) 1 c') ∧ OwnR w' lo g' c' (insE [] 0 e) ∧ w.grownBy w' none := by
  have hnews : ∀ j u, (cellsE e)[j]? = some u → w.cell? ((⟨vb, 0, none⟩ : Addr).add j) = some u := fun j u hu => by
    rw [add_of_head, row_cell _ _ _ _ _ _ hv]
    unfold cellsE at hu
    simpa using hu
  replace hnews := Lib.hid hnews
  have hone := Lib.hid (cellsE_one' e)
  obtain ⟨i0, hi, hz0, hz1, hz2⟩ := info_parts infoE
  replace hi := Lib.hid hi
  replace hz0 := Lib.hid hz0
  replace hz1 := Lib.hid hz1
  replace hz2 := Lib.hid hz2
  have h63 : 0 + 1 ≤ maxLen := by unfold maxLen; omega
  have hby : (0 + 1) * 48 ≤ 140737488355328 := by omega
  have hown : Hid (w.ownsRow lo 30 4 (.slice none 0 0) 0 []) := Lib.hid ⟨rfl, .inl ⟨rfl, rfl⟩⟩
  clear hv
  go_enter Tryd.func18, Tryd.ntmps18
  go_wp2_with (at_builtin; go_loud (refine wpList_append_at _ rfl _ _ _ rfl lo 30 i0 _ 4 48 Tryd.underlying23 hi.out hz0.out hz1.out hz2.out rfl (by decide) _ 0 [] rfl hown.out ⟨vb, 0, none⟩ 1 1 (cellsE e) rfl rfl hnews.out hone.out h63 hby hlo ?_); intro v' w1 hown1 hgr hnil hat)
  all_goals
    have hne' : v' ≠ .slice none 0 0 := fun e => by have := (hnil.1 e).2; omega
    obtain ⟨g', cap, rfl, hg', hc', hm'⟩ := own_form hown1 hne'
    have hins : [] ++ cellsE e = flatE (insE [] 0 e) := by simp [insE, flatE]
    have hR : OwnR w1 lo g' cap (insE [] 0 e) := by
      unfold OwnR
      rw [← hins]
      exact hown1
    have hgr' : w.grownBy w1 none := hgr
    clear hown1 hgr hnil hat hne' hins
    replace hR := Lib.hid hR
    replace hgr' := Lib.hid hgr'
    try go_wp2
    go_ret
    exact ⟨g', cap, rfl, hR.out, hgr'.out⟩

set_option maxRecDepth 1000000 in
set_option maxHeartbeats 16000000 in
theorem TreeJoin_nil (b : List En) (B : Option Addr) (cb : Nat) (w : World) (hI : InE w B cb b) (hsmb : Small b) :
    Calls Tryd.prog 5 #[.slice none 0 0, .slice B b.length cb] w (ResE (treeJoin [] b) w) := by
  have hIh := Lib.hid hI
  have hsb := Lib.hid hsmb
  have hlenb := hsmb.1
  clear hI hsmb
  go_enter Tryd.func5, Tryd.ntmps5
  go_wp2_with fail
  with_reducible refine (TreeOk_nil _).mono ?_
  rintro r w2 ⟨rfl, hB⟩
  have hI2 := Lib.hid (hIh.out.below hB)
  have hok := Lib.hid treeOk_nil
  go_wp2_with fail
  with_reducible refine (TreeOk_in b B cb _ hI2.out hsb.out).mono ?_
  rintro r w3 ⟨rfl, hB3⟩
  have hC3 := hB.trans (hB3.mono hB.size)
  rcases boolOf (treeOk b) with hokb | hokb
  · rw [hokb.out]
    go_wp2
    refine bodyPost_ret (v := .tuple #[.slice none 0 0, .bool false]) (by simp [results, Tryd.results5, go_sem]) rfl ?_
    rw [treeJoin_bad2 hokb.out]
    exact ⟨none, 0, rfl, .inl rfl, hC3⟩
  rw [hokb.out]
  have hbl := (treeOk_is hokb.out).len
  go_wp2_with fail
  with_reducible refine (Clone_nil _).mono ?_
  rintro r w4 ⟨rfl, hB4⟩
  have hC4 := hC3.trans (hB4.mono hC3.size)
  clear hI2 hB hB3 hB4 hC3
  have hn0 := Lib.hid (show there [] = fun _ => false from by funext p; simp [there, atGo])
  go_wp2
  go_loopw [6, 23] (fun jo ii wr => (ii = .int .i64 0 ∧ jo = .slice none 0 0 ∧ Below w.heap.size w wr) ∨ ∃ (k g1 c1 : Nat) (acc : List En), k ≤ b.length ∧ ii = .int .i64 k ∧ jo = .slice (some ⟨g1, 0, none⟩) acc.length c1 ∧ Hid (OwnR wr w.heap.size g1 c1 acc) ∧ Hid (joinGo [] b = joinGo acc (b.drop k)) ∧ Hid (Sorted acc ∧ Small acc) ∧ acc.length ≤ k ∧ Below w.heap.size w wr) (fun _ ii _ => b.length - (intOf ii).toNat)
  case atStart => exact .inl ⟨rfl, rfl, hC4⟩
  case round =>
    rcases hrel with ⟨rfl, rfl, hBr⟩ | hrel
    · by_cases hlt : 0 < b.length
      · have hk0I : (0 : Int) < (b.length : Int) := by omega
        obtain ⟨gb, rfl, hEb, hcb⟩ := (hIh.out.below hBr).pos hlt
        obtain ⟨d0, d1, d2, d3⟩ := hEb.2 0 hlt
        have hpl := hsb.out.2 0 hlt
        obtain ⟨e, he⟩ : ∃ x, b[0] = x := ⟨_, rfl⟩
        have hdr := drop_split hlt he
        rw [he] at d0 d1 d2 d3 hpl
        simp only [Nat.zero_mul, Nat.zero_add] at d0 d1 d2 d3
        rw [List.drop_zero] at hdr
        clear he hEb
        obtain ⟨p, kind, mode, t⟩ := e
        simp only at hpl
        have hgo2 : joinGo [] b = joinGo (insE [] 0 ⟨p, kind, mode, t⟩) (b.drop 1) := (congrArg (joinGo []) hdr).trans (joinGo_ins (k := 0) (by simp [there, atGo]) rfl)
        replace hgo2 := Lib.hid hgo2
        clear hdr
        have hws := hBr.size
        go_wp2_with fail
        obtain ⟨Wb, hWb⟩ : ∃ X, wr.alloc (.cells #[.string (mkB p), .int .i64 kind, .int .i64 mode, .string (mkB t)] 30) = X := ⟨_, rfl⟩
        have hb1 : Box4 Wb wr.heap.size 30 (.string (mkB p)) (.int .i64 kind) (.int .i64 mode) (.string (mkB t)) := by rw [← hWb]; exact Box4.new _ _ _ _ _ _
        have hB1 : Below wr.heap.size wr Wb := by rw [← hWb]; exact (Below.refl _ _).alloc (Nat.le_refl _) _
        rw [hWb]
        clear hWb d0 d1 d2 d3
        with_reducible refine (findEntry_nil p _).mono ?_
        rintro r wa ⟨rfl, hBa⟩
        have hba := hb1.below hBa hb1.lt
        have hBA := hB1.trans (hBa.mono hB1.size)
        have hCa := hBr.trans (hBA.mono hws)
        clear hb1 hB1 hBa hBr
        have d0 := hba.cell0
        have d1 := hba.cell1
        have d2 := hba.cell2
        have d3 := hba.cell3
        have hins : ∃ W7, wa.alloc (.cells #[.string (mkB p), .int .i64 kind, .int .i64 mode, .string (mkB t)] 30) = W7 ∧ Calls Tryd.prog 18 #[.slice none 0 0, .int .i64 0, .slice (some ⟨wa.heap.size, 0, none⟩) 1 1] W7 (fun r w' => ∃ g' c', r = .returned (.slice (some ⟨g', 0, none⟩) 1 c') ∧ OwnR w' w.heap.size g' c' (insE [] 0 ⟨p, kind, mode, t⟩) ∧ W7.grownBy w' none) ∧ Below w.heap.size w W7 :=
          ⟨_, rfl, Insert_nil ⟨p, kind, mode, t⟩ w.heap.size wa.heap.size _ (by have := hCa.size; simp; omega) (Box4.new _ _ _ _ _ _), hCa.alloc hCa.size _⟩
        replace hins := Lib.hid hins
        replace hba := Lib.hid hba
        go_wp2_with fail
        obtain ⟨W7, hW7, hcall, hB7⟩ := hins.out
        rw [hW7]
        clear hW7
        with_reducible refine hcall.mono ?_
        rintro r w8 ⟨g8, c8, rfl, hR8, hgr8⟩
        have hC8 : Below w.heap.size w w8 := hB7.grown hgr8 hB7.size (fun q hq => by cases hq)
        have hso : Sorted (insE [] 0 ⟨p, kind, mode, t⟩) := fun i h => by simp [insE] at h
        have hsm : Small (insE [] 0 ⟨p, kind, mode, t⟩) := by
          refine ⟨by simp [insE], fun i hi => ?_⟩
          simp [insE] at hi
          subst hi
          exact hpl
        replace hso := Lib.hid hso
        replace hsm := Lib.hid hsm
        replace hR8 := Lib.hid hR8
        clear d0 d1 d2 d3 hgr8
        go_wp2
        go_round
        case rel => exact .inr ⟨1, g8, c8, insE [] 0 ⟨p, kind, mode, t⟩, by omega, by go_num, by rfl, hR8, hgo2, Lib.hid ⟨hso.out, hsm.out⟩, by simp [insE], hC8⟩
        case measure => simp [intOf]; omega
      · obtain rfl : b = [] := List.length_eq_zero_iff.1 (by omega)
        have hws := hBr.size
        go_wp2_with fail
        with_reducible refine (TreeOk_nil _).mono ?_
        rintro r w9 ⟨rfl, hB9⟩
        have hC9 := hBr.trans (hB9.mono hws)
        go_wp2
        refine bodyPost_ret (v := .tuple #[.slice none 0 0, .bool true]) (by simp [results, Tryd.results5, go_sem]) rfl ?_
        rw [join_nil treeOk_nil treeOk_nil]
        exact ⟨none, 0, rfl, .inl rfl, hC9⟩
    obtain ⟨k0, g1, c1, acc, hk0, rfl, rfl, hrow, hgo, hacc, hla, hBr⟩ := hrel
    by_cases hlt : k0 < b.length
    · have hk0I : (k0 : Int) < (b.length : Int) := by omega
      obtain ⟨gb, rfl, hEb, hcb⟩ := (hIh.out.below hBr).pos hlt
      obtain ⟨d0, d1, d2, d3⟩ := hEb.2 k0 hlt
      have hpl := hsb.out.2 k0 hlt
      obtain ⟨e, he⟩ : ∃ x, b[k0] = x := ⟨_, rfl⟩
      have hdr := drop_split hlt he
      rw [he] at d0 d1 d2 d3 hpl
      rw [hdr] at hgo
      clear hdr he hEb
      obtain ⟨p, kind, mode, t⟩ := e
      simp only at hpl
      obtain ⟨k, hka⟩ : ∃ x, atGo acc p = x := ⟨_, rfl⟩
      have hkl : k ≤ acc.length := by rw [← hka]; exact atGo_le _ _
      have hgl := hrow.out.lt
      have hlo1 := hrow.out.parts.2.1
      have hws := hBr.size
      go_wp2_with fail
      obtain ⟨Wb, hWb⟩ : ∃ X, wr.alloc (.cells #[.string (mkB p), .int .i64 kind, .int .i64 mode, .string (mkB t)] 30) = X := ⟨_, rfl⟩
      have hb1 : Box4 Wb wr.heap.size 30 (.string (mkB p)) (.int .i64 kind) (.int .i64 mode) (.string (mkB t)) := by rw [← hWb]; exact Box4.new _ _ _ _ _ _
      have hB1 : Below wr.heap.size wr Wb := by rw [← hWb]; exact (Below.refl _ _).alloc (Nat.le_refl _) _
      rw [hWb]
      clear hWb d0 d1 d2 d3
      have hr1 := Lib.hid (hrow.out.below hB1 hgl)
      with_reducible refine (findEntry_any acc p g1 c1 _ hr1.out.parts.1.ents hacc.out.1 (by omega)).mono ?_
      rintro r wa ⟨rfl, hBa⟩
      rw [hka]
      have hba := hb1.below hBa hb1.lt
      have hBA := hB1.trans (hBa.mono hB1.size)
      have hra := Lib.hid (hrow.out.below hBA hgl)
      have hCa := hBr.trans (hBA.mono hws)
      have hgla := hra.out.lt
      have hlba := hba.lt
      clear hb1 hr1 hrow hB1 hBa hBr
      have d0 := hba.cell0
      have d1 := hba.cell1
      have d2 := hba.cell2
      have d3 := hba.cell3
      rcases boolOf (there acc p) with hth | hth
      · rw [hth.out]
        have hins : ∃ W7, wa.alloc (.cells #[.string (mkB p), .int .i64 kind, .int .i64 mode, .string (mkB t)] 30) = W7 ∧ Calls Tryd.prog 18 #[.slice (some ⟨g1, 0, none⟩) acc.length c1, .int .i64 k, .slice (some ⟨wa.heap.size, 0, none⟩) 1 1] W7 (InsPost acc k ⟨p, kind, mode, t⟩ w.heap.size g1 W7) ∧ Below w.heap.size w W7 := 
          ⟨_, rfl, Insert_any acc ⟨p, kind, mode, t⟩ w.heap.size g1 c1 wa.heap.size k _ (hra.out.below ((Below.refl _ _).alloc (Nat.le_refl _) _) hgla) (by omega) (by have := hCa.size; simp; omega) hkl (Box4.new _ _ _ _ _ _) (by omega), hCa.alloc hCa.size _⟩
        replace hins := Lib.hid hins
        have hgo2 := hgo.out
        rw [joinGo_ins (by exact hth.out) (by exact hka)] at hgo2
        replace hgo2 := Lib.hid hgo2
        have hso : Sorted (insE acc k ⟨p, kind, mode, t⟩) := by
          have h := insE_sorted (e := ⟨p, kind, mode, t⟩) hacc.out.1 hth.out
          simp only [hka] at h
          exact h
        replace hso := Lib.hid hso
        replace hba := Lib.hid hba
        go_wp2_with fail
        obtain ⟨W7, hW7, hcall, hB7⟩ := hins.out
        rw [hW7]
        clear hW7
        with_reducible refine hcall.mono ?_
        rintro r w8 ⟨g8, c8, rfl, hR8, hat8, hgr8⟩
        have hC8 : Below w.heap.size w w8 := hB7.grown hgr8 hB7.size (fun q hq => by cases hq; omega)
        have hil := insE_length (es := acc) ⟨p, kind, mode, t⟩ hkl
        replace hR8 := Lib.hid hR8
        replace hil := Lib.hid hil
        clear d0 d1 d2 d3 hgr8 hat8
        go_wp2
        go_round
        case rel => exact .inr ⟨k0 + 1, g8, c8, insE acc k ⟨p, kind, mode, t⟩, by omega, by go_num, by rw [hil.out], hR8, hgo2, Lib.hid ⟨hso.out, small_ins hacc.out.2 (by omega) hkl hpl⟩, by rw [hil.out]; omega, hC8⟩
        case measure => simp [intOf]; omega
      · obtain ⟨hkk, -⟩ := there_iff.1 hth.out
        have hk : k < acc.length := by omega
        have hkI : (k : Int) < (acc.length : Int) := by omega
        clear hkk
        rw [hth.out]
        obtain ⟨c0, c1', c2, c3⟩ := hra.out.parts.1.ents.2 k hk
        obtain ⟨x, hx⟩ : ∃ x, acc[k] = x := ⟨_, rfl⟩
        have hgn := fun h1 => joinGo_no (r := b.drop (k0 + 1)) (e := ⟨p, kind, mode, t⟩) (by exact hth.out) (by exact hka) hk h1
        have hgs := fun h1 h2 => joinGo_same (r := b.drop (k0 + 1)) (e := ⟨p, kind, mode, t⟩) (by exact hth.out) (by exact hka) hk h1 h2
        rw [hx] at c0 c1' c2 c3 hgn hgs
        obtain ⟨p', kind', mode', t'⟩ := x
        simp only at c0 c1' c2 c3 hgn hgs
        replace hgn := Lib.hid hgn
        replace hgs := Lib.hid hgs
        replace hx := Lib.hid hx
        replace hba := Lib.hid hba
        by_cases hkd : kind = 1
        case neg =>
          have hkb : (kind != 1) = true := by simp [hkd]
          have hno := Lib.hid (hgo.out.trans (hgn.out (.inl hkd)))
          clear hkd
          go_wp2_with fail
          go_region
          all_goals go_wp2
          all_goals refine bodyPost_ret (v := .tuple #[.slice none 0 0, .bool false]) (by simp [results, Tryd.results5, go_sem]) rfl ?_
          all_goals rw [treeJoin_ok hok.out hokb.out, joinL_none hno.out]
          all_goals exact ⟨none, 0, rfl, .inl rfl, hCa.drew⟩
        subst hkd
        rcases boolOf (sameE ⟨p', kind', mode', t'⟩ ⟨p, 1, mode, t⟩) with hsa | hsa
        · have hnq := neqE_cells p' p kind' mode' 1 mode t' t hsa.out
          have hge := fun op x y => guardE_cells op x y p' p kind' mode' 1 mode t' t
          have hno := Lib.hid (hgo.out.trans (hgn.out (.inr hsa.out)))
          go_wp2_with fail
          go_region
          all_goals go_wp2
          all_goals refine bodyPost_ret (v := .tuple #[.slice none 0 0, .bool false]) (by simp [results, Tryd.results5, go_sem]) rfl ?_
          all_goals rw [treeJoin_ok hok.out hokb.out, joinL_none hno.out]
          all_goals exact ⟨none, 0, rfl, .inl rfl, hCa.drew⟩
        · have hnq := neqE_cells p' p kind' mode' 1 mode t' t hsa.out
          have hge := fun op x y => guardE_cells op x y p' p kind' mode' 1 mode t' t
          have hgo2 := Lib.hid (hgo.out.trans (hgs.out rfl hsa.out))
          go_wp2_with fail
          go_region
          all_goals go_wp2
          all_goals go_round
          all_goals first
            | exact .inr ⟨k0 + 1, g1, c1, acc, by omega, by go_num, rfl, Lib.hid hra.out, hgo2, hacc, by omega, hCa.drew⟩
            | (simp [intOf]; omega)
    · obtain rfl : k0 = b.length := by omega
      have hgl := hrow.out.lt
      have hgo2 := hgo.out
      rw [List.drop_length, joinGo_nil] at hgo2
      replace hgo2 := Lib.hid hgo2
      have hcc := hrow.out.parts.2.2.1
      have hws := hBr.size
      go_wp2_with fail
      with_reducible refine (TreeOk_any acc g1 c1 _ hrow.out.parts.1.ents hacc.out.2 hcc).mono ?_
      rintro r w9 ⟨rfl, hB9⟩
      have hC9 := hBr.trans (hB9.mono hws)
      have hr9 := Lib.hid (hrow.out.below hB9 hgl)
      clear hrow
      rcases boolOf (treeOk acc) with hox | hox
      · rw [hox.out]
        go_wp2
        refine bodyPost_ret (v := .tuple #[.slice none 0 0, .bool false]) (by simp [results, Tryd.results5, go_sem]) rfl ?_
        rw [treeJoin_ok hok.out hokb.out, joinL_bad hgo2.out hox.out]
        exact ⟨none, 0, rfl, .inl rfl, hC9⟩
      · rw [hox.out]
        go_wp2
        refine bodyPost_ret (v := .tuple #[.slice (some ⟨g1, 0, none⟩) acc.length c1, .bool true]) (by simp [results, Tryd.results5, go_sem]) rfl ?_
        rw [treeJoin_ok hok.out hokb.out, joinL_ok hgo2.out hox.out]
        exact ⟨some ⟨g1, 0, none⟩, c1, rfl, hr9.out.own, hC9⟩
end Go.Proofs.YtiknkjhdieepbaaDoor
