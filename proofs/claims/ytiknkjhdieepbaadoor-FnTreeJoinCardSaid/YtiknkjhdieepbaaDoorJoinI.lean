/-
  The walk of the program's TreeJoin.
-/
import Derived.Test.YtiknkjhdieepbaaDoorNilE
namespace Go.Proofs.YtiknkjhdieepbaaDoor
open Go.RowKit
set_option linter.unusedVariables false
set_option linter.unusedSimpArgs false
attribute [local go_sem] mkB_size mkB_extract mkB_get mkB_append mkB_append_raw raw_append_mkB mkB_toList

theorem small_ins {es : List En} {e : En} {k : Nat} (h : Small es) (hl : es.length < 1048576) (hk : k ≤ es.length) (he : e.path.length ≤ 1048576 ∧ e.text.length ≤ 1048576) : Small (insE es k e) := by
  refine ⟨by rw [insE_length e hk]; omega, fun i hi => ?_⟩
  have hm : (insE es k e)[i] ∈ e :: es := (insE_perm es k e).subset (List.getElem_mem hi)
  rcases List.mem_cons.1 hm with h1 | h1
  · rw [h1]; exact he
  · obtain ⟨j, hj, h2⟩ := List.getElem_of_mem h1
    rw [← h2]; exact h.2 j hj
theorem drop_split {b : List En} {k : Nat} {e : En} (hk : k < b.length) (he : b[k] = e) : b.drop k = e :: b.drop (k + 1) := by rw [List.drop_eq_getElem_cons hk, he]
theorem InE.pos {w : World} {A : Option Addr} {c : Nat} {es : List En} (h : InE w A c es) {k : Nat} (hk : k < es.length) : ∃ g, A = some ⟨g, 0, none⟩ ∧ Ents w g es ∧ es.length ≤ c := by
  rcases h with ⟨_, _, h⟩ | h
  · rw [h] at hk; simp at hk
  · exact h
theorem neqE_cells (p q : List UInt8) (k m k' m' : Int) (t u : List UInt8) {r : Bool} (h : sameE ⟨p, k, m, t⟩ ⟨q, k', m', u⟩ = r) (w : World) : (binOp .neq 30 (.agg #[.string (mkB p), .int .i64 k, .int .i64 m, .string (mkB t)]) (.agg #[.string (mkB q), .int .i64 k', .int .i64 m', .string (mkB u)])).run Tryd.prog w = .ok (.bool (!r)) w := run_neqE_is ⟨p, k, m, t⟩ ⟨q, k', m', u⟩ h w
theorem guardE_cells (op : BinOp) (x y : Operand) (p q : List UInt8) (k m k' m' : Int) (t u : List UInt8) (w : World) : (eqGuard op 30 x y (.agg #[.string (mkB p), .int .i64 k, .int .i64 m, .string (mkB t)]) (.agg #[.string (mkB q), .int .i64 k', .int .i64 m', .string (mkB u)])).run Tryd.prog w = .ok () w := guardE op x y ⟨p, k, m, t⟩ ⟨q, k', m', u⟩ w

/-- what TreeJoin hands back: it may be written, and handed on -/
def ResJ (x : List En × Bool) (w : World) (r : Ending) (w' : World) : Prop := ∃ A c', r = .returned (.tuple #[.slice A x.1.length c', .bool x.2]) ∧ OwnE w' w.heap.size A x.1 ∧ Below w.heap.size w w' ∧ InE w' A c' x.1
theorem ResJ.res {x : List En × Bool} {w w' : World} {r : Ending} (h : ResJ x w r w') : ResE x w r w' := by
  obtain ⟨A, c', h1, h2, h3, _⟩ := h
  exact ⟨A, c', h1, h2, h3⟩
set_option maxRecDepth 1000000 in
set_option maxHeartbeats 16000000 in
theorem TreeJoin_both (a b : List En) (g c : Nat) (B : Option Addr) (cb : Nat) (w : World) (hE : Ents w g a) (hsm : Small a) (hcap : a.length ≤ c) (hI : InE w B cb b) (hsmb : Small b) :
    Calls Tryd.prog 5 #[.slice (some ⟨g, 0, none⟩) a.length c, .slice B b.length cb] w (ResJ (treeJoin a b) w) := by
  have hEh := Lib.hid hE
  have hsh := Lib.hid hsm
  have hIh := Lib.hid hI
  have hsb := Lib.hid hsmb
  have hlen := hsm.1
  have hlenb := hsmb.1
  have hg := hE.1
  clear hE hsm hI hsmb
  go_enter Tryd.func5, Tryd.ntmps5
  go_wp2_with fail
  with_reducible refine (TreeOk_any a g c _ hEh.out hsh.out hcap).mono ?_
  rintro r w2 ⟨rfl, hB⟩
  have hE2 := Lib.hid (hEh.out.below hB hg)
  have hI2 := Lib.hid (hIh.out.below hB)
  rcases boolOf (treeOk a) with hok | hok
  · rw [hok.out]
    go_wp2
    refine bodyPost_ret (v := .tuple #[.slice none 0 0, .bool false]) (by simp [results, Tryd.results5, go_sem]) rfl ?_
    rw [treeJoin_bad1 hok.out]
    exact ⟨none, 0, rfl, .inl rfl, hB, .inl ⟨rfl, rfl, rfl⟩⟩
  rw [hok.out]
  have hsrt := Lib.hid (treeOk_is hok.out).sorted
  have hal := (treeOk_is hok.out).len
  go_wp2_with fail
  with_reducible refine (TreeOk_in b B cb _ hI2.out hsb.out).mono ?_
  rintro r w3 ⟨rfl, hB3⟩
  have hC3 := hB.trans (hB3.mono hB.size)
  have hE3 := Lib.hid (hE2.out.below hB3 hE2.out.1)
  rcases boolOf (treeOk b) with hokb | hokb
  · rw [hokb.out]
    go_wp2
    refine bodyPost_ret (v := .tuple #[.slice none 0 0, .bool false]) (by simp [results, Tryd.results5, go_sem]) rfl ?_
    rw [treeJoin_bad2 hokb.out]
    exact ⟨none, 0, rfl, .inl rfl, hC3, .inl ⟨rfl, rfl, rfl⟩⟩
  rw [hokb.out]
  have hbl := (treeOk_is hokb.out).len
  go_wp2_with fail
  with_reducible refine (Clone_own a g c _ hE3.out hlen).mono ?_
  rintro r w4 ⟨g4, c4, rfl, hR4, hB4⟩
  have hC4 := hC3.trans (hB4.mono hC3.size)
  have hs3 := hC3.size
  replace hR4 := Lib.hid (hR4.lower hs3)
  clear hI2 hE2 hE3
  go_wp2
  go_loopw [6, 23] (fun jo ii wr => ∃ (k g1 c1 : Nat) (acc : List En), k ≤ b.length ∧ ii = .int .i64 k ∧ jo = .slice (some ⟨g1, 0, none⟩) acc.length c1 ∧ Hid (OwnR wr w.heap.size g1 c1 acc) ∧ Hid (joinGo a b = joinGo acc (b.drop k)) ∧ Hid (Sorted acc ∧ Small acc) ∧ acc.length ≤ a.length + k ∧ Below w.heap.size w wr) (fun _ ii _ => b.length - (intOf ii).toNat)
  case atStart => exact ⟨0, g4, c4, a, Nat.zero_le _, rfl, rfl, hR4, Lib.hid rfl, Lib.hid ⟨hsrt.out, hsh.out⟩, Nat.le_refl _, hC4⟩
  case round =>
    clear hR4
    obtain ⟨k0, g1, c1, acc, hk0, rfl, rfl, hrow, hgo, hacc, hla, hBr⟩ := hrel
    by_cases hlt : k0 < b.length
    · have hk0I : (k0 : Int) < (b.length : Int) := by omega
      obtain ⟨gb, rfl, hEb, hcb⟩ := (hIh.out.below hBr).pos hlt
      obtain ⟨d0, d1, d2, d3⟩ := hEb.2 k0 hlt
      have hpl := hsb.out.2 k0 hlt
      obtain ⟨e, he⟩ : ∃ x, b[k0] = x := ⟨_, rfl⟩
      have hdr := drop_split hlt he
      rw [he] at d0 d1 d2 d3 hpl
      rw [hdr] at hgo
      clear hdr he hEb
      obtain ⟨p, kind, mode, t⟩ := e
      simp only at hpl
      obtain ⟨k, hka⟩ : ∃ x, atGo acc p = x := ⟨_, rfl⟩
      have hkl : k ≤ acc.length := by rw [← hka]; exact atGo_le _ _
      have hgl := hrow.out.lt
      have hlo1 := hrow.out.parts.2.1
      have hws := hBr.size
      go_wp2_with fail
      obtain ⟨Wb, hWb⟩ : ∃ X, wr.alloc (.cells #[.string (mkB p), .int .i64 kind, .int .i64 mode, .string (mkB t)] 30) = X := ⟨_, rfl⟩
      have hb1 : Box4 Wb wr.heap.size 30 (.string (mkB p)) (.int .i64 kind) (.int .i64 mode) (.string (mkB t)) := by rw [← hWb]; exact Box4.new _ _ _ _ _ _
      have hB1 : Below wr.heap.size wr Wb := by rw [← hWb]; exact (Below.refl _ _).alloc (Nat.le_refl _) _
      rw [hWb]
      clear hWb d0 d1 d2 d3
      have hr1 := Lib.hid (hrow.out.below hB1 hgl)
      with_reducible refine (findEntry_any acc p g1 c1 _ hr1.out.parts.1.ents hacc.out.1 (by omega)).mono ?_
      rintro r wa ⟨rfl, hBa⟩
      rw [hka]
      have hba := hb1.below hBa hb1.lt
      have hBA := hB1.trans (hBa.mono hB1.size)
      have hra := Lib.hid (hrow.out.below hBA hgl)
      have hCa := hBr.trans (hBA.mono hws)
      have hgla := hra.out.lt
      have hlba := hba.lt
      clear hb1 hr1 hrow hB1 hBa hBr
      have d0 := hba.cell0
      have d1 := hba.cell1
      have d2 := hba.cell2
      have d3 := hba.cell3
      rcases boolOf (there acc p) with hth | hth
      · rw [hth.out]
        have hins : ∃ W7, wa.alloc (.cells #[.string (mkB p), .int .i64 kind, .int .i64 mode, .string (mkB t)] 30) = W7 ∧ Calls Tryd.prog 18 #[.slice (some ⟨g1, 0, none⟩) acc.length c1, .int .i64 k, .slice (some ⟨wa.heap.size, 0, none⟩) 1 1] W7 (InsPost acc k ⟨p, kind, mode, t⟩ w.heap.size g1 W7) ∧ Below w.heap.size w W7 := 
          ⟨_, rfl, Insert_any acc ⟨p, kind, mode, t⟩ w.heap.size g1 c1 wa.heap.size k _ (hra.out.below ((Below.refl _ _).alloc (Nat.le_refl _) _) hgla) (by omega) (by have := hCa.size; simp; omega) hkl (Box4.new _ _ _ _ _ _) (by omega), hCa.alloc hCa.size _⟩
        replace hins := Lib.hid hins
        have hgo2 := hgo.out
        rw [joinGo_ins (by exact hth.out) (by exact hka)] at hgo2
        replace hgo2 := Lib.hid hgo2
        have hso : Sorted (insE acc k ⟨p, kind, mode, t⟩) := by
          have h := insE_sorted (e := ⟨p, kind, mode, t⟩) hacc.out.1 hth.out
          simp only [hka] at h
          exact h
        replace hso := Lib.hid hso
        replace hba := Lib.hid hba
        go_wp2_with fail
        obtain ⟨W7, hW7, hcall, hB7⟩ := hins.out
        rw [hW7]
        clear hW7
        with_reducible refine hcall.mono ?_
        rintro r w8 ⟨g8, c8, rfl, hR8, hat8, hgr8⟩
        have hC8 : Below w.heap.size w w8 := hB7.grown hgr8 hB7.size (fun q hq => by cases hq; omega)
        have hil := insE_length (es := acc) ⟨p, kind, mode, t⟩ hkl
        replace hR8 := Lib.hid hR8
        replace hil := Lib.hid hil
        clear d0 d1 d2 d3 hgr8 hat8
        go_wp2
        go_round
        case rel => exact ⟨k0 + 1, g8, c8, insE acc k ⟨p, kind, mode, t⟩, by omega, by go_num, by rw [hil.out], hR8, hgo2, Lib.hid ⟨hso.out, small_ins hacc.out.2 (by omega) hkl hpl⟩, by rw [hil.out]; omega, hC8⟩
        case measure => simp [intOf]; omega
      · obtain ⟨hkk, -⟩ := there_iff.1 hth.out
        have hk : k < acc.length := by omega
        have hkI : (k : Int) < (acc.length : Int) := by omega
        clear hkk
        rw [hth.out]
        obtain ⟨c0, c1', c2, c3⟩ := hra.out.parts.1.ents.2 k hk
        obtain ⟨x, hx⟩ : ∃ x, acc[k] = x := ⟨_, rfl⟩
        have hgn := fun h1 => joinGo_no (r := b.drop (k0 + 1)) (e := ⟨p, kind, mode, t⟩) (by exact hth.out) (by exact hka) hk h1
        have hgs := fun h1 h2 => joinGo_same (r := b.drop (k0 + 1)) (e := ⟨p, kind, mode, t⟩) (by exact hth.out) (by exact hka) hk h1 h2
        rw [hx] at c0 c1' c2 c3 hgn hgs
        obtain ⟨p', kind', mode', t'⟩ := x
        simp only at c0 c1' c2 c3 hgn hgs
        replace hgn := Lib.hid hgn
        replace hgs := Lib.hid hgs
        replace hx := Lib.hid hx
        replace hba := Lib.hid hba
        by_cases hkd : kind = 1
        case neg =>
          have hkb : (kind != 1) = true := by simp [hkd]
          have hno := Lib.hid (hgo.out.trans (hgn.out (.inl hkd)))
          clear hkd
          go_wp2_with fail
          go_region
          all_goals go_wp2
          all_goals refine bodyPost_ret (v := .tuple #[.slice none 0 0, .bool false]) (by simp [results, Tryd.results5, go_sem]) rfl ?_
          all_goals rw [treeJoin_ok hok.out hokb.out, joinL_none hno.out]
          all_goals exact ⟨none, 0, rfl, .inl rfl, hCa.drew, .inl ⟨rfl, rfl, rfl⟩⟩
        subst hkd
        rcases boolOf (sameE ⟨p', kind', mode', t'⟩ ⟨p, 1, mode, t⟩) with hsa | hsa
        · have hnq := neqE_cells p' p kind' mode' 1 mode t' t hsa.out
          have hge := fun op x y => guardE_cells op x y p' p kind' mode' 1 mode t' t
          have hno := Lib.hid (hgo.out.trans (hgn.out (.inr hsa.out)))
          go_wp2_with fail
          go_region
          all_goals go_wp2
          all_goals refine bodyPost_ret (v := .tuple #[.slice none 0 0, .bool false]) (by simp [results, Tryd.results5, go_sem]) rfl ?_
          all_goals rw [treeJoin_ok hok.out hokb.out, joinL_none hno.out]
          all_goals exact ⟨none, 0, rfl, .inl rfl, hCa.drew, .inl ⟨rfl, rfl, rfl⟩⟩
        · have hnq := neqE_cells p' p kind' mode' 1 mode t' t hsa.out
          have hge := fun op x y => guardE_cells op x y p' p kind' mode' 1 mode t' t
          have hgo2 := Lib.hid (hgo.out.trans (hgs.out rfl hsa.out))
          go_wp2_with fail
          go_region
          all_goals go_wp2
          all_goals go_round
          all_goals first
            | exact ⟨k0 + 1, g1, c1, acc, by omega, by go_num, rfl, Lib.hid hra.out, hgo2, hacc, by omega, hCa.drew⟩
            | (simp [intOf]; omega)
    · obtain rfl : k0 = b.length := by omega
      have hgl := hrow.out.lt
      have hgo2 := hgo.out
      rw [List.drop_length, joinGo_nil] at hgo2
      replace hgo2 := Lib.hid hgo2
      have hcc := hrow.out.parts.2.2.1
      have hws := hBr.size
      go_wp2_with fail
      with_reducible refine (TreeOk_any acc g1 c1 _ hrow.out.parts.1.ents hacc.out.2 hcc).mono ?_
      rintro r w9 ⟨rfl, hB9⟩
      have hC9 := hBr.trans (hB9.mono hws)
      have hr9 := Lib.hid (hrow.out.below hB9 hgl)
      clear hrow
      rcases boolOf (treeOk acc) with hox | hox
      · rw [hox.out]
        go_wp2
        refine bodyPost_ret (v := .tuple #[.slice none 0 0, .bool false]) (by simp [results, Tryd.results5, go_sem]) rfl ?_
        rw [treeJoin_ok hok.out hokb.out, joinL_bad hgo2.out hox.out]
        exact ⟨none, 0, rfl, .inl rfl, hC9, .inl ⟨rfl, rfl, rfl⟩⟩
      · rw [hox.out]
        go_wp2
        refine bodyPost_ret (v := .tuple #[.slice (some ⟨g1, 0, none⟩) acc.length c1, .bool true]) (by simp [results, Tryd.results5, go_sem]) rfl ?_
        rw [treeJoin_ok hok.out hokb.out, joinL_ok hgo2.out hox.out]
        exact ⟨some ⟨g1, 0, none⟩, c1, rfl, hr9.out.own, hC9, InE.of hr9.out.parts.1.ents hr9.out.parts.2.2.1⟩
theorem TreeJoin_any (a b : List En) (g c : Nat) (B : Option Addr) (cb : Nat) (w : World) (hE : Ents w g a) (hsm : Small a) (hcap : a.length ≤ c) (hI : InE w B cb b) (hsmb : Small b) :
    Calls Tryd.prog 5 #[.slice (some ⟨g, 0, none⟩) a.length c, .slice B b.length cb] w (ResE (treeJoin a b) w) := (TreeJoin_both a b g c B cb w hE hsm hcap hI hsmb).mono fun _ _ h => h.res
end Go.Proofs.YtiknkjhdieepbaaDoor
