/-
  The walks of the reference's l2Join and TreeJoin.
-/
import Derived.Test.YtiknkjhdieepbaaDoorPutS
import Derived.Test.YtiknkjhdieepbaaDoorJoinI
namespace Go.Proofs.YtiknkjhdieepbaaDoor
open Go.RowKit
set_option linter.unusedVariables false
set_option linter.unusedSimpArgs false
attribute [local go_sem] mkB_size mkB_extract mkB_get mkB_append mkB_append_raw raw_append_mkB mkB_toList

theorem OwnE.lower {w : World} {lo lo' : Nat} {A : Option Addr} {es : List En} (h : OwnE w lo A es) (hl : lo' ≤ lo) : OwnE w lo' A es := by
  rcases h with h | ⟨g, m, h1, h2, h3⟩
  · exact .inl h
  · exact .inr ⟨g, m, h1, Nat.le_trans hl h2, h3⟩
noncomputable def joinP (a b : List En) : List En × Bool := match joinGo a b with
  | some x => (x, treeOk x)
  | none => ([], false)
theorem joinP_none {a b : List En} (h : joinGo a b = none) : joinP a b = ([], false) := by unfold joinP; rw [h]
theorem joinP_some {a b x : List En} (h : joinGo a b = some x) : joinP a b = (x, treeOk x) := by unfold joinP; rw [h]
theorem joinL_P {a b fs : List En} {r : Bool} (h : joinP a b = (fs, r)) : joinL a b = if r then (fs, true) else ([], false) := by
  unfold joinP at h
  unfold joinL
  split at h
  · rename_i x hx
    cases h
    rw [hx]
  · rename_i hx
    cases h
    rw [hx]; rfl
theorem joinGo_no' {acc r : List En} {e : En} {k : Nat} (h : there acc e.path = true) (ha : atGo acc e.path = k) (hk : k < acc.length) (h1 : acc[k].kind ≠ 1) : joinGo acc (e :: r) = none := by
  refine joinGo_no h ha hk ?_
  by_cases hs : sameE acc[k] e = true
  · left; rw [← sameE_iff.1 hs]; exact h1
  · right; simpa using hs
theorem joinGo_same' {acc r : List En} {e : En} {k : Nat} (h : there acc e.path = true) (ha : atGo acc e.path = k) (hk : k < acc.length) (h1 : acc[k].kind = 1) (h2 : sameE e acc[k] = true) : joinGo acc (e :: r) = joinGo acc r := by
  have h3 := sameE_iff.1 h2
  exact joinGo_same h ha hk (by rw [h3]; exact h1) (sameE_iff.2 h3.symm)
theorem sameE_no {a b : En} (h : sameE a b = false) : sameE b a = false := by
  cases hs : sameE b a with
  | false => rfl
  | true => rw [sameE_iff.2 (sameE_iff.1 hs).symm] at h; cases h

set_option maxRecDepth 1000000 in
set_option maxHeartbeats 32000000 in
theorem l2Join_any (a b : List En) (g c gb cb : Nat) (w : World) (hE : Ents w g a) (hsm : Small a) (hEb : Ents w gb b) (hsmb : Small b) (hab : a.length + b.length ≤ 1048576) :
    Calls Tryd.prog 20 #[.slice (some ⟨g, 0, none⟩) a.length c, .slice (some ⟨gb, 0, none⟩) b.length cb] w (ResE (joinP a b) w) := by
  have hEh := Lib.hid hE
  have hsh := Lib.hid hsm
  have hEbh := Lib.hid hEb
  have hsb := Lib.hid hsmb
  have hlen := hsm.1
  have hlenb := hsmb.1
  have hgb := hEb.1
  clear hE hsm hEb hsmb
  go_enter Tryd.func20, Tryd.ntmps20
  go_wp2_with fail
  with_reducible refine (l2Copy_own a g c _ hEh.out hlen).mono ?_
  rintro r w4 ⟨g4, c4, rfl, hR4, hC4⟩
  replace hR4 := Lib.hid hR4
  go_wp2
  go_loopw [6, 7] (fun jo ii wr => ∃ (k g1 c1 : Nat) (acc : List En), k ≤ b.length ∧ ii = .int .i64 k ∧ jo = .slice (some ⟨g1, 0, none⟩) acc.length c1 ∧ Hid (OwnR wr w.heap.size g1 c1 acc) ∧ Hid (joinGo a b = joinGo acc (b.drop k)) ∧ Hid (Small acc) ∧ acc.length ≤ a.length + k ∧ Below w.heap.size w wr) (fun _ ii _ => b.length - (intOf ii).toNat)
  case atStart => exact ⟨0, g4, c4, a, Nat.zero_le _, rfl, rfl, hR4, Lib.hid rfl, Lib.hid hsh.out, Nat.le_refl _, hC4⟩
  case round =>
    clear hR4
    obtain ⟨k0, g1, c1, acc, hk0, rfl, rfl, hrow, hgo, hacc, hla, hBr⟩ := hrel
    by_cases hlt : k0 < b.length
    · have hk0I : (k0 : Int) < (b.length : Int) := by omega
      obtain ⟨d0, d1, d2, d3⟩ := (hEbh.out.below hBr hgb).2 k0 hlt
      have hpl := hsb.out.2 k0 hlt
      obtain ⟨e, he⟩ : ∃ x, b[k0] = x := ⟨_, rfl⟩
      have hdr := drop_split hlt he
      rw [he] at d0 d1 d2 d3 hpl
      rw [hdr] at hgo
      clear hdr
      obtain ⟨p, kind, mode, t⟩ := e
      simp only at hpl
      replace he := Lib.hid he
      obtain ⟨k, hka⟩ : ∃ x, atGo acc p = x := ⟨_, rfl⟩
      have hkl : k ≤ acc.length := by rw [← hka]; exact atGo_le _ _
      have hgl := hrow.out.lt
      have hws := hBr.size
      have hcap := hrow.out.parts.2.2.1
      have hA1 := hrow.out.parts.1.ents
      go_wp2_with fail
      with_reducible refine (l2At_any acc p g1 c1 _ hA1 (by omega)).mono ?_
      rintro r w2 ⟨rfl, hB⟩
      rw [hka]
      clear d0 d1 d2 d3 hA1
      have hB2 := hBr.trans (hB.mono hws)
      have hrow2 := Lib.hid (hrow.out.below hB hgl)
      clear hrow hB hBr
      rcases boolOf (there acc p) with hth | hth
      · rw [hth.out]
        have hgo2 := hgo.out
        rw [joinGo_ins (by exact hth.out) (by exact hka)] at hgo2
        replace hgo2 := Lib.hid hgo2
        have hil := Lib.hid (insE_length (es := acc) ⟨p, kind, mode, t⟩ hkl)
        have hsi := Lib.hid (small_ins (e := ⟨p, kind, mode, t⟩) hacc.out (by omega) hkl hpl)
        clear hgo
        go_wp2_with fail
        go_region
        go_wp2_with fail
        obtain ⟨W0, hW0⟩ : ∃ X, w2.drew = X := ⟨_, rfl⟩
        have hC0 : Below w.heap.size w W0 := by rw [← hW0]; exact hB2.drew
        have hR0 : OwnR W0 w.heap.size g1 c1 acc := by rw [← hW0]; exact hrow2.out
        rw [hW0]
        clear hW0 hrow2 hB2
        have hEl := hEbh.out.below hC0 hgb
        obtain ⟨q0, q1, q2, q3⟩ := hEl.2 k0 hlt
        have hE0 : Ents W0 g1 acc := hR0.parts.1.ents
        rw [he.out] at q0 q1 q2 q3
        have hlb := hEl.1
        have hgl := hE0.1
        obtain ⟨AD, hAD⟩ : ∃ AD, (if c1 = k then some (⟨g1, 0, none⟩ : Addr) else some ⟨g1, k * 4, none⟩) = some AD := by
          by_cases h : c1 = k
          · exact ⟨_, by rw [if_pos h]⟩
          · exact ⟨_, by rw [if_neg h]⟩
        have hND := Lib.hid (news_drop hE0 rfl hkl hcap hAD)
        have hE := Lib.hid hE0
        have hC : Below W0.heap.size W0 W0 := Below.refl _ _
        have hz : W0.heap.size ≤ W0.heap.size := Nat.le_refl _
        have hC0s := hC0.size
        clear hEl hE0 hR0
        obtain ⟨i0, hi, hz0, hz1, hz2⟩ := info_parts infoE
        replace hi := Lib.hid hi
        replace hz0 := Lib.hid hz0
        replace hz1 := Lib.hid hz1
        replace hz2 := Lib.hid hz2
        have hkc : (k : Int) ≤ (c1 : Int) := by omega
        have hkn : (k : Int) ≤ (acc.length : Int) := by omega
        first | refine wp_region_noPanic ?_ | skip
        refine wp_region_held_drew (S := (fun W' => W'.cell? ⟨gb, k0 * 4, none⟩ = some (.string (mkB p)) ∧ W'.cell? ⟨gb, k0 * 4 + 1, none⟩ = some (.int .i64 kind) ∧ W'.cell? ⟨gb, k0 * 4 + 2, none⟩ = some (.int .i64 mode) ∧ W'.cell? ⟨gb, k0 * 4 + 3, none⟩ = some (.string (mkB t)))) (by kernel_rfl) ?_ (fun hHeld => ?_)
        · exact ⟨q0, q1, q2, q3⟩
        refine wpAnyH_take (i := 1) (v := ?_) rfl (by kernel_rfl) (by kernel_rfl) (by kernel_rfl) (fun _ _ _ h => h) (Or.inl ⟨by rfl, ?_⟩) (by assumption) ?_
        rotate_left
        · (intro w hSw; (try dsimp only at hSw); go_simp; try with_reducible rfl)
        try simp only [Array.reduceGetElem, Act.put, List.setIfInBounds_toArray, List.set_cons_zero, List.set_cons_succ]
        refine wpAnyH_take (i := 2) (v := ?_) rfl (by kernel_rfl) (by kernel_rfl) (by kernel_rfl) (fun _ _ _ h => h) (Or.inl ⟨by rfl, ?_⟩) (by assumption) ?_
        rotate_left
        · (intro w hSw; (try dsimp only at hSw); go_simp; try with_reducible rfl)
        try simp only [Array.reduceGetElem, Act.put, List.setIfInBounds_toArray, List.set_cons_zero, List.set_cons_succ]
        refine wpAnyH_take (i := 3) (v := ?_) rfl (by kernel_rfl) (by kernel_rfl) (by kernel_rfl) (fun _ _ _ h => h) (Or.inl ⟨by rfl, ?_⟩) (by assumption) ?_
        rotate_left
        · (intro w hSw; (try dsimp only at hSw); go_simp; try with_reducible rfl)
        try simp only [Array.reduceGetElem, Act.put, List.setIfInBounds_toArray, List.set_cons_zero, List.set_cons_succ]
        refine wpAnyH_take (i := 5) (v := ?_) rfl (by kernel_rfl) (by kernel_rfl) (by kernel_rfl) (fun _ _ _ h => h) (Or.inl ⟨by rfl, ?_⟩) (by assumption) ?_
        rotate_left
        · (intro w hSw; (try dsimp only at hSw); go_simp; try with_reducible rfl)
        try simp only [Array.reduceGetElem, Act.put, List.setIfInBounds_toArray, List.set_cons_zero, List.set_cons_succ]
        refine wpAnyH_take (i := 6) (v := ?_) rfl (by kernel_rfl) (by kernel_rfl) (by kernel_rfl) (fun _ _ _ h => h) (Or.inl ⟨by rfl, ?_⟩) (by assumption) ?_
        rotate_left
        · (intro w hSw; (try dsimp only at hSw); go_simp; try with_reducible rfl)
        try simp only [Array.reduceGetElem, Act.put, List.setIfInBounds_toArray, List.set_cons_zero, List.set_cons_succ]
        refine wpAnyH_take (i := 7) (v := ?_) rfl (by kernel_rfl) (by kernel_rfl) (by kernel_rfl) (fun _ _ _ h => h) (Or.inl ⟨by rfl, ?_⟩) (by assumption) ?_
        rotate_left
        · (intro w hSw; (try dsimp only at hSw); go_simp; try with_reducible rfl)
        try simp only [Array.reduceGetElem, Act.put, List.setIfInBounds_toArray, List.set_cons_zero, List.set_cons_succ]
        refine wpAnyH_take (i := 8) (v := ?_) rfl (by kernel_rfl) (by kernel_rfl) (by kernel_rfl) (fun _ _ _ h => h) (Or.inl ⟨by rfl, ?_⟩) (by assumption) ?_
        rotate_left
        · (intro w hSw; (try dsimp only at hSw); go_simp; try with_reducible rfl)
        try simp only [Array.reduceGetElem, Act.put, List.setIfInBounds_toArray, List.set_cons_zero, List.set_cons_succ]
        refine wpAnyH_take (i := 11) (v := ?_) rfl (by kernel_rfl) (by kernel_rfl) (by kernel_rfl) (fun _ _ _ h => h) (Or.inl ⟨by rfl, ?_⟩) (by assumption) ?_
        rotate_left
        · (intro w hSw; (try dsimp only at hSw); go_simp; try with_reducible rfl)
        try simp only [Array.reduceGetElem, Act.put, List.setIfInBounds_toArray, List.set_cons_zero, List.set_cons_succ]
        refine wpAnyH_take (i := 12) (v := ?_) rfl (by kernel_rfl) (by kernel_rfl) (by kernel_rfl) (fun _ _ _ h => h) (Or.inl ⟨by rfl, ?_⟩) (by assumption) ?_
        rotate_left
        · (intro w hSw; (try dsimp only at hSw); go_simp; try with_reducible rfl)
        try simp only [Array.reduceGetElem, Act.put, List.setIfInBounds_toArray, List.set_cons_zero, List.set_cons_succ]
        refine wpAnyH_take (i := 13) (v := ?_) rfl (by kernel_rfl) (by kernel_rfl) (by kernel_rfl) (fun _ _ _ h => h) (Or.inl ⟨by rfl, ?_⟩) (by assumption) ?_
        rotate_left
        · (intro w hSw; (try dsimp only at hSw); go_simp; try with_reducible rfl)
        try simp only [Array.reduceGetElem, Act.put, List.setIfInBounds_toArray, List.set_cons_zero, List.set_cons_succ]
        refine wpAnyH_ready (rs := [0, 9]) (by kernel_rfl) (by simp) ?_
        refine AllReadyH.cons rfl (fun K hK => ?_) (AllReadyH.cons rfl (fun K hK => ?_) (AllReadyH.nil))
        · go_simp
          obtain ⟨X1, hX1⟩ : ∃ X, W0.alloc (.cells #[] 30) = X := ⟨_, rfl⟩
          obtain ⟨h0, hh0⟩ : ∃ x, x = W0.heap.size := ⟨_, rfl⟩
          have own0 : X1.ownsRow W0.heap.size 30 4 (.slice (some ⟨h0, 0, none⟩) 0 0) 0 [] := by rw [hh0, ← hX1]; exact World.ownsRow_made (base := W0.heap.size) (e := 30) (size := 4) W0 #[] 0 hz (by simp [maxLen]) rfl
          replace own0 := Lib.hid own0
          have hl0 : W0.heap.size ≤ h0 := by omega
          have hlt0 : h0 < X1.heap.size := by rw [← hX1, hh0]; simp
          have hC : Below W0.heap.size W0 X1 := by rw [← hX1]; exact hC.alloc hz _
          have hz : W0.heap.size ≤ X1.heap.size := hC.size
          rw [hX1]
          try rw [← hh0]
          clear hX1 hh0
          refine hK.out _ _ ?_ (fun hHeld => ?_)
          · (try dsimp only); exact ⟨(cell_same (hC.block _ hlb) _).trans q0, (cell_same (hC.block _ hlb) _).trans q1, (cell_same (hC.block _ hlb) _).trans q2, (cell_same (hC.block _ hlb) _).trans q3⟩
          clear hK K
          try simp only [Array.reduceGetElem, Act.put, List.setIfInBounds_toArray, List.set_cons_zero, List.set_cons_succ]
          refine wpAnyH_ready (rs := [4, 9]) (by kernel_rfl) (by simp) ?_
          refine AllReadyH.cons rfl (fun K hK => ?_) (AllReadyH.cons rfl (fun K hK => ?_) (AllReadyH.nil))
          · obtain ⟨va, X2, hrun, hown', hgr, hnil, hat⟩ := run_append_own_at (P := Tryd.prog) X1.drew W0.heap.size 23 23 30 i0 _ 4 48 Tryd.underlying23 hi.out hz0.out hz1.out hz2.out rfl (by decide) (.slice (some ⟨h0, 0, none⟩) 0 0) 0 [] own0.out ⟨g1, 0, none⟩ k c1 (flatE (acc.take k)) (by rw [flatE_length, List.length_take, Nat.min_eq_left (by omega)]) (((hE.out.below hC hgl).take k).flat) (flatE_one _) (by unfold maxLen; omega) (by omega) hz
            simp only [Nat.zero_add, List.nil_append] at hown'
            obtain ⟨ga1, ca1, rfl, hloga1, hccga1, hmmga1⟩ := own_form hown' (fun e => by have := (hnil.1 e).1; cases this)
            replace hat := Lib.hid hat
            replace hgr := Lib.hid hgr
            replace hown' := Lib.hid hown'
            clear hnil
            refine step_append_runE rfl _ _ 23 23 rfl (.slice (some ⟨h0, 0, none⟩) 0 0) (.slice (some ⟨g1, 0, none⟩) k c1) (by simp [Act.eval, Act.put]) (by simp [Act.eval, Act.put]) hrun ?_
            clear hrun
            have hC' := hC
            have hC : Below W0.heap.size W0 X2 := Below.trans hC'.drew ((Below.refl W0.heap.size X1.drew).grown hgr.out hz (fun q hq => (own0.out.lt q hq).1))
            clear hC'
            have own1 := hown'
            have hlt1 : ga1 < X2.heap.size := own_lt own1.out
            have hz : W0.heap.size ≤ X2.heap.size := hC.size
            clear hown' hgr hat own0
            refine hK.out _ _ ?_ (fun hHeld => ?_)
            · (try dsimp only); exact ⟨(cell_same (hC.block _ hlb) _).trans q0, (cell_same (hC.block _ hlb) _).trans q1, (cell_same (hC.block _ hlb) _).trans q2, (cell_same (hC.block _ hlb) _).trans q3⟩
            clear hK K
            try simp only [Array.reduceGetElem, Act.put, List.setIfInBounds_toArray, List.set_cons_zero, List.set_cons_succ]
            refine wpAnyH_ready (rs := [9]) (by kernel_rfl) (by simp) ?_
            refine AllReadyH.cons rfl (fun K hK => ?_) (AllReadyH.nil)
            · go_simp
              obtain ⟨X3, hX3⟩ : ∃ X, X2.alloc (.cells #[.string (mkB p), .int .i64 kind, .int .i64 mode, .string (mkB t)] 30) = X := ⟨_, rfl⟩
              obtain ⟨vb, hhb⟩ : ∃ x, x = X2.heap.size := ⟨_, rfl⟩
              have hvb : Box4 X3 vb 30 (.string (mkB p)) (.int .i64 kind) (.int .i64 mode) (.string (mkB t)) := by rw [hhb, ← hX3]; exact Box4.new _ _ _ _ _ _
              have hvb0 : vb < X3.heap.size := hvb.lt
              have own1 := Lib.hid (own1.out.alloc (.cells #[.string (mkB p), .int .i64 kind, .int .i64 mode, .string (mkB t)] 30))
              rw [hX3] at own1
              have hne1 : vb ≠ ga1 := by omega
              have hC : Below W0.heap.size W0 X3 := by rw [← hX3]; exact hC.alloc hz _
              have hz : W0.heap.size ≤ X3.heap.size := hC.size
              rw [hX3]
              try rw [← hhb]
              clear hX3 hhb
              refine hK.out _ _ ?_ (fun hHeld => ?_)
              · (try dsimp only); exact ⟨(cell_same (hC.block _ hlb) _).trans q0, (cell_same (hC.block _ hlb) _).trans q1, (cell_same (hC.block _ hlb) _).trans q2, (cell_same (hC.block _ hlb) _).trans q3⟩
              clear hK K
              try simp only [Array.reduceGetElem, Act.put, List.setIfInBounds_toArray, List.set_cons_zero, List.set_cons_succ]
              refine wpAnyH_ready (rs := [10]) (by kernel_rfl) (by simp) ?_
              refine AllReadyH.cons rfl (fun K hK => ?_) (AllReadyH.nil)
              · obtain ⟨va, X4, hrun, hown', hgr, hnil, hat⟩ := run_append_own_at (P := Tryd.prog) X3 W0.heap.size 23 23 30 i0 _ 4 48 Tryd.underlying23 hi.out hz0.out hz1.out hz2.out rfl (by decide) (.slice (some ⟨ga1, 0, none⟩) k ca1) k (flatE (acc.take k)) own1.out ⟨vb, 0, none⟩ 1 1 (cellsE ⟨p, kind, mode, t⟩) rfl (box_news ⟨p, kind, mode, t⟩ hvb) (cellsE_one' _) (by unfold maxLen; omega) (by omega) hz
                skip
                obtain ⟨ga2, ca2, rfl, hloga2, hccga2, hmmga2⟩ := own_form hown' (fun e => by have := (hnil.1 e).1; cases this)
                replace hat := Lib.hid hat
                replace hgr := Lib.hid hgr
                replace hown' := Lib.hid hown'
                clear hnil
                refine step_append_runE rfl _ _ 23 23 rfl (.slice (some ⟨ga1, 0, none⟩) k ca1) (.slice (some ⟨vb, 0, none⟩) 1 1) (by simp [Act.eval, Act.put]) (by simp [Act.eval, Act.put]) hrun ?_
                clear hrun
                have hC' := hC
                have hC : Below W0.heap.size W0 X4 := Below.trans hC' ((Below.refl W0.heap.size X3).grown hgr.out hz (fun q hq => (own1.out.lt q hq).1))
                clear hC'
                have own2 := hown'
                have hlt2 : ga2 < X4.heap.size := own_lt own2.out
                have hz : W0.heap.size ≤ X4.heap.size := hC.size
                clear hown' hgr hat own1
                refine hK.out _ _ ?_ (fun hHeld => ?_)
                · (try dsimp only); exact ⟨(cell_same (hC.block _ hlb) _).trans q0, (cell_same (hC.block _ hlb) _).trans q1, (cell_same (hC.block _ hlb) _).trans q2, (cell_same (hC.block _ hlb) _).trans q3⟩
                clear hK K
                try simp only [Array.reduceGetElem, Act.put, List.setIfInBounds_toArray, List.set_cons_zero, List.set_cons_succ]
                refine wpAnyH_ready (rs := [14]) (by kernel_rfl) (by simp) ?_
                refine AllReadyH.cons rfl (fun K hK => ?_) (AllReadyH.nil)
                · obtain ⟨va, X5, hrun, hown', hgr, hnil, hat⟩ := run_append_own_at (P := Tryd.prog) X4 W0.heap.size 23 23 30 i0 _ 4 48 Tryd.underlying23 hi.out hz0.out hz1.out hz2.out rfl (by decide) (.slice (some ⟨ga2, 0, none⟩) (k + 1) ca2) (k + 1) (flatE (acc.take k) ++ cellsE ⟨p, kind, mode, t⟩) own2.out AD (acc.length - k) (c1 - k) (flatE (acc.drop k)) (by rw [flatE_length, List.length_drop]) (hND.out _ hC) (flatE_one _) (by unfold maxLen; omega) (by omega) hz
                  rw [show k + 1 + (acc.length - k) = acc.length + 1 by omega] at hown'
                  obtain ⟨ga3, ca3, rfl, hloga3, hccga3, hmmga3⟩ := own_form hown' (fun e => by have := (hnil.1 e).1; cases this)
                  replace hat := Lib.hid hat
                  replace hgr := Lib.hid hgr
                  replace hown' := Lib.hid hown'
                  clear hnil
                  refine step_append_runE rfl _ _ 23 23 rfl (.slice (some ⟨ga2, 0, none⟩) (k + 1) ca2) (.slice (some AD) (acc.length - k) (c1 - k)) (by simp [Act.eval, Act.put]) (by simp [Act.eval, Act.put]) hrun ?_
                  clear hrun
                  have hC' := hC
                  have hC : Below W0.heap.size W0 X5 := Below.trans hC' ((Below.refl W0.heap.size X4).grown hgr.out hz (fun q hq => (own2.out.lt q hq).1))
                  clear hC'
                  have own3 := hown'
                  have hlt3 : ga3 < X5.heap.size := own_lt own3.out
                  have hz : W0.heap.size ≤ X5.heap.size := hC.size
                  clear hown' hgr hat own2
                  refine hK.out _ _ ?_ (fun hHeld => ?_)
                  · (try dsimp only); exact ⟨(cell_same (hC.block _ hlb) _).trans q0, (cell_same (hC.block _ hlb) _).trans q1, (cell_same (hC.block _ hlb) _).trans q2, (cell_same (hC.block _ hlb) _).trans q3⟩
                  clear hK K
                  try simp only [Array.reduceGetElem, Act.put, List.setIfInBounds_toArray, List.set_cons_zero, List.set_cons_succ]
                  refine wpAnyH_take (i := 15) (v := ?_) rfl (by kernel_rfl) (by kernel_rfl) (by kernel_rfl) (fun _ _ _ h => h) (Or.inl ⟨by rfl, ?_⟩) (by assumption) ?_
                  rotate_left
                  · (intro w hSw; (try dsimp only at hSw); go_simp; try with_reducible rfl)
                  try simp only [Array.reduceGetElem, Act.put, List.setIfInBounds_toArray, List.set_cons_zero, List.set_cons_succ]
                  refine wpAnyH_done (by kernel_rfl) ?_ _
                  try refine NoPanic.normal ?_
                  (try dsimp only)
                  clear hHeld
                  go_wp2
                  go_round
                  case rel => exact ⟨k0 + 1, ga3, ca3, insE acc k ⟨p, kind, mode, t⟩, by omega, by go_num, by rw [hil.out], Lib.hid ((own_ins rfl hkl rfl own3.out).lower hC0s), hgo2, hsi, by rw [hil.out]; omega, hC0.trans (hC.mono hC0s)⟩
                  case measure => simp [intOf]; omega
          · go_simp
            obtain ⟨X6, hX6⟩ : ∃ X, X1.alloc (.cells #[.string (mkB p), .int .i64 kind, .int .i64 mode, .string (mkB t)] 30) = X := ⟨_, rfl⟩
            obtain ⟨vb, hhb⟩ : ∃ x, x = X1.heap.size := ⟨_, rfl⟩
            have hvb : Box4 X6 vb 30 (.string (mkB p)) (.int .i64 kind) (.int .i64 mode) (.string (mkB t)) := by rw [hhb, ← hX6]; exact Box4.new _ _ _ _ _ _
            have hvb0 : vb < X6.heap.size := hvb.lt
            have own0 := Lib.hid (own0.out.alloc (.cells #[.string (mkB p), .int .i64 kind, .int .i64 mode, .string (mkB t)] 30))
            rw [hX6] at own0
            have hne0 : vb ≠ h0 := by omega
            have hC : Below W0.heap.size W0 X6 := by rw [← hX6]; exact hC.alloc hz _
            have hz : W0.heap.size ≤ X6.heap.size := hC.size
            rw [hX6]
            try rw [← hhb]
            clear hX6 hhb
            refine hK.out _ _ ?_ (fun hHeld => ?_)
            · (try dsimp only); exact ⟨(cell_same (hC.block _ hlb) _).trans q0, (cell_same (hC.block _ hlb) _).trans q1, (cell_same (hC.block _ hlb) _).trans q2, (cell_same (hC.block _ hlb) _).trans q3⟩
            clear hK K
            try simp only [Array.reduceGetElem, Act.put, List.setIfInBounds_toArray, List.set_cons_zero, List.set_cons_succ]
            refine wpAnyH_ready (rs := [4]) (by kernel_rfl) (by simp) ?_
            refine AllReadyH.cons rfl (fun K hK => ?_) (AllReadyH.nil)
            · obtain ⟨va, X7, hrun, hown', hgr, hnil, hat⟩ := run_append_own_at (P := Tryd.prog) X6.drew W0.heap.size 23 23 30 i0 _ 4 48 Tryd.underlying23 hi.out hz0.out hz1.out hz2.out rfl (by decide) (.slice (some ⟨h0, 0, none⟩) 0 0) 0 [] own0.out ⟨g1, 0, none⟩ k c1 (flatE (acc.take k)) (by rw [flatE_length, List.length_take, Nat.min_eq_left (by omega)]) (((hE.out.below hC hgl).take k).flat) (flatE_one _) (by unfold maxLen; omega) (by omega) hz
              simp only [Nat.zero_add, List.nil_append] at hown'
              obtain ⟨ga1, ca1, rfl, hloga1, hccga1, hmmga1⟩ := own_form hown' (fun e => by have := (hnil.1 e).1; cases this)
              replace hat := Lib.hid hat
              replace hgr := Lib.hid hgr
              replace hown' := Lib.hid hown'
              clear hnil
              refine step_append_runE rfl _ _ 23 23 rfl (.slice (some ⟨h0, 0, none⟩) 0 0) (.slice (some ⟨g1, 0, none⟩) k c1) (by simp [Act.eval, Act.put]) (by simp [Act.eval, Act.put]) hrun ?_
              clear hrun
              have hC' := hC
              have hC : Below W0.heap.size W0 X7 := Below.trans hC'.drew ((Below.refl W0.heap.size X6.drew).grown hgr.out hz (fun q hq => (own0.out.lt q hq).1))
              clear hC'
              have hvb := Box4.kept (W := X6.drew) (W' := X7) hvb hgr.out (by intro e; simp [Value.ownBlock] at e; omega)
              have hne1 : vb ≠ ga1 := by rcases hat.out with h | h <;> (simp [Value.ownBlock] at h; omega)
              have hvb0 : vb < X7.heap.size := hvb.lt
              have own1 := hown'
              have hlt1 : ga1 < X7.heap.size := own_lt own1.out
              have hz : W0.heap.size ≤ X7.heap.size := hC.size
              clear hown' hgr hat own0
              refine hK.out _ _ ?_ (fun hHeld => ?_)
              · (try dsimp only); exact ⟨(cell_same (hC.block _ hlb) _).trans q0, (cell_same (hC.block _ hlb) _).trans q1, (cell_same (hC.block _ hlb) _).trans q2, (cell_same (hC.block _ hlb) _).trans q3⟩
              clear hK K
              try simp only [Array.reduceGetElem, Act.put, List.setIfInBounds_toArray, List.set_cons_zero, List.set_cons_succ]
              refine wpAnyH_ready (rs := [10]) (by kernel_rfl) (by simp) ?_
              refine AllReadyH.cons rfl (fun K hK => ?_) (AllReadyH.nil)
              · obtain ⟨va, X8, hrun, hown', hgr, hnil, hat⟩ := run_append_own_at (P := Tryd.prog) X7 W0.heap.size 23 23 30 i0 _ 4 48 Tryd.underlying23 hi.out hz0.out hz1.out hz2.out rfl (by decide) (.slice (some ⟨ga1, 0, none⟩) k ca1) k (flatE (acc.take k)) own1.out ⟨vb, 0, none⟩ 1 1 (cellsE ⟨p, kind, mode, t⟩) rfl (box_news ⟨p, kind, mode, t⟩ hvb) (cellsE_one' _) (by unfold maxLen; omega) (by omega) hz
                skip
                obtain ⟨ga2, ca2, rfl, hloga2, hccga2, hmmga2⟩ := own_form hown' (fun e => by have := (hnil.1 e).1; cases this)
                replace hat := Lib.hid hat
                replace hgr := Lib.hid hgr
                replace hown' := Lib.hid hown'
                clear hnil
                refine step_append_runE rfl _ _ 23 23 rfl (.slice (some ⟨ga1, 0, none⟩) k ca1) (.slice (some ⟨vb, 0, none⟩) 1 1) (by simp [Act.eval, Act.put]) (by simp [Act.eval, Act.put]) hrun ?_
                clear hrun
                have hC' := hC
                have hC : Below W0.heap.size W0 X8 := Below.trans hC' ((Below.refl W0.heap.size X7).grown hgr.out hz (fun q hq => (own1.out.lt q hq).1))
                clear hC'
                have own2 := hown'
                have hlt2 : ga2 < X8.heap.size := own_lt own2.out
                have hz : W0.heap.size ≤ X8.heap.size := hC.size
                clear hown' hgr hat own1
                refine hK.out _ _ ?_ (fun hHeld => ?_)
                · (try dsimp only); exact ⟨(cell_same (hC.block _ hlb) _).trans q0, (cell_same (hC.block _ hlb) _).trans q1, (cell_same (hC.block _ hlb) _).trans q2, (cell_same (hC.block _ hlb) _).trans q3⟩
                clear hK K
                try simp only [Array.reduceGetElem, Act.put, List.setIfInBounds_toArray, List.set_cons_zero, List.set_cons_succ]
                refine wpAnyH_ready (rs := [14]) (by kernel_rfl) (by simp) ?_
                refine AllReadyH.cons rfl (fun K hK => ?_) (AllReadyH.nil)
                · obtain ⟨va, X9, hrun, hown', hgr, hnil, hat⟩ := run_append_own_at (P := Tryd.prog) X8 W0.heap.size 23 23 30 i0 _ 4 48 Tryd.underlying23 hi.out hz0.out hz1.out hz2.out rfl (by decide) (.slice (some ⟨ga2, 0, none⟩) (k + 1) ca2) (k + 1) (flatE (acc.take k) ++ cellsE ⟨p, kind, mode, t⟩) own2.out AD (acc.length - k) (c1 - k) (flatE (acc.drop k)) (by rw [flatE_length, List.length_drop]) (hND.out _ hC) (flatE_one _) (by unfold maxLen; omega) (by omega) hz
                  rw [show k + 1 + (acc.length - k) = acc.length + 1 by omega] at hown'
                  obtain ⟨ga3, ca3, rfl, hloga3, hccga3, hmmga3⟩ := own_form hown' (fun e => by have := (hnil.1 e).1; cases this)
                  replace hat := Lib.hid hat
                  replace hgr := Lib.hid hgr
                  replace hown' := Lib.hid hown'
                  clear hnil
                  refine step_append_runE rfl _ _ 23 23 rfl (.slice (some ⟨ga2, 0, none⟩) (k + 1) ca2) (.slice (some AD) (acc.length - k) (c1 - k)) (by simp [Act.eval, Act.put]) (by simp [Act.eval, Act.put]) hrun ?_
                  clear hrun
                  have hC' := hC
                  have hC : Below W0.heap.size W0 X9 := Below.trans hC' ((Below.refl W0.heap.size X8).grown hgr.out hz (fun q hq => (own2.out.lt q hq).1))
                  clear hC'
                  have own3 := hown'
                  have hlt3 : ga3 < X9.heap.size := own_lt own3.out
                  have hz : W0.heap.size ≤ X9.heap.size := hC.size
                  clear hown' hgr hat own2
                  refine hK.out _ _ ?_ (fun hHeld => ?_)
                  · (try dsimp only); exact ⟨(cell_same (hC.block _ hlb) _).trans q0, (cell_same (hC.block _ hlb) _).trans q1, (cell_same (hC.block _ hlb) _).trans q2, (cell_same (hC.block _ hlb) _).trans q3⟩
                  clear hK K
                  try simp only [Array.reduceGetElem, Act.put, List.setIfInBounds_toArray, List.set_cons_zero, List.set_cons_succ]
                  refine wpAnyH_take (i := 15) (v := ?_) rfl (by kernel_rfl) (by kernel_rfl) (by kernel_rfl) (fun _ _ _ h => h) (Or.inl ⟨by rfl, ?_⟩) (by assumption) ?_
                  rotate_left
                  · (intro w hSw; (try dsimp only at hSw); go_simp; try with_reducible rfl)
                  try simp only [Array.reduceGetElem, Act.put, List.setIfInBounds_toArray, List.set_cons_zero, List.set_cons_succ]
                  refine wpAnyH_done (by kernel_rfl) ?_ _
                  try refine NoPanic.normal ?_
                  (try dsimp only)
                  clear hHeld
                  go_wp2
                  go_round
                  case rel => exact ⟨k0 + 1, ga3, ca3, insE acc k ⟨p, kind, mode, t⟩, by omega, by go_num, by rw [hil.out], Lib.hid ((own_ins rfl hkl rfl own3.out).lower hC0s), hgo2, hsi, by rw [hil.out]; omega, hC0.trans (hC.mono hC0s)⟩
                  case measure => simp [intOf]; omega
        · go_simp
          obtain ⟨X10, hX10⟩ : ∃ X, W0.alloc (.cells #[.string (mkB p), .int .i64 kind, .int .i64 mode, .string (mkB t)] 30) = X := ⟨_, rfl⟩
          obtain ⟨vb, hhb⟩ : ∃ x, x = W0.heap.size := ⟨_, rfl⟩
          have hvb : Box4 X10 vb 30 (.string (mkB p)) (.int .i64 kind) (.int .i64 mode) (.string (mkB t)) := by rw [hhb, ← hX10]; exact Box4.new _ _ _ _ _ _
          have hvb0 : vb < X10.heap.size := hvb.lt
          have hC : Below W0.heap.size W0 X10 := by rw [← hX10]; exact hC.alloc hz _
          have hz : W0.heap.size ≤ X10.heap.size := hC.size
          rw [hX10]
          try rw [← hhb]
          clear hX10 hhb
          refine hK.out _ _ ?_ (fun hHeld => ?_)
          · (try dsimp only); exact ⟨(cell_same (hC.block _ hlb) _).trans q0, (cell_same (hC.block _ hlb) _).trans q1, (cell_same (hC.block _ hlb) _).trans q2, (cell_same (hC.block _ hlb) _).trans q3⟩
          clear hK K
          try simp only [Array.reduceGetElem, Act.put, List.setIfInBounds_toArray, List.set_cons_zero, List.set_cons_succ]
          refine wpAnyH_ready (rs := [0]) (by kernel_rfl) (by simp) ?_
          refine AllReadyH.cons rfl (fun K hK => ?_) (AllReadyH.nil)
          · go_simp
            obtain ⟨X11, hX11⟩ : ∃ X, X10.alloc (.cells #[] 30) = X := ⟨_, rfl⟩
            obtain ⟨h0, hh0⟩ : ∃ x, x = X10.heap.size := ⟨_, rfl⟩
            have own0 : X11.ownsRow W0.heap.size 30 4 (.slice (some ⟨h0, 0, none⟩) 0 0) 0 [] := by rw [hh0, ← hX11]; exact World.ownsRow_made (base := W0.heap.size) (e := 30) (size := 4) X10 #[] 0 hz (by simp [maxLen]) rfl
            replace own0 := Lib.hid own0
            have hl0 : W0.heap.size ≤ h0 := by omega
            have hlt0 : h0 < X11.heap.size := by rw [← hX11, hh0]; simp
            have hvb : Box4 X11 vb 30 (.string (mkB p)) (.int .i64 kind) (.int .i64 mode) (.string (mkB t)) := by rw [← hX11]; exact hvb.kept (World.grownBy_alloc X10 _ none) (by simp)
            have hne0 : vb ≠ h0 := by omega
            have hvb0 : vb < X11.heap.size := hvb.lt
            have hC : Below W0.heap.size W0 X11 := by rw [← hX11]; exact hC.alloc hz _
            have hz : W0.heap.size ≤ X11.heap.size := hC.size
            rw [hX11]
            try rw [← hh0]
            clear hX11 hh0
            refine hK.out _ _ ?_ (fun hHeld => ?_)
            · (try dsimp only); exact ⟨(cell_same (hC.block _ hlb) _).trans q0, (cell_same (hC.block _ hlb) _).trans q1, (cell_same (hC.block _ hlb) _).trans q2, (cell_same (hC.block _ hlb) _).trans q3⟩
            clear hK K
            try simp only [Array.reduceGetElem, Act.put, List.setIfInBounds_toArray, List.set_cons_zero, List.set_cons_succ]
            refine wpAnyH_ready (rs := [4]) (by kernel_rfl) (by simp) ?_
            refine AllReadyH.cons rfl (fun K hK => ?_) (AllReadyH.nil)
            · obtain ⟨va, X12, hrun, hown', hgr, hnil, hat⟩ := run_append_own_at (P := Tryd.prog) X11.drew W0.heap.size 23 23 30 i0 _ 4 48 Tryd.underlying23 hi.out hz0.out hz1.out hz2.out rfl (by decide) (.slice (some ⟨h0, 0, none⟩) 0 0) 0 [] own0.out ⟨g1, 0, none⟩ k c1 (flatE (acc.take k)) (by rw [flatE_length, List.length_take, Nat.min_eq_left (by omega)]) (((hE.out.below hC hgl).take k).flat) (flatE_one _) (by unfold maxLen; omega) (by omega) hz
              simp only [Nat.zero_add, List.nil_append] at hown'
              obtain ⟨ga1, ca1, rfl, hloga1, hccga1, hmmga1⟩ := own_form hown' (fun e => by have := (hnil.1 e).1; cases this)
              replace hat := Lib.hid hat
              replace hgr := Lib.hid hgr
              replace hown' := Lib.hid hown'
              clear hnil
              refine step_append_runE rfl _ _ 23 23 rfl (.slice (some ⟨h0, 0, none⟩) 0 0) (.slice (some ⟨g1, 0, none⟩) k c1) (by simp [Act.eval, Act.put]) (by simp [Act.eval, Act.put]) hrun ?_
              clear hrun
              have hC' := hC
              have hC : Below W0.heap.size W0 X12 := Below.trans hC'.drew ((Below.refl W0.heap.size X11.drew).grown hgr.out hz (fun q hq => (own0.out.lt q hq).1))
              clear hC'
              have hvb := Box4.kept (W := X11.drew) (W' := X12) hvb hgr.out (by intro e; simp [Value.ownBlock] at e; omega)
              have hne1 : vb ≠ ga1 := by rcases hat.out with h | h <;> (simp [Value.ownBlock] at h; omega)
              have hvb0 : vb < X12.heap.size := hvb.lt
              have own1 := hown'
              have hlt1 : ga1 < X12.heap.size := own_lt own1.out
              have hz : W0.heap.size ≤ X12.heap.size := hC.size
              clear hown' hgr hat own0
              refine hK.out _ _ ?_ (fun hHeld => ?_)
              · (try dsimp only); exact ⟨(cell_same (hC.block _ hlb) _).trans q0, (cell_same (hC.block _ hlb) _).trans q1, (cell_same (hC.block _ hlb) _).trans q2, (cell_same (hC.block _ hlb) _).trans q3⟩
              clear hK K
              try simp only [Array.reduceGetElem, Act.put, List.setIfInBounds_toArray, List.set_cons_zero, List.set_cons_succ]
              refine wpAnyH_ready (rs := [10]) (by kernel_rfl) (by simp) ?_
              refine AllReadyH.cons rfl (fun K hK => ?_) (AllReadyH.nil)
              · obtain ⟨va, X13, hrun, hown', hgr, hnil, hat⟩ := run_append_own_at (P := Tryd.prog) X12 W0.heap.size 23 23 30 i0 _ 4 48 Tryd.underlying23 hi.out hz0.out hz1.out hz2.out rfl (by decide) (.slice (some ⟨ga1, 0, none⟩) k ca1) k (flatE (acc.take k)) own1.out ⟨vb, 0, none⟩ 1 1 (cellsE ⟨p, kind, mode, t⟩) rfl (box_news ⟨p, kind, mode, t⟩ hvb) (cellsE_one' _) (by unfold maxLen; omega) (by omega) hz
                skip
                obtain ⟨ga2, ca2, rfl, hloga2, hccga2, hmmga2⟩ := own_form hown' (fun e => by have := (hnil.1 e).1; cases this)
                replace hat := Lib.hid hat
                replace hgr := Lib.hid hgr
                replace hown' := Lib.hid hown'
                clear hnil
                refine step_append_runE rfl _ _ 23 23 rfl (.slice (some ⟨ga1, 0, none⟩) k ca1) (.slice (some ⟨vb, 0, none⟩) 1 1) (by simp [Act.eval, Act.put]) (by simp [Act.eval, Act.put]) hrun ?_
                clear hrun
                have hC' := hC
                have hC : Below W0.heap.size W0 X13 := Below.trans hC' ((Below.refl W0.heap.size X12).grown hgr.out hz (fun q hq => (own1.out.lt q hq).1))
                clear hC'
                have own2 := hown'
                have hlt2 : ga2 < X13.heap.size := own_lt own2.out
                have hz : W0.heap.size ≤ X13.heap.size := hC.size
                clear hown' hgr hat own1
                refine hK.out _ _ ?_ (fun hHeld => ?_)
                · (try dsimp only); exact ⟨(cell_same (hC.block _ hlb) _).trans q0, (cell_same (hC.block _ hlb) _).trans q1, (cell_same (hC.block _ hlb) _).trans q2, (cell_same (hC.block _ hlb) _).trans q3⟩
                clear hK K
                try simp only [Array.reduceGetElem, Act.put, List.setIfInBounds_toArray, List.set_cons_zero, List.set_cons_succ]
                refine wpAnyH_ready (rs := [14]) (by kernel_rfl) (by simp) ?_
                refine AllReadyH.cons rfl (fun K hK => ?_) (AllReadyH.nil)
                · obtain ⟨va, X14, hrun, hown', hgr, hnil, hat⟩ := run_append_own_at (P := Tryd.prog) X13 W0.heap.size 23 23 30 i0 _ 4 48 Tryd.underlying23 hi.out hz0.out hz1.out hz2.out rfl (by decide) (.slice (some ⟨ga2, 0, none⟩) (k + 1) ca2) (k + 1) (flatE (acc.take k) ++ cellsE ⟨p, kind, mode, t⟩) own2.out AD (acc.length - k) (c1 - k) (flatE (acc.drop k)) (by rw [flatE_length, List.length_drop]) (hND.out _ hC) (flatE_one _) (by unfold maxLen; omega) (by omega) hz
                  rw [show k + 1 + (acc.length - k) = acc.length + 1 by omega] at hown'
                  obtain ⟨ga3, ca3, rfl, hloga3, hccga3, hmmga3⟩ := own_form hown' (fun e => by have := (hnil.1 e).1; cases this)
                  replace hat := Lib.hid hat
                  replace hgr := Lib.hid hgr
                  replace hown' := Lib.hid hown'
                  clear hnil
                  refine step_append_runE rfl _ _ 23 23 rfl (.slice (some ⟨ga2, 0, none⟩) (k + 1) ca2) (.slice (some AD) (acc.length - k) (c1 - k)) (by simp [Act.eval, Act.put]) (by simp [Act.eval, Act.put]) hrun ?_
                  clear hrun
                  have hC' := hC
                  have hC : Below W0.heap.size W0 X14 := Below.trans hC' ((Below.refl W0.heap.size X13).grown hgr.out hz (fun q hq => (own2.out.lt q hq).1))
                  clear hC'
                  have own3 := hown'
                  have hlt3 : ga3 < X14.heap.size := own_lt own3.out
                  have hz : W0.heap.size ≤ X14.heap.size := hC.size
                  clear hown' hgr hat own2
                  refine hK.out _ _ ?_ (fun hHeld => ?_)
                  · (try dsimp only); exact ⟨(cell_same (hC.block _ hlb) _).trans q0, (cell_same (hC.block _ hlb) _).trans q1, (cell_same (hC.block _ hlb) _).trans q2, (cell_same (hC.block _ hlb) _).trans q3⟩
                  clear hK K
                  try simp only [Array.reduceGetElem, Act.put, List.setIfInBounds_toArray, List.set_cons_zero, List.set_cons_succ]
                  refine wpAnyH_take (i := 15) (v := ?_) rfl (by kernel_rfl) (by kernel_rfl) (by kernel_rfl) (fun _ _ _ h => h) (Or.inl ⟨by rfl, ?_⟩) (by assumption) ?_
                  rotate_left
                  · (intro w hSw; (try dsimp only at hSw); go_simp; try with_reducible rfl)
                  try simp only [Array.reduceGetElem, Act.put, List.setIfInBounds_toArray, List.set_cons_zero, List.set_cons_succ]
                  refine wpAnyH_done (by kernel_rfl) ?_ _
                  try refine NoPanic.normal ?_
                  (try dsimp only)
                  clear hHeld
                  go_wp2
                  go_round
                  case rel => exact ⟨k0 + 1, ga3, ca3, insE acc k ⟨p, kind, mode, t⟩, by omega, by go_num, by rw [hil.out], Lib.hid ((own_ins rfl hkl rfl own3.out).lower hC0s), hgo2, hsi, by rw [hil.out]; omega, hC0.trans (hC.mono hC0s)⟩
                  case measure => simp [intOf]; omega
      · obtain ⟨hkk, -⟩ := there_iff.1 hth.out
        have hk : k < acc.length := by omega
        have hkI : (k : Int) < (acc.length : Int) := by omega
        clear hkk
        rw [hth.out]
        obtain ⟨c0, c1', c2, c3⟩ := hrow2.out.parts.1.ents.2 k hk
        obtain ⟨d0, d1, d2, d3⟩ := (hEbh.out.below hB2 hgb).2 k0 hlt
        rw [he.out] at d0 d1 d2 d3
        obtain ⟨x, hx⟩ : ∃ x, acc[k] = x := ⟨_, rfl⟩
        have hgn := fun h1 => joinGo_no (r := b.drop (k0 + 1)) (e := ⟨p, kind, mode, t⟩) (by exact hth.out) (by exact hka) hk h1
        have hgn' := fun h1 => joinGo_no' (r := b.drop (k0 + 1)) (e := ⟨p, kind, mode, t⟩) (by exact hth.out) (by exact hka) hk h1
        have hgs := fun h1 h2 => joinGo_same' (r := b.drop (k0 + 1)) (e := ⟨p, kind, mode, t⟩) (by exact hth.out) (by exact hka) hk h1 h2
        rw [hx] at c0 c1' c2 c3 hgn hgn' hgs
        obtain ⟨p', kind', mode', t'⟩ := x
        simp only at c0 c1' c2 c3 hgn hgn' hgs
        replace hgn := Lib.hid hgn
        replace hgn' := Lib.hid hgn'
        replace hgs := Lib.hid hgs
        replace hx := Lib.hid hx
        by_cases hkd : kind' = 1
        case neg =>
          have hkb : (kind' != 1) = true := by simp [hkd]
          have hno := Lib.hid (hgo.out.trans (hgn'.out hkd))
          clear hkd
          go_wp2_with fail
          go_region
          all_goals go_wp2
          all_goals refine bodyPost_ret (v := .tuple #[.slice (some ⟨w2.heap.size, 0, none⟩) 0 0, .bool false]) (by simp [results, Tryd.results20, go_sem]) rfl ?_
          all_goals rw [joinP_none hno.out]
          all_goals exact ⟨some ⟨w2.heap.size, 0, none⟩, 0, rfl, .inl rfl, hB2.drew.alloc hB2.drew.size _⟩
        subst hkd
        rcases boolOf (sameE ⟨p, kind, mode, t⟩ ⟨p', 1, mode', t'⟩) with hsa | hsa
        · have hnq := neqE_cells p p' kind mode 1 mode' t t' hsa.out
          have hge := fun op x y => guardE_cells op x y p p' kind mode 1 mode' t t'
          have hno := Lib.hid (hgo.out.trans (hgn.out (.inr (sameE_no hsa.out))))
          go_wp2_with fail
          go_region
          all_goals go_wp2
          all_goals refine bodyPost_ret (v := .tuple #[.slice (some ⟨w2.heap.size, 0, none⟩) 0 0, .bool false]) (by simp [results, Tryd.results20, go_sem]) rfl ?_
          all_goals rw [joinP_none hno.out]
          all_goals exact ⟨some ⟨w2.heap.size, 0, none⟩, 0, rfl, .inl rfl, hB2.drew.alloc hB2.drew.size _⟩
        · have hnq := neqE_cells p p' kind mode 1 mode' t t' hsa.out
          have hge := fun op x y => guardE_cells op x y p p' kind mode 1 mode' t t'
          have hgo2 := Lib.hid (hgo.out.trans (hgs.out rfl hsa.out))
          go_wp2_with fail
          go_region
          all_goals go_wp2
          all_goals go_round
          all_goals first
            | exact ⟨k0 + 1, g1, c1, acc, by omega, by go_num, rfl, Lib.hid hrow2.out, hgo2, hacc, by omega, hB2.drew⟩
            | (simp [intOf]; omega)
    · obtain rfl : k0 = b.length := by omega
      have hgl := hrow.out.lt
      have hgo2 := hgo.out
      rw [List.drop_length, joinGo_nil] at hgo2
      replace hgo2 := Lib.hid hgo2
      have hws := hBr.size
      go_wp2_with fail
      with_reducible refine (specTreeOk_any acc g1 c1 _ hrow.out.parts.1.ents hacc.out).mono ?_
      rintro r w9 ⟨rfl, hB9⟩
      have hC9 := hBr.trans (hB9.mono hws)
      have hr9 := Lib.hid (hrow.out.below hB9 hgl)
      clear hrow
      go_wp2
      refine bodyPost_ret (v := .tuple #[.slice (some ⟨g1, 0, none⟩) acc.length c1, .bool (treeOk acc)]) (by simp [results, Tryd.results20, go_sem]) rfl ?_
      rw [joinP_some hgo2.out]
      exact ⟨some ⟨g1, 0, none⟩, c1, rfl, hr9.out.own, hC9⟩

set_option maxRecDepth 1000000 in
set_option maxHeartbeats 8000000 in
theorem specTreeJoin_any (a b : List En) (g c gb cb : Nat) (w : World) (hE : Ents w g a) (hsm : Small a) (hEb : Ents w gb b) (hsmb : Small b) :
    Calls Tryd.prog 6 #[.slice (some ⟨g, 0, none⟩) a.length c, .slice (some ⟨gb, 0, none⟩) b.length cb] w (ResE (treeJoin a b) w) := by
  have hEh := Lib.hid hE
  have hsh := Lib.hid hsm
  have hEbh := Lib.hid hEb
  have hsb := Lib.hid hsmb
  have hlen := hsm.1
  have hg := hE.1
  have hgb := hEb.1
  clear hE hsm hEb hsmb
  go_enter Tryd.func6, Tryd.ntmps6
  go_wp2_with fail
  with_reducible refine (specTreeOk_any a g c _ hEh.out hsh.out).mono ?_
  rintro r w2 ⟨rfl, hB⟩
  rcases boolOf (treeOk a) with hok | hok
  · rw [hok.out]
    go_wp2
    refine bodyPost_ret (v := .tuple #[.slice (some ⟨w2.heap.size, 0, none⟩) 0 0, .bool false]) (by simp [results, Tryd.results6, go_sem]) rfl ?_
    rw [treeJoin_bad1 hok.out]
    exact ⟨some ⟨w2.heap.size, 0, none⟩, 0, rfl, .inl rfl, hB.alloc hB.size _⟩
  rw [hok.out]
  have hE2 := Lib.hid (hEh.out.below hB hg)
  have hEb2 := Lib.hid (hEbh.out.below hB hgb)
  go_wp2_with fail
  with_reducible refine (specTreeOk_any b gb cb _ hEb2.out hsb.out).mono ?_
  rintro r w3 ⟨rfl, hB3⟩
  have hC3 := hB.trans (hB3.mono hB.size)
  rcases boolOf (treeOk b) with hokb | hokb
  · rw [hokb.out]
    go_wp2
    refine bodyPost_ret (v := .tuple #[.slice (some ⟨w3.heap.size, 0, none⟩) 0 0, .bool false]) (by simp [results, Tryd.results6, go_sem]) rfl ?_
    rw [treeJoin_bad2 hokb.out]
    exact ⟨some ⟨w3.heap.size, 0, none⟩, 0, rfl, .inl rfl, hC3.alloc hC3.size _⟩
  rw [hokb.out]
  have hal := (treeOk_is hok.out).len
  have hbl := (treeOk_is hokb.out).len
  have hE3 := Lib.hid (hEh.out.below hC3 hg)
  have hEb3 := Lib.hid (hEbh.out.below hC3 hgb)
  go_wp2_with fail
  with_reducible refine (l2Join_any a b g c gb cb _ hE3.out hsh.out hEb3.out hsb.out (by omega)).mono ?_
  rintro r w4 ⟨A4, c4, rfl, hR4, hB4⟩
  have hC4 := hC3.trans (hB4.mono hC3.size)
  have hs3 := hC3.size
  replace hR4 := Lib.hid hR4
  obtain ⟨⟨fs, r⟩, hx⟩ : ∃ x, joinP a b = x := ⟨_, rfl⟩
  simp only [hx] at hR4 ⊢
  replace hx := Lib.hid hx
  cases r with
  | false =>
    go_wp2
    refine bodyPost_ret (v := .tuple #[.slice (some ⟨w4.heap.size, 0, none⟩) 0 0, .bool false]) (by simp [results, Tryd.results6, go_sem]) rfl ?_
    rw [treeJoin_ok hok.out hokb.out, joinL_P hx.out]
    exact ⟨some ⟨w4.heap.size, 0, none⟩, 0, rfl, .inl rfl, hC4.alloc hC4.size _⟩
  | true =>
    go_wp2
    refine bodyPost_ret (v := .tuple #[.slice A4 fs.length c4, .bool true]) (by simp [results, Tryd.results6, go_sem]) rfl ?_
    rw [treeJoin_ok hok.out hokb.out, joinL_P hx.out]
    exact ⟨A4, c4, rfl, hR4.out.lower hs3, hC4⟩
end Go.Proofs.YtiknkjhdieepbaaDoor
