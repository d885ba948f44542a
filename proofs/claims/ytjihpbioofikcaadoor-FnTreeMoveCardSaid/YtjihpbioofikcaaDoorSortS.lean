/-
  The walk of the reference's l2Sorted.
-/
import Derived.Test.YtjihpbioofikcaaDoorPutS
import Derived.Test.YtjihpbioofikcaaDoorMoveP
namespace Go.Proofs.YtjihpbioofikcaaDoor
open Go.RowKit
set_option linter.unusedVariables false
set_option linter.unusedSimpArgs false
attribute [local go_sem] mkB_size mkB_extract mkB_get mkB_append mkB_append_raw raw_append_mkB mkB_toList

/-- the first k entries in their order -/
def srt (es : List En) (k : Nat) : List En := sortGo [] (es.take k)
theorem sortGo_snoc (e : En) : ∀ (r acc : List En), sortGo acc (r ++ [e]) = insE (sortGo acc r) (atGo (sortGo acc r) e.path) e
  | [], acc => rfl
  | x :: r, acc => by
    show sortGo _ (r ++ [e]) = _
    rw [sortGo_snoc e r]; rfl
theorem srt_zero (es : List En) : srt es 0 = [] := rfl
theorem srt_all (es : List En) : srt es es.length = sortE es := by unfold srt sortE; rw [List.take_length]
theorem srt_next {es : List En} {k : Nat} (hk : k < es.length) : srt es (k + 1) = insE (srt es k) (atGo (srt es k) es[k].path) es[k] := by
  unfold srt
  rw [List.take_succ_eq_append_getElem hk, sortGo_snoc]
theorem srt_length {es : List En} {k : Nat} (hk : k ≤ es.length) : (srt es k).length = k := by unfold srt; rw [sortGo_length]; simp; omega

set_option maxRecDepth 1000000 in
set_option maxHeartbeats 16000000 in
theorem l2Sorted_any (es : List En) (g c : Nat) (w : World) (hE : Ents w g es) (hlen : es.length ≤ 1048576) :
    Calls Tryd.prog 101 #[.slice (some ⟨g, 0, none⟩) es.length c] w (CloneR (sortE es) w) := by
  have hEh := Lib.hid hE
  have hgw := hE.1
  clear hE
  have hown0 := Lib.hid (World.ownsRow_made (base := w.heap.size) (e := 31) (size := 4) w #[] 0 (Nat.le_refl _) (by simp [maxLen]) rfl)
  go_enter Tryd.func101, Tryd.ntmps101
  go_wp2
  go_loopw [3, 4] (fun out ii wr => ∃ (k g1 c1 : Nat), k ≤ es.length ∧ ii = .int .i64 k ∧ out = .slice (some ⟨g1, 0, none⟩) k c1 ∧ Hid (OwnR wr w.heap.size g1 c1 (srt es k)) ∧ Below w.heap.size w wr) (fun _ ii _ => es.length - (intOf ii).toNat)
  case atStart => exact ⟨0, w.heap.size, 0, Nat.zero_le _, rfl, rfl, Lib.hid (by unfold OwnR; simpa [flatE, srt_zero] using hown0.out), (Below.refl _ _).alloc (Nat.le_refl _) _⟩
  case round =>
    clear hown0
    obtain ⟨k0, g1, c1, hk0, rfl, rfl, hrow, hBr⟩ := hrel
    by_cases hlt : k0 < es.length
    · have hE1 := Lib.hid (hEh.out.below hBr hgw)
      have hsl := srt_length (es := es) (k := k0) hk0
      obtain ⟨acc, hacc⟩ : ∃ x, srt es k0 = x := ⟨_, rfl⟩
      have hnx := srt_next hlt
      rw [hacc] at hrow hnx hsl
      clear hacc
      obtain ⟨k, hka⟩ : ∃ x, atGo acc es[k0].path = x := ⟨_, rfl⟩
      have hkl : k ≤ acc.length := by rw [← hka]; exact atGo_le _ _
      rw [hka] at hnx
      obtain ⟨d0, d1, d2, d3⟩ := hE1.out.2 k0 hlt
      obtain ⟨ev, hev⟩ : ∃ x, es[k0] = x := ⟨_, rfl⟩
      rw [hev] at d0 d1 d2 d3 hka hnx
      obtain ⟨p, kind, mode, t⟩ := ev
      replace hnx := Lib.hid hnx
      subst hsl
      have hev2 := Lib.hid hev
      clear hev
      have hla : acc.length ≤ 1048576 := by omega
      have hk0I : (acc.length : Int) < (es.length : Int) := by omega
      have hglr := hrow.out.lt
      have hA1 := hrow.out.parts.1.ents
      have hcap := hrow.out.parts.2.2.1
      go_wp2_with fail
      with_reducible refine (l2At_any acc p g1 c1 _ hA1 hla).mono ?_
      rintro r w2 ⟨rfl, hB⟩
      rw [hka]
      clear d0 d1 d2 d3 hA1
      have hB2 := hBr.trans (hB.mono hBr.size)
      have hrow2 := Lib.hid (hrow.out.below hB hglr)
      clear hrow
      go_wp2_with fail
      obtain ⟨W0, hW0⟩ : ∃ X, w2 = X := ⟨_, rfl⟩
      have hC0 : Below w.heap.size w W0 := by rw [← hW0]; exact hB2
      have hR0 : OwnR W0 w.heap.size g1 c1 acc := by rw [← hW0]; exact hrow2.out
      rw [hW0]
      clear hW0 hrow2 hB2 hB hE1
      have hEl := hEh.out.below hC0 hgw
      obtain ⟨q0, q1, q2, q3⟩ := hEl.2 acc.length hlt
      have hE0 : Ents W0 g1 acc := hR0.parts.1.ents
      rw [hev2.out] at q0 q1 q2 q3
      have hlb := hEl.1
      have hgl := hE0.1
      obtain ⟨AD, hAD⟩ : ∃ AD, (if c1 = k then some (⟨g1, 0, none⟩ : Addr) else some ⟨g1, k * 4, none⟩) = some AD := by
        by_cases h : c1 = k
        · exact ⟨_, by rw [if_pos h]⟩
        · exact ⟨_, by rw [if_neg h]⟩
      have hND := Lib.hid (news_drop hE0 rfl hkl hcap hAD)
      have hE := Lib.hid hE0
      have hC : Below W0.heap.size W0 W0 := Below.refl _ _
      have hz : W0.heap.size ≤ W0.heap.size := Nat.le_refl _
      have hC0s := hC0.size
      clear hEl hE0 hR0
      obtain ⟨i0, hi, hz0, hz1, hz2⟩ := info_parts infoE
      replace hi := Lib.hid hi
      replace hz0 := Lib.hid hz0
      replace hz1 := Lib.hid hz1
      replace hz2 := Lib.hid hz2
      have hkc : (k : Int) ≤ (c1 : Int) := by omega
      have hkn : (k : Int) ≤ (acc.length : Int) := by omega
      first | refine wp_region_noPanic ?_ | skip
      refine wp_region_held_drew (S := (fun W' => W'.cell? ⟨g, acc.length * 4, none⟩ = some (.string (mkB p)) ∧ W'.cell? ⟨g, acc.length * 4 + 1, none⟩ = some (.int .i64 kind) ∧ W'.cell? ⟨g, acc.length * 4 + 2, none⟩ = some (.int .i64 mode) ∧ W'.cell? ⟨g, acc.length * 4 + 3, none⟩ = some (.string (mkB t)))) (by kernel_rfl) ?_ (fun hHeld => ?_)
      · exact ⟨q0, q1, q2, q3⟩
      refine wpAnyH_take (i := 1) (v := ?_) rfl (by kernel_rfl) (by kernel_rfl) (by kernel_rfl) (fun _ _ _ h => h) (Or.inl ⟨by rfl, ?_⟩) (by assumption) ?_
      rotate_left
      · (intro w hSw; (try dsimp only at hSw); go_simp; try with_reducible rfl)
      try simp only [Array.reduceGetElem, Act.put, List.setIfInBounds_toArray, List.set_cons_zero, List.set_cons_succ]
      refine wpAnyH_take (i := 2) (v := ?_) rfl (by kernel_rfl) (by kernel_rfl) (by kernel_rfl) (fun _ _ _ h => h) (Or.inl ⟨by rfl, ?_⟩) (by assumption) ?_
      rotate_left
      · (intro w hSw; (try dsimp only at hSw); go_simp; try with_reducible rfl)
      try simp only [Array.reduceGetElem, Act.put, List.setIfInBounds_toArray, List.set_cons_zero, List.set_cons_succ]
      refine wpAnyH_take (i := 3) (v := ?_) rfl (by kernel_rfl) (by kernel_rfl) (by kernel_rfl) (fun _ _ _ h => h) (Or.inl ⟨by rfl, ?_⟩) (by assumption) ?_
      rotate_left
      · (intro w hSw; (try dsimp only at hSw); go_simp; try with_reducible rfl)
      try simp only [Array.reduceGetElem, Act.put, List.setIfInBounds_toArray, List.set_cons_zero, List.set_cons_succ]
      refine wpAnyH_take (i := 5) (v := ?_) rfl (by kernel_rfl) (by kernel_rfl) (by kernel_rfl) (fun _ _ _ h => h) (Or.inl ⟨by rfl, ?_⟩) (by assumption) ?_
      rotate_left
      · (intro w hSw; (try dsimp only at hSw); go_simp; try with_reducible rfl)
      try simp only [Array.reduceGetElem, Act.put, List.setIfInBounds_toArray, List.set_cons_zero, List.set_cons_succ]
      refine wpAnyH_take (i := 6) (v := ?_) rfl (by kernel_rfl) (by kernel_rfl) (by kernel_rfl) (fun _ _ _ h => h) (Or.inl ⟨by rfl, ?_⟩) (by assumption) ?_
      rotate_left
      · (intro w hSw; (try dsimp only at hSw); go_simp; try with_reducible rfl)
      try simp only [Array.reduceGetElem, Act.put, List.setIfInBounds_toArray, List.set_cons_zero, List.set_cons_succ]
      refine wpAnyH_take (i := 7) (v := ?_) rfl (by kernel_rfl) (by kernel_rfl) (by kernel_rfl) (fun _ _ _ h => h) (Or.inl ⟨by rfl, ?_⟩) (by assumption) ?_
      rotate_left
      · (intro w hSw; (try dsimp only at hSw); go_simp; try with_reducible rfl)
      try simp only [Array.reduceGetElem, Act.put, List.setIfInBounds_toArray, List.set_cons_zero, List.set_cons_succ]
      refine wpAnyH_take (i := 8) (v := ?_) rfl (by kernel_rfl) (by kernel_rfl) (by kernel_rfl) (fun _ _ _ h => h) (Or.inl ⟨by rfl, ?_⟩) (by assumption) ?_
      rotate_left
      · (intro w hSw; (try dsimp only at hSw); go_simp; try with_reducible rfl)
      try simp only [Array.reduceGetElem, Act.put, List.setIfInBounds_toArray, List.set_cons_zero, List.set_cons_succ]
      refine wpAnyH_take (i := 11) (v := ?_) rfl (by kernel_rfl) (by kernel_rfl) (by kernel_rfl) (fun _ _ _ h => h) (Or.inl ⟨by rfl, ?_⟩) (by assumption) ?_
      rotate_left
      · (intro w hSw; (try dsimp only at hSw); go_simp; try with_reducible rfl)
      try simp only [Array.reduceGetElem, Act.put, List.setIfInBounds_toArray, List.set_cons_zero, List.set_cons_succ]
      refine wpAnyH_take (i := 12) (v := ?_) rfl (by kernel_rfl) (by kernel_rfl) (by kernel_rfl) (fun _ _ _ h => h) (Or.inl ⟨by rfl, ?_⟩) (by assumption) ?_
      rotate_left
      · (intro w hSw; (try dsimp only at hSw); go_simp; try with_reducible rfl)
      try simp only [Array.reduceGetElem, Act.put, List.setIfInBounds_toArray, List.set_cons_zero, List.set_cons_succ]
      refine wpAnyH_take (i := 13) (v := ?_) rfl (by kernel_rfl) (by kernel_rfl) (by kernel_rfl) (fun _ _ _ h => h) (Or.inl ⟨by rfl, ?_⟩) (by assumption) ?_
      rotate_left
      · (intro w hSw; (try dsimp only at hSw); go_simp; try with_reducible rfl)
      try simp only [Array.reduceGetElem, Act.put, List.setIfInBounds_toArray, List.set_cons_zero, List.set_cons_succ]
      refine wpAnyH_ready (rs := [0, 9]) (by kernel_rfl) (by simp) ?_
      refine AllReadyH.cons rfl (fun K hK => ?_) (AllReadyH.cons rfl (fun K hK => ?_) (AllReadyH.nil))
      · go_simp
        obtain ⟨X1, hX1⟩ : ∃ X, W0.alloc (.cells #[] 31) = X := ⟨_, rfl⟩
        obtain ⟨h0, hh0⟩ : ∃ x, x = W0.heap.size := ⟨_, rfl⟩
        have own0 : X1.ownsRow W0.heap.size 31 4 (.slice (some ⟨h0, 0, none⟩) 0 0) 0 [] := by rw [hh0, ← hX1]; exact World.ownsRow_made (base := W0.heap.size) (e := 31) (size := 4) W0 #[] 0 hz (by simp [maxLen]) rfl
        replace own0 := Lib.hid own0
        have hl0 : W0.heap.size ≤ h0 := by omega
        have hlt0 : h0 < X1.heap.size := by rw [← hX1, hh0]; simp
        have hC : Below W0.heap.size W0 X1 := by rw [← hX1]; exact hC.alloc hz _
        have hz : W0.heap.size ≤ X1.heap.size := hC.size
        rw [hX1]
        try rw [← hh0]
        clear hX1 hh0
        refine hK.out _ _ ?_ (fun hHeld => ?_)
        · (try dsimp only); exact ⟨(cell_same (hC.block _ hlb) _).trans q0, (cell_same (hC.block _ hlb) _).trans q1, (cell_same (hC.block _ hlb) _).trans q2, (cell_same (hC.block _ hlb) _).trans q3⟩
        clear hK K
        try simp only [Array.reduceGetElem, Act.put, List.setIfInBounds_toArray, List.set_cons_zero, List.set_cons_succ]
        refine wpAnyH_ready (rs := [4, 9]) (by kernel_rfl) (by simp) ?_
        refine AllReadyH.cons rfl (fun K hK => ?_) (AllReadyH.cons rfl (fun K hK => ?_) (AllReadyH.nil))
        · obtain ⟨va, X2, hrun, hown', hgr, hnil, hat⟩ := run_append_own_at (P := Tryd.prog) X1.drew W0.heap.size 27 27 31 i0 _ 4 48 Tryd.underlying27 hi.out hz0.out hz1.out hz2.out rfl (by decide) (.slice (some ⟨h0, 0, none⟩) 0 0) 0 [] own0.out ⟨g1, 0, none⟩ k c1 (flatE (acc.take k)) (by rw [flatE_length, List.length_take, Nat.min_eq_left (by omega)]) (((hE.out.below hC hgl).take k).flat) (flatE_one _) (by unfold maxLen; omega) (by omega) hz
          simp only [Nat.zero_add, List.nil_append] at hown'
          obtain ⟨ga1, ca1, rfl, hloga1, hccga1, hmmga1⟩ := own_form hown' (fun e => by have := (hnil.1 e).1; cases this)
          replace hat := Lib.hid hat
          replace hgr := Lib.hid hgr
          replace hown' := Lib.hid hown'
          clear hnil
          refine step_append_runE rfl _ _ 27 27 rfl (.slice (some ⟨h0, 0, none⟩) 0 0) (.slice (some ⟨g1, 0, none⟩) k c1) (by simp [Act.eval, Act.put]) (by simp [Act.eval, Act.put]) hrun ?_
          clear hrun
          have hC' := hC
          have hC : Below W0.heap.size W0 X2 := Below.trans hC'.drew ((Below.refl W0.heap.size X1.drew).grown hgr.out hz (fun q hq => (own0.out.lt q hq).1))
          clear hC'
          have own1 := hown'
          have hlt1 : ga1 < X2.heap.size := own_lt own1.out
          have hz : W0.heap.size ≤ X2.heap.size := hC.size
          clear hown' hgr hat own0
          refine hK.out _ _ ?_ (fun hHeld => ?_)
          · (try dsimp only); exact ⟨(cell_same (hC.block _ hlb) _).trans q0, (cell_same (hC.block _ hlb) _).trans q1, (cell_same (hC.block _ hlb) _).trans q2, (cell_same (hC.block _ hlb) _).trans q3⟩
          clear hK K
          try simp only [Array.reduceGetElem, Act.put, List.setIfInBounds_toArray, List.set_cons_zero, List.set_cons_succ]
          refine wpAnyH_ready (rs := [9]) (by kernel_rfl) (by simp) ?_
          refine AllReadyH.cons rfl (fun K hK => ?_) (AllReadyH.nil)
          · go_simp
            obtain ⟨X3, hX3⟩ : ∃ X, X2.alloc (.cells #[.string (mkB p), .int .i64 kind, .int .i64 mode, .string (mkB t)] 31) = X := ⟨_, rfl⟩
            obtain ⟨vb, hhb⟩ : ∃ x, x = X2.heap.size := ⟨_, rfl⟩
            have hvb : Box4 X3 vb 31 (.string (mkB p)) (.int .i64 kind) (.int .i64 mode) (.string (mkB t)) := by rw [hhb, ← hX3]; exact Box4.new _ _ _ _ _ _
            have hvb0 : vb < X3.heap.size := hvb.lt
            have own1 := Lib.hid (own1.out.alloc (.cells #[.string (mkB p), .int .i64 kind, .int .i64 mode, .string (mkB t)] 31))
            rw [hX3] at own1
            have hne1 : vb ≠ ga1 := by omega
            have hC : Below W0.heap.size W0 X3 := by rw [← hX3]; exact hC.alloc hz _
            have hz : W0.heap.size ≤ X3.heap.size := hC.size
            rw [hX3]
            try rw [← hhb]
            clear hX3 hhb
            refine hK.out _ _ ?_ (fun hHeld => ?_)
            · (try dsimp only); exact ⟨(cell_same (hC.block _ hlb) _).trans q0, (cell_same (hC.block _ hlb) _).trans q1, (cell_same (hC.block _ hlb) _).trans q2, (cell_same (hC.block _ hlb) _).trans q3⟩
            clear hK K
            try simp only [Array.reduceGetElem, Act.put, List.setIfInBounds_toArray, List.set_cons_zero, List.set_cons_succ]
            refine wpAnyH_ready (rs := [10]) (by kernel_rfl) (by simp) ?_
            refine AllReadyH.cons rfl (fun K hK => ?_) (AllReadyH.nil)
            · obtain ⟨va, X4, hrun, hown', hgr, hnil, hat⟩ := run_append_own_at (P := Tryd.prog) X3 W0.heap.size 27 27 31 i0 _ 4 48 Tryd.underlying27 hi.out hz0.out hz1.out hz2.out rfl (by decide) (.slice (some ⟨ga1, 0, none⟩) k ca1) k (flatE (acc.take k)) own1.out ⟨vb, 0, none⟩ 1 1 (cellsE ⟨p, kind, mode, t⟩) rfl (box_news ⟨p, kind, mode, t⟩ hvb) (cellsE_one' _) (by unfold maxLen; omega) (by omega) hz
              skip
              obtain ⟨ga2, ca2, rfl, hloga2, hccga2, hmmga2⟩ := own_form hown' (fun e => by have := (hnil.1 e).1; cases this)
              replace hat := Lib.hid hat
              replace hgr := Lib.hid hgr
              replace hown' := Lib.hid hown'
              clear hnil
              refine step_append_runE rfl _ _ 27 27 rfl (.slice (some ⟨ga1, 0, none⟩) k ca1) (.slice (some ⟨vb, 0, none⟩) 1 1) (by simp [Act.eval, Act.put]) (by simp [Act.eval, Act.put]) hrun ?_
              clear hrun
              have hC' := hC
              have hC : Below W0.heap.size W0 X4 := Below.trans hC' ((Below.refl W0.heap.size X3).grown hgr.out hz (fun q hq => (own1.out.lt q hq).1))
              clear hC'
              have own2 := hown'
              have hlt2 : ga2 < X4.heap.size := own_lt own2.out
              have hz : W0.heap.size ≤ X4.heap.size := hC.size
              clear hown' hgr hat own1
              refine hK.out _ _ ?_ (fun hHeld => ?_)
              · (try dsimp only); exact ⟨(cell_same (hC.block _ hlb) _).trans q0, (cell_same (hC.block _ hlb) _).trans q1, (cell_same (hC.block _ hlb) _).trans q2, (cell_same (hC.block _ hlb) _).trans q3⟩
              clear hK K
              try simp only [Array.reduceGetElem, Act.put, List.setIfInBounds_toArray, List.set_cons_zero, List.set_cons_succ]
              refine wpAnyH_ready (rs := [14]) (by kernel_rfl) (by simp) ?_
              refine AllReadyH.cons rfl (fun K hK => ?_) (AllReadyH.nil)
              · obtain ⟨va, X5, hrun, hown', hgr, hnil, hat⟩ := run_append_own_at (P := Tryd.prog) X4 W0.heap.size 27 27 31 i0 _ 4 48 Tryd.underlying27 hi.out hz0.out hz1.out hz2.out rfl (by decide) (.slice (some ⟨ga2, 0, none⟩) (k + 1) ca2) (k + 1) (flatE (acc.take k) ++ cellsE ⟨p, kind, mode, t⟩) own2.out AD (acc.length - k) (c1 - k) (flatE (acc.drop k)) (by rw [flatE_length, List.length_drop]) (hND.out _ hC) (flatE_one _) (by unfold maxLen; omega) (by omega) hz
                rw [show k + 1 + (acc.length - k) = acc.length + 1 by omega] at hown'
                obtain ⟨ga3, ca3, rfl, hloga3, hccga3, hmmga3⟩ := own_form hown' (fun e => by have := (hnil.1 e).1; cases this)
                replace hat := Lib.hid hat
                replace hgr := Lib.hid hgr
                replace hown' := Lib.hid hown'
                clear hnil
                refine step_append_runE rfl _ _ 27 27 rfl (.slice (some ⟨ga2, 0, none⟩) (k + 1) ca2) (.slice (some AD) (acc.length - k) (c1 - k)) (by simp [Act.eval, Act.put]) (by simp [Act.eval, Act.put]) hrun ?_
                clear hrun
                have hC' := hC
                have hC : Below W0.heap.size W0 X5 := Below.trans hC' ((Below.refl W0.heap.size X4).grown hgr.out hz (fun q hq => (own2.out.lt q hq).1))
                clear hC'
                have own3 := hown'
                have hlt3 : ga3 < X5.heap.size := own_lt own3.out
                have hz : W0.heap.size ≤ X5.heap.size := hC.size
                clear hown' hgr hat own2
                refine hK.out _ _ ?_ (fun hHeld => ?_)
                · (try dsimp only); exact ⟨(cell_same (hC.block _ hlb) _).trans q0, (cell_same (hC.block _ hlb) _).trans q1, (cell_same (hC.block _ hlb) _).trans q2, (cell_same (hC.block _ hlb) _).trans q3⟩
                clear hK K
                try simp only [Array.reduceGetElem, Act.put, List.setIfInBounds_toArray, List.set_cons_zero, List.set_cons_succ]
                refine wpAnyH_take (i := 15) (v := ?_) rfl (by kernel_rfl) (by kernel_rfl) (by kernel_rfl) (fun _ _ _ h => h) (Or.inl ⟨by rfl, ?_⟩) (by assumption) ?_
                rotate_left
                · (intro w hSw; (try dsimp only at hSw); go_simp; try with_reducible rfl)
                try simp only [Array.reduceGetElem, Act.put, List.setIfInBounds_toArray, List.set_cons_zero, List.set_cons_succ]
                refine wpAnyH_done (by kernel_rfl) ?_ _
                try refine NoPanic.normal ?_
                (try dsimp only)
                clear hHeld
                go_wp2
                go_round
                case rel => exact ⟨acc.length + 1, ga3, ca3, by omega, by go_num, rfl, Lib.hid (by rw [hnx.out]; exact (own_ins rfl hkl rfl own3.out).lower hC0s), hC0.trans (hC.mono hC0s)⟩
                case measure => simp [intOf]; omega
        · go_simp
          obtain ⟨X6, hX6⟩ : ∃ X, X1.alloc (.cells #[.string (mkB p), .int .i64 kind, .int .i64 mode, .string (mkB t)] 31) = X := ⟨_, rfl⟩
          obtain ⟨vb, hhb⟩ : ∃ x, x = X1.heap.size := ⟨_, rfl⟩
          have hvb : Box4 X6 vb 31 (.string (mkB p)) (.int .i64 kind) (.int .i64 mode) (.string (mkB t)) := by rw [hhb, ← hX6]; exact Box4.new _ _ _ _ _ _
          have hvb0 : vb < X6.heap.size := hvb.lt
          have own0 := Lib.hid (own0.out.alloc (.cells #[.string (mkB p), .int .i64 kind, .int .i64 mode, .string (mkB t)] 31))
          rw [hX6] at own0
          have hne0 : vb ≠ h0 := by omega
          have hC : Below W0.heap.size W0 X6 := by rw [← hX6]; exact hC.alloc hz _
          have hz : W0.heap.size ≤ X6.heap.size := hC.size
          rw [hX6]
          try rw [← hhb]
          clear hX6 hhb
          refine hK.out _ _ ?_ (fun hHeld => ?_)
          · (try dsimp only); exact ⟨(cell_same (hC.block _ hlb) _).trans q0, (cell_same (hC.block _ hlb) _).trans q1, (cell_same (hC.block _ hlb) _).trans q2, (cell_same (hC.block _ hlb) _).trans q3⟩
          clear hK K
          try simp only [Array.reduceGetElem, Act.put, List.setIfInBounds_toArray, List.set_cons_zero, List.set_cons_succ]
          refine wpAnyH_ready (rs := [4]) (by kernel_rfl) (by simp) ?_
          refine AllReadyH.cons rfl (fun K hK => ?_) (AllReadyH.nil)
          · obtain ⟨va, X7, hrun, hown', hgr, hnil, hat⟩ := run_append_own_at (P := Tryd.prog) X6.drew W0.heap.size 27 27 31 i0 _ 4 48 Tryd.underlying27 hi.out hz0.out hz1.out hz2.out rfl (by decide) (.slice (some ⟨h0, 0, none⟩) 0 0) 0 [] own0.out ⟨g1, 0, none⟩ k c1 (flatE (acc.take k)) (by rw [flatE_length, List.length_take, Nat.min_eq_left (by omega)]) (((hE.out.below hC hgl).take k).flat) (flatE_one _) (by unfold maxLen; omega) (by omega) hz
            simp only [Nat.zero_add, List.nil_append] at hown'
            obtain ⟨ga1, ca1, rfl, hloga1, hccga1, hmmga1⟩ := own_form hown' (fun e => by have := (hnil.1 e).1; cases this)
            replace hat := Lib.hid hat
            replace hgr := Lib.hid hgr
            replace hown' := Lib.hid hown'
            clear hnil
            refine step_append_runE rfl _ _ 27 27 rfl (.slice (some ⟨h0, 0, none⟩) 0 0) (.slice (some ⟨g1, 0, none⟩) k c1) (by simp [Act.eval, Act.put]) (by simp [Act.eval, Act.put]) hrun ?_
            clear hrun
            have hC' := hC
            have hC : Below W0.heap.size W0 X7 := Below.trans hC'.drew ((Below.refl W0.heap.size X6.drew).grown hgr.out hz (fun q hq => (own0.out.lt q hq).1))
            clear hC'
            have hvb := Box4.kept (W := X6.drew) (W' := X7) hvb hgr.out (by intro e; simp [Value.ownBlock] at e; omega)
            have hne1 : vb ≠ ga1 := by rcases hat.out with h | h <;> (simp [Value.ownBlock] at h; omega)
            have hvb0 : vb < X7.heap.size := hvb.lt
            have own1 := hown'
            have hlt1 : ga1 < X7.heap.size := own_lt own1.out
            have hz : W0.heap.size ≤ X7.heap.size := hC.size
            clear hown' hgr hat own0
            refine hK.out _ _ ?_ (fun hHeld => ?_)
            · (try dsimp only); exact ⟨(cell_same (hC.block _ hlb) _).trans q0, (cell_same (hC.block _ hlb) _).trans q1, (cell_same (hC.block _ hlb) _).trans q2, (cell_same (hC.block _ hlb) _).trans q3⟩
            clear hK K
            try simp only [Array.reduceGetElem, Act.put, List.setIfInBounds_toArray, List.set_cons_zero, List.set_cons_succ]
            refine wpAnyH_ready (rs := [10]) (by kernel_rfl) (by simp) ?_
            refine AllReadyH.cons rfl (fun K hK => ?_) (AllReadyH.nil)
            · obtain ⟨va, X8, hrun, hown', hgr, hnil, hat⟩ := run_append_own_at (P := Tryd.prog) X7 W0.heap.size 27 27 31 i0 _ 4 48 Tryd.underlying27 hi.out hz0.out hz1.out hz2.out rfl (by decide) (.slice (some ⟨ga1, 0, none⟩) k ca1) k (flatE (acc.take k)) own1.out ⟨vb, 0, none⟩ 1 1 (cellsE ⟨p, kind, mode, t⟩) rfl (box_news ⟨p, kind, mode, t⟩ hvb) (cellsE_one' _) (by unfold maxLen; omega) (by omega) hz
              skip
              obtain ⟨ga2, ca2, rfl, hloga2, hccga2, hmmga2⟩ := own_form hown' (fun e => by have := (hnil.1 e).1; cases this)
              replace hat := Lib.hid hat
              replace hgr := Lib.hid hgr
              replace hown' := Lib.hid hown'
              clear hnil
              refine step_append_runE rfl _ _ 27 27 rfl (.slice (some ⟨ga1, 0, none⟩) k ca1) (.slice (some ⟨vb, 0, none⟩) 1 1) (by simp [Act.eval, Act.put]) (by simp [Act.eval, Act.put]) hrun ?_
              clear hrun
              have hC' := hC
              have hC : Below W0.heap.size W0 X8 := Below.trans hC' ((Below.refl W0.heap.size X7).grown hgr.out hz (fun q hq => (own1.out.lt q hq).1))
              clear hC'
              have own2 := hown'
              have hlt2 : ga2 < X8.heap.size := own_lt own2.out
              have hz : W0.heap.size ≤ X8.heap.size := hC.size
              clear hown' hgr hat own1
              refine hK.out _ _ ?_ (fun hHeld => ?_)
              · (try dsimp only); exact ⟨(cell_same (hC.block _ hlb) _).trans q0, (cell_same (hC.block _ hlb) _).trans q1, (cell_same (hC.block _ hlb) _).trans q2, (cell_same (hC.block _ hlb) _).trans q3⟩
              clear hK K
              try simp only [Array.reduceGetElem, Act.put, List.setIfInBounds_toArray, List.set_cons_zero, List.set_cons_succ]
              refine wpAnyH_ready (rs := [14]) (by kernel_rfl) (by simp) ?_
              refine AllReadyH.cons rfl (fun K hK => ?_) (AllReadyH.nil)
              · obtain ⟨va, X9, hrun, hown', hgr, hnil, hat⟩ := run_append_own_at (P := Tryd.prog) X8 W0.heap.size 27 27 31 i0 _ 4 48 Tryd.underlying27 hi.out hz0.out hz1.out hz2.out rfl (by decide) (.slice (some ⟨ga2, 0, none⟩) (k + 1) ca2) (k + 1) (flatE (acc.take k) ++ cellsE ⟨p, kind, mode, t⟩) own2.out AD (acc.length - k) (c1 - k) (flatE (acc.drop k)) (by rw [flatE_length, List.length_drop]) (hND.out _ hC) (flatE_one _) (by unfold maxLen; omega) (by omega) hz
                rw [show k + 1 + (acc.length - k) = acc.length + 1 by omega] at hown'
                obtain ⟨ga3, ca3, rfl, hloga3, hccga3, hmmga3⟩ := own_form hown' (fun e => by have := (hnil.1 e).1; cases this)
                replace hat := Lib.hid hat
                replace hgr := Lib.hid hgr
                replace hown' := Lib.hid hown'
                clear hnil
                refine step_append_runE rfl _ _ 27 27 rfl (.slice (some ⟨ga2, 0, none⟩) (k + 1) ca2) (.slice (some AD) (acc.length - k) (c1 - k)) (by simp [Act.eval, Act.put]) (by simp [Act.eval, Act.put]) hrun ?_
                clear hrun
                have hC' := hC
                have hC : Below W0.heap.size W0 X9 := Below.trans hC' ((Below.refl W0.heap.size X8).grown hgr.out hz (fun q hq => (own2.out.lt q hq).1))
                clear hC'
                have own3 := hown'
                have hlt3 : ga3 < X9.heap.size := own_lt own3.out
                have hz : W0.heap.size ≤ X9.heap.size := hC.size
                clear hown' hgr hat own2
                refine hK.out _ _ ?_ (fun hHeld => ?_)
                · (try dsimp only); exact ⟨(cell_same (hC.block _ hlb) _).trans q0, (cell_same (hC.block _ hlb) _).trans q1, (cell_same (hC.block _ hlb) _).trans q2, (cell_same (hC.block _ hlb) _).trans q3⟩
                clear hK K
                try simp only [Array.reduceGetElem, Act.put, List.setIfInBounds_toArray, List.set_cons_zero, List.set_cons_succ]
                refine wpAnyH_take (i := 15) (v := ?_) rfl (by kernel_rfl) (by kernel_rfl) (by kernel_rfl) (fun _ _ _ h => h) (Or.inl ⟨by rfl, ?_⟩) (by assumption) ?_
                rotate_left
                · (intro w hSw; (try dsimp only at hSw); go_simp; try with_reducible rfl)
                try simp only [Array.reduceGetElem, Act.put, List.setIfInBounds_toArray, List.set_cons_zero, List.set_cons_succ]
                refine wpAnyH_done (by kernel_rfl) ?_ _
                try refine NoPanic.normal ?_
                (try dsimp only)
                clear hHeld
                go_wp2
                go_round
                case rel => exact ⟨acc.length + 1, ga3, ca3, by omega, by go_num, rfl, Lib.hid (by rw [hnx.out]; exact (own_ins rfl hkl rfl own3.out).lower hC0s), hC0.trans (hC.mono hC0s)⟩
                case measure => simp [intOf]; omega
      · go_simp
        obtain ⟨X10, hX10⟩ : ∃ X, W0.alloc (.cells #[.string (mkB p), .int .i64 kind, .int .i64 mode, .string (mkB t)] 31) = X := ⟨_, rfl⟩
        obtain ⟨vb, hhb⟩ : ∃ x, x = W0.heap.size := ⟨_, rfl⟩
        have hvb : Box4 X10 vb 31 (.string (mkB p)) (.int .i64 kind) (.int .i64 mode) (.string (mkB t)) := by rw [hhb, ← hX10]; exact Box4.new _ _ _ _ _ _
        have hvb0 : vb < X10.heap.size := hvb.lt
        have hC : Below W0.heap.size W0 X10 := by rw [← hX10]; exact hC.alloc hz _
        have hz : W0.heap.size ≤ X10.heap.size := hC.size
        rw [hX10]
        try rw [← hhb]
        clear hX10 hhb
        refine hK.out _ _ ?_ (fun hHeld => ?_)
        · (try dsimp only); exact ⟨(cell_same (hC.block _ hlb) _).trans q0, (cell_same (hC.block _ hlb) _).trans q1, (cell_same (hC.block _ hlb) _).trans q2, (cell_same (hC.block _ hlb) _).trans q3⟩
        clear hK K
        try simp only [Array.reduceGetElem, Act.put, List.setIfInBounds_toArray, List.set_cons_zero, List.set_cons_succ]
        refine wpAnyH_ready (rs := [0]) (by kernel_rfl) (by simp) ?_
        refine AllReadyH.cons rfl (fun K hK => ?_) (AllReadyH.nil)
        · go_simp
          obtain ⟨X11, hX11⟩ : ∃ X, X10.alloc (.cells #[] 31) = X := ⟨_, rfl⟩
          obtain ⟨h0, hh0⟩ : ∃ x, x = X10.heap.size := ⟨_, rfl⟩
          have own0 : X11.ownsRow W0.heap.size 31 4 (.slice (some ⟨h0, 0, none⟩) 0 0) 0 [] := by rw [hh0, ← hX11]; exact World.ownsRow_made (base := W0.heap.size) (e := 31) (size := 4) X10 #[] 0 hz (by simp [maxLen]) rfl
          replace own0 := Lib.hid own0
          have hl0 : W0.heap.size ≤ h0 := by omega
          have hlt0 : h0 < X11.heap.size := by rw [← hX11, hh0]; simp
          have hvb : Box4 X11 vb 31 (.string (mkB p)) (.int .i64 kind) (.int .i64 mode) (.string (mkB t)) := by rw [← hX11]; exact hvb.kept (World.grownBy_alloc X10 _ none) (by simp)
          have hne0 : vb ≠ h0 := by omega
          have hvb0 : vb < X11.heap.size := hvb.lt
          have hC : Below W0.heap.size W0 X11 := by rw [← hX11]; exact hC.alloc hz _
          have hz : W0.heap.size ≤ X11.heap.size := hC.size
          rw [hX11]
          try rw [← hh0]
          clear hX11 hh0
          refine hK.out _ _ ?_ (fun hHeld => ?_)
          · (try dsimp only); exact ⟨(cell_same (hC.block _ hlb) _).trans q0, (cell_same (hC.block _ hlb) _).trans q1, (cell_same (hC.block _ hlb) _).trans q2, (cell_same (hC.block _ hlb) _).trans q3⟩
          clear hK K
          try simp only [Array.reduceGetElem, Act.put, List.setIfInBounds_toArray, List.set_cons_zero, List.set_cons_succ]
          refine wpAnyH_ready (rs := [4]) (by kernel_rfl) (by simp) ?_
          refine AllReadyH.cons rfl (fun K hK => ?_) (AllReadyH.nil)
          · obtain ⟨va, X12, hrun, hown', hgr, hnil, hat⟩ := run_append_own_at (P := Tryd.prog) X11.drew W0.heap.size 27 27 31 i0 _ 4 48 Tryd.underlying27 hi.out hz0.out hz1.out hz2.out rfl (by decide) (.slice (some ⟨h0, 0, none⟩) 0 0) 0 [] own0.out ⟨g1, 0, none⟩ k c1 (flatE (acc.take k)) (by rw [flatE_length, List.length_take, Nat.min_eq_left (by omega)]) (((hE.out.below hC hgl).take k).flat) (flatE_one _) (by unfold maxLen; omega) (by omega) hz
            simp only [Nat.zero_add, List.nil_append] at hown'
            obtain ⟨ga1, ca1, rfl, hloga1, hccga1, hmmga1⟩ := own_form hown' (fun e => by have := (hnil.1 e).1; cases this)
            replace hat := Lib.hid hat
            replace hgr := Lib.hid hgr
            replace hown' := Lib.hid hown'
            clear hnil
            refine step_append_runE rfl _ _ 27 27 rfl (.slice (some ⟨h0, 0, none⟩) 0 0) (.slice (some ⟨g1, 0, none⟩) k c1) (by simp [Act.eval, Act.put]) (by simp [Act.eval, Act.put]) hrun ?_
            clear hrun
            have hC' := hC
            have hC : Below W0.heap.size W0 X12 := Below.trans hC'.drew ((Below.refl W0.heap.size X11.drew).grown hgr.out hz (fun q hq => (own0.out.lt q hq).1))
            clear hC'
            have hvb := Box4.kept (W := X11.drew) (W' := X12) hvb hgr.out (by intro e; simp [Value.ownBlock] at e; omega)
            have hne1 : vb ≠ ga1 := by rcases hat.out with h | h <;> (simp [Value.ownBlock] at h; omega)
            have hvb0 : vb < X12.heap.size := hvb.lt
            have own1 := hown'
            have hlt1 : ga1 < X12.heap.size := own_lt own1.out
            have hz : W0.heap.size ≤ X12.heap.size := hC.size
            clear hown' hgr hat own0
            refine hK.out _ _ ?_ (fun hHeld => ?_)
            · (try dsimp only); exact ⟨(cell_same (hC.block _ hlb) _).trans q0, (cell_same (hC.block _ hlb) _).trans q1, (cell_same (hC.block _ hlb) _).trans q2, (cell_same (hC.block _ hlb) _).trans q3⟩
            clear hK K
            try simp only [Array.reduceGetElem, Act.put, List.setIfInBounds_toArray, List.set_cons_zero, List.set_cons_succ]
            refine wpAnyH_ready (rs := [10]) (by kernel_rfl) (by simp) ?_
            refine AllReadyH.cons rfl (fun K hK => ?_) (AllReadyH.nil)
            · obtain ⟨va, X13, hrun, hown', hgr, hnil, hat⟩ := run_append_own_at (P := Tryd.prog) X12 W0.heap.size 27 27 31 i0 _ 4 48 Tryd.underlying27 hi.out hz0.out hz1.out hz2.out rfl (by decide) (.slice (some ⟨ga1, 0, none⟩) k ca1) k (flatE (acc.take k)) own1.out ⟨vb, 0, none⟩ 1 1 (cellsE ⟨p, kind, mode, t⟩) rfl (box_news ⟨p, kind, mode, t⟩ hvb) (cellsE_one' _) (by unfold maxLen; omega) (by omega) hz
              skip
              obtain ⟨ga2, ca2, rfl, hloga2, hccga2, hmmga2⟩ := own_form hown' (fun e => by have := (hnil.1 e).1; cases this)
              replace hat := Lib.hid hat
              replace hgr := Lib.hid hgr
              replace hown' := Lib.hid hown'
              clear hnil
              refine step_append_runE rfl _ _ 27 27 rfl (.slice (some ⟨ga1, 0, none⟩) k ca1) (.slice (some ⟨vb, 0, none⟩) 1 1) (by simp [Act.eval, Act.put]) (by simp [Act.eval, Act.put]) hrun ?_
              clear hrun
              have hC' := hC
              have hC : Below W0.heap.size W0 X13 := Below.trans hC' ((Below.refl W0.heap.size X12).grown hgr.out hz (fun q hq => (own1.out.lt q hq).1))
              clear hC'
              have own2 := hown'
              have hlt2 : ga2 < X13.heap.size := own_lt own2.out
              have hz : W0.heap.size ≤ X13.heap.size := hC.size
              clear hown' hgr hat own1
              refine hK.out _ _ ?_ (fun hHeld => ?_)
              · (try dsimp only); exact ⟨(cell_same (hC.block _ hlb) _).trans q0, (cell_same (hC.block _ hlb) _).trans q1, (cell_same (hC.block _ hlb) _).trans q2, (cell_same (hC.block _ hlb) _).trans q3⟩
              clear hK K
              try simp only [Array.reduceGetElem, Act.put, List.setIfInBounds_toArray, List.set_cons_zero, List.set_cons_succ]
              refine wpAnyH_ready (rs := [14]) (by kernel_rfl) (by simp) ?_
              refine AllReadyH.cons rfl (fun K hK => ?_) (AllReadyH.nil)
              · obtain ⟨va, X14, hrun, hown', hgr, hnil, hat⟩ := run_append_own_at (P := Tryd.prog) X13 W0.heap.size 27 27 31 i0 _ 4 48 Tryd.underlying27 hi.out hz0.out hz1.out hz2.out rfl (by decide) (.slice (some ⟨ga2, 0, none⟩) (k + 1) ca2) (k + 1) (flatE (acc.take k) ++ cellsE ⟨p, kind, mode, t⟩) own2.out AD (acc.length - k) (c1 - k) (flatE (acc.drop k)) (by rw [flatE_length, List.length_drop]) (hND.out _ hC) (flatE_one _) (by unfold maxLen; omega) (by omega) hz
                rw [show k + 1 + (acc.length - k) = acc.length + 1 by omega] at hown'
                obtain ⟨ga3, ca3, rfl, hloga3, hccga3, hmmga3⟩ := own_form hown' (fun e => by have := (hnil.1 e).1; cases this)
                replace hat := Lib.hid hat
                replace hgr := Lib.hid hgr
                replace hown' := Lib.hid hown'
                clear hnil
                refine step_append_runE rfl _ _ 27 27 rfl (.slice (some ⟨ga2, 0, none⟩) (k + 1) ca2) (.slice (some AD) (acc.length - k) (c1 - k)) (by simp [Act.eval, Act.put]) (by simp [Act.eval, Act.put]) hrun ?_
                clear hrun
                have hC' := hC
                have hC : Below W0.heap.size W0 X14 := Below.trans hC' ((Below.refl W0.heap.size X13).grown hgr.out hz (fun q hq => (own2.out.lt q hq).1))
                clear hC'
                have own3 := hown'
                have hlt3 : ga3 < X14.heap.size := own_lt own3.out
                have hz : W0.heap.size ≤ X14.heap.size := hC.size
                clear hown' hgr hat own2
                refine hK.out _ _ ?_ (fun hHeld => ?_)
                · (try dsimp only); exact ⟨(cell_same (hC.block _ hlb) _).trans q0, (cell_same (hC.block _ hlb) _).trans q1, (cell_same (hC.block _ hlb) _).trans q2, (cell_same (hC.block _ hlb) _).trans q3⟩
                clear hK K
                try simp only [Array.reduceGetElem, Act.put, List.setIfInBounds_toArray, List.set_cons_zero, List.set_cons_succ]
                refine wpAnyH_take (i := 15) (v := ?_) rfl (by kernel_rfl) (by kernel_rfl) (by kernel_rfl) (fun _ _ _ h => h) (Or.inl ⟨by rfl, ?_⟩) (by assumption) ?_
                rotate_left
                · (intro w hSw; (try dsimp only at hSw); go_simp; try with_reducible rfl)
                try simp only [Array.reduceGetElem, Act.put, List.setIfInBounds_toArray, List.set_cons_zero, List.set_cons_succ]
                refine wpAnyH_done (by kernel_rfl) ?_ _
                try refine NoPanic.normal ?_
                (try dsimp only)
                clear hHeld
                go_wp2
                go_round
                case rel => exact ⟨acc.length + 1, ga3, ca3, by omega, by go_num, rfl, Lib.hid (by rw [hnx.out]; exact (own_ins rfl hkl rfl own3.out).lower hC0s), hC0.trans (hC.mono hC0s)⟩
                case measure => simp [intOf]; omega
    · obtain rfl : k0 = es.length := by omega
      rw [srt_all] at hrow
      have hsl := sortE_length es
      go_wp2
      refine bodyPost_ret (v := .slice (some ⟨g1, 0, none⟩) es.length c1) (by simp [results, Tryd.results101, go_sem]) rfl ?_
      exact ⟨g1, c1, by rw [hsl], hrow.out, hBr⟩
end Go.Proofs.YtjihpbioofikcaaDoor
