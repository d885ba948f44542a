/-
  The walk of the reference's l2Put and TreePut.
-/
import Derived.Test.YtiknkjhdieepbaaDoorPutI
import Derived.OrdersHeld
namespace Go.Proofs.YtiknkjhdieepbaaDoor
open Go.RowKit
set_option linter.unusedVariables false
set_option linter.unusedSimpArgs false
attribute [local go_sem] mkB_size mkB_extract mkB_get mkB_append mkB_append_raw raw_append_mkB mkB_toList

theorem box_news {w : World} {b : Nat} (e : En) (h : Box4 w b 30 (.string (mkB e.path)) (.int .i64 e.kind) (.int .i64 e.mode) (.string (mkB e.text))) : ∀ j u, (cellsE e)[j]? = some u → w.cell? ((⟨b, 0, none⟩ : Addr).add j) = some u := fun j u hu => by
  rw [add_of_head, row_cell _ _ _ _ _ _ h]
  unfold cellsE at hu
  simpa using hu
theorem step_append_runE {P : Program} {ops : Array Oper} {o : Oper} {a : Act} {w : World} {K : Act → World → Prop} {Q : Exit → Act → World → Prop} {E : Prop}
    (hg : o.guard = none) (d x : Operand) (dT sT : TypeId) (hop : o.op = Op.call { callee := Callee.builtin Builtin.append, args := #[d, x], argTypes := #[dT, sT] })
    (v u : Value) (hd : a.eval d = v) (hx : a.eval x = u) {v' : Value} {w' : World} (hr : (Builtin.append_ #[dT, sT] o.type #[v, u]).run P w = .ok v' w') (hK : K (a.put o.dst v') w') :
    if Region.wanted o (yielded ops a.tmps) = true then Oper.wp P o a w K Q else E := by
  have hw : Region.wanted o (yielded ops a.tmps) = true := by simp [Region.wanted, hg]
  rw [if_pos hw]
  unfold Oper.wp
  simp [execOp, hop, resolve, invoke, builtin, hd, hx, hr, Result.andThen]
  exact hK
theorem own_lt {w : World} {lo e size n g c k : Nat} {xs : List Value} (h : w.ownsRow lo e size (.slice (some ⟨g, 0, none⟩) n c) k xs) : g < w.heap.size := (h.lt g rfl).2
/-- what is left behind k, wherever it begins -/
theorem news_drop {w : World} {g c k n : Nat} {es : List En} {AD : Addr} (hE : Ents w g es) (hn : es.length = n) (hk : k ≤ n) (hnc : n ≤ c) (hAD : (if c = k then some (⟨g, 0, none⟩ : Addr) else some ⟨g, k * 4, none⟩) = some AD) :
    ∀ W, Below w.heap.size w W → ∀ j u, (flatE (es.drop k))[j]? = some u → W.cell? (AD.add j) = some u := by
  intro W hB j u hu
  have hE2 := hE.below hB hE.1
  have hj := (List.getElem?_eq_some_iff.1 hu).1
  rw [flatE_length, List.length_drop, hn] at hj
  by_cases h : c = k
  · omega
  · rw [if_neg h] at hAD
    cases hAD
    have h2 := hE2.flat (k * 4 + j) u (by rw [← flatE_drop, List.getElem?_drop] at hu; exact hu)
    rw [add_of_head] at h2
    have : ((⟨g, k * 4, none⟩ : Addr).add j) = ⟨g, k * 4 + j, none⟩ := by unfold Addr.add; split <;> simp_all
    rw [this]; exact h2
theorem own_ins {w : World} {lo g c k n m : Nat} {es : List En} {e : En} (hn : es.length = n) (hk : k ≤ n) (hm : m = n + 1) (h : w.ownsRow lo 30 4 (.slice (some ⟨g, 0, none⟩) m c) m (flatE (es.take k) ++ cellsE e ++ flatE (es.drop k))) : OwnR w lo g c (insE es k e) := by
  subst hm
  unfold OwnR
  rw [insE_length e (by omega), hn, flatE_ins]
  simpa [List.append_assoc] using h

set_option maxRecDepth 1000000 in
set_option maxHeartbeats 16000000 in
theorem l2Put_any (es : List En) (e : En) (g c : Nat) (w : World) (hE : Ents w g es) (hsm : Small es) (hcap : es.length ≤ c) (hp : e.path.length ≤ 1048576) (ht : e.text.length ≤ 1048576) :
    Calls Tryd.prog 27 #[.slice (some ⟨g, 0, none⟩) es.length c, enV e] w (ResN (putL es e) w) := by
  obtain ⟨p, kind, mode, t⟩ := e
  simp only at hp ht
  have hEh := Lib.hid hE
  have hsh := Lib.hid hsm
  have hlen := hsm.1
  clear hE hsm
  have hstart : ∃ W1, w.alloc (.cells #[.string (mkB p), .int .i64 kind, .int .i64 mode, .string (mkB t)] 30) = W1 ∧ Box4 W1 w.heap.size 30 (.string (mkB p)) (.int .i64 kind) (.int .i64 mode) (.string (mkB t)) ∧ Ents W1 g es ∧ Below w.heap.size w W1 := 
    ⟨_, rfl, Box4.new _ _ _ _ _ _, hEh.out.alloc _, (Below.refl _ _).alloc (Nat.le_refl _) _⟩
  replace hstart := Lib.hid hstart
  have hen0 := fun W => l2Entry_any ⟨p, kind, mode, t⟩ hp ht W
  replace hen0 := Lib.hid hen0
  obtain ⟨k, ha⟩ : ∃ k, atGo es p = k := ⟨_, rfl⟩
  have hkl : k ≤ es.length := by rw [← ha]; exact atGo_le es p
  replace ha := Lib.hid ha
  go_enter Tryd.func27, Tryd.ntmps27
  go_wp2_with fail
  obtain ⟨W1, hW1, hb1, hE1, hB1⟩ := hstart.out
  rw [hW1]
  clear hW1
  have hz1 := hb1.lt
  refine (l2At_any es p g c _ hE1 hlen).mono ?_
  rintro r w2 ⟨rfl, hB⟩
  rw [ha.out]
  have hB2 := hB1.trans (hB.mono (by omega))
  have hb2 := Lib.hid (hb1.below hB hz1)
  have hE2 := Lib.hid (hE1.below hB hE1.1)
  clear hb1 hE1
  go_wp2_with fail
  refine (l2Copy_own es g c w2 hE2.out hlen).mono ?_
  rintro r w3 ⟨g3, c3, rfl, hR3, hB3⟩
  have hb3 := Lib.hid (hb2.out.below hB3 hb2.out.lt)
  have hE3 := Lib.hid (hE2.out.below hB3 hE2.out.1)
  have hC3 := hB2.trans (hB3.mono hB2.size)
  have hlo3 : w.heap.size < w2.heap.size := hb2.out.lt
  have hg3 := hR3.parts.2.1
  have hgl3 := hR3.lt
  have hnc3 := hR3.parts.2.2.1
  have hm3 := hR3.parts.2.2.2
  unfold maxLen at hm3
  replace hR3 := Lib.hid hR3
  have d0 := hb3.out.cell0
  have d1 := hb3.out.cell1
  have d2 := hb3.out.cell2
  have d3 := hb3.out.cell3
  go_wp2_with fail
  refine (hen0.out _).mono ?_
  rintro r w4 ⟨rfl, hB4⟩
  clear d0 d1 d2 d3
  have hb4 := Lib.hid (hb3.out.below hB4 hb3.out.lt)
  have hE4 := Lib.hid (hE3.out.below hB4 hE3.out.1)
  have hR4 := Lib.hid (hR3.out.below hB4 hgl3)
  have hC4 := hC3.trans (hB4.mono hC3.size)
  have hgl4 := hR4.out.lt
  rcases boolOf (entryOk ⟨p, kind, mode, t⟩) with hen | hen
  · rw [hen.out]
    go_wp2
    refine bodyPost_ret (v := .tuple #[.slice (some ⟨g3, 0, none⟩) es.length c3, .bool false]) (by simp [results, Tryd.results27, go_sem]) rfl ?_
    rw [putL_bad hen.out]
    exact ⟨g3, c3, rfl, hR4.out.lower (by omega), hC4⟩
  rw [hen.out]
  have d0 := hb4.out.cell0
  have d1 := hb4.out.cell1
  have d2 := hb4.out.cell2
  have d3 := hb4.out.cell3
  go_wp2_with fail
  refine (l1Up_any p (by omega) _).mono ?_
  rintro r w4' ⟨rfl, rfl⟩
  go_wp2_with fail
  refine (l2Dir_any es (upL p) g c _ hE4.out hlen).mono ?_
  rintro r w5 ⟨rfl, hB5⟩
  clear d0 d1 d2 d3
  have hb5 := Lib.hid (hb4.out.below hB5 hb4.out.lt)
  have hE5 := Lib.hid (hE4.out.below hB5 hE4.out.1)
  have hR5 := Lib.hid (hR4.out.below hB5 hgl4)
  have hC5 := hC4.trans (hB5.mono hC4.size)
  have hgl5 := hR5.out.lt
  rcases boolOf (placeOk es (upL p)) with hpl | hpl
  · rw [hpl.out]
    go_wp2
    refine bodyPost_ret (v := .tuple #[.slice (some ⟨g3, 0, none⟩) es.length c3, .bool false]) (by simp [results, Tryd.results27, go_sem]) rfl ?_
    rw [putL_place hpl.out]
    exact ⟨g3, c3, rfl, hR5.out.lower (by omega), hC5⟩
  rw [hpl.out]
  have hbl5 := hb5.out.lt
  have d0 := hb5.out.cell0
  have d1 := hb5.out.cell1
  have d2 := hb5.out.cell2
  have d3 := hb5.out.cell3
  rcases boolOf (there es p) with hth | hth
  · rw [hth.out]
    by_cases h16 : 16 ≤ es.length
    · have h16I : (16 : Int) ≤ (es.length : Int) := by omega
      clear d0 d1 d2 d3
      go_wp2_with fail
      go_region
      all_goals go_wp2
      all_goals refine bodyPost_ret (v := .tuple #[.slice (some ⟨g3, 0, none⟩) es.length c3, .bool false]) (by simp [results, Tryd.results27, go_sem]) rfl ?_
      all_goals rw [putL_full hth.out h16]
      all_goals exact ⟨g3, c3, rfl, (hR5.out.lower (by omega)), hC5.drew⟩
    have h16I : (es.length : Int) < 16 := by omega
    clear d0 d1 d2 d3
    go_wp2_with fail
    go_region
    go_wp2_with fail
    obtain ⟨W0, hW0⟩ : ∃ X, w5.drew = X := ⟨_, rfl⟩
    have hC0 : Below w.heap.size w W0 := by rw [← hW0]; exact hC5.drew
    have hb0 : Box4 W0 w.heap.size 30 (.string (mkB p)) (.int .i64 kind) (.int .i64 mode) (.string (mkB t)) := by rw [← hW0]; exact hb5.out
    have hE0 : Ents W0 g es := by rw [← hW0]; exact hE5.out
    rw [hW0]
    clear hW0 hb5 hE5 hR5 hC5 hb4 hE4 hR4 hC4 hb3 hE3 hR3 hC3 hb2 hE2 hB2
    have q0 := hb0.cell0
    have q1 := hb0.cell1
    have q2 := hb0.cell2
    have q3 := hb0.cell3
    have hlb := hb0.lt
    have hgl := hE0.1
    obtain ⟨AD, hAD⟩ : ∃ AD, (if c = k then some (⟨g, 0, none⟩ : Addr) else some ⟨g, k * 4, none⟩) = some AD := by
      by_cases h : c = k
      · exact ⟨_, by rw [if_pos h]⟩
      · exact ⟨_, by rw [if_neg h]⟩
    have hND := Lib.hid (news_drop hE0 rfl hkl hcap hAD)
    have hE := Lib.hid hE0
    have hC : Below W0.heap.size W0 W0 := Below.refl _ _
    have hz : W0.heap.size ≤ W0.heap.size := Nat.le_refl _
    have hC0s := hC0.size
    clear hb0 hE0
    obtain ⟨i0, hi, hz0, hz1, hz2⟩ := info_parts infoE
    replace hi := Lib.hid hi
    replace hz0 := Lib.hid hz0
    replace hz1 := Lib.hid hz1
    replace hz2 := Lib.hid hz2
    have hkc : (k : Int) ≤ (c : Int) := by omega
    have hkn : (k : Int) ≤ (es.length : Int) := by omega
    first | refine wp_region_noPanic ?_ | skip
    refine wp_region_held_drew (S := (fun W' => W'.cell? ⟨w.heap.size, 0, none⟩ = some (.string (mkB p)) ∧ W'.cell? ⟨w.heap.size, 1, none⟩ = some (.int .i64 kind) ∧ W'.cell? ⟨w.heap.size, 2, none⟩ = some (.int .i64 mode) ∧ W'.cell? ⟨w.heap.size, 3, none⟩ = some (.string (mkB t)))) (by kernel_rfl) ?_ (fun hHeld => ?_)
    · exact ⟨q0, q1, q2, q3⟩
    refine wpAnyH_take (i := 1) (v := ?_) rfl (by kernel_rfl) (by kernel_rfl) (by kernel_rfl) (fun _ _ _ h => h) (Or.inl ⟨by rfl, ?_⟩) (by assumption) ?_
    rotate_left
    · (intro w hSw; (try dsimp only at hSw); go_simp; try with_reducible rfl)
    try simp only [Array.reduceGetElem, Act.put, List.setIfInBounds_toArray, List.set_cons_zero, List.set_cons_succ]
    refine wpAnyH_take (i := 2) (v := ?_) rfl (by kernel_rfl) (by kernel_rfl) (by kernel_rfl) (fun _ _ _ h => h) (Or.inl ⟨by rfl, ?_⟩) (by assumption) ?_
    rotate_left
    · (intro w hSw; (try dsimp only at hSw); go_simp; try with_reducible rfl)
    try simp only [Array.reduceGetElem, Act.put, List.setIfInBounds_toArray, List.set_cons_zero, List.set_cons_succ]
    refine wpAnyH_take (i := 3) (v := ?_) rfl (by kernel_rfl) (by kernel_rfl) (by kernel_rfl) (fun _ _ _ h => h) (Or.inl ⟨by rfl, ?_⟩) (by assumption) ?_
    rotate_left
    · (intro w hSw; (try dsimp only at hSw); go_simp; try with_reducible rfl)
    try simp only [Array.reduceGetElem, Act.put, List.setIfInBounds_toArray, List.set_cons_zero, List.set_cons_succ]
    refine wpAnyH_take (i := 5) (v := ?_) rfl (by kernel_rfl) (by kernel_rfl) (by kernel_rfl) (fun _ _ _ h => h) (Or.inl ⟨by rfl, ?_⟩) (by assumption) ?_
    rotate_left
    · (intro w hSw; (try dsimp only at hSw); go_simp; try with_reducible rfl)
    try simp only [Array.reduceGetElem, Act.put, List.setIfInBounds_toArray, List.set_cons_zero, List.set_cons_succ]
    refine wpAnyH_take (i := 8) (v := ?_) rfl (by kernel_rfl) (by kernel_rfl) (by kernel_rfl) (fun _ _ _ h => h) (Or.inl ⟨by rfl, ?_⟩) (by assumption) ?_
    rotate_left
    · (intro w hSw; (try dsimp only at hSw); go_simp; try with_reducible rfl)
    try simp only [Array.reduceGetElem, Act.put, List.setIfInBounds_toArray, List.set_cons_zero, List.set_cons_succ]
    refine wpAnyH_take (i := 9) (v := ?_) rfl (by kernel_rfl) (by kernel_rfl) (by kernel_rfl) (fun _ _ _ h => h) (Or.inl ⟨by rfl, ?_⟩) (by assumption) ?_
    rotate_left
    · (intro w hSw; (try dsimp only at hSw); go_simp; try with_reducible rfl)
    try simp only [Array.reduceGetElem, Act.put, List.setIfInBounds_toArray, List.set_cons_zero, List.set_cons_succ]
    refine wpAnyH_take (i := 10) (v := ?_) rfl (by kernel_rfl) (by kernel_rfl) (by kernel_rfl) (fun _ _ _ h => h) (Or.inl ⟨by rfl, ?_⟩) (by assumption) ?_
    rotate_left
    · (intro w hSw; (try dsimp only at hSw); go_simp; try with_reducible rfl)
    try simp only [Array.reduceGetElem, Act.put, List.setIfInBounds_toArray, List.set_cons_zero, List.set_cons_succ]
    refine wpAnyH_ready (rs := [0, 6]) (by kernel_rfl) (by simp) ?_
    refine AllReadyH.cons rfl (fun K hK => ?_) (AllReadyH.cons rfl (fun K hK => ?_) (AllReadyH.nil))
    · go_simp
      obtain ⟨X1, hX1⟩ : ∃ X, W0.alloc (.cells #[] 30) = X := ⟨_, rfl⟩
      obtain ⟨h0, hh0⟩ : ∃ x, x = W0.heap.size := ⟨_, rfl⟩
      have own0 : X1.ownsRow W0.heap.size 30 4 (.slice (some ⟨h0, 0, none⟩) 0 0) 0 [] := by rw [hh0, ← hX1]; exact World.ownsRow_made (base := W0.heap.size) (e := 30) (size := 4) W0 #[] 0 hz (by simp [maxLen]) rfl
      replace own0 := Lib.hid own0
      have hl0 : W0.heap.size ≤ h0 := by omega
      have hlt0 : h0 < X1.heap.size := by rw [← hX1, hh0]; simp
      have hC : Below W0.heap.size W0 X1 := by rw [← hX1]; exact hC.alloc hz _
      have hz : W0.heap.size ≤ X1.heap.size := hC.size
      rw [hX1]
      try rw [← hh0]
      clear hX1 hh0
      refine hK.out _ _ ?_ (fun hHeld => ?_)
      · (try dsimp only); exact ⟨(cell_same (hC.block _ hlb) _).trans q0, (cell_same (hC.block _ hlb) _).trans q1, (cell_same (hC.block _ hlb) _).trans q2, (cell_same (hC.block _ hlb) _).trans q3⟩
      clear hK K
      try simp only [Array.reduceGetElem, Act.put, List.setIfInBounds_toArray, List.set_cons_zero, List.set_cons_succ]
      refine wpAnyH_ready (rs := [4, 6]) (by kernel_rfl) (by simp) ?_
      refine AllReadyH.cons rfl (fun K hK => ?_) (AllReadyH.cons rfl (fun K hK => ?_) (AllReadyH.nil))
      · obtain ⟨va, X2, hrun, hown', hgr, hnil, hat⟩ := run_append_own_at (P := Tryd.prog) X1.drew W0.heap.size 23 23 30 i0 _ 4 48 Tryd.underlying23 hi.out hz0.out hz1.out hz2.out rfl (by decide) (.slice (some ⟨h0, 0, none⟩) 0 0) 0 [] own0.out ⟨g, 0, none⟩ k c (flatE (es.take k)) (by rw [flatE_length, List.length_take, Nat.min_eq_left (by omega)]) (((hE.out.below hC hgl).take k).flat) (flatE_one _) (by unfold maxLen; omega) (by omega) hz
        simp only [Nat.zero_add, List.nil_append] at hown'
        obtain ⟨ga1, ca1, rfl, hloga1, hccga1, hmmga1⟩ := own_form hown' (fun e => by have := (hnil.1 e).1; cases this)
        replace hat := Lib.hid hat
        replace hgr := Lib.hid hgr
        replace hown' := Lib.hid hown'
        clear hnil
        refine step_append_runE rfl _ _ 23 23 rfl (.slice (some ⟨h0, 0, none⟩) 0 0) (.slice (some ⟨g, 0, none⟩) k c) (by simp [Act.eval, Act.put]) (by simp [Act.eval, Act.put]) hrun ?_
        clear hrun
        have hC' := hC
        have hC : Below W0.heap.size W0 X2 := Below.trans hC'.drew ((Below.refl W0.heap.size X1.drew).grown hgr.out hz (fun q hq => (own0.out.lt q hq).1))
        clear hC'
        have own1 := hown'
        have hlt1 : ga1 < X2.heap.size := own_lt own1.out
        have hz : W0.heap.size ≤ X2.heap.size := hC.size
        clear hown' hgr hat own0
        refine hK.out _ _ ?_ (fun hHeld => ?_)
        · (try dsimp only); exact ⟨(cell_same (hC.block _ hlb) _).trans q0, (cell_same (hC.block _ hlb) _).trans q1, (cell_same (hC.block _ hlb) _).trans q2, (cell_same (hC.block _ hlb) _).trans q3⟩
        clear hK K
        try simp only [Array.reduceGetElem, Act.put, List.setIfInBounds_toArray, List.set_cons_zero, List.set_cons_succ]
        refine wpAnyH_ready (rs := [6]) (by kernel_rfl) (by simp) ?_
        refine AllReadyH.cons rfl (fun K hK => ?_) (AllReadyH.nil)
        · go_simp
          obtain ⟨X3, hX3⟩ : ∃ X, X2.alloc (.cells #[.string (mkB p), .int .i64 kind, .int .i64 mode, .string (mkB t)] 30) = X := ⟨_, rfl⟩
          obtain ⟨vb, hhb⟩ : ∃ x, x = X2.heap.size := ⟨_, rfl⟩
          have hvb : Box4 X3 vb 30 (.string (mkB p)) (.int .i64 kind) (.int .i64 mode) (.string (mkB t)) := by rw [hhb, ← hX3]; exact Box4.new _ _ _ _ _ _
          have hvb0 : vb < X3.heap.size := hvb.lt
          have own1 := Lib.hid (own1.out.alloc (.cells #[.string (mkB p), .int .i64 kind, .int .i64 mode, .string (mkB t)] 30))
          rw [hX3] at own1
          have hne1 : vb ≠ ga1 := by omega
          have hC : Below W0.heap.size W0 X3 := by rw [← hX3]; exact hC.alloc hz _
          have hz : W0.heap.size ≤ X3.heap.size := hC.size
          rw [hX3]
          try rw [← hhb]
          clear hX3 hhb
          refine hK.out _ _ ?_ (fun hHeld => ?_)
          · (try dsimp only); exact ⟨(cell_same (hC.block _ hlb) _).trans q0, (cell_same (hC.block _ hlb) _).trans q1, (cell_same (hC.block _ hlb) _).trans q2, (cell_same (hC.block _ hlb) _).trans q3⟩
          clear hK K
          try simp only [Array.reduceGetElem, Act.put, List.setIfInBounds_toArray, List.set_cons_zero, List.set_cons_succ]
          refine wpAnyH_ready (rs := [7]) (by kernel_rfl) (by simp) ?_
          refine AllReadyH.cons rfl (fun K hK => ?_) (AllReadyH.nil)
          · obtain ⟨va, X4, hrun, hown', hgr, hnil, hat⟩ := run_append_own_at (P := Tryd.prog) X3 W0.heap.size 23 23 30 i0 _ 4 48 Tryd.underlying23 hi.out hz0.out hz1.out hz2.out rfl (by decide) (.slice (some ⟨ga1, 0, none⟩) k ca1) k (flatE (es.take k)) own1.out ⟨vb, 0, none⟩ 1 1 (cellsE ⟨p, kind, mode, t⟩) rfl (box_news ⟨p, kind, mode, t⟩ hvb) (cellsE_one' _) (by unfold maxLen; omega) (by omega) hz
            skip
            obtain ⟨ga2, ca2, rfl, hloga2, hccga2, hmmga2⟩ := own_form hown' (fun e => by have := (hnil.1 e).1; cases this)
            replace hat := Lib.hid hat
            replace hgr := Lib.hid hgr
            replace hown' := Lib.hid hown'
            clear hnil
            refine step_append_runE rfl _ _ 23 23 rfl (.slice (some ⟨ga1, 0, none⟩) k ca1) (.slice (some ⟨vb, 0, none⟩) 1 1) (by simp [Act.eval, Act.put]) (by simp [Act.eval, Act.put]) hrun ?_
            clear hrun
            have hC' := hC
            have hC : Below W0.heap.size W0 X4 := Below.trans hC' ((Below.refl W0.heap.size X3).grown hgr.out hz (fun q hq => (own1.out.lt q hq).1))
            clear hC'
            have own2 := hown'
            have hlt2 : ga2 < X4.heap.size := own_lt own2.out
            have hz : W0.heap.size ≤ X4.heap.size := hC.size
            clear hown' hgr hat own1
            refine hK.out _ _ ?_ (fun hHeld => ?_)
            · (try dsimp only); exact ⟨(cell_same (hC.block _ hlb) _).trans q0, (cell_same (hC.block _ hlb) _).trans q1, (cell_same (hC.block _ hlb) _).trans q2, (cell_same (hC.block _ hlb) _).trans q3⟩
            clear hK K
            try simp only [Array.reduceGetElem, Act.put, List.setIfInBounds_toArray, List.set_cons_zero, List.set_cons_succ]
            refine wpAnyH_ready (rs := [11]) (by kernel_rfl) (by simp) ?_
            refine AllReadyH.cons rfl (fun K hK => ?_) (AllReadyH.nil)
            · obtain ⟨va, X5, hrun, hown', hgr, hnil, hat⟩ := run_append_own_at (P := Tryd.prog) X4 W0.heap.size 23 23 30 i0 _ 4 48 Tryd.underlying23 hi.out hz0.out hz1.out hz2.out rfl (by decide) (.slice (some ⟨ga2, 0, none⟩) (k + 1) ca2) (k + 1) (flatE (es.take k) ++ cellsE ⟨p, kind, mode, t⟩) own2.out AD (es.length - k) (c - k) (flatE (es.drop k)) (by rw [flatE_length, List.length_drop]) (hND.out _ hC) (flatE_one _) (by unfold maxLen; omega) (by omega) hz
              rw [show k + 1 + (es.length - k) = es.length + 1 by omega] at hown'
              obtain ⟨ga3, ca3, rfl, hloga3, hccga3, hmmga3⟩ := own_form hown' (fun e => by have := (hnil.1 e).1; cases this)
              replace hat := Lib.hid hat
              replace hgr := Lib.hid hgr
              replace hown' := Lib.hid hown'
              clear hnil
              refine step_append_runE rfl _ _ 23 23 rfl (.slice (some ⟨ga2, 0, none⟩) (k + 1) ca2) (.slice (some AD) (es.length - k) (c - k)) (by simp [Act.eval, Act.put]) (by simp [Act.eval, Act.put]) hrun ?_
              clear hrun
              have hC' := hC
              have hC : Below W0.heap.size W0 X5 := Below.trans hC' ((Below.refl W0.heap.size X4).grown hgr.out hz (fun q hq => (own2.out.lt q hq).1))
              clear hC'
              have own3 := hown'
              have hlt3 : ga3 < X5.heap.size := own_lt own3.out
              have hz : W0.heap.size ≤ X5.heap.size := hC.size
              clear hown' hgr hat own2
              refine hK.out _ _ ?_ (fun hHeld => ?_)
              · (try dsimp only); exact ⟨(cell_same (hC.block _ hlb) _).trans q0, (cell_same (hC.block _ hlb) _).trans q1, (cell_same (hC.block _ hlb) _).trans q2, (cell_same (hC.block _ hlb) _).trans q3⟩
              clear hK K
              try simp only [Array.reduceGetElem, Act.put, List.setIfInBounds_toArray, List.set_cons_zero, List.set_cons_succ]
              refine wpAnyH_take (i := 12) (v := ?_) rfl (by kernel_rfl) (by kernel_rfl) (by kernel_rfl) (fun _ _ _ h => h) (Or.inl ⟨by rfl, ?_⟩) (by assumption) ?_
              rotate_left
              · (intro w hSw; (try dsimp only at hSw); go_simp; try with_reducible rfl)
              try simp only [Array.reduceGetElem, Act.put, List.setIfInBounds_toArray, List.set_cons_zero, List.set_cons_succ]
              refine wpAnyH_take (i := 13) (v := ?_) rfl (by kernel_rfl) (by kernel_rfl) (by kernel_rfl) (fun _ _ _ h => h) (Or.inl ⟨by rfl, ?_⟩) (by assumption) ?_
              rotate_left
              · (intro w hSw; (try dsimp only at hSw); go_simp; try with_reducible rfl)
              try simp only [Array.reduceGetElem, Act.put, List.setIfInBounds_toArray, List.set_cons_zero, List.set_cons_succ]
              refine wpAnyH_done (by kernel_rfl) ?_ _
              try refine NoPanic.normal ?_
              (try dsimp only)
              clear hHeld
              go_wp2
              refine bodyPost_ret (v := .tuple #[.slice (some ⟨ga3, 0, none⟩) (es.length + 1) ca3, .bool true]) (by simp [results, Tryd.results27, go_sem]) rfl ?_
              rw [putL_ins hen.out hpl.out hth.out ha.out h16]
              exact ⟨ga3, ca3, by rw [insE_length _ hkl], (own_ins rfl hkl rfl own3.out).lower hC0s, hC0.trans (hC.mono hC0s)⟩
      · go_simp
        obtain ⟨X6, hX6⟩ : ∃ X, X1.alloc (.cells #[.string (mkB p), .int .i64 kind, .int .i64 mode, .string (mkB t)] 30) = X := ⟨_, rfl⟩
        obtain ⟨vb, hhb⟩ : ∃ x, x = X1.heap.size := ⟨_, rfl⟩
        have hvb : Box4 X6 vb 30 (.string (mkB p)) (.int .i64 kind) (.int .i64 mode) (.string (mkB t)) := by rw [hhb, ← hX6]; exact Box4.new _ _ _ _ _ _
        have hvb0 : vb < X6.heap.size := hvb.lt
        have own0 := Lib.hid (own0.out.alloc (.cells #[.string (mkB p), .int .i64 kind, .int .i64 mode, .string (mkB t)] 30))
        rw [hX6] at own0
        have hne0 : vb ≠ h0 := by omega
        have hC : Below W0.heap.size W0 X6 := by rw [← hX6]; exact hC.alloc hz _
        have hz : W0.heap.size ≤ X6.heap.size := hC.size
        rw [hX6]
        try rw [← hhb]
        clear hX6 hhb
        refine hK.out _ _ ?_ (fun hHeld => ?_)
        · (try dsimp only); exact ⟨(cell_same (hC.block _ hlb) _).trans q0, (cell_same (hC.block _ hlb) _).trans q1, (cell_same (hC.block _ hlb) _).trans q2, (cell_same (hC.block _ hlb) _).trans q3⟩
        clear hK K
        try simp only [Array.reduceGetElem, Act.put, List.setIfInBounds_toArray, List.set_cons_zero, List.set_cons_succ]
        refine wpAnyH_ready (rs := [4]) (by kernel_rfl) (by simp) ?_
        refine AllReadyH.cons rfl (fun K hK => ?_) (AllReadyH.nil)
        · obtain ⟨va, X7, hrun, hown', hgr, hnil, hat⟩ := run_append_own_at (P := Tryd.prog) X6.drew W0.heap.size 23 23 30 i0 _ 4 48 Tryd.underlying23 hi.out hz0.out hz1.out hz2.out rfl (by decide) (.slice (some ⟨h0, 0, none⟩) 0 0) 0 [] own0.out ⟨g, 0, none⟩ k c (flatE (es.take k)) (by rw [flatE_length, List.length_take, Nat.min_eq_left (by omega)]) (((hE.out.below hC hgl).take k).flat) (flatE_one _) (by unfold maxLen; omega) (by omega) hz
          simp only [Nat.zero_add, List.nil_append] at hown'
          obtain ⟨ga1, ca1, rfl, hloga1, hccga1, hmmga1⟩ := own_form hown' (fun e => by have := (hnil.1 e).1; cases this)
          replace hat := Lib.hid hat
          replace hgr := Lib.hid hgr
          replace hown' := Lib.hid hown'
          clear hnil
          refine step_append_runE rfl _ _ 23 23 rfl (.slice (some ⟨h0, 0, none⟩) 0 0) (.slice (some ⟨g, 0, none⟩) k c) (by simp [Act.eval, Act.put]) (by simp [Act.eval, Act.put]) hrun ?_
          clear hrun
          have hC' := hC
          have hC : Below W0.heap.size W0 X7 := Below.trans hC'.drew ((Below.refl W0.heap.size X6.drew).grown hgr.out hz (fun q hq => (own0.out.lt q hq).1))
          clear hC'
          have hvb := Box4.kept (W := X6.drew) (W' := X7) hvb hgr.out (by intro e; simp [Value.ownBlock] at e; omega)
          have hne1 : vb ≠ ga1 := by rcases hat.out with h | h <;> (simp [Value.ownBlock] at h; omega)
          have hvb0 : vb < X7.heap.size := hvb.lt
          have own1 := hown'
          have hlt1 : ga1 < X7.heap.size := own_lt own1.out
          have hz : W0.heap.size ≤ X7.heap.size := hC.size
          clear hown' hgr hat own0
          refine hK.out _ _ ?_ (fun hHeld => ?_)
          · (try dsimp only); exact ⟨(cell_same (hC.block _ hlb) _).trans q0, (cell_same (hC.block _ hlb) _).trans q1, (cell_same (hC.block _ hlb) _).trans q2, (cell_same (hC.block _ hlb) _).trans q3⟩
          clear hK K
          try simp only [Array.reduceGetElem, Act.put, List.setIfInBounds_toArray, List.set_cons_zero, List.set_cons_succ]
          refine wpAnyH_ready (rs := [7]) (by kernel_rfl) (by simp) ?_
          refine AllReadyH.cons rfl (fun K hK => ?_) (AllReadyH.nil)
          · obtain ⟨va, X8, hrun, hown', hgr, hnil, hat⟩ := run_append_own_at (P := Tryd.prog) X7 W0.heap.size 23 23 30 i0 _ 4 48 Tryd.underlying23 hi.out hz0.out hz1.out hz2.out rfl (by decide) (.slice (some ⟨ga1, 0, none⟩) k ca1) k (flatE (es.take k)) own1.out ⟨vb, 0, none⟩ 1 1 (cellsE ⟨p, kind, mode, t⟩) rfl (box_news ⟨p, kind, mode, t⟩ hvb) (cellsE_one' _) (by unfold maxLen; omega) (by omega) hz
            skip
            obtain ⟨ga2, ca2, rfl, hloga2, hccga2, hmmga2⟩ := own_form hown' (fun e => by have := (hnil.1 e).1; cases this)
            replace hat := Lib.hid hat
            replace hgr := Lib.hid hgr
            replace hown' := Lib.hid hown'
            clear hnil
            refine step_append_runE rfl _ _ 23 23 rfl (.slice (some ⟨ga1, 0, none⟩) k ca1) (.slice (some ⟨vb, 0, none⟩) 1 1) (by simp [Act.eval, Act.put]) (by simp [Act.eval, Act.put]) hrun ?_
            clear hrun
            have hC' := hC
            have hC : Below W0.heap.size W0 X8 := Below.trans hC' ((Below.refl W0.heap.size X7).grown hgr.out hz (fun q hq => (own1.out.lt q hq).1))
            clear hC'
            have own2 := hown'
            have hlt2 : ga2 < X8.heap.size := own_lt own2.out
            have hz : W0.heap.size ≤ X8.heap.size := hC.size
            clear hown' hgr hat own1
            refine hK.out _ _ ?_ (fun hHeld => ?_)
            · (try dsimp only); exact ⟨(cell_same (hC.block _ hlb) _).trans q0, (cell_same (hC.block _ hlb) _).trans q1, (cell_same (hC.block _ hlb) _).trans q2, (cell_same (hC.block _ hlb) _).trans q3⟩
            clear hK K
            try simp only [Array.reduceGetElem, Act.put, List.setIfInBounds_toArray, List.set_cons_zero, List.set_cons_succ]
            refine wpAnyH_ready (rs := [11]) (by kernel_rfl) (by simp) ?_
            refine AllReadyH.cons rfl (fun K hK => ?_) (AllReadyH.nil)
            · obtain ⟨va, X9, hrun, hown', hgr, hnil, hat⟩ := run_append_own_at (P := Tryd.prog) X8 W0.heap.size 23 23 30 i0 _ 4 48 Tryd.underlying23 hi.out hz0.out hz1.out hz2.out rfl (by decide) (.slice (some ⟨ga2, 0, none⟩) (k + 1) ca2) (k + 1) (flatE (es.take k) ++ cellsE ⟨p, kind, mode, t⟩) own2.out AD (es.length - k) (c - k) (flatE (es.drop k)) (by rw [flatE_length, List.length_drop]) (hND.out _ hC) (flatE_one _) (by unfold maxLen; omega) (by omega) hz
              rw [show k + 1 + (es.length - k) = es.length + 1 by omega] at hown'
              obtain ⟨ga3, ca3, rfl, hloga3, hccga3, hmmga3⟩ := own_form hown' (fun e => by have := (hnil.1 e).1; cases this)
              replace hat := Lib.hid hat
              replace hgr := Lib.hid hgr
              replace hown' := Lib.hid hown'
              clear hnil
              refine step_append_runE rfl _ _ 23 23 rfl (.slice (some ⟨ga2, 0, none⟩) (k + 1) ca2) (.slice (some AD) (es.length - k) (c - k)) (by simp [Act.eval, Act.put]) (by simp [Act.eval, Act.put]) hrun ?_
              clear hrun
              have hC' := hC
              have hC : Below W0.heap.size W0 X9 := Below.trans hC' ((Below.refl W0.heap.size X8).grown hgr.out hz (fun q hq => (own2.out.lt q hq).1))
              clear hC'
              have own3 := hown'
              have hlt3 : ga3 < X9.heap.size := own_lt own3.out
              have hz : W0.heap.size ≤ X9.heap.size := hC.size
              clear hown' hgr hat own2
              refine hK.out _ _ ?_ (fun hHeld => ?_)
              · (try dsimp only); exact ⟨(cell_same (hC.block _ hlb) _).trans q0, (cell_same (hC.block _ hlb) _).trans q1, (cell_same (hC.block _ hlb) _).trans q2, (cell_same (hC.block _ hlb) _).trans q3⟩
              clear hK K
              try simp only [Array.reduceGetElem, Act.put, List.setIfInBounds_toArray, List.set_cons_zero, List.set_cons_succ]
              refine wpAnyH_take (i := 12) (v := ?_) rfl (by kernel_rfl) (by kernel_rfl) (by kernel_rfl) (fun _ _ _ h => h) (Or.inl ⟨by rfl, ?_⟩) (by assumption) ?_
              rotate_left
              · (intro w hSw; (try dsimp only at hSw); go_simp; try with_reducible rfl)
              try simp only [Array.reduceGetElem, Act.put, List.setIfInBounds_toArray, List.set_cons_zero, List.set_cons_succ]
              refine wpAnyH_take (i := 13) (v := ?_) rfl (by kernel_rfl) (by kernel_rfl) (by kernel_rfl) (fun _ _ _ h => h) (Or.inl ⟨by rfl, ?_⟩) (by assumption) ?_
              rotate_left
              · (intro w hSw; (try dsimp only at hSw); go_simp; try with_reducible rfl)
              try simp only [Array.reduceGetElem, Act.put, List.setIfInBounds_toArray, List.set_cons_zero, List.set_cons_succ]
              refine wpAnyH_done (by kernel_rfl) ?_ _
              try refine NoPanic.normal ?_
              (try dsimp only)
              clear hHeld
              go_wp2
              refine bodyPost_ret (v := .tuple #[.slice (some ⟨ga3, 0, none⟩) (es.length + 1) ca3, .bool true]) (by simp [results, Tryd.results27, go_sem]) rfl ?_
              rw [putL_ins hen.out hpl.out hth.out ha.out h16]
              exact ⟨ga3, ca3, by rw [insE_length _ hkl], (own_ins rfl hkl rfl own3.out).lower hC0s, hC0.trans (hC.mono hC0s)⟩
    · go_simp
      obtain ⟨X10, hX10⟩ : ∃ X, W0.alloc (.cells #[.string (mkB p), .int .i64 kind, .int .i64 mode, .string (mkB t)] 30) = X := ⟨_, rfl⟩
      obtain ⟨vb, hhb⟩ : ∃ x, x = W0.heap.size := ⟨_, rfl⟩
      have hvb : Box4 X10 vb 30 (.string (mkB p)) (.int .i64 kind) (.int .i64 mode) (.string (mkB t)) := by rw [hhb, ← hX10]; exact Box4.new _ _ _ _ _ _
      have hvb0 : vb < X10.heap.size := hvb.lt
      have hC : Below W0.heap.size W0 X10 := by rw [← hX10]; exact hC.alloc hz _
      have hz : W0.heap.size ≤ X10.heap.size := hC.size
      rw [hX10]
      try rw [← hhb]
      clear hX10 hhb
      refine hK.out _ _ ?_ (fun hHeld => ?_)
      · (try dsimp only); exact ⟨(cell_same (hC.block _ hlb) _).trans q0, (cell_same (hC.block _ hlb) _).trans q1, (cell_same (hC.block _ hlb) _).trans q2, (cell_same (hC.block _ hlb) _).trans q3⟩
      clear hK K
      try simp only [Array.reduceGetElem, Act.put, List.setIfInBounds_toArray, List.set_cons_zero, List.set_cons_succ]
      refine wpAnyH_ready (rs := [0]) (by kernel_rfl) (by simp) ?_
      refine AllReadyH.cons rfl (fun K hK => ?_) (AllReadyH.nil)
      · go_simp
        obtain ⟨X11, hX11⟩ : ∃ X, X10.alloc (.cells #[] 30) = X := ⟨_, rfl⟩
        obtain ⟨h0, hh0⟩ : ∃ x, x = X10.heap.size := ⟨_, rfl⟩
        have own0 : X11.ownsRow W0.heap.size 30 4 (.slice (some ⟨h0, 0, none⟩) 0 0) 0 [] := by rw [hh0, ← hX11]; exact World.ownsRow_made (base := W0.heap.size) (e := 30) (size := 4) X10 #[] 0 hz (by simp [maxLen]) rfl
        replace own0 := Lib.hid own0
        have hl0 : W0.heap.size ≤ h0 := by omega
        have hlt0 : h0 < X11.heap.size := by rw [← hX11, hh0]; simp
        have hvb : Box4 X11 vb 30 (.string (mkB p)) (.int .i64 kind) (.int .i64 mode) (.string (mkB t)) := by rw [← hX11]; exact hvb.kept (World.grownBy_alloc X10 _ none) (by simp)
        have hne0 : vb ≠ h0 := by omega
        have hvb0 : vb < X11.heap.size := hvb.lt
        have hC : Below W0.heap.size W0 X11 := by rw [← hX11]; exact hC.alloc hz _
        have hz : W0.heap.size ≤ X11.heap.size := hC.size
        rw [hX11]
        try rw [← hh0]
        clear hX11 hh0
        refine hK.out _ _ ?_ (fun hHeld => ?_)
        · (try dsimp only); exact ⟨(cell_same (hC.block _ hlb) _).trans q0, (cell_same (hC.block _ hlb) _).trans q1, (cell_same (hC.block _ hlb) _).trans q2, (cell_same (hC.block _ hlb) _).trans q3⟩
        clear hK K
        try simp only [Array.reduceGetElem, Act.put, List.setIfInBounds_toArray, List.set_cons_zero, List.set_cons_succ]
        refine wpAnyH_ready (rs := [4]) (by kernel_rfl) (by simp) ?_
        refine AllReadyH.cons rfl (fun K hK => ?_) (AllReadyH.nil)
        · obtain ⟨va, X12, hrun, hown', hgr, hnil, hat⟩ := run_append_own_at (P := Tryd.prog) X11.drew W0.heap.size 23 23 30 i0 _ 4 48 Tryd.underlying23 hi.out hz0.out hz1.out hz2.out rfl (by decide) (.slice (some ⟨h0, 0, none⟩) 0 0) 0 [] own0.out ⟨g, 0, none⟩ k c (flatE (es.take k)) (by rw [flatE_length, List.length_take, Nat.min_eq_left (by omega)]) (((hE.out.below hC hgl).take k).flat) (flatE_one _) (by unfold maxLen; omega) (by omega) hz
          simp only [Nat.zero_add, List.nil_append] at hown'
          obtain ⟨ga1, ca1, rfl, hloga1, hccga1, hmmga1⟩ := own_form hown' (fun e => by have := (hnil.1 e).1; cases this)
          replace hat := Lib.hid hat
          replace hgr := Lib.hid hgr
          replace hown' := Lib.hid hown'
          clear hnil
          refine step_append_runE rfl _ _ 23 23 rfl (.slice (some ⟨h0, 0, none⟩) 0 0) (.slice (some ⟨g, 0, none⟩) k c) (by simp [Act.eval, Act.put]) (by simp [Act.eval, Act.put]) hrun ?_
          clear hrun
          have hC' := hC
          have hC : Below W0.heap.size W0 X12 := Below.trans hC'.drew ((Below.refl W0.heap.size X11.drew).grown hgr.out hz (fun q hq => (own0.out.lt q hq).1))
          clear hC'
          have hvb := Box4.kept (W := X11.drew) (W' := X12) hvb hgr.out (by intro e; simp [Value.ownBlock] at e; omega)
          have hne1 : vb ≠ ga1 := by rcases hat.out with h | h <;> (simp [Value.ownBlock] at h; omega)
          have hvb0 : vb < X12.heap.size := hvb.lt
          have own1 := hown'
          have hlt1 : ga1 < X12.heap.size := own_lt own1.out
          have hz : W0.heap.size ≤ X12.heap.size := hC.size
          clear hown' hgr hat own0
          refine hK.out _ _ ?_ (fun hHeld => ?_)
          · (try dsimp only); exact ⟨(cell_same (hC.block _ hlb) _).trans q0, (cell_same (hC.block _ hlb) _).trans q1, (cell_same (hC.block _ hlb) _).trans q2, (cell_same (hC.block _ hlb) _).trans q3⟩
          clear hK K
          try simp only [Array.reduceGetElem, Act.put, List.setIfInBounds_toArray, List.set_cons_zero, List.set_cons_succ]
          refine wpAnyH_ready (rs := [7]) (by kernel_rfl) (by simp) ?_
          refine AllReadyH.cons rfl (fun K hK => ?_) (AllReadyH.nil)
          · obtain ⟨va, X13, hrun, hown', hgr, hnil, hat⟩ := run_append_own_at (P := Tryd.prog) X12 W0.heap.size 23 23 30 i0 _ 4 48 Tryd.underlying23 hi.out hz0.out hz1.out hz2.out rfl (by decide) (.slice (some ⟨ga1, 0, none⟩) k ca1) k (flatE (es.take k)) own1.out ⟨vb, 0, none⟩ 1 1 (cellsE ⟨p, kind, mode, t⟩) rfl (box_news ⟨p, kind, mode, t⟩ hvb) (cellsE_one' _) (by unfold maxLen; omega) (by omega) hz
            skip
            obtain ⟨ga2, ca2, rfl, hloga2, hccga2, hmmga2⟩ := own_form hown' (fun e => by have := (hnil.1 e).1; cases this)
            replace hat := Lib.hid hat
            replace hgr := Lib.hid hgr
            replace hown' := Lib.hid hown'
            clear hnil
            refine step_append_runE rfl _ _ 23 23 rfl (.slice (some ⟨ga1, 0, none⟩) k ca1) (.slice (some ⟨vb, 0, none⟩) 1 1) (by simp [Act.eval, Act.put]) (by simp [Act.eval, Act.put]) hrun ?_
            clear hrun
            have hC' := hC
            have hC : Below W0.heap.size W0 X13 := Below.trans hC' ((Below.refl W0.heap.size X12).grown hgr.out hz (fun q hq => (own1.out.lt q hq).1))
            clear hC'
            have own2 := hown'
            have hlt2 : ga2 < X13.heap.size := own_lt own2.out
            have hz : W0.heap.size ≤ X13.heap.size := hC.size
            clear hown' hgr hat own1
            refine hK.out _ _ ?_ (fun hHeld => ?_)
            · (try dsimp only); exact ⟨(cell_same (hC.block _ hlb) _).trans q0, (cell_same (hC.block _ hlb) _).trans q1, (cell_same (hC.block _ hlb) _).trans q2, (cell_same (hC.block _ hlb) _).trans q3⟩
            clear hK K
            try simp only [Array.reduceGetElem, Act.put, List.setIfInBounds_toArray, List.set_cons_zero, List.set_cons_succ]
            refine wpAnyH_ready (rs := [11]) (by kernel_rfl) (by simp) ?_
            refine AllReadyH.cons rfl (fun K hK => ?_) (AllReadyH.nil)
            · obtain ⟨va, X14, hrun, hown', hgr, hnil, hat⟩ := run_append_own_at (P := Tryd.prog) X13 W0.heap.size 23 23 30 i0 _ 4 48 Tryd.underlying23 hi.out hz0.out hz1.out hz2.out rfl (by decide) (.slice (some ⟨ga2, 0, none⟩) (k + 1) ca2) (k + 1) (flatE (es.take k) ++ cellsE ⟨p, kind, mode, t⟩) own2.out AD (es.length - k) (c - k) (flatE (es.drop k)) (by rw [flatE_length, List.length_drop]) (hND.out _ hC) (flatE_one _) (by unfold maxLen; omega) (by omega) hz
              rw [show k + 1 + (es.length - k) = es.length + 1 by omega] at hown'
              obtain ⟨ga3, ca3, rfl, hloga3, hccga3, hmmga3⟩ := own_form hown' (fun e => by have := (hnil.1 e).1; cases this)
              replace hat := Lib.hid hat
              replace hgr := Lib.hid hgr
              replace hown' := Lib.hid hown'
              clear hnil
              refine step_append_runE rfl _ _ 23 23 rfl (.slice (some ⟨ga2, 0, none⟩) (k + 1) ca2) (.slice (some AD) (es.length - k) (c - k)) (by simp [Act.eval, Act.put]) (by simp [Act.eval, Act.put]) hrun ?_
              clear hrun
              have hC' := hC
              have hC : Below W0.heap.size W0 X14 := Below.trans hC' ((Below.refl W0.heap.size X13).grown hgr.out hz (fun q hq => (own2.out.lt q hq).1))
              clear hC'
              have own3 := hown'
              have hlt3 : ga3 < X14.heap.size := own_lt own3.out
              have hz : W0.heap.size ≤ X14.heap.size := hC.size
              clear hown' hgr hat own2
              refine hK.out _ _ ?_ (fun hHeld => ?_)
              · (try dsimp only); exact ⟨(cell_same (hC.block _ hlb) _).trans q0, (cell_same (hC.block _ hlb) _).trans q1, (cell_same (hC.block _ hlb) _).trans q2, (cell_same (hC.block _ hlb) _).trans q3⟩
              clear hK K
              try simp only [Array.reduceGetElem, Act.put, List.setIfInBounds_toArray, List.set_cons_zero, List.set_cons_succ]
              refine wpAnyH_take (i := 12) (v := ?_) rfl (by kernel_rfl) (by kernel_rfl) (by kernel_rfl) (fun _ _ _ h => h) (Or.inl ⟨by rfl, ?_⟩) (by assumption) ?_
              rotate_left
              · (intro w hSw; (try dsimp only at hSw); go_simp; try with_reducible rfl)
              try simp only [Array.reduceGetElem, Act.put, List.setIfInBounds_toArray, List.set_cons_zero, List.set_cons_succ]
              refine wpAnyH_take (i := 13) (v := ?_) rfl (by kernel_rfl) (by kernel_rfl) (by kernel_rfl) (fun _ _ _ h => h) (Or.inl ⟨by rfl, ?_⟩) (by assumption) ?_
              rotate_left
              · (intro w hSw; (try dsimp only at hSw); go_simp; try with_reducible rfl)
              try simp only [Array.reduceGetElem, Act.put, List.setIfInBounds_toArray, List.set_cons_zero, List.set_cons_succ]
              refine wpAnyH_done (by kernel_rfl) ?_ _
              try refine NoPanic.normal ?_
              (try dsimp only)
              clear hHeld
              go_wp2
              refine bodyPost_ret (v := .tuple #[.slice (some ⟨ga3, 0, none⟩) (es.length + 1) ca3, .bool true]) (by simp [results, Tryd.results27, go_sem]) rfl ?_
              rw [putL_ins hen.out hpl.out hth.out ha.out h16]
              exact ⟨ga3, ca3, by rw [insE_length _ hkl], (own_ins rfl hkl rfl own3.out).lower hC0s, hC0.trans (hC.mono hC0s)⟩
  · obtain ⟨hk0, -⟩ := there_iff.1 hth.out
    have hak := ha.out
    have hk : k < es.length := by omega
    have hkI : (k : Int) < (es.length : Int) := by omega
    clear hk0 hak
    rw [hth.out]
    obtain ⟨c0, c1, c2, c3'⟩ := hE5.out.2 k hk
    by_cases hkd : es[k].kind = kind
    case neg =>
      have hkb : (es[k].kind != kind) = true := by simp [hkd]
      replace hkd := Lib.hid hkd
      go_wp2_with fail
      go_region
      all_goals go_wp2
      all_goals refine bodyPost_ret (v := .tuple #[.slice (some ⟨g3, 0, none⟩) es.length c3, .bool false]) (by simp [results, Tryd.results27, go_sem]) rfl ?_
      all_goals rw [putL_kind hth.out ha.out hk hkd.out]
      all_goals exact ⟨g3, c3, rfl, hR5.out.lower (by omega), hC5.drew⟩
    have hkb : (es[k].kind != kind) = false := by simp [hkd]
    replace hkd := Lib.hid hkd
    obtain ⟨r0, x0⟩ := hR5.out.parts.1.room (j := k * 4) (by omega)
    obtain ⟨r1, x1⟩ := hR5.out.parts.1.room (j := k * 4 + 1) (by omega)
    obtain ⟨r2, x2⟩ := hR5.out.parts.1.room (j := k * 4 + 2) (by omega)
    obtain ⟨r3, x3⟩ := hR5.out.parts.1.room (j := k * 4 + 3) (by omega)
    have f0 := hR5.out.parts.1.frozen (k * 4)
    have f1 := hR5.out.parts.1.frozen (k * 4 + 1)
    have f2 := hR5.out.parts.1.frozen (k * 4 + 2)
    have f3 := hR5.out.parts.1.frozen (k * 4 + 3)
    have hset := Lib.hid (hR5.out.parts.1.setAt ⟨p, kind, mode, t⟩ hk hnc3)
    go_wp2_with fail
    go_region
    all_goals go_wp2
    all_goals refine bodyPost_ret (v := .tuple #[.slice (some ⟨g3, 0, none⟩) es.length c3, .bool true]) (by simp [results, Tryd.results27, go_sem]) rfl ?_
    all_goals rw [putL_set hen.out hpl.out hth.out ha.out hk hkd.out]
    all_goals exact ⟨g3, c3, by rw [List.length_set], OwnR.of hset.out (by omega) (by rw [List.length_set]; exact hnc3) (by unfold maxLen; omega), ((((hC5.setCell (p := ⟨g3, k * 4, none⟩) (by simp; omega) _).setCell (p := ⟨g3, k * 4 + 1, none⟩) (by simp; omega) _).setCell (p := ⟨g3, k * 4 + 2, none⟩) (by simp; omega) _).setCell (p := ⟨g3, k * 4 + 3, none⟩) (by simp; omega) _).drew⟩
theorem ResN.e {x : List En × Bool} {w : World} {r : Ending} {w' : World} (h : ResN x w r w') : ResE x w r w' := by
  obtain ⟨g, c, h1, h2, h3⟩ := h
  exact ⟨some ⟨g, 0, none⟩, c, h1, h2.own, h3⟩

end Go.Proofs.YtiknkjhdieepbaaDoor
