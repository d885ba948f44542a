/-
  The walks of the program's namesHave and GlobHas.
-/
import Derived.Test.YtiibodelcfmnpaaDoorGlobK
namespace Go.Proofs.YtiibodelcfmnpaaDoor
open Go.RowKit
set_option linter.unusedVariables false
set_option linter.unusedSimpArgs false
attribute [local go_sem] mkB_size mkB_extract mkB_get mkB_toList

set_option maxRecDepth 1000000 in
set_option maxHeartbeats 8000000 in
theorem namesHave_any : ∀ (N : Nat) (ys : List (Gn × Value)) (ns : List (List UInt8)) (g o c g' o' c' n m : Nat) (w : World), ys.length = n → ns.length = m → n + m ≤ N → n ≤ c → m ≤ c' → N ≤ 2097152 → Short ns → NamesRow w g o ys → g' < w.heap.size → StrsAt w g' o' ns →
    Calls Tryd.prog 28 #[.slice (some ⟨g, o, none⟩) n c, .slice (some ⟨g', o', none⟩) m c'] w (Grows (meets (names ys) ns) w) := by
  intro N
  induction N with
  | zero =>
    intro ys ns g o c g' o' c' n m w hn hm' hN hc hc' h20 hsn hG hgl' hS
    subst hn
    subst hm'
    obtain rfl : ys = [] := List.eq_nil_of_length_eq_zero (by omega)
    obtain rfl : ns = [] := List.eq_nil_of_length_eq_zero (by omega)
    clear hG hS
    go_enter Tryd.func28, Tryd.ntmps28
    go_wp2
    go_ret
    exact ⟨rfl, Below.refl _ _⟩
  | succ N ih =>
    intro ys ns g o c g' o' c' n m w hn hm' hN hc hc' h20 hsn hG hgl' hS
    subst hn
    subst hm'
    replace ih := Lib.hid ih
    have hgl := hG.1
    cases ys with
    | nil =>
      clear hG hS
      cases ns with
      | nil =>
        go_enter Tryd.func28, Tryd.ntmps28
        go_wp2
        go_ret
        exact ⟨rfl, Below.refl _ _⟩
      | cons d t =>
        have hlI : (((d :: t).length : Int) == 0) = false := by simp; omega
        go_enter Tryd.func28, Tryd.ntmps28
        go_wp2
        go_ret
        exact ⟨rfl, Below.refl _ _⟩
    | cons y r =>
      obtain ⟨⟨mn, qs⟩, f⟩ := y
      obtain ⟨q2, q0, hfn⟩ := hG.head
      simp only at q2 q0 hfn
      have hG' := Lib.hid hG.tail
      have hnil : r.length = 0 → NamesRow w g o r := fun h => by
        rw [List.eq_nil_of_length_eq_zero h]; exact NamesRow.nil hgl _
      simp only [List.length_cons] at hN hc ⊢
      have hGG := Lib.hid hG
      clear hG
      replace hnil := Lib.hid hnil
      replace hS := Lib.hid hS
      replace hsn := Lib.hid hsn
      have hnm : names ((⟨mn, qs⟩, f) :: r) = ⟨mn, qs⟩ :: names r := rfl
      rw [hnm]
      clear hnm
      cases mn with
      | true =>
        replace hfn := Lib.hid hfn
        cases ns with
        | nil =>
          rw [meets_many_nil]
          rcases boolOf (meets (names r) []) with hb | hb
          all_goals rw [hb.out]
          all_goals go_enter Tryd.func28, Tryd.ntmps28
          all_goals go_wp2_with fail
          all_goals first
            | with_reducible refine (ih.out r [] g (o + 2) _ g' _ _ r.length 0 _ rfl List.length_nil (by simp at hN; omega) (by omega) (by omega) (by omega) hsn.out hG'.out hgl' (StrsAt.nil _ _ _)).mono ?_
            | with_reducible refine (ih.out r [] g o _ g' _ _ r.length 0 _ rfl List.length_nil (by simp at hN; omega) (by omega) (by omega) (by omega) hsn.out (hnil.out (by omega)) hgl' (StrsAt.nil _ _ _)).mono ?_
          all_goals rintro e w1 ⟨rfl, hB1⟩
          all_goals rw [hb.out]
          all_goals go_wp2
          all_goals go_ret
          all_goals exact ⟨rfl, hB1⟩
        | cons d t =>
          rw [meets_many_cons]
          simp only [List.length_cons] at hN hc' ⊢
          have hN2 : r.length + 1 + t.length ≤ N := by omega
          have hsn2 : Short t := fun y hy => hsn.out y (by simp [hy])
          have hS2 := Lib.hid hS.out.tail
          have hSn : t.length = 0 → StrsAt w g' o' t := fun h => by
            rw [List.eq_nil_of_length_eq_zero h]; exact StrsAt.nil _ _ _
          replace hSn := Lib.hid hSn
          replace hsn2 := Lib.hid hsn2
          have hnm : meets (⟨true, qs⟩ :: names r) t = meets (names ((⟨true, qs⟩, f) :: r)) t := rfl
          rcases boolOf (meets (names r) (d :: t)) with hb | hb
          case inr =>
            rw [hb.out]
            clear hnm
            go_enter Tryd.func28, Tryd.ntmps28
            go_wp2_with fail
            all_goals first
              | with_reducible refine (ih.out r (d :: t) g (o + 2) _ g' _ _ r.length (t.length + 1) _ rfl List.length_cons (by omega) (by omega) (by omega) (by omega) hsn.out hG'.out hgl' hS.out).mono ?_
              | with_reducible refine (ih.out r (d :: t) g o _ g' _ _ r.length (t.length + 1) _ rfl List.length_cons (by omega) (by omega) (by omega) (by omega) hsn.out (hnil.out (by omega)) hgl' hS.out).mono ?_
            all_goals rintro e w1 ⟨rfl, hB1⟩
            all_goals rw [hb.out]
            all_goals go_wp2
            all_goals go_ret
            all_goals exact ⟨rfl, hB1⟩
          rw [hb.out, hnm]
          clear hnm
          rcases boolOf (meets (names ((⟨true, qs⟩, f) :: r)) t) with hb2 | hb2
          all_goals rw [hb2.out]
          all_goals go_enter Tryd.func28, Tryd.ntmps28
          all_goals go_wp2_with fail
          all_goals first
            | with_reducible refine (ih.out r (d :: t) g (o + 2) _ g' _ _ r.length (t.length + 1) _ rfl List.length_cons (by omega) (by omega) (by omega) (by omega) hsn.out hG'.out hgl' hS.out).mono ?_
            | with_reducible refine (ih.out r (d :: t) g o _ g' _ _ r.length (t.length + 1) _ rfl List.length_cons (by omega) (by omega) (by omega) (by omega) hsn.out (hnil.out (by omega)) hgl' hS.out).mono ?_
          all_goals rintro e w1 ⟨rfl, hB1⟩
          all_goals have hS3 := Lib.hid (hS2.out.belowW hgl' hB1)
          all_goals have hSn3 := Lib.hid (fun h => (hSn.out h).belowW hgl' hB1)
          all_goals have hG3 := Lib.hid (hGG.out.below hB1)
          all_goals have hgl3 := Nat.lt_of_lt_of_le hgl' hB1.size
          all_goals rw [hb.out]
          all_goals go_wp2_with fail
          all_goals first
            | with_reducible refine (ih.out ((⟨true, qs⟩, f) :: r) t g o _ g' (o' + 1) _ (r.length + 1) t.length _ List.length_cons rfl (by omega) (by omega) (by omega) (by omega) hsn2.out hG3.out hgl3 hS3.out).mono ?_
            | with_reducible refine (ih.out ((⟨true, qs⟩, f) :: r) t g o _ g' o' _ (r.length + 1) t.length _ List.length_cons rfl (by omega) (by omega) (by omega) (by omega) hsn2.out hG3.out hgl3 (hSn3.out (by omega))).mono ?_
          all_goals rintro e w2 ⟨rfl, hB2⟩
          all_goals rw [hb2.out]
          all_goals go_wp2
          all_goals go_ret
          all_goals exact ⟨rfl, hB1.trans (hB2.mono hB1.size)⟩
      | false =>
        cases ns with
        | nil =>
          rw [meets_one_nil]
          replace hfn := Lib.hid hfn
          go_enter Tryd.func28, Tryd.ntmps28
          go_wp2_with fail
          go_quiet (fail)
          go_wp2
          go_ret
          exact ⟨rfl, ⟨rfl, rfl, rfl, Nat.le_refl _, fun _ _ => rfl⟩⟩
        | cons d t =>
          rw [meets_one_cons]
          simp only [List.length_cons] at hN hc' ⊢
          have q1 := hS.out.head
          have hsn2 : Short t := fun y hy => hsn.out y (by simp [hy])
          have hdl : d.length ≤ 1048576 := hsn.out d (by simp)
          obtain ⟨gf, bs, rfl, eg, hcall⟩ := hfn
          have hcl := fun W' hW => hcall d W' hdl hW
          rcases boolOf (fits qs d) with hb | hb
          · rw [hb.out, Bool.false_and]
            rw [hb.out] at hcl
            exact namesHave_not false d d gf bs g o c g' o' c' _ _ w eg q2 q0 q1 hgl hgl' rfl (by omega) (by omega) hcl
          · rw [hb.out, Bool.true_and]
            rw [hb.out] at hcl
            have hS2 := hS.out.tail
            have hSn : t.length = 0 → StrsAt w g' o' t := fun h => by
              rw [List.eq_nil_of_length_eq_zero h]; exact StrsAt.nil _ _ _
            have hnx := fun g2 o2 c2 g3 o3 c3 w3 => ih.out r t g2 o2 c2 g3 o3 c3 r.length t.length w3 rfl rfl (by omega)
            by_cases hc1 : c = 1 <;> by_cases hc2 : c' = 1
            · subst hc1
              subst hc2
              exact namesHave_yes11 _ d d gf bs g o g' o' _ _ w eg q2 q0 q1 hgl hgl' (by omega) (by omega) (by omega) (by omega) hcl (fun W' hW => hnx g o 0 g' o' 0 W' (by omega) (by omega) (by omega) hsn2 ((hnil.out (by omega)).below hW) (Nat.lt_of_lt_of_le hgl' hW.size) ((hSn (by omega)).belowW hgl' hW))
            · subst hc1
              exact namesHave_yes10 _ d d gf bs g o g' o' c' _ _ w eg q2 q0 q1 hgl hgl' (by omega) hc2 hc' (by omega) (by omega) hcl (fun W' hW => hnx g o 0 g' (o' + 1) (c' - 1) W' (by omega) (by omega) (by omega) hsn2 ((hnil.out (by omega)).below hW) (Nat.lt_of_lt_of_le hgl' hW.size) (hS2.belowW hgl' hW))
            · subst hc2
              exact namesHave_yes01 _ d d gf bs g o c g' o' _ _ w eg q2 q0 q1 hgl hgl' hc1 hc (by omega) (by omega) (by omega) hcl (fun W' hW => hnx g (o + 2) (c - 1) g' o' 0 W' (by omega) (by omega) (by omega) hsn2 (hG'.out.below hW) (Nat.lt_of_lt_of_le hgl' hW.size) ((hSn (by omega)).belowW hgl' hW))
            · exact namesHave_yes00 _ d d gf bs g o c g' o' c' _ _ w eg q2 q0 q1 hgl hgl' hc1 hc hc2 hc' (by omega) (by omega) hcl (fun W' hW => hnx g (o + 2) (c - 1) g' (o' + 1) (c' - 1) W' (by omega) (by omega) (by omega) hsn2 (hG'.out.below hW) (Nat.lt_of_lt_of_le hgl' hW.size) (hS2.belowW hgl' hW))
set_option maxRecDepth 1000000 in
set_option maxHeartbeats 4000000 in
theorem GlobHas_any (l s : List UInt8) (hl : l.length ≤ 1048576) (hs : s.length ≤ 1048576) (w : World) :
    Calls Tryd.prog 15 #[.string (mkB l), .string (mkB s)] w fun e w' => e = .returned (.bool (globHas l s)) ∧ Below w.heap.size w w' := by
  have hsz : (mkB s).size ≤ 140737488355328 := by rw [mkB_size]; omega
  go_enter Tryd.func15, Tryd.ntmps15
  go_wp2_with fail
  refine (globNames_any l hl _).mono ?_
  rintro e w1 ⟨hB, ⟨hbad, v, rfl⟩ | ⟨ys, g, cap, hgood, rfl, hown, hall⟩⟩
  · have hk : globHas l s = false := globHas_no (by unfold globOk; rw [hbad]; rfl)
    replace hbad := Lib.hid hbad
    replace hk := Lib.hid hk
    go_wp2
    go_ret
    exact ⟨ret_bool (by rw [hk.out]), hB⟩
  obtain ⟨hN, hcap⟩ := NamesRow.own hown hall
  have hgood' := Lib.hid hgood
  have hyl : ys.length ≤ 5 := by
    obtain ⟨ps, h1, h2, h3, h4⟩ := globOk_parts (g := l) (by unfold globOk; rw [hgood]; rfl)
    rw [hgood] at h1
    cases h1
    have := globAll_length h2
    simp [names] at this
    omega
  clear hgood hown hall
  replace hN := Lib.hid hN
  rcases boolOf (pathOk s) with hp | hp
  · have hk := Lib.hid (globHas_path (g := l) hp.out)
    go_wp2_with fail
    refine (PathOk_any (mkB s) hsz _).mono ?_
    rintro e w2 ⟨rfl, hB2⟩
    rw [mkB_data, hp.out]
    go_wp2
    go_ret
    exact ⟨ret_bool (by rw [hk.out]), hB.trans (hB2.mono hB.size)⟩
  have hk := Lib.hid (globHas_is hgood'.out hp.out)
  go_wp2_with fail
  refine (PathOk_any (mkB s) hsz _).mono ?_
  rintro e w2 ⟨rfl, hB2⟩
  rw [mkB_data, hp.out]
  replace hN := Lib.hid (hN.out.below hB2)
  replace hB2 := hB.trans (hB2.mono hB.size)
  clear hB
  go_wp2_with fail
  refine (SplitSeq_any _ _ _).mono ?_
  rintro e w3 ⟨rfl, hw3⟩
  obtain ⟨z, hz0⟩ : ∃ z, w2.heap.size = z := ⟨_, rfl⟩
  rw [hz0]
  have hz : w3.heap.size = z + 3 := by rw [← hw3]; simp [hz0]
  have b3 : Boxed w3 z 9 (.string (mkB s)) := by rw [← hw3, ← hz0]; exact ((Boxed.new w2 _ _).alloc _).alloc _
  have b4 : Boxed w3 (z + 1) 9 (.string (mkB [47])) := by
    rw [← hw3, ← hz0]
    have h := Boxed.new (w2.alloc (.cells #[.string (mkB s)] 9)) 9 (.string (mkB [47]))
    simp only [World.size_alloc] at h
    exact h.alloc _
  have b5 : Boxed w3 (z + 1 + 1) 3 (.int .i64 0) := by
    rw [← hw3, ← hz0]
    have h := Boxed.new ((w2.alloc (.cells #[.string (mkB s)] 9)).alloc (.cells #[.string (mkB [47])] 9)) 3 (.int .i64 0)
    simp only [World.size_alloc] at h
    exact h
  have hB23 : Below z w2 w3 := by rw [← hw3, ← hz0]; exact (((Below.refl _ w2).alloc (Nat.le_refl _) _).alloc (by simp) _).alloc (by simp; omega) _
  clear hw3
  replace hz := Lib.hid hz
  have hcol := Lib.hid (Collect_any s hs z w3 b3 b4 b5)
  clear b3 b4 b5
  go_wp2_with fail
  refine hcol.out.mono ?_
  rintro e w4 ⟨⟨g2, cap2, rfl, hown2⟩, hB4⟩
  have hS := Lib.hid (strs_own hown2)
  obtain ⟨hcap2, hgl2⟩ := own_cap hown2
  have hB24 : Below w2.heap.size w2 w4 := by rw [hz0]; exact hB23.trans hB4
  have hN4 := Lib.hid (hN.out.below hB24)
  have hcs := Lib.hid (cut_sum 47 s)
  clear hown2 hB4 hB23
  have hBw : Below w.heap.size w w4 := hB2.trans (hB24.mono hB2.size)
  go_wp2_with fail
  refine (namesHave_any 1048582 ys (cut 47 s) g 0 cap g2 0 cap2 _ _ _ rfl rfl (by have := hcs.out; omega) hcap hcap2 (by omega) (short_cut hs) hN4.out hgl2 hS.out).mono ?_
  rintro e w5 ⟨rfl, hB5⟩
  go_wp2
  go_ret
  exact ⟨ret_bool (by rw [hk.out]), hBw.trans (hB5.mono hBw.size)⟩
end Go.Proofs.YtiibodelcfmnpaaDoor
