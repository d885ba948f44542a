/-
  The walks of the reference's l2Needed and TreePart.
-/
import Derived.Test.YtiknkjhdieepbaaDoorPartK
import Derived.Test.YtiknkjhdieepbaaDoorGJ
import Derived.Test.YtiknkjhdieepbaaDoorGK
import Derived.Test.YtiknkjhdieepbaaDoorLawX
import Derived.Test.YtiknkjhdieepbaaDoorGE
import Derived.Test.YtiknkjhdieepbaaDoorNilE
namespace Go.Proofs.YtiknkjhdieepbaaDoor
open Go.RowKit
set_option linter.unusedVariables false
set_option linter.unusedSimpArgs false
attribute [local go_sem] mkB_size mkB_extract mkB_get mkB_append mkB_append_raw raw_append_mkB mkB_toList

theorem any_step {f : En → Bool} {es : List En} {k : Nat} (h : k < es.length) {b : Bool} (h0 : (es.take k).any f = false) (hb : f es[k] = b) : (es.take (k + 1)).any f = b := by
  rw [List.take_succ_eq_append_getElem h, List.any_append, h0, List.any_cons, List.any_nil, hb]; simp
theorem any_at {f : En → Bool} {es : List En} {k : Nat} (h : k < es.length) (hb : f es[k] = true) : es.any f = true := List.any_eq_true.2 ⟨es[k], List.getElem_mem h, hb⟩
set_option maxRecDepth 1000000 in
set_option maxHeartbeats 16000000 in
theorem l2Needed_any (es : List En) (l p : List UInt8) (g c : Nat) (w : World) (hE : Ents w g es) (hsm : Small es) (hl : l.length ≤ 1048576) (hp : p.length ≤ 1048576) :
    Calls Tryd.prog 26 #[.slice (some ⟨g, 0, none⟩) es.length c, .string (mkB l), .string (mkB p)] w fun r w' => r = .returned (.bool (es.any (fun o => below p o.path && globHas l o.path))) ∧ Below w.heap.size w w' := by
  have hEh := Lib.hid hE
  have hsh := Lib.hid hsm
  have hg := hE.1
  have hlen := hsm.1
  obtain ⟨f, hf⟩ : ∃ x, (fun o : En => below p o.path && globHas l o.path) = x := ⟨_, rfl⟩
  have hfa : Hid (∀ o : En, f o = (below p o.path && globHas l o.path)) := Lib.hid (fun o => by rw [← hf])
  rw [hf]
  clear hE hsm hf
  go_enter Tryd.func26, Tryd.ntmps26
  go_wp2
  go_loopw [7] (fun ii wr => ∃ k : Nat, k ≤ es.length ∧ ii = .int .i64 k ∧ Hid ((es.take k).any f = false) ∧ Below w.heap.size w wr) (fun ii _ => es.length - (intOf ii).toNat)
  case atStart => exact ⟨0, Nat.zero_le _, rfl, Lib.hid (by simp), Below.refl _ _⟩
  case round =>
    obtain ⟨k, hk, rfl, hno, hB1⟩ := hrel
    by_cases hlt : k < es.length
    · obtain ⟨d0, d1, d2, d3⟩ := (hEh.out.below hB1 hg).2 k hlt
      have hkI : (k : Int) < (es.length : Int) := by omega
      have hpl := (hsh.out.2 k hlt).1
      have hfk := hfa.out es[k]
      rcases boolOf (below p es[k].path) with hb | hb
      · rw [hb.out, Bool.false_and] at hfk
        have hnx := Lib.hid (any_step hlt hno.out hfk)
        replace hfk := Lib.hid hfk
        go_wp2_with (go_at_call 48; refine (l1Below_any p es[k].path (by omega) (by omega) _).mono ?_; rintro r w2 ⟨rfl, rfl⟩; rw [hb.out])
        go_round
        case rel => exact ⟨k + 1, by omega, by go_num, hnx, hB1⟩
        case measure => simp [intOf]; omega
      · rw [hb.out, Bool.true_and] at hfk
        rcases boolOf (globHas l es[k].path) with hq | hq
        · rw [hq.out] at hfk
          have hnx := Lib.hid (any_step hlt hno.out hfk)
          replace hfk := Lib.hid hfk
          go_wp2_with (first
            | (go_at_call 48; refine (l1Below_any p es[k].path (by omega) (by omega) _).mono ?_; rintro r w2 ⟨rfl, rfl⟩; rw [hb.out])
            | (go_at_call 25; refine (specGlobHas_any l es[k].path hl hpl _).mono ?_; rintro r w3 ⟨rfl, hB3⟩; rw [hq.out]))
          go_round
          case rel => exact ⟨k + 1, by omega, by go_num, hnx, hB1.trans (hB3.mono hB1.size)⟩
          case measure => simp [intOf]; omega
        · rw [hq.out] at hfk
          have hyes := Lib.hid (any_at hlt hfk)
          replace hfk := Lib.hid hfk
          go_wp2_with (first
            | (go_at_call 48; refine (l1Below_any p es[k].path (by omega) (by omega) _).mono ?_; rintro r w2 ⟨rfl, rfl⟩; rw [hb.out])
            | (go_at_call 25; refine (specGlobHas_any l es[k].path hl hpl _).mono ?_; rintro r w3 ⟨rfl, hB3⟩; rw [hq.out]))
          go_ret
          exact ⟨by rw [hyes.out]; rfl, hB1.trans (hB3.mono hB1.size)⟩
    · obtain rfl : k = es.length := by omega
      have hno2 := hno.out
      rw [List.take_length] at hno2
      replace hno2 := Lib.hid hno2
      go_wp2
      go_ret
      exact ⟨by rw [hno2.out]; rfl, hB1⟩

/-- what TreePart hands back: it may be written, and it may be handed on -/
def ResG (fs : List En) (w : World) (r : Ending) (w' : World) : Prop := ∃ A c', r = .returned (.slice A fs.length c') ∧ OwnE w' w.heap.size A fs ∧ InE w' A c' fs ∧ Below w.heap.size w w'
theorem ResG.of {fs : List En} {w w' : World} {v : Value} {n : Nat} (h : w'.ownsRow w.heap.size 30 4 v n (flatE fs)) (hn : n = fs.length) (hB : Below w.heap.size w w') : ResG fs w (.returned v) w' := by
  by_cases hv : v = .slice none 0 0
  · subst hv
    have h0 : n = 0 := by
      obtain ⟨_, h | ⟨g', cap', cur, hv, _⟩⟩ := h
      · exact h.2
      · cases hv
    have hf : fs = [] := List.length_eq_zero_iff.1 (by omega)
    subst hf
    exact ⟨none, 0, rfl, .inl rfl, .inl ⟨rfl, rfl, rfl⟩, hB⟩
  · obtain ⟨g1, c1, rfl, hgg, hnc, hm⟩ := own_form h hv
    have hRR := RowE.of_own h
    subst hn
    exact ⟨some ⟨g1, 0, none⟩, c1, rfl, .inr ⟨g1, c1, rfl, hgg, hnc, hRR⟩, InE.of hRR.ents hnc, hB⟩
theorem ResG.f1 {fs : List En} {w w' : World} {r : Ending} (h : ResG fs w r w') : ResF1 fs w r w' := by
  obtain ⟨A, c', h1, h2, _, h4⟩ := h
  exact ⟨A, c', h1, h2, h4⟩
theorem ResF1.of {fs : List En} {w w' : World} {v : Value} {n : Nat} (h : w'.ownsRow w.heap.size 30 4 v n (flatE fs)) (hn : n = fs.length) (hB : Below w.heap.size w w') : ResF1 fs w (.returned v) w' := (ResG.of h hn hB).f1
set_option maxRecDepth 1000000 in
set_option maxHeartbeats 16000000 in
theorem specTreePart_row (es : List En) (l : List UInt8) (g c : Nat) (w : World) (hE : Ents w g es) (hsm : Small es) (hl : l.length ≤ 1048576) :
    Calls Tryd.prog 13 #[.slice (some ⟨g, 0, none⟩) es.length c, .string (mkB l)] w (fun r w' => ∃ g1 c1, r = .returned (.slice (some ⟨g1, 0, none⟩) (treePart es l).length c1) ∧ OwnR w' w.heap.size g1 c1 (treePart es l) ∧ Below w.heap.size w w') := by
  have hEh := Lib.hid hE
  have hsh := Lib.hid hsm
  have hg := hE.1
  have hlen := hsm.1
  clear hE hsm
  obtain ⟨i0, hi, hz0, hz1, hz2⟩ := info_parts infoE
  replace hi := Lib.hid hi
  replace hz0 := Lib.hid hz0
  replace hz1 := Lib.hid hz1
  replace hz2 := Lib.hid hz2
  have hown0 := Lib.hid (World.ownsRow_made (base := w.heap.size) (e := 30) (size := 4) w #[] 0 (Nat.le_refl _) (by simp [maxLen]) rfl)
  go_enter Tryd.func13, Tryd.ntmps13
  go_wp2
  go_loopw [5, 6] (fun out ii wr => ∃ (k g1 n1 c1 : Nat), k ≤ es.length ∧ (0 < k → treeOk es = true) ∧ ii = .int .i64 k ∧ out = .slice (some ⟨g1, 0, none⟩) n1 c1 ∧ Hid (n1 = ((es.take k).filter (wanted es l)).length) ∧ n1 ≤ k ∧ Hid (wr.ownsRow w.heap.size 30 4 (.slice (some ⟨g1, 0, none⟩) n1 c1) n1 (flatE ((es.take k).filter (wanted es l)))) ∧ Below w.heap.size w wr) (fun _ ii _ => es.length - (intOf ii).toNat)
  case atStart => exact ⟨0, w.heap.size, 0, 0, Nat.zero_le _, fun h => absurd h (Nat.lt_irrefl 0), rfl, rfl, Lib.hid (by simp), Nat.le_refl _, Lib.hid (by simpa [flatE] using hown0.out), (Below.refl _ _).alloc (Nat.le_refl _) _⟩
  case round =>
    clear hown0
    obtain ⟨k, g1, n1, c1, hk, hkt, rfl, rfl, hn1, hnk, hown, hB1⟩ := hrel
    replace hkt := Lib.hid hkt
    by_cases hlt : k < es.length
    · have hkI : (k : Int) < (es.length : Int) := by omega
      have hpl := (hsh.out.2 k hlt).1
      have hE1 := Lib.hid (hEh.out.below hB1 hg)
      go_wp2_with fail
      with_reducible refine (specTreeOk_any es g c wr hE1.out hsh.out).mono ?_
      rintro r w2 ⟨rfl, hB⟩
      have hC2 := hB1.trans (hB.mono hB1.size)
      have hE2 := Lib.hid (hEh.out.below hC2 hg)
      have hown2 := Lib.hid (own_below hown.out hB)
      clear hB hE1 hown
      rcases boolOf (treeOk es) with hok | hok
      · rw [hok.out]
        have hk0 : k = 0 := by
          rcases Nat.eq_zero_or_pos k with h | h
          · exact h
          · have := hkt.out h; rw [hok.out] at this; cases this
        subst hk0
        have hR := hown2.out
        rw [List.take_zero, List.filter_nil] at hR
        obtain rfl : n1 = 0 := by omega
        have hbad := Lib.hid (treePart_bad (g := l) hok.out)
        replace hR := Lib.hid hR
        go_wp2
        go_ret
        rw [hbad.out]
        exact ⟨g1, c1, rfl, hR.out, hC2⟩
      rw [hok.out]
      obtain ⟨d0, d1, d2, d3⟩ := hE2.out.2 k hlt
      have hws := wanted_spec hok.out l (List.getElem_mem hlt)
      have hnx := filter_take (q := wanted es l) hlt
      rcases boolOf (globHas l es[k].path) with hq | hq
      · rw [hq.out, Bool.false_or] at hws
        by_cases hk1 : es[k].kind = 1
        · have hwd : wanted es l es[k] = es.any (fun o => below es[k].path o.path && globHas l o.path) := rfl
          rcases boolOf (wanted es l es[k]) with hw | hw
          · rw [hw.out] at hnx hwd
            replace hwd := Lib.hid hwd
            replace hnx := Lib.hid hnx
            clear hws
            go_wp2_with fail
            with_reducible refine (specGlobHas_any l es[k].path hl hpl _).mono ?_
            rintro r w3 ⟨rfl, hB⟩
            clear d0 d1 d2 d3
            have hC3 := hC2.trans (hB.mono hC2.size)
            have hE3 := Lib.hid (hEh.out.below hC3 hg)
            have hown3 := Lib.hid (own_below hown2.out hB)
            clear hB hE2 hown2
            obtain ⟨d0, d1, d2, d3⟩ := hE3.out.2 k hlt
            rw [hq.out]
            go_wp2_with fail
            with_reducible refine (l2Needed_any es l es[k].path g c w3 hE3.out hsh.out hl hpl).mono ?_
            rintro r w4 ⟨rfl, hB⟩
            clear d0 d1 d2 d3
            have hC4 := hC3.trans (hB.mono hC3.size)
            have hE4 := Lib.hid (hEh.out.below hC4 hg)
            have hown4 := Lib.hid (own_below hown3.out hB)
            clear hB hE3 hown3
            obtain ⟨d0, d1, d2, d3⟩ := hE4.out.2 k hlt
            rw [← hwd.out]
            go_wp2
            go_round
            case rel => exact ⟨k + 1, g1, n1, c1, by omega, fun _ => hok.out, by go_num, rfl, Lib.hid (by rw [hnx.out]; simpa using hn1.out), by omega, Lib.hid (by rw [hnx.out]; simpa using hown4.out), hC4⟩
            case measure => simp [intOf]; omega
          · replace hnx : (es.take (k + 1)).filter (wanted es l) = (es.take k).filter (wanted es l) ++ [es[k]] := by rw [hnx, hw.out]; rfl
            rw [hw.out] at hwd
            replace hwd := Lib.hid hwd
            replace hnx := Lib.hid hnx
            clear hws
            go_wp2_with fail
            with_reducible refine (specGlobHas_any l es[k].path hl hpl _).mono ?_
            rintro r w3 ⟨rfl, hB⟩
            clear d0 d1 d2 d3
            have hC3 := hC2.trans (hB.mono hC2.size)
            have hE3 := Lib.hid (hEh.out.below hC3 hg)
            have hown3 := Lib.hid (own_below hown2.out hB)
            clear hB hE2 hown2
            obtain ⟨d0, d1, d2, d3⟩ := hE3.out.2 k hlt
            rw [hq.out]
            go_wp2_with fail
            with_reducible refine (l2Needed_any es l es[k].path g c w3 hE3.out hsh.out hl hpl).mono ?_
            rintro r w4 ⟨rfl, hB⟩
            clear d0 d1 d2 d3
            have hC4 := hC3.trans (hB.mono hC3.size)
            have hE4 := Lib.hid (hEh.out.below hC4 hg)
            have hown4 := Lib.hid (own_below hown3.out hB)
            clear hB hE3 hown3
            obtain ⟨d0, d1, d2, d3⟩ := hE4.out.2 k hlt
            rw [← hwd.out]
            replace hk1 := Lib.hid hk1
            have h63 : n1 + 1 ≤ maxLen := by simp only [maxLen]; omega
            have hby : (n1 + 1) * 48 ≤ 140737488355328 := by omega
            have hbs := hC4.size
            have hone := Lib.hid (cellsE_one es[k])
            go_wp2_with (at_builtin; go_loud (refine wpList_push rfl _ _ 23 rfl w.heap.size 30 i0 _ 4 48 Tryd.underlying23 hi.out hz0.out hz1.out hz2.out rfl (by decide) w4 _ n1 (flatE ((es.take k).filter (wanted es l))) hown4.out rfl (cellsE es[k]) rfl rfl hone.out h63 hby hbs ?_); intro g5 c5 w5 hown5 hgr5 hB5 _)
            have hown6 : w5.ownsRow w.heap.size 30 4 (.slice (some ⟨g5, 0, none⟩) (n1 + 1) c5) (n1 + 1) (flatE ((es.take (k + 1)).filter (wanted es l))) := by rw [hnx.out, flatE_snoc]; exact hown5
            replace hown6 := Lib.hid hown6
            clear hown5 hgr5
            go_wp2
            go_round
            case rel => exact ⟨k + 1, g5, n1 + 1, c5, by omega, fun _ => hok.out, by go_num, rfl, Lib.hid (by rw [hnx.out, List.length_append, ← hn1.out]; rfl), by omega, hown6, hC4.trans hB5⟩
            case measure => simp [intOf]; omega
        · have hk2 : (es[k].kind == 1) = false := by simp [hk1]
          rw [hk2, Bool.false_and] at hws
          rw [hws] at hnx
          replace hnx := Lib.hid hnx
          clear hws hk2
          go_wp2_with fail
          with_reducible refine (specGlobHas_any l es[k].path hl hpl _).mono ?_
          rintro r w3 ⟨rfl, hB⟩
          clear d0 d1 d2 d3
          have hC3 := hC2.trans (hB.mono hC2.size)
          have hE3 := Lib.hid (hEh.out.below hC3 hg)
          have hown3 := Lib.hid (own_below hown2.out hB)
          clear hB hE2 hown2
          obtain ⟨d0, d1, d2, d3⟩ := hE3.out.2 k hlt
          rw [hq.out]
          go_wp2
          go_round
          case rel => exact ⟨k + 1, g1, n1, c1, by omega, fun _ => hok.out, by go_num, rfl, Lib.hid (by rw [hnx.out]; simpa using hn1.out), by omega, Lib.hid (by rw [hnx.out]; simpa using hown3.out), hC3⟩
          case measure => simp [intOf]; omega
      · rw [hq.out, Bool.true_or] at hws
        replace hnx : (es.take (k + 1)).filter (wanted es l) = (es.take k).filter (wanted es l) ++ [es[k]] := by rw [hnx, hws]; rfl
        replace hnx := Lib.hid hnx
        clear hws
        go_wp2_with fail
        with_reducible refine (specGlobHas_any l es[k].path hl hpl _).mono ?_
        rintro r w3 ⟨rfl, hB⟩
        clear d0 d1 d2 d3
        have hC3 := hC2.trans (hB.mono hC2.size)
        have hE3 := Lib.hid (hEh.out.below hC3 hg)
        have hown3 := Lib.hid (own_below hown2.out hB)
        clear hB hE2 hown2
        obtain ⟨d0, d1, d2, d3⟩ := hE3.out.2 k hlt
        rw [hq.out]
        have h63 : n1 + 1 ≤ maxLen := by simp only [maxLen]; omega
        have hby : (n1 + 1) * 48 ≤ 140737488355328 := by omega
        have hbs := hC3.size
        have hone := Lib.hid (cellsE_one es[k])
        go_wp2_with (at_builtin; go_loud (refine wpList_push rfl _ _ 23 rfl w.heap.size 30 i0 _ 4 48 Tryd.underlying23 hi.out hz0.out hz1.out hz2.out rfl (by decide) w3 _ n1 (flatE ((es.take k).filter (wanted es l))) hown3.out rfl (cellsE es[k]) rfl rfl hone.out h63 hby hbs ?_); intro g5 c5 w5 hown5 hgr5 hB5 _)
        have hown6 : w5.ownsRow w.heap.size 30 4 (.slice (some ⟨g5, 0, none⟩) (n1 + 1) c5) (n1 + 1) (flatE ((es.take (k + 1)).filter (wanted es l))) := by rw [hnx.out, flatE_snoc]; exact hown5
        replace hown6 := Lib.hid hown6
        clear hown5 hgr5
        go_wp2
        go_round
        case rel => exact ⟨k + 1, g5, n1 + 1, c5, by omega, fun _ => hok.out, by go_num, rfl, Lib.hid (by rw [hnx.out, List.length_append, ← hn1.out]; rfl), by omega, hown6, hC3.trans hB5⟩
        case measure => simp [intOf]; omega
    · obtain rfl : k = es.length := by omega
      have hfl : (es.take es.length).filter (wanted es l) = treePart es l := by
        rw [List.take_length]
        by_cases h0 : es = []
        · subst h0; unfold treePart; simp
        · rw [treePart_ok (hkt.out (List.length_pos_iff.2 h0))]
      have hnl : n1 = (treePart es l).length := by rw [hn1.out, hfl]
      have hR := hown.out
      rw [hfl] at hR
      replace hR := Lib.hid hR
      replace hfl := Lib.hid hfl
      replace hnl := Lib.hid hnl
      go_wp2
      go_ret
      exact ⟨g1, c1, by rw [hnl.out]; rfl, by unfold OwnR; rw [← hnl.out]; exact hR.out, hB1⟩
theorem specTreePart_any (es : List En) (l : List UInt8) (g c : Nat) (w : World) (hE : Ents w g es) (hsm : Small es) (hl : l.length ≤ 1048576) :
    Calls Tryd.prog 13 #[.slice (some ⟨g, 0, none⟩) es.length c, .string (mkB l)] w (ResF1 (treePart es l) w) := (specTreePart_row es l g c w hE hsm hl).mono fun r w' ⟨g1, c1, h1, h2, h3⟩ => by
  rw [h1]
  exact ResF1.of h2 rfl h3
end Go.Proofs.YtiknkjhdieepbaaDoor
