/-
  The law FnTreeJoin, walked.
-/
import Derived.Test.YtiknkjhdieepbaaDoorJsT
import Derived.Test.YtiknkjhdieepbaaDoorDrawJ
import Derived.Test.YtiknkjhdieepbaaDoorJoinN
import Derived.Test.YtiknkjhdieepbaaDoorJoinK
import Derived.Test.YtiknkjhdieepbaaDoorJoinS
import Derived.Test.YtiknkjhdieepbaaDoorGetN
import Derived.Test.YtiknkjhdieepbaaDoorLawD
import Derived.Test.YtiknkjhdieepbaaDoorPutC
namespace Go.Proofs.YtiknkjhdieepbaaDoor
open Go.RowKit
set_option linter.unusedVariables false
set_option linter.unusedSimpArgs false
attribute [local go_sem] mkB_size mkB_extract mkB_get mkB_append mkB_append_raw raw_append_mkB mkB_toList

theorem get_b {fs : List En} (ht : treeOk fs = true) {p : List UInt8} {b : Bool} (hw : there fs p = b) :
    ∃ p' k m t, entV (treeGet fs p) = .tuple #[.agg #[.string (mkB p'), .int .i64 k, .int .i64 m, .string (mkB t)], .bool b] := by
  cases b with
  | false => rw [treeGet_no hw]; exact ⟨[], 0, 0, [], rfl⟩
  | true =>
    have hk := (there_iff.1 hw).1
    rw [treeGet_yes ht (by omega) rfl hw]
    exact ⟨_, _, _, _, rfl⟩
theorem get_at {fs : List En} (ht : treeOk fs = true) {p : List UInt8} {e : En} (hw : getAt fs p = some e) : entV (treeGet fs p) = .tuple #[.agg #[.string (mkB e.path), .int .i64 e.kind, .int .i64 e.mode, .string (mkB e.text)], .bool true] := by
  unfold treeGet
  rw [if_pos ht, hw]
  rfl
theorem both_step {f : En → Bool} {es : List En} {k : Nat} (h : k < es.length) {b : Bool} (hb : f es[k] = b) : (es.take (k + 1)).countP f = (es.take k).countP f + (if b then 1 else 0) := by
  rw [List.take_succ_eq_append_getElem h, List.countP_append, List.countP_cons, List.countP_nil, hb]; simp
theorem join_false {a b x : List En} (h : treeJoin a b = (x, false)) : x = [] := by
  unfold treeJoin joinL at h
  split at h
  · split at h
    · split at h
      · cases h
      · cases h; rfl
    · cases h; rfl
  · cases h; rfl
theorem join_mem {a b x : List En} (h : treeJoin a b = (x, true)) : ∀ e ∈ x, e ∈ a ∨ e ∈ b := by
  obtain ⟨ha, hb, hj, hx⟩ := treeJoin_parts h
  rcases joinGo_cases b a (treeOk_is ha).sorted (treeOk_is hb).sorted with ⟨_, y, hy, hJ, _⟩ | ⟨_, hn⟩
  · rw [hj] at hy
    cases hy
    exact fun e he => (hJ.2 e).1 he
  · rw [hj] at hn; cases hn
theorem join_small {a b x : List En} {r : Bool} (h : treeJoin a b = (x, r)) (ha : DrT a) (hb : DrT b) : Small x ∧ x.length ≤ 34 := by
  cases r with
  | false => rw [join_false h]; exact ⟨⟨by simp, fun i h => by simp at h⟩, by simp⟩
  | true =>
    have hl := (join_law h).2.2.2.2
    have h1 := ha.1
    have h2 := hb.1
    refine ⟨dr_small (fun e he => ?_) (by omega), by omega⟩
    rcases join_mem h e he with h | h
    · exact ha.2 e h
    · exact hb.2 e h
set_option maxRecDepth 1000000 in
set_option maxHeartbeats 32000000 in
theorem law_FnTreeJoin (A0 : Option Addr) (n0 c0 : Nat) (w : World) (h0 : IsBytes w A0 n0 c0) :
    Calls Tryd.prog 3 #[.slice A0 n0 c0] w fun e w' => e = .returned (.bool true) ∧ Below w.heap.size w w' := by
  by_cases hn0 : n0 ≤ 1048576
  case neg =>
    go_enter Tryd.func3, Tryd.ntmps3
    go_wp2
    go_ret
    exact ⟨rfl, Below.refl _ _⟩
  go_enter Tryd.func3, Tryd.ntmps3
  go_wp2_with fail
  with_reducible refine (DrawTreeJoin_any A0 n0 c0 w h0).mono ?_
  rintro e w1 ⟨es, g, c, fs, gb, cb, hT, hTb, rfl, hO, hOb, hC⟩
  have hsm := dr_small hT.2 (by have := hT.1; omega)
  have hcap := hO.parts.2.2.1
  have hlo := hO.parts.2.1
  have hl17 := hT.1
  have hE := Lib.hid hO.parts.1.ents
  replace hsm := Lib.hid hsm
  replace hT := Lib.hid hT
  clear hO
  have hsmb := dr_small hTb.2 (by have := hTb.1; omega)
  have hcapb := hOb.parts.2.2.1
  have hlb17 := hTb.1
  have hEb := Lib.hid hOb.parts.1.ents
  replace hsmb := Lib.hid hsmb
  obtain ⟨⟨xs, r⟩, hx⟩ : ∃ x, treeJoin es fs = x := ⟨_, rfl⟩
  obtain ⟨hsx, hx34⟩ := join_small hx hT.out hTb
  have hxl : xs.length ≤ 1048576 := by omega
  replace hsx := Lib.hid hsx
  replace hx := Lib.hid hx
  clear hOb hTb hT
  go_wp2_with fail
  have hcl := TreeJoin_both es fs g c (some ⟨gb, 0, none⟩) cb w1 hE.out hsm.out hcap (InE.of hEb.out hcapb) hsmb.out
  rw [hx.out] at hcl
  refine hcl.mono ?_
  rintro e w2 ⟨A1, c1, rfl, hOX, hB, hI⟩
  clear hcl
  replace hC := hC.trans (hB.mono hC.size)
  replace hE := Lib.hid (hE.out.below hB hE.out.1)
  replace hEb := Lib.hid (hEb.out.below hB hEb.out.1)
  clear hB
  clear hOX
  replace hI : InE w2 A1 c1 xs := hI
  replace hI := Lib.hid hI
  go_wp2_with fail
  have hcl := specTreeJoin_any es fs g c gb cb w2 hE.out hsm.out hEb.out hsmb.out
  rw [hx.out] at hcl
  refine hcl.mono ?_
  rintro e w3 ⟨A2, c2, rfl, hS, hB⟩
  clear hcl
  replace hC := hC.trans (hB.mono hC.size)
  replace hE := Lib.hid (hE.out.below hB hE.out.1)
  replace hEb := Lib.hid (hEb.out.below hB hEb.out.1)
  replace hI := Lib.hid (hI.out.below hB)
  clear hB
  replace hS : OwnE w3 w2.heap.size A2 xs := hS
  replace hS := Lib.hid hS
  rcases boolOf r with hr | hr
  · have hr2 := hr.out
    subst hr2
    clear hr
    go_wp2_with fail
    with_reducible refine (jsTree_sl xs _ _ _ _ w3 hI.out.sl hS.out.sl hxl).mono ?_
    rintro e w4 ⟨rfl, hB⟩
    replace hC := hC.trans (hB.mono hC.size)
    replace hE := Lib.hid (hE.out.below hB hE.out.1)
    replace hEb := Lib.hid (hEb.out.below hB hEb.out.1)
    replace hI := Lib.hid (hI.out.below hB)
    replace hS := Lib.hid (hS.out.below hB)
    clear hB
    go_wp2_with fail
    with_reducible refine (jsTree_sl xs _ _ _ _ w4 hI.out.sl hS.out.sl hxl).mono ?_
    rintro e w5 ⟨rfl, hB⟩
    replace hC := hC.trans (hB.mono hC.size)
    replace hE := Lib.hid (hE.out.below hB hE.out.1)
    replace hEb := Lib.hid (hEb.out.below hB hEb.out.1)
    replace hI := Lib.hid (hI.out.below hB)
    replace hS := Lib.hid (hS.out.below hB)
    clear hB
    go_wp2
    go_ret
    exact ⟨rfl, hC⟩
  have hr2 := hr.out
  subst hr2
  clear hr
  obtain ⟨hox, hxr, hga, hgb, hcnt⟩ := join_law hx.out
  obtain ⟨_, hof, _, _⟩ := treeJoin_parts hx.out
  replace hox := Lib.hid hox
  replace hof := Lib.hid hof
  replace hxr := Lib.hid hxr
  replace hga := Lib.hid hga
  replace hgb := Lib.hid hgb
  replace hcnt := Lib.hid hcnt
  go_wp2_with fail
  with_reducible refine (jsTree_sl xs _ _ _ _ w3 hI.out.sl hS.out.sl hxl).mono ?_
  rintro e w4 ⟨rfl, hB⟩
  replace hC := hC.trans (hB.mono hC.size)
  replace hE := Lib.hid (hE.out.below hB hE.out.1)
  replace hEb := Lib.hid (hEb.out.below hB hEb.out.1)
  replace hI := Lib.hid (hI.out.below hB)
  replace hS := Lib.hid (hS.out.below hB)
  clear hB
  clear hS
  go_wp2_with fail
  have hcl := TreeJoin_any fs es gb cb (some ⟨g, 0, none⟩) c w4 hEb.out hsmb.out hcapb (InE.of hE.out hcap) hsm.out
  rw [hxr.out] at hcl
  refine hcl.mono ?_
  rintro e w5 ⟨A3, c3, rfl, hY, hB⟩
  clear hcl
  replace hC := hC.trans (hB.mono hC.size)
  replace hE := Lib.hid (hE.out.below hB hE.out.1)
  replace hEb := Lib.hid (hEb.out.below hB hEb.out.1)
  replace hI := Lib.hid (hI.out.below hB)
  clear hB
  obtain ⟨lo3, hY⟩ : ∃ lo, Hid (OwnE w5 lo A3 xs) := ⟨_, Lib.hid hY⟩
  go_wp2
  go_loopw [11, 12] (fun bo ii wr => ∃ k : Nat, k ≤ es.length ∧ ii = .int .i64 k ∧ bo = .int .i64 (((es.take k).countP (fun e => there fs e.path) : Nat) : Int) ∧ Hid (Ents wr g es) ∧ Hid (Ents wr gb fs) ∧ Hid (InE wr A1 c1 xs) ∧ Hid (OwnE wr lo3 A3 xs) ∧ Below w.heap.size w wr) (fun _ ii _ => es.length - (intOf ii).toNat)
  case atStart => exact ⟨0, Nat.zero_le _, rfl, rfl, hE, hEb, hI, hY, hC⟩
  case round =>
    clear hE hEb hI hY hC
    obtain ⟨k, hk, rfl, rfl, hE, hEb, hI, hY, hC⟩ := hrel
    by_cases hlt : k < es.length
    · have hkI : (k : Int) < (es.length : Int) := by omega
      obtain ⟨d0, d1, d2, d3⟩ := hE.out.2 k hlt
      have hpl := (hsm.out.2 k hlt).1
      have hgv := get_at hox.out (hga.out _ (List.getElem_mem hlt))
      have hst := fun b (hb : there fs es[k].path = b) => both_step (f := fun e => there fs e.path) hlt hb
      obtain ⟨x, hxk⟩ : ∃ x, es[k] = x := ⟨_, rfl⟩
      rw [hxk] at d0 d1 d2 d3 hpl hgv hst
      replace hxk := Lib.hid hxk
      obtain ⟨p, kind, mode, t⟩ := x
      simp only at d0 d1 d2 d3 hpl hgv hst
      replace hgv := Lib.hid hgv
      replace hst := Lib.hid hst
      go_wp2_with fail
      with_reducible refine (TreeGet_in xs p A1 c1 wr hI.out hsx.out hpl).mono ?_
      rintro r w2 ⟨rfl, hB⟩
      replace hC := hC.trans (hB.mono hC.size)
      replace hE := Lib.hid (hE.out.below hB hE.out.1)
      replace hEb := Lib.hid (hEb.out.below hB hEb.out.1)
      replace hI := Lib.hid (hI.out.below hB)
      replace hY := Lib.hid (hY.out.below hB)
      clear hB d0 d1 d2 d3
      rw [hgv.out]
      have hnq := neqD_cells p p kind mode kind mode t t (sameE_refl _)
      have hgd := fun op x y => guardD_cells op x y p p kind mode kind mode t t
      go_wp2_with fail
      obtain ⟨w3, hW⟩ : ∃ X, w2.alloc (.cells #[.string (mkB p), .int .i64 kind, .int .i64 mode, .string (mkB t)] 30) = X := ⟨_, rfl⟩
      have hB : Below w2.heap.size w2 w3 := by rw [← hW]; exact (Below.refl _ _).alloc (Nat.le_refl _) _
      obtain ⟨xb, hxb⟩ : ∃ x, w2.heap.size = x := ⟨_, rfl⟩
      have hnn : Box4 w3 xb 30 (.string (mkB p)) (.int .i64 kind) (.int .i64 mode) (.string (mkB t)) := by rw [← hW, ← hxb]; exact Box4.new _ _ _ _ _ _
      have hE3 := hE.out.below hB hE.out.1
      have hEb3 := hEb.out.below hB hEb.out.1
      have hI3 := Lib.hid (hI.out.below hB)
      have hY3 := Lib.hid (hY.out.below hB)
      have hC3 := hC.trans (hB.mono hC.size)
      obtain ⟨d0, d1, d2, d3⟩ := hE3.2 k hlt
      rw [hxk.out] at d0 d1 d2 d3
      simp only at d0 d1 d2 d3
      have nwc0 := hnn.cell0
      have nwc1 := hnn.cell1
      have nwc2 := hnn.cell2
      have nwc3 := hnn.cell3
      replace hE3 := Lib.hid hE3
      replace hEb3 := Lib.hid hEb3
      rw [hW, hxb]
      clear hgv hnn hW hB hxb hE hEb hI hY hC
      go_region
      go_wp2_with fail
      have hgbl := hEb3.out.1
      with_reducible refine (TreeGet_in fs p (some ⟨gb, 0, none⟩) cb _ (InE.of (hEb3.out.below (Below.refl _ _).drew hgbl) hcapb) hsmb.out hpl).mono ?_
      rintro r w4 ⟨rfl, hB⟩
      replace hB := (Below.refl w3.heap.size w3).drew.trans hB
      replace hC3 := hC3.trans (hB.mono hC3.size)
      replace hE3 := Lib.hid (hE3.out.below hB hE3.out.1)
      replace hEb3 := Lib.hid (hEb3.out.below hB hEb3.out.1)
      replace hI3 := Lib.hid (hI3.out.below hB)
      replace hY3 := Lib.hid (hY3.out.below hB)
      clear hB d0 d1 d2 d3 nwc0 nwc1 nwc2 nwc3 hnq hgd
      rcases boolOf (there fs p) with hb | hb
      · have hsb := Lib.hid (hst.out false hb.out)
        obtain ⟨p', k', m', t', hv⟩ := get_b hof.out hb.out
        rw [hv]
        have hBn : Below w4.heap.size w4 (w4.alloc (.cells #[.string (mkB p'), .int .i64 k', .int .i64 m', .string (mkB t')] 30)) := (Below.refl _ _).alloc (Nat.le_refl _) _
        replace hE3 := Lib.hid (hE3.out.below hBn hE3.out.1)
        replace hEb3 := Lib.hid (hEb3.out.below hBn hEb3.out.1)
        replace hI3 := Lib.hid (hI3.out.below hBn)
        replace hY3 := Lib.hid (hY3.out.below hBn)
        replace hC3 := hC3.trans (hBn.mono hC3.size)
        clear hv hBn hst hb
        go_wp2
        go_round
        case rel => exact ⟨k + 1, by omega, by go_num, by rw [hsb.out]; simp, hE3, hEb3, hI3, hY3, hC3⟩
        case measure => simp [intOf]; omega
      · have hsb := Lib.hid (hst.out true hb.out)
        have hcl : (es.take k).countP (fun e => there fs e.path) ≤ 17 := by have := List.countP_le_length (p := fun e => there fs e.path) (l := es.take k); rw [List.length_take] at this; omega
        obtain ⟨p', k', m', t', hv⟩ := get_b hof.out hb.out
        rw [hv]
        have hBn : Below w4.heap.size w4 (w4.alloc (.cells #[.string (mkB p'), .int .i64 k', .int .i64 m', .string (mkB t')] 30)) := (Below.refl _ _).alloc (Nat.le_refl _) _
        replace hE3 := Lib.hid (hE3.out.below hBn hE3.out.1)
        replace hEb3 := Lib.hid (hEb3.out.below hBn hEb3.out.1)
        replace hI3 := Lib.hid (hI3.out.below hBn)
        replace hY3 := Lib.hid (hY3.out.below hBn)
        replace hC3 := hC3.trans (hBn.mono hC3.size)
        clear hv hBn hst hb
        go_wp2
        go_round
        case rel => exact ⟨k + 1, by omega, by go_num, by rw [hsb.out]; go_num, hE3, hEb3, hI3, hY3, hC3⟩
        case measure => simp [intOf]; omega
    · obtain rfl : k = es.length := by omega
      rw [List.take_length]
      obtain ⟨m, hm⟩ : ∃ m, es.countP (fun e => there fs e.path) = m := ⟨_, rfl⟩
      have hcm := hcnt.out
      rw [hm] at hcm ⊢
      replace hm := Lib.hid hm
      have hm17 : m ≤ 34 := by have := hm.out; have := List.countP_le_length (p := fun e => there fs e.path) (l := es); omega
      clear hga
      go_wp2
      go_loopw [17] (fun ii wr => ∃ k : Nat, k ≤ fs.length ∧ ii = .int .i64 k ∧ Hid (Ents wr g es) ∧ Hid (Ents wr gb fs) ∧ Hid (InE wr A1 c1 xs) ∧ Hid (OwnE wr lo3 A3 xs) ∧ Below w.heap.size w wr) (fun ii _ => fs.length - (intOf ii).toNat)
      case atStart => exact ⟨0, Nat.zero_le _, rfl, hE, hEb, hI, hY, hC⟩
      case round =>
        clear hE hEb hI hY hC
        obtain ⟨k, hk, rfl, hE, hEb, hI, hY, hC⟩ := hrel
        by_cases hlt : k < fs.length
        · have hkI : (k : Int) < (fs.length : Int) := by omega
          obtain ⟨d0, d1, d2, d3⟩ := hEb.out.2 k hlt
          have hpl := (hsmb.out.2 k hlt).1
          have hgv := get_at hox.out (hgb.out _ (List.getElem_mem hlt))
          obtain ⟨x, hxk⟩ : ∃ x, fs[k] = x := ⟨_, rfl⟩
          rw [hxk] at d0 d1 d2 d3 hpl hgv
          replace hxk := Lib.hid hxk
          obtain ⟨p, kind, mode, t⟩ := x
          simp only at d0 d1 d2 d3 hpl hgv
          replace hgv := Lib.hid hgv
          go_wp2_with fail
          with_reducible refine (TreeGet_in xs p A1 c1 wr hI.out hsx.out hpl).mono ?_
          rintro r w2 ⟨rfl, hB⟩
          replace hC := hC.trans (hB.mono hC.size)
          replace hE := Lib.hid (hE.out.below hB hE.out.1)
          replace hEb := Lib.hid (hEb.out.below hB hEb.out.1)
          replace hI := Lib.hid (hI.out.below hB)
          replace hY := Lib.hid (hY.out.below hB)
          clear hB d0 d1 d2 d3
          rw [hgv.out]
          have hnq := neqD_cells p p kind mode kind mode t t (sameE_refl _)
          have hgd := fun op x y => guardD_cells op x y p p kind mode kind mode t t
          go_wp2_with fail
          obtain ⟨w3, hW⟩ : ∃ X, w2.alloc (.cells #[.string (mkB p), .int .i64 kind, .int .i64 mode, .string (mkB t)] 30) = X := ⟨_, rfl⟩
          have hB : Below w2.heap.size w2 w3 := by rw [← hW]; exact (Below.refl _ _).alloc (Nat.le_refl _) _
          obtain ⟨xb, hxb⟩ : ∃ x, w2.heap.size = x := ⟨_, rfl⟩
          have hnn : Box4 w3 xb 30 (.string (mkB p)) (.int .i64 kind) (.int .i64 mode) (.string (mkB t)) := by rw [← hW, ← hxb]; exact Box4.new _ _ _ _ _ _
          have hE3 := hE.out.below hB hE.out.1
          have hEb3 := hEb.out.below hB hEb.out.1
          have hI3 := Lib.hid (hI.out.below hB)
          have hY3 := Lib.hid (hY.out.below hB)
          have hC3 := hC.trans (hB.mono hC.size)
          obtain ⟨d0, d1, d2, d3⟩ := hEb3.2 k hlt
          rw [hxk.out] at d0 d1 d2 d3
          simp only at d0 d1 d2 d3
          have nwc0 := hnn.cell0
          have nwc1 := hnn.cell1
          have nwc2 := hnn.cell2
          have nwc3 := hnn.cell3
          replace hE3 := Lib.hid hE3
          replace hEb3 := Lib.hid hEb3
          rw [hW, hxb]
          clear hgv hnn hW hB hxb hE hEb hI hY hC
          go_region
          go_wp2
          go_round
          case rel => exact ⟨k + 1, by omega, by go_num, Lib.hid (hE3.out.below (Below.refl _ _).drew hE3.out.1), Lib.hid (hEb3.out.below (Below.refl _ _).drew hEb3.out.1), Lib.hid (hI3.out.below (Below.refl _ _).drew), Lib.hid (hY3.out.below (Below.refl _ _).drew), hC3.drew⟩
          case measure => simp [intOf]; omega
        · obtain rfl : k = fs.length := by omega
          obtain ⟨w20, hw20⟩ : ∃ x, wr = x := ⟨_, rfl⟩
          rw [hw20] at hI hY hC ⊢
          clear hw20 hE hEb hgb
          go_wp2_with fail
          with_reducible refine (TreeOk_in xs A1 c1 w20 hI.out hsx.out).mono ?_
          rintro e w21 ⟨rfl, hB⟩
          replace hC := hC.trans (hB.mono hC.size)
          replace hI := Lib.hid (hI.out.below hB)
          replace hY := Lib.hid (hY.out.below hB)
          clear hB
          rw [hox.out]
          go_wp2_with fail
          with_reducible refine (jsTree_sl xs _ _ _ _ w21 hY.out.sl hI.out.sl hxl).mono ?_
          rintro e w22 ⟨rfl, hB⟩
          replace hC := hC.trans (hB.mono hC.size)
          replace hI := Lib.hid (hI.out.below hB)
          replace hY := Lib.hid (hY.out.below hB)
          clear hB
          have hI1 : (es.length : Int) ≤ 17 := by omega
          have hI2 : (fs.length : Int) ≤ 17 := by omega
          have hI3 : (m : Int) ≤ 34 := by omega
          have hI4 : (es.length : Int) + (fs.length : Int) - (m : Int) = (xs.length : Int) := by omega
          go_wp2
          go_ret
          exact ⟨rfl, hC⟩
end Go.Proofs.YtiknkjhdieepbaaDoor
