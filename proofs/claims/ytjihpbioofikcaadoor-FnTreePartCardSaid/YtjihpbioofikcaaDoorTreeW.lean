/-
  The walks of TreeFollow: the reference's and the program's.
-/
import Derived.Test.YtjihpbioofikcaaDoorTreeG
namespace Go.Proofs.YtjihpbioofikcaaDoor
open Go.RowKit
set_option linter.unusedVariables false
set_option linter.unusedSimpArgs false
attribute [local go_sem] mkB_size mkB_extract mkB_get mkB_append mkB_append_raw raw_append_mkB mkB_toList

/-- what is at the end of links, so many of them at most -/
def follow (es : List En) : Nat → List UInt8 → Option En
  | 0, p => match getAt es p with
    | some e => if e.kind = 3 then none else some e
    | none => none
  | n + 1, p => match getAt es p with
    | some e => if e.kind = 3 then follow es n e.text else some e
    | none => none
/-- the same, of what has been found so far -/
def goOn (es : List En) (n : Nat) (x : Option En) : Option En := match x with
  | some e => if e.kind = 3 then (match n with
    | 0 => none
    | n + 1 => follow es n e.text) else some e
  | none => none
theorem follow_goOn (es : List En) (n : Nat) (p : List UInt8) : follow es n p = goOn es n (getAt es p) := by
  cases n <;> rfl
noncomputable def treeFollow (es : List En) (p : List UInt8) : Option En := if treeOk es = true then follow es 16 p else none
theorem treeFollow_bad {es : List En} {p : List UInt8} (h : treeOk es = false) : treeFollow es p = none := by unfold treeFollow; rw [h]; rfl
theorem treeFollow_ok {es : List En} {p : List UInt8} (h : treeOk es = true) : treeFollow es p = follow es 16 p := by unfold treeFollow; rw [if_pos h]
theorem treeGet_ok {es : List En} {p : List UInt8} (h : treeOk es = true) : treeGet es p = getAt es p := by unfold treeGet; rw [if_pos h]
theorem goOn_none (es : List En) (n : Nat) : goOn es n none = none := rfl
theorem goOn_end {es : List En} {n : Nat} {e : En} (h : ¬ e.kind = 3) : goOn es n (some e) = some e := by unfold goOn; simp [h]
theorem goOn_link {es : List En} {n : Nat} {e : En} (h : e.kind = 3) : goOn es (n + 1) (some e) = goOn es n (getAt es e.text) := by
  rw [← follow_goOn]; simp [goOn, h]
theorem goOn_last {es : List En} {e : En} (h : e.kind = 3) : goOn es 0 (some e) = none := by simp [goOn, h]
theorem getAt_mem {es : List En} {p : List UInt8} {e : En} (h : getAt es p = some e) : ∃ k, ∃ hk : k < es.length, es[k] = e := by
  unfold getAt at h
  split at h
  · obtain ⟨hk, he⟩ := List.getElem?_eq_some_iff.1 h
    exact ⟨_, hk, he⟩
  · cases h

/-- the reference's count of links that are left -/
def left (n : Nat) : Int := (n : Int) - 1
def res (es : List En) (n : Nat) (p : List UInt8) : Option En := match n with
  | 0 => none
  | m + 1 => follow es m p
theorem res_no {es : List En} {n : Nat} {p : List UInt8} (h : there es p = false) : res es n p = none := by
  cases n with
  | zero => rfl
  | succ m => show follow es m p = none; rw [follow_goOn, getAt_no h]; rfl
theorem getAt_k {es : List En} {p : List UInt8} {k : Nat} (hk : k < es.length) (ha : atGo es p = k) (ht : there es p = true) : getAt es p = some es[k] := by
  subst ha
  exact (getAt_yes ht).2
theorem res_end {es : List En} {m k : Nat} {p : List UInt8} (hk : k < es.length) (ha : atGo es p = k) (ht : there es p = true) (h3 : ¬ es[k].kind = 3) : res es (m + 1) p = some es[k] := by
  show follow es m p = _; rw [follow_goOn, getAt_k hk ha ht, goOn_end h3]
theorem res_link {es : List En} {m k : Nat} {p : List UInt8} (hk : k < es.length) (ha : atGo es p = k) (ht : there es p = true) (h3 : es[k].kind = 3) : res es (m + 1) p = res es m es[k].text := by
  show follow es m p = _; rw [follow_goOn, getAt_k hk ha ht]
  cases m with
  | zero => exact goOn_last h3
  | succ q => rw [goOn_link h3, ← follow_goOn]; rfl
theorem entV_form (x : Option En) : ∃ (e0 : En) (b : Bool), entV x = .tuple #[.agg #[.string (mkB e0.path), .int .i64 e0.kind, .int .i64 e0.mode, .string (mkB e0.text)], .bool b] := by
  cases x with
  | none => exact ⟨⟨[], 0, 0, []⟩, false, rfl⟩
  | some e => exact ⟨e, true, rfl⟩

set_option maxHeartbeats 8000000 in
theorem l2Follow_any (es : List En) (g c : Nat) (hsm : Small es) : ∀ (n : Nat) (hn : n ≤ 17) (p : List UInt8) (w : World) (hE : Ents w g es) (hp : p.length ≤ 1048576),
    Calls Tryd.prog 71 #[.slice (some ⟨g, 0, none⟩) es.length c, .string (mkB p), .int .i64 (left n)] w fun e w' => e = .returned (entV (res es n p)) ∧ Below w.heap.size w w' := by
  have hsh := Lib.hid hsm
  have hlen := hsm.1
  clear hsm
  intro n
  induction n with
  | zero =>
    intro hn p w hE hp
    have hres := Lib.hid (show res es 0 p = none from rfl)
    have hEh := Lib.hid hE
    have hg := hE.1
    clear hE
    rw [show left 0 = -1 from rfl]
    rcases boolOf (there es p) with hth | hth
    · go_enter Tryd.func71, Tryd.ntmps71
      go_wp2_with fail
      obtain ⟨W1, hW1⟩ : ∃ W1, (w.alloc (.cells #[.string { data := #[] }, .int .i64 0, .int .i64 0, .string { data := #[] }] 31)) = W1 := ⟨_, rfl⟩
      have hr1 : Box4 W1 w.heap.size 31 (.string { data := #[] }) (.int .i64 0) (.int .i64 0) (.string { data := #[] }) := by rw [← hW1]; exact (Box4.new _ _ _ _ _ _)
      have hz1 : W1.heap.size = w.heap.size + 1 := by rw [← hW1]; simp
      have hB1 : Below w.heap.size w W1 := by rw [← hW1]; exact ((Below.refl _ _).alloc (Nat.le_refl _) _)
      have hE1 := Lib.hid (show Ents W1 g es by rw [← hW1]; exact hEh.out.alloc _)
      have hg1 : g < W1.heap.size := hE1.out.1
      rw [hW1]
      clear hW1
      refine (l2At_any es p g c _ hE1.out hlen).mono ?_
      rintro e w2 ⟨rfl, hB⟩
      rw [hth.out]
      have hr2 := Box4.below hr1 hB (by omega)
      have hB2 := hB1.trans (hB.mono (by omega))
      have hE2 := Lib.hid (hE1.out.below hB hg1)
      have hg2 := hE2.out.1
      have hz2 : w.heap.size < w2.heap.size := by have := hB.size; omega
      clear hB
      have b0 := hr2.cell0
      have f0 := hr2.frozen 0
      have b1 := hr2.cell1
      have f1 := hr2.frozen 1
      have b2 := hr2.cell2
      have f2 := hr2.frozen 2
      have b3 := hr2.cell3
      have f3 := hr2.frozen 3
      go_wp2
      have hfin := (((hr2.set0 (.string { data := #[] })).set1 (.int .i64 0)).set2 (.int .i64 0)).set3 (.string { data := #[] })
      have e0 := hfin.cell0
      have e1 := hfin.cell1
      have e2 := hfin.cell2
      have e3 := hfin.cell3
      refine bodyPost_ret (v := .tuple #[.agg #[(.string { data := #[] }), (.int .i64 0), (.int .i64 0), (.string { data := #[] })], .bool false]) (by simp [results, Tryd.results71, go_sem, e0, e1, e2, e3]) rfl ⟨by rw [hres.out]; rfl, ?_⟩
      exact (((hB2.setCell (p := ⟨w.heap.size, 0, none⟩) (Nat.le_refl _) _).setCell (p := ⟨w.heap.size, 1, none⟩) (Nat.le_refl _) _).setCell (p := ⟨w.heap.size, 2, none⟩) (Nat.le_refl _) _).setCell (p := ⟨w.heap.size, 3, none⟩) (Nat.le_refl _) _
    · go_enter Tryd.func71, Tryd.ntmps71
      go_wp2_with fail
      obtain ⟨W1, hW1⟩ : ∃ W1, (w.alloc (.cells #[.string { data := #[] }, .int .i64 0, .int .i64 0, .string { data := #[] }] 31)) = W1 := ⟨_, rfl⟩
      have hr1 : Box4 W1 w.heap.size 31 (.string { data := #[] }) (.int .i64 0) (.int .i64 0) (.string { data := #[] }) := by rw [← hW1]; exact (Box4.new _ _ _ _ _ _)
      have hz1 : W1.heap.size = w.heap.size + 1 := by rw [← hW1]; simp
      have hB1 : Below w.heap.size w W1 := by rw [← hW1]; exact ((Below.refl _ _).alloc (Nat.le_refl _) _)
      have hE1 := Lib.hid (show Ents W1 g es by rw [← hW1]; exact hEh.out.alloc _)
      have hg1 : g < W1.heap.size := hE1.out.1
      rw [hW1]
      clear hW1
      refine (l2At_any es p g c _ hE1.out hlen).mono ?_
      rintro e w2 ⟨rfl, hB⟩
      rw [hth.out]
      have hr2 := Box4.below hr1 hB (by omega)
      have hB2 := hB1.trans (hB.mono (by omega))
      have hE2 := Lib.hid (hE1.out.below hB hg1)
      have hg2 := hE2.out.1
      have hz2 : w.heap.size < w2.heap.size := by have := hB.size; omega
      clear hB
      have b0 := hr2.cell0
      have f0 := hr2.frozen 0
      have b1 := hr2.cell1
      have f1 := hr2.frozen 1
      have b2 := hr2.cell2
      have f2 := hr2.frozen 2
      have b3 := hr2.cell3
      have f3 := hr2.frozen 3
      go_wp2
      have hfin := (((hr2.set0 (.string { data := #[] })).set1 (.int .i64 0)).set2 (.int .i64 0)).set3 (.string { data := #[] })
      have e0 := hfin.cell0
      have e1 := hfin.cell1
      have e2 := hfin.cell2
      have e3 := hfin.cell3
      refine bodyPost_ret (v := .tuple #[.agg #[(.string { data := #[] }), (.int .i64 0), (.int .i64 0), (.string { data := #[] })], .bool false]) (by simp [results, Tryd.results71, go_sem, e0, e1, e2, e3]) rfl ⟨by rw [hres.out]; rfl, ?_⟩
      exact (((hB2.setCell (p := ⟨w.heap.size, 0, none⟩) (Nat.le_refl _) _).setCell (p := ⟨w.heap.size, 1, none⟩) (Nat.le_refl _) _).setCell (p := ⟨w.heap.size, 2, none⟩) (Nat.le_refl _) _).setCell (p := ⟨w.heap.size, 3, none⟩) (Nat.le_refl _) _
  | succ m ih =>
    intro hn p w hE hp
    have ihh := Lib.hid ih
    clear ih
    have hEh := Lib.hid hE
    have hg := hE.1
    clear hE
    rw [show left (m + 1) = (m : Int) by unfold left; omega]
    have hm0 : ¬ (m : Int) < 0 := by omega
    rcases boolOf (there es p) with hth | hth
    · have hres := Lib.hid (res_no (n := m + 1) hth.out)
      go_enter Tryd.func71, Tryd.ntmps71
      go_wp2_with fail
      obtain ⟨W1, hW1⟩ : ∃ W1, (w.alloc (.cells #[.string { data := #[] }, .int .i64 0, .int .i64 0, .string { data := #[] }] 31)) = W1 := ⟨_, rfl⟩
      have hr1 : Box4 W1 w.heap.size 31 (.string { data := #[] }) (.int .i64 0) (.int .i64 0) (.string { data := #[] }) := by rw [← hW1]; exact (Box4.new _ _ _ _ _ _)
      have hz1 : W1.heap.size = w.heap.size + 1 := by rw [← hW1]; simp
      have hB1 : Below w.heap.size w W1 := by rw [← hW1]; exact ((Below.refl _ _).alloc (Nat.le_refl _) _)
      have hE1 := Lib.hid (show Ents W1 g es by rw [← hW1]; exact hEh.out.alloc _)
      have hg1 : g < W1.heap.size := hE1.out.1
      rw [hW1]
      clear hW1
      refine (l2At_any es p g c _ hE1.out hlen).mono ?_
      rintro e w2 ⟨rfl, hB⟩
      rw [hth.out]
      have hr2 := Box4.below hr1 hB (by omega)
      have hB2 := hB1.trans (hB.mono (by omega))
      have hE2 := Lib.hid (hE1.out.below hB hg1)
      have hg2 := hE2.out.1
      have hz2 : w.heap.size < w2.heap.size := by have := hB.size; omega
      clear hB
      have b0 := hr2.cell0
      have f0 := hr2.frozen 0
      have b1 := hr2.cell1
      have f1 := hr2.frozen 1
      have b2 := hr2.cell2
      have f2 := hr2.frozen 2
      have b3 := hr2.cell3
      have f3 := hr2.frozen 3
      go_wp2
      have hfin := (((hr2.set0 (.string { data := #[] })).set1 (.int .i64 0)).set2 (.int .i64 0)).set3 (.string { data := #[] })
      have e0 := hfin.cell0
      have e1 := hfin.cell1
      have e2 := hfin.cell2
      have e3 := hfin.cell3
      refine bodyPost_ret (v := .tuple #[.agg #[(.string { data := #[] }), (.int .i64 0), (.int .i64 0), (.string { data := #[] })], .bool false]) (by simp [results, Tryd.results71, go_sem, e0, e1, e2, e3]) rfl ⟨by rw [hres.out]; rfl, ?_⟩
      exact (((hB2.setCell (p := ⟨w.heap.size, 0, none⟩) (Nat.le_refl _) _).setCell (p := ⟨w.heap.size, 1, none⟩) (Nat.le_refl _) _).setCell (p := ⟨w.heap.size, 2, none⟩) (Nat.le_refl _) _).setCell (p := ⟨w.heap.size, 3, none⟩) (Nat.le_refl _) _
    obtain ⟨k, ha⟩ : ∃ k, atGo es p = k := ⟨_, rfl⟩
    obtain ⟨hk0, -⟩ := there_iff.1 hth.out
    have hk : k < es.length := by omega
    have hkI : (k : Int) < (es.length : Int) := by omega
    clear hk0
    by_cases h3 : es[k].kind = 3
    case neg =>
      have hres := Lib.hid (res_end (m := m) hk ha hth.out h3)
      have h3b : (es[k].kind == 3) = false := by rw [beq_eq_false_iff_ne]; exact h3
      have h3c : (es[k].kind != 3) = true := by rw [bne, h3b]; rfl
      replace ha := Lib.hid ha
      replace h3 := Lib.hid h3
      go_enter Tryd.func71, Tryd.ntmps71
      go_wp2_with fail
      obtain ⟨W1, hW1⟩ : ∃ W1, (w.alloc (.cells #[.string { data := #[] }, .int .i64 0, .int .i64 0, .string { data := #[] }] 31)) = W1 := ⟨_, rfl⟩
      have hr1 : Box4 W1 w.heap.size 31 (.string { data := #[] }) (.int .i64 0) (.int .i64 0) (.string { data := #[] }) := by rw [← hW1]; exact (Box4.new _ _ _ _ _ _)
      have hz1 : W1.heap.size = w.heap.size + 1 := by rw [← hW1]; simp
      have hB1 : Below w.heap.size w W1 := by rw [← hW1]; exact ((Below.refl _ _).alloc (Nat.le_refl _) _)
      have hE1 := Lib.hid (show Ents W1 g es by rw [← hW1]; exact hEh.out.alloc _)
      have hg1 : g < W1.heap.size := hE1.out.1
      rw [hW1]
      clear hW1
      refine (l2At_any es p g c _ hE1.out hlen).mono ?_
      rintro e w2 ⟨rfl, hB⟩
      rw [hth.out, ha.out]
      have hr2 := Box4.below hr1 hB (by omega)
      have hB2 := hB1.trans (hB.mono (by omega))
      have hE2 := Lib.hid (hE1.out.below hB hg1)
      have hg2 := hE2.out.1
      have hz2 : w.heap.size < w2.heap.size := by have := hB.size; omega
      clear hB
      have b0 := hr2.cell0
      have f0 := hr2.frozen 0
      have b1 := hr2.cell1
      have f1 := hr2.frozen 1
      have b2 := hr2.cell2
      have f2 := hr2.frozen 2
      have b3 := hr2.cell3
      have f3 := hr2.frozen 3
      obtain ⟨c0, c1, c2, c3⟩ := hE2.out.2 k hk
      go_wp2
      have hfin := (((hr2.set0 (.string (mkB es[k].path))).set1 (.int .i64 es[k].kind)).set2 (.int .i64 es[k].mode)).set3 (.string (mkB es[k].text))
      have e0 := hfin.cell0
      have e1 := hfin.cell1
      have e2 := hfin.cell2
      have e3 := hfin.cell3
      refine bodyPost_ret (v := .tuple #[.agg #[(.string (mkB es[k].path)), (.int .i64 es[k].kind), (.int .i64 es[k].mode), (.string (mkB es[k].text))], .bool true]) (by simp [results, Tryd.results71, go_sem, e0, e1, e2, e3]) rfl ⟨by rw [hres.out]; rfl, ?_⟩
      exact (((hB2.setCell (p := ⟨w.heap.size, 0, none⟩) (Nat.le_refl _) _).setCell (p := ⟨w.heap.size, 1, none⟩) (Nat.le_refl _) _).setCell (p := ⟨w.heap.size, 2, none⟩) (Nat.le_refl _) _).setCell (p := ⟨w.heap.size, 3, none⟩) (Nat.le_refl _) _
    have hres := Lib.hid (res_link (m := m) hk ha hth.out h3)
    have h3b : (es[k].kind == 3) = true := by rw [h3]; rfl
    have h3c : (es[k].kind != 3) = false := by rw [bne, h3b]; rfl
    obtain ⟨en0, b, hshape⟩ := entV_form (res es m es[k].text)
    replace hshape := Lib.hid hshape
    have htl := (hsh.out.2 k hk).2
    have hcall := Lib.hid (fun W hW => ihh.out (by omega) es[k].text W hW htl)
    replace ha := Lib.hid ha
    replace h3 := Lib.hid h3
    have hmI : (m : Int) ≤ 17 := by omega
    go_enter Tryd.func71, Tryd.ntmps71
    go_wp2_with fail
    obtain ⟨W1, hW1⟩ : ∃ W1, (w.alloc (.cells #[.string { data := #[] }, .int .i64 0, .int .i64 0, .string { data := #[] }] 31)) = W1 := ⟨_, rfl⟩
    have hr1 : Box4 W1 w.heap.size 31 (.string { data := #[] }) (.int .i64 0) (.int .i64 0) (.string { data := #[] }) := by rw [← hW1]; exact (Box4.new _ _ _ _ _ _)
    have hz1 : W1.heap.size = w.heap.size + 1 := by rw [← hW1]; simp
    have hB1 : Below w.heap.size w W1 := by rw [← hW1]; exact ((Below.refl _ _).alloc (Nat.le_refl _) _)
    have hE1 := Lib.hid (show Ents W1 g es by rw [← hW1]; exact hEh.out.alloc _)
    have hg1 : g < W1.heap.size := hE1.out.1
    rw [hW1]
    clear hW1
    refine (l2At_any es p g c _ hE1.out hlen).mono ?_
    rintro e w2 ⟨rfl, hB⟩
    rw [hth.out, ha.out]
    have hr2 := Box4.below hr1 hB (by omega)
    have hB2 := hB1.trans (hB.mono (by omega))
    have hE2 := Lib.hid (hE1.out.below hB hg1)
    have hg2 := hE2.out.1
    have hz2 : w.heap.size < w2.heap.size := by have := hB.size; omega
    clear hB
    obtain ⟨c0, c1, c2, c3⟩ := hE2.out.2 k hk
    go_wp2_with fail
    refine (hcall.out _ hE2.out).mono ?_
    rintro e w3 ⟨rfl, hB⟩
    rw [hshape.out]
    have hr3 := Box4.below hr2 hB (by omega)
    have hB3 := hB2.trans (hB.mono (by omega))
    have hE3 := Lib.hid (hE2.out.below hB hg2)
    have hg3 := hE3.out.1
    have hz3 : w.heap.size < w3.heap.size := by have := hB.size; omega
    clear hB
    have b0 := hr3.cell0
    have f0 := hr3.frozen 0
    have b1 := hr3.cell1
    have f1 := hr3.frozen 1
    have b2 := hr3.cell2
    have f2 := hr3.frozen 2
    have b3 := hr3.cell3
    have f3 := hr3.frozen 3
    go_wp2
    have hfin := (((hr3.set0 (.string (mkB en0.path))).set1 (.int .i64 en0.kind)).set2 (.int .i64 en0.mode)).set3 (.string (mkB en0.text))
    have e0 := hfin.cell0
    have e1 := hfin.cell1
    have e2 := hfin.cell2
    have e3 := hfin.cell3
    refine bodyPost_ret (v := .tuple #[.agg #[(.string (mkB en0.path)), (.int .i64 en0.kind), (.int .i64 en0.mode), (.string (mkB en0.text))], .bool b]) (by simp [results, Tryd.results71, go_sem, e0, e1, e2, e3]) rfl ⟨by rw [hres.out, hshape.out], ?_⟩
    exact (((hB3.setCell (p := ⟨w.heap.size, 0, none⟩) (Nat.le_refl _) _).setCell (p := ⟨w.heap.size, 1, none⟩) (Nat.le_refl _) _).setCell (p := ⟨w.heap.size, 2, none⟩) (Nat.le_refl _) _).setCell (p := ⟨w.heap.size, 3, none⟩) (Nat.le_refl _) _

set_option maxHeartbeats 4000000 in
theorem specTreeFollow_any (es : List En) (p : List UInt8) (g c : Nat) (w : World) (hE : Ents w g es) (hsm : Small es) (hp : p.length ≤ 1048576) :
    Calls Tryd.prog 36 #[.slice (some ⟨g, 0, none⟩) es.length c, .string (mkB p)] w fun e w' => e = .returned (entV (treeFollow es p)) ∧ Below w.heap.size w w' := by
  have hEh := Lib.hid hE
  have hsh := Lib.hid hsm
  have hg := hE.1
  have hlen := hsm.1
  clear hE hsm
  rcases boolOf (treeOk es) with hok | hok
  · have hres := Lib.hid (treeFollow_bad (p := p) hok.out)
    go_enter Tryd.func36, Tryd.ntmps36
    go_wp2_with fail
    obtain ⟨W1, hW1⟩ : ∃ W1, (w.alloc (.cells #[.string { data := #[] }, .int .i64 0, .int .i64 0, .string { data := #[] }] 31)) = W1 := ⟨_, rfl⟩
    have hr1 : Box4 W1 w.heap.size 31 (.string { data := #[] }) (.int .i64 0) (.int .i64 0) (.string { data := #[] }) := by rw [← hW1]; exact (Box4.new _ _ _ _ _ _)
    have hz1 : W1.heap.size = w.heap.size + 1 := by rw [← hW1]; simp
    have hB1 : Below w.heap.size w W1 := by rw [← hW1]; exact ((Below.refl _ _).alloc (Nat.le_refl _) _)
    have hE1 := Lib.hid (show Ents W1 g es by rw [← hW1]; exact hEh.out.alloc _)
    have hg1 : g < W1.heap.size := hE1.out.1
    rw [hW1]
    clear hW1
    refine (specTreeOk_any es g c _ hE1.out hsh.out).mono ?_
    rintro e w2 ⟨rfl, hB⟩
    rw [hok.out]
    have hr2 := Box4.below hr1 hB (by omega)
    have hB2 := hB1.trans (hB.mono (by omega))
    have hE2 := Lib.hid (hE1.out.below hB hg1)
    have hg2 := hE2.out.1
    have hz2 : w.heap.size < w2.heap.size := by have := hB.size; omega
    clear hB
    have b0 := hr2.cell0
    have f0 := hr2.frozen 0
    have b1 := hr2.cell1
    have f1 := hr2.frozen 1
    have b2 := hr2.cell2
    have f2 := hr2.frozen 2
    have b3 := hr2.cell3
    have f3 := hr2.frozen 3
    go_wp2
    have hfin := (((hr2.set0 (.string { data := #[] })).set1 (.int .i64 0)).set2 (.int .i64 0)).set3 (.string { data := #[] })
    have e0 := hfin.cell0
    have e1 := hfin.cell1
    have e2 := hfin.cell2
    have e3 := hfin.cell3
    refine bodyPost_ret (v := .tuple #[.agg #[(.string { data := #[] }), (.int .i64 0), (.int .i64 0), (.string { data := #[] })], .bool false]) (by simp [results, Tryd.results36, go_sem, e0, e1, e2, e3]) rfl ⟨by rw [hres.out]; rfl, ?_⟩
    exact (((hB2.setCell (p := ⟨w.heap.size, 0, none⟩) (Nat.le_refl _) _).setCell (p := ⟨w.heap.size, 1, none⟩) (Nat.le_refl _) _).setCell (p := ⟨w.heap.size, 2, none⟩) (Nat.le_refl _) _).setCell (p := ⟨w.heap.size, 3, none⟩) (Nat.le_refl _) _
  have hres := Lib.hid (show treeFollow es p = res es 17 p from treeFollow_ok hok.out)
  obtain ⟨en0, b, hshape⟩ := entV_form (res es 17 p)
  replace hshape := Lib.hid hshape
  have hcall := Lib.hid (fun W hW => l2Follow_any es g c hsh.out 17 (by omega) p W hW hp)
  go_enter Tryd.func36, Tryd.ntmps36
  go_wp2_with fail
  obtain ⟨W1, hW1⟩ : ∃ W1, (w.alloc (.cells #[.string { data := #[] }, .int .i64 0, .int .i64 0, .string { data := #[] }] 31)) = W1 := ⟨_, rfl⟩
  have hr1 : Box4 W1 w.heap.size 31 (.string { data := #[] }) (.int .i64 0) (.int .i64 0) (.string { data := #[] }) := by rw [← hW1]; exact (Box4.new _ _ _ _ _ _)
  have hz1 : W1.heap.size = w.heap.size + 1 := by rw [← hW1]; simp
  have hB1 : Below w.heap.size w W1 := by rw [← hW1]; exact ((Below.refl _ _).alloc (Nat.le_refl _) _)
  have hE1 := Lib.hid (show Ents W1 g es by rw [← hW1]; exact hEh.out.alloc _)
  have hg1 : g < W1.heap.size := hE1.out.1
  rw [hW1]
  clear hW1
  refine (specTreeOk_any es g c _ hE1.out hsh.out).mono ?_
  rintro e w2 ⟨rfl, hB⟩
  rw [hok.out]
  have hr2 := Box4.below hr1 hB (by omega)
  have hB2 := hB1.trans (hB.mono (by omega))
  have hE2 := Lib.hid (hE1.out.below hB hg1)
  have hg2 := hE2.out.1
  have hz2 : w.heap.size < w2.heap.size := by have := hB.size; omega
  clear hB
  go_wp2_with fail
  refine (hcall.out _ hE2.out).mono ?_
  rintro e w3 ⟨rfl, hB⟩
  rw [hshape.out]
  have hr3 := Box4.below hr2 hB (by omega)
  have hB3 := hB2.trans (hB.mono (by omega))
  have hE3 := Lib.hid (hE2.out.below hB hg2)
  have hg3 := hE3.out.1
  have hz3 : w.heap.size < w3.heap.size := by have := hB.size; omega
  clear hB
  have b0 := hr3.cell0
  have f0 := hr3.frozen 0
  have b1 := hr3.cell1
  have f1 := hr3.frozen 1
  have b2 := hr3.cell2
  have f2 := hr3.frozen 2
  have b3 := hr3.cell3
  have f3 := hr3.frozen 3
  go_wp2
  have hfin := (((hr3.set0 (.string (mkB en0.path))).set1 (.int .i64 en0.kind)).set2 (.int .i64 en0.mode)).set3 (.string (mkB en0.text))
  have e0 := hfin.cell0
  have e1 := hfin.cell1
  have e2 := hfin.cell2
  have e3 := hfin.cell3
  refine bodyPost_ret (v := .tuple #[.agg #[(.string (mkB en0.path)), (.int .i64 en0.kind), (.int .i64 en0.mode), (.string (mkB en0.text))], .bool b]) (by simp [results, Tryd.results36, go_sem, e0, e1, e2, e3]) rfl ⟨by rw [hres.out, hshape.out], ?_⟩
  exact (((hB3.setCell (p := ⟨w.heap.size, 0, none⟩) (Nat.le_refl _) _).setCell (p := ⟨w.heap.size, 1, none⟩) (Nat.le_refl _) _).setCell (p := ⟨w.heap.size, 2, none⟩) (Nat.le_refl _) _).setCell (p := ⟨w.heap.size, 3, none⟩) (Nat.le_refl _) _

def found (x : Option En) (e : En) (b : Bool) : Prop := (x = none ∧ b = false) ∨ (x = some e ∧ b = true)
theorem treeGet_small {es : List En} (hsm : Small es) {q : List UInt8} {e : En} (h : treeGet es q = some e) : e.text.length ≤ 1048576 := by
  unfold treeGet at h
  split at h
  · obtain ⟨k, hk, rfl⟩ := getAt_mem h
    exact (hsm.2 k hk).2
  · cases h
/-- what TreeGet hands back, in parts -/
theorem treeGet_parts (es : List En) (hsm : Small es) (q : List UInt8) : ∃ (e : En) (b : Bool), entV (treeGet es q) = .tuple #[.agg #[.string (mkB e.path), .int .i64 e.kind, .int .i64 e.mode, .string (mkB e.text)], .bool b] ∧ found (treeGet es q) e b ∧ e.text.length ≤ 1048576 := by
  cases h : treeGet es q with
  | none => exact ⟨⟨[], 0, 0, []⟩, false, rfl, .inl ⟨rfl, rfl⟩, by simp⟩
  | some e => exact ⟨e, true, rfl, .inr ⟨rfl, rfl⟩, treeGet_small hsm h⟩
theorem treeFollow_get {es : List En} {q : List UInt8} : goOn es 16 (treeGet es q) = treeFollow es q := by
  cases h : treeOk es with
  | false => rw [treeGet_bad h, treeFollow_bad h]; rfl
  | true => rw [treeGet_ok h, treeFollow_ok h, follow_goOn]
theorem goOn_step {es : List En} {k : Nat} {e : En} (hok : treeOk es = true) (hk : k < 16) (h3 : e.kind = 3) : goOn es (16 - (k + 1)) (treeGet es e.text) = goOn es (16 - k) (some e) := by
  rw [treeGet_ok hok, show 16 - k = (16 - (k + 1)) + 1 by omega, goOn_link h3]
theorem treeGet_some_ok {es : List En} {q : List UInt8} {e : En} (h : treeGet es q = some e) : treeOk es = true := by
  unfold treeGet at h; split at h
  · assumption
  · cases h

set_option maxHeartbeats 8000000 in
theorem TreeFollow_any (es : List En) (p : List UInt8) (g c : Nat) (w : World) (hE : Ents w g es) (hsm : Small es) (hcap : es.length ≤ c) (hp : p.length ≤ 1048576) :
    Calls Tryd.prog 35 #[.slice (some ⟨g, 0, none⟩) es.length c, .string (mkB p)] w fun e w' => e = .returned (entV (treeFollow es p)) ∧ Below w.heap.size w w' := by
  have hEh := Lib.hid hE
  have hsh := Lib.hid hsm
  have hg := hE.1
  have hlen := hsm.1
  clear hE hsm
  obtain ⟨en1, b1, hsh1, hfd1, htx1⟩ := treeGet_parts es hsh.out p
  replace hsh1 := Lib.hid hsh1
  replace hfd1 := Lib.hid hfd1
  have hgo1 := Lib.hid (treeFollow_get (es := es) (q := p))
  go_enter Tryd.func35, Tryd.ntmps35
  go_wp2_with fail
  obtain ⟨W1, hW1⟩ : ∃ W1, (w.alloc (.cells #[.string { data := #[] }, .int .i64 0, .int .i64 0, .string { data := #[] }] 31)) = W1 := ⟨_, rfl⟩
  have hr1 : Box4 W1 w.heap.size 31 (.string { data := #[] }) (.int .i64 0) (.int .i64 0) (.string { data := #[] }) := by rw [← hW1]; exact (Box4.new _ _ _ _ _ _)
  have hz1 : W1.heap.size = w.heap.size + 1 := by rw [← hW1]; simp
  have hB1 : Below w.heap.size w W1 := by rw [← hW1]; exact ((Below.refl _ _).alloc (Nat.le_refl _) _)
  have hE1 := Lib.hid (show Ents W1 g es by rw [← hW1]; exact hEh.out.alloc _)
  have hg1 : g < W1.heap.size := hE1.out.1
  rw [hW1]
  clear hW1
  refine (TreeGet_any es p g c _ hE1.out hsh.out hcap hp).mono ?_
  rintro e w2 ⟨rfl, hB⟩
  rw [hsh1.out]
  have hr2 := Box4.below hr1 hB (by omega)
  have hB2 := hB1.trans (hB.mono (by omega))
  have hE2 := Lib.hid (hE1.out.below hB hg1)
  have hg2 := hE2.out.1
  have hz2 : w.heap.size < w2.heap.size := by have := hB.size; omega
  clear hB
  go_wp2_with fail
  obtain ⟨W3, hW3⟩ : ∃ X, w2.alloc (.cells #[.string (mkB en1.path), .int .i64 en1.kind, .int .i64 en1.mode, .string (mkB en1.text)] 31) = X := ⟨_, rfl⟩
  have he3 : Box4 W3 w2.heap.size 31 (.string (mkB en1.path)) (.int .i64 en1.kind) (.int .i64 en1.mode) (.string (mkB en1.text)) := by rw [← hW3]; exact Box4.new _ _ _ _ _ _
  have hr3 : Box4 W3 w.heap.size 31 (.string { data := #[] }) (.int .i64 0) (.int .i64 0) (.string { data := #[] }) := by rw [← hW3]; exact hr2.kept (World.grownBy_alloc _ _ none) (fun e => by cases e)
  have hB3 : Below w.heap.size w W3 := by rw [← hW3]; exact hB2.alloc hB2.size _
  have hE3 := Lib.hid (show Ents W3 g es by rw [← hW3]; exact hE2.out.alloc _)
  have hgB : g < w2.heap.size := hg2
  obtain ⟨B, hBB⟩ : ∃ B, w2.heap.size = B := ⟨_, rfl⟩
  rw [hBB] at he3 hgB
  have hBw : w.heap.size < B := by omega
  rw [hW3, hBB]
  clear hW3
  go_loopw [7, 14] (fun f i wr => ∃ (k : Nat) (en0 : En) (b : Bool) (x : Option En), k ≤ 16 ∧ i = .int .i64 k ∧ f = .bool b ∧ Hid (found x en0 b) ∧ Hid (x = none ∨ treeOk es = true) ∧ Hid (goOn es (16 - k) x = treeFollow es p) ∧ en0.text.length ≤ 1048576 ∧ Box4 wr B 31 (.string (mkB en0.path)) (.int .i64 en0.kind) (.int .i64 en0.mode) (.string (mkB en0.text)) ∧ Box4 wr w.heap.size 31 (.string { data := #[] }) (.int .i64 0) (.int .i64 0) (.string { data := #[] }) ∧ Hid (Ents wr g es) ∧ Below w.heap.size w wr) (fun _ i _ => 16 - (intOf i).toNat)
  case atStart =>
    refine ⟨0, en1, b1, treeGet es p, by omega, rfl, rfl, hfd1, Lib.hid ?_, hgo1, htx1, he3, hr3, hE3, hB3⟩
    cases h : treeGet es p with
    | none => exact .inl rfl
    | some e => exact .inr (treeGet_some_ok h)
  case round =>
    clear hr1 hr2 hr3 he3 hE1 hE2 hE3 hB1 hB2 hB3 hfd1 hgo1 hsh1
    obtain ⟨k, en0, b, x, hk, rfl, rfl, hfd, hok, hgo, htx, heb, hrb, hEr, hBr⟩ := hrel
    have c0 := heb.cell0
    have c1 := heb.cell1
    have c2 := heb.cell2
    have c3 := heb.cell3
    have b0 := hrb.cell0
    have f0 := hrb.frozen 0
    have b1' := hrb.cell1
    have f1 := hrb.frozen 1
    have b2 := hrb.cell2
    have f2 := hrb.frozen 2
    have b3 := hrb.cell3
    have f3 := hrb.frozen 3
    rcases hfd.out with ⟨hx, rfl⟩ | ⟨hx, rfl⟩
    · have hres : treeFollow es p = none := by rw [← hgo.out, hx]; rfl
      replace hres := Lib.hid hres
      replace hx := Lib.hid hx
      by_cases hk16 : k < 16
      · go_wp2
        have hfin := (((hrb.set0 (.string { data := #[] })).set1 (.int .i64 0)).set2 (.int .i64 0)).set3 (.string { data := #[] })
        have e0 := hfin.cell0
        have e1 := hfin.cell1
        have e2 := hfin.cell2
        have e3 := hfin.cell3
        refine bodyPost_ret (v := .tuple #[.agg #[(.string { data := #[] }), (.int .i64 0), (.int .i64 0), (.string { data := #[] })], .bool false]) (by simp [results, Tryd.results35, go_sem, e0, e1, e2, e3]) rfl ⟨by rw [hres.out]; rfl, ?_⟩
        exact (((hBr.setCell (p := ⟨w.heap.size, 0, none⟩) (Nat.le_refl _) _).setCell (p := ⟨w.heap.size, 1, none⟩) (Nat.le_refl _) _).setCell (p := ⟨w.heap.size, 2, none⟩) (Nat.le_refl _) _).setCell (p := ⟨w.heap.size, 3, none⟩) (Nat.le_refl _) _
      · go_wp2
        have hfin := (((hrb.set0 (.string { data := #[] })).set1 (.int .i64 0)).set2 (.int .i64 0)).set3 (.string { data := #[] })
        have e0 := hfin.cell0
        have e1 := hfin.cell1
        have e2 := hfin.cell2
        have e3 := hfin.cell3
        refine bodyPost_ret (v := .tuple #[.agg #[(.string { data := #[] }), (.int .i64 0), (.int .i64 0), (.string { data := #[] })], .bool false]) (by simp [results, Tryd.results35, go_sem, e0, e1, e2, e3]) rfl ⟨by rw [hres.out]; rfl, ?_⟩
        exact (((hBr.setCell (p := ⟨w.heap.size, 0, none⟩) (Nat.le_refl _) _).setCell (p := ⟨w.heap.size, 1, none⟩) (Nat.le_refl _) _).setCell (p := ⟨w.heap.size, 2, none⟩) (Nat.le_refl _) _).setCell (p := ⟨w.heap.size, 3, none⟩) (Nat.le_refl _) _
    · by_cases h3 : en0.kind = 3
      case neg =>
        have hres : treeFollow es p = some en0 := by rw [← hgo.out, hx]; exact goOn_end h3
        have h3b : (en0.kind == 3) = false := by rw [beq_eq_false_iff_ne]; exact h3
        have h3c : (en0.kind != 3) = true := by rw [bne, h3b]; rfl
        replace hres := Lib.hid hres
        replace hx := Lib.hid hx
        replace h3 := Lib.hid h3
        by_cases hk16 : k < 16
        · go_wp2
          have hfin := (((hrb.set0 (.string (mkB en0.path))).set1 (.int .i64 en0.kind)).set2 (.int .i64 en0.mode)).set3 (.string (mkB en0.text))
          have e0 := hfin.cell0
          have e1 := hfin.cell1
          have e2 := hfin.cell2
          have e3 := hfin.cell3
          refine bodyPost_ret (v := .tuple #[.agg #[(.string (mkB en0.path)), (.int .i64 en0.kind), (.int .i64 en0.mode), (.string (mkB en0.text))], .bool true]) (by simp [results, Tryd.results35, go_sem, e0, e1, e2, e3]) rfl ⟨by rw [hres.out]; rfl, ?_⟩
          exact (((hBr.setCell (p := ⟨w.heap.size, 0, none⟩) (Nat.le_refl _) _).setCell (p := ⟨w.heap.size, 1, none⟩) (Nat.le_refl _) _).setCell (p := ⟨w.heap.size, 2, none⟩) (Nat.le_refl _) _).setCell (p := ⟨w.heap.size, 3, none⟩) (Nat.le_refl _) _
        · go_wp2
          have hfin := (((hrb.set0 (.string (mkB en0.path))).set1 (.int .i64 en0.kind)).set2 (.int .i64 en0.mode)).set3 (.string (mkB en0.text))
          have e0 := hfin.cell0
          have e1 := hfin.cell1
          have e2 := hfin.cell2
          have e3 := hfin.cell3
          refine bodyPost_ret (v := .tuple #[.agg #[(.string (mkB en0.path)), (.int .i64 en0.kind), (.int .i64 en0.mode), (.string (mkB en0.text))], .bool true]) (by simp [results, Tryd.results35, go_sem, e0, e1, e2, e3]) rfl ⟨by rw [hres.out]; rfl, ?_⟩
          exact (((hBr.setCell (p := ⟨w.heap.size, 0, none⟩) (Nat.le_refl _) _).setCell (p := ⟨w.heap.size, 1, none⟩) (Nat.le_refl _) _).setCell (p := ⟨w.heap.size, 2, none⟩) (Nat.le_refl _) _).setCell (p := ⟨w.heap.size, 3, none⟩) (Nat.le_refl _) _
      have h3b : (en0.kind == 3) = true := by rw [h3]; rfl
      have h3c : (en0.kind != 3) = false := by rw [bne, h3b]; rfl
      by_cases hk16 : k < 16
      case neg =>
        obtain hke : k = 16 := by omega
        have hres : treeFollow es p = none := by rw [← hgo.out, hx, hke]; exact goOn_last h3
        replace hres := Lib.hid hres
        replace hx := Lib.hid hx
        replace h3 := Lib.hid h3
        replace hke := Lib.hid hke
        go_wp2
        have hfin := (((hrb.set0 (.string { data := #[] })).set1 (.int .i64 0)).set2 (.int .i64 0)).set3 (.string { data := #[] })
        have e0 := hfin.cell0
        have e1 := hfin.cell1
        have e2 := hfin.cell2
        have e3 := hfin.cell3
        refine bodyPost_ret (v := .tuple #[.agg #[(.string { data := #[] }), (.int .i64 0), (.int .i64 0), (.string { data := #[] })], .bool false]) (by simp [results, Tryd.results35, go_sem, e0, e1, e2, e3]) rfl ⟨by rw [hres.out]; rfl, ?_⟩
        exact (((hBr.setCell (p := ⟨w.heap.size, 0, none⟩) (Nat.le_refl _) _).setCell (p := ⟨w.heap.size, 1, none⟩) (Nat.le_refl _) _).setCell (p := ⟨w.heap.size, 2, none⟩) (Nat.le_refl _) _).setCell (p := ⟨w.heap.size, 3, none⟩) (Nat.le_refl _) _
      have hokt : treeOk es = true := by
        rcases hok.out with h | h
        · rw [hx] at h; cases h
        · exact h
      have hgn : goOn es (16 - (k + 1)) (treeGet es en0.text) = treeFollow es p := by rw [← hgo.out, hx]; exact goOn_step hokt hk16 h3
      obtain ⟨en2, b2', hsh2, hfd2, htx2⟩ := treeGet_parts es hsh.out en0.text
      replace hsh2 := Lib.hid hsh2
      replace hfd2 := Lib.hid hfd2
      replace hgn := Lib.hid hgn
      replace hokt := Lib.hid hokt
      replace hx := Lib.hid hx
      replace h3 := Lib.hid h3
      go_wp2_with fail
      refine (TreeGet_any es en0.text g c _ hEr.out hsh.out hcap htx).mono ?_
      rintro e w5 ⟨rfl, hB⟩
      rw [hsh2.out]
      have hgr := hEr.out.1
      have hblt := heb.lt
      have hrlt := hrb.lt
      have heb5 := heb.below hB hblt
      have hrb5 := hrb.below hB hrlt
      have hE5 := Lib.hid (hEr.out.below hB hgr)
      have hB5 := hBr.trans (hB.mono hBr.size)
      clear c0 c1 c2 c3 b0 b1' b2 b3 f0 f1 f2 f3
      have c0 := heb5.cell0
      have c1 := heb5.cell1
      have c2 := heb5.cell2
      have c3 := heb5.cell3
      have f0 := heb5.frozen 0
      have f1 := heb5.frozen 1
      have f2 := heb5.frozen 2
      have f3 := heb5.frozen 3
      go_wp2
      go_round
      case rel =>
        have hne : w.heap.size ≠ B := by omega
        have hgne : g < B := hgB
        refine ⟨k + 1, en2, b2', treeGet es en0.text, by omega, by go_num, rfl, hfd2, Lib.hid (.inr hokt.out), hgn, htx2, (((heb5.set0 _).set1 _).set2 _).set3 _, (((hrb5.apart hne _).apart hne _).apart hne _).apart hne _, Lib.hid ?_, ?_⟩
        · exact hE5.out.below (((((Below.refl B _).setCell (p := ⟨B, 0, none⟩) (Nat.le_refl _) _).setCell (p := ⟨B, 1, none⟩) (Nat.le_refl _) _).setCell (p := ⟨B, 2, none⟩) (Nat.le_refl _) _).setCell (p := ⟨B, 3, none⟩) (Nat.le_refl _) _) hgne
        · exact (((hB5.setCell (p := ⟨B, 0, none⟩) (by simp; omega) _).setCell (p := ⟨B, 1, none⟩) (by simp; omega) _).setCell (p := ⟨B, 2, none⟩) (by simp; omega) _).setCell (p := ⟨B, 3, none⟩) (by simp; omega) _
      case measure => simp [intOf]; omega
end Go.Proofs.YtjihpbioofikcaaDoor
