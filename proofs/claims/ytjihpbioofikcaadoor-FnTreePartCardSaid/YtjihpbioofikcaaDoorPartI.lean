/-
  The walks of the program's TreePart: its closure, IndexFunc, ContainsFunc.
-/
import Derived.Test.YtjihpbioofikcaaDoorPartS
import Derived.Test.YtjihpbioofikcaaDoorGM
import Derived.Deep.Onto
namespace Go.Proofs.YtjihpbioofikcaaDoor
open Go.RowKit
set_option linter.unusedVariables false
set_option linter.unusedSimpArgs false
attribute [local go_sem] mkB_size mkB_extract mkB_get mkB_append mkB_append_raw raw_append_mkB mkB_toList

set_option maxRecDepth 1000000 in
set_option maxHeartbeats 16000000 in
theorem part1_any (e o : En) (l : List UInt8) (eb gb : Nat) (w : World) (hbx : Box4 w eb 31 (.string (mkB e.path)) (.int .i64 e.kind) (.int .i64 e.mode) (.string (mkB e.text))) (hP : PBox w gb l) (hl : l.length ≤ 1048576) (he : e.path.length ≤ 1048576) (ho : o.path.length ≤ 1048576) :
    Calls Tryd.prog 68 #[enV o, .pointer (some ⟨eb, 0, none⟩), .pointer (some ⟨gb, 0, none⟩)] w fun r w' => r = .returned (.bool (pathIn e.path o.path && globHas l o.path)) ∧ Below w.heap.size w w' := by
  obtain ⟨p, kind, mode, t⟩ := e
  obtain ⟨op, ok, om, ot⟩ := o
  simp only at he ho hbx ⊢
  have hbl := hbx.lt
  have hb0 := hbx.cell0
  have hgl := hP.1
  have hbh := Lib.hid hbx
  have hPh := Lib.hid hP
  clear hbx hP
  go_enter Tryd.func68, Tryd.ntmps68
  go_wp2_with fail
  obtain ⟨W0, hW⟩ : ∃ X, w.alloc (.cells #[.string (mkB op), .int .i64 ok, .int .i64 om, .string (mkB ot)] 31) = X := ⟨_, rfl⟩
  have hob : Box4 W0 w.heap.size 31 (.string (mkB op)) (.int .i64 ok) (.int .i64 om) (.string (mkB ot)) := by rw [← hW]; exact Box4.new _ _ _ _ _ _
  have hB0 : Below w.heap.size w W0 := by rw [← hW]; exact (Below.refl _ _).alloc (Nat.le_refl _) _
  rw [hW]
  clear hW hb0
  have hP0 := hPh.out.below hB0 hgl
  with_reducible refine (PathIn_any p op (by omega) (by omega) _).mono ?_
  rintro r w1 ⟨rfl, hB⟩
  have hC1 := hB0.trans (hB.mono hB0.size)
  have hP1 := hP0.below hB hP0.1
  have hob1 := hob.below hB hob.lt
  have o0 := hob1.cell0
  have g0 := hP1.2
  have ol := hob1.lt
  have gl := hP1.1
  clear hP1 hP0 hob hB0 hB
  replace hob1 := Lib.hid hob1
  rcases boolOf (pathIn p op) with hb | hb
  · rw [hb.out]
    go_wp2
    go_ret
    exact ⟨by rw [hb.out]; rfl, hC1⟩
  · rw [hb.out]
    go_wp2_with fail
    with_reducible refine (GlobHas_any l op hl ho _).mono ?_
    rintro r w2 ⟨rfl, hB⟩
    go_wp2
    go_ret
    exact ⟨by rw [hb.out, Bool.true_and]; rfl, hC1.trans (hB.mono hC1.size)⟩

/-- what the closure asks -/
def askP (p l : List UInt8) (o : En) : Bool := pathIn p o.path && globHas l o.path
set_option maxRecDepth 1000000 in
set_option maxHeartbeats 16000000 in
theorem indexPart_any (es : List En) (e : En) (l : List UInt8) (eb gb g c : Nat) (w : World) (hE : Ents w g es) (hsm : Small es) (hbx : Box4 w eb 31 (.string (mkB e.path)) (.int .i64 e.kind) (.int .i64 e.mode) (.string (mkB e.text))) (hP : PBox w gb l) (hl : l.length ≤ 1048576) (he : e.path.length ≤ 1048576) :
    Calls Tryd.prog 109 #[.slice (some ⟨g, 0, none⟩) es.length c, .func (.func 68) #[] #[.pointer (some ⟨eb, 0, none⟩), .pointer (some ⟨gb, 0, none⟩)]] w
      fun r w' => ((es.any (askP e.path l) = true ∧ ∃ k : Nat, k < es.length ∧ r = .returned (.int .i64 k)) ∨ (es.any (askP e.path l) = false ∧ r = .returned (.int .i64 (-1)))) ∧ Below w.heap.size w w' := by
  have hEh := Lib.hid hE
  have hsh := Lib.hid hsm
  have hPh := Lib.hid hP
  have hbh := Lib.hid hbx
  have hg := hE.1
  have hgb := hP.1
  have hbl := hbx.lt
  have hlen := hsm.1
  clear hE hsm hP hbx
  go_enter Tryd.func109, Tryd.ntmps109
  go_wp2
  go_loopw [8] (fun i wr => ∃ k : Nat, k ≤ es.length ∧ i = .int .i64 k ∧ Hid ((es.take k).any (askP e.path l) = false) ∧ Below w.heap.size w wr) (fun i _ => es.length - (intOf i).toNat)
  case atStart => exact ⟨0, Nat.zero_le _, rfl, Lib.hid (by simp), Below.refl _ _⟩
  case round =>
    obtain ⟨k, hk, rfl, hno, hB1⟩ := hrel
    by_cases hlt : k < es.length
    · obtain ⟨c0, c1, c2, c3⟩ := (hEh.out.below hB1 hg).2 k hlt
      have hP1 := Lib.hid (hPh.out.below hB1 hgb)
      have hb1 := Lib.hid (hbh.out.below hB1 hbl)
      have hkI : (k : Int) < (es.length : Int) := by omega
      have hpl := (hsh.out.2 k hlt).1
      rcases boolOf (pathIn e.path es[k].path && globHas l es[k].path) with hb | hb
      · have hnx := Lib.hid (any_step hlt hno.out (show askP e.path l es[k] = false from hb.out))
        go_wp2_with (go_at_call 68; refine (part1_any e es[k] l eb gb _ hb1.out hP1.out hl he hpl).mono ?_; rintro r w2 ⟨rfl, hB2⟩; rw [hb.out])
        go_round
        case rel => exact ⟨k + 1, by omega, by go_num, hnx, hB1.trans (hB2.mono hB1.size)⟩
        case measure => simp [intOf]; omega
      · have hyes := Lib.hid (any_at hlt (show askP e.path l es[k] = true from hb.out))
        go_wp2_with (go_at_call 68; refine (part1_any e es[k] l eb gb _ hb1.out hP1.out hl he hpl).mono ?_; rintro r w2 ⟨rfl, hB2⟩; rw [hb.out])
        go_ret
        exact ⟨.inl ⟨hyes.out, k, hlt, rfl⟩, hB1.trans (hB2.mono hB1.size)⟩
    · obtain rfl : k = es.length := by omega
      have hno2 := hno.out
      rw [List.take_length] at hno2
      replace hno2 := Lib.hid hno2
      go_wp2
      go_ret
      exact ⟨.inr ⟨hno2.out, rfl⟩, hB1⟩
set_option maxRecDepth 1000000 in
set_option maxHeartbeats 16000000 in
theorem containsPart_any (es : List En) (e : En) (l : List UInt8) (eb gb g c : Nat) (w : World) (hE : Ents w g es) (hsm : Small es) (hbx : Box4 w eb 31 (.string (mkB e.path)) (.int .i64 e.kind) (.int .i64 e.mode) (.string (mkB e.text))) (hP : PBox w gb l) (hl : l.length ≤ 1048576) (he : e.path.length ≤ 1048576) :
    Calls Tryd.prog 69 #[.slice (some ⟨g, 0, none⟩) es.length c, .func (.func 68) #[] #[.pointer (some ⟨eb, 0, none⟩), .pointer (some ⟨gb, 0, none⟩)]] w
      fun r w' => r = .returned (.bool (es.any (askP e.path l))) ∧ Below w.heap.size w w' := by
  have hcall := Lib.hid (indexPart_any es e l eb gb g c w hE hsm hbx hP hl he)
  clear hE hbx hP
  go_enter Tryd.func69, Tryd.ntmps69
  go_wp2_with fail
  with_reducible refine hcall.out.mono ?_
  rintro r w1 ⟨hr, hB⟩
  rcases hr with ⟨ha, k, hk, rfl⟩ | ⟨ha, rfl⟩
  · have hk0 : (0 : Int) ≤ (k : Int) := by omega
    replace ha := Lib.hid ha
    go_wp2
    go_ret
    exact ⟨by rw [ha.out]; rfl, hB⟩
  · replace ha := Lib.hid ha
    go_wp2
    go_ret
    exact ⟨by rw [ha.out]; rfl, hB⟩

theorem ask_wanted {es : List En} (ht : treeOk es = true) (l : List UInt8) {e : En} (he : e ∈ es) : es.any (askP e.path l) = wanted es l e := by
  have hT := treeOk_is ht
  have hok : ∀ o ∈ es, pathOk o.path = true := fun o ho => by
    obtain ⟨i, hi, rfl⟩ := List.getElem_of_mem ho
    exact entryOk_path (hT.ok i hi)
  rw [Bool.eq_iff_iff]
  unfold wanted
  rw [List.any_eq_true, List.any_eq_true]
  constructor
  · rintro ⟨o, ho, h⟩
    refine ⟨o, ho, ?_⟩
    unfold askP pathIn at h
    rw [hok o ho, hok e he] at h
    simpa using h
  · rintro ⟨o, ho, h⟩
    refine ⟨o, ho, ?_⟩
    unfold askP pathIn
    rw [hok o ho, hok e he]
    simpa using h
set_option maxRecDepth 1000000 in
set_option maxHeartbeats 16000000 in
theorem TreePart_both (es : List En) (l : List UInt8) (g c : Nat) (w : World) (hE : Ents w g es) (hsm : Small es) (hcap : es.length ≤ c) (hl : l.length ≤ 1048576) :
    Calls Tryd.prog 33 #[.slice (some ⟨g, 0, none⟩) es.length c, .string (mkB l)] w (ResG (treePart es l) w) := by
  have hEh := Lib.hid hE
  have hsh := Lib.hid hsm
  have hg := hE.1
  have hlen := hsm.1
  clear hE hsm
  obtain ⟨i0, hi, hz0, hz1, hz2⟩ := info_parts infoE
  replace hi := Lib.hid hi
  replace hz0 := Lib.hid hz0
  replace hz1 := Lib.hid hz1
  replace hz2 := Lib.hid hz2
  go_enter Tryd.func33, Tryd.ntmps33
  go_wp2_with fail
  obtain ⟨W0, hW⟩ : ∃ X, w.alloc (.cells #[.string (mkB l)] 9) = X := ⟨_, rfl⟩
  have hP0 : PBox W0 w.heap.size l := by rw [← hW]; exact ⟨by simp, by rw [row_cell _ _ _ _ _ _ (World.alloc_heap_new w (.cells #[.string (mkB l)] 9))]; rfl⟩
  have hB0 : Below w.heap.size w W0 := by rw [← hW]; exact (Below.refl _ _).alloc (Nat.le_refl _) _
  rw [hW]
  clear hW
  obtain ⟨gb, hgb⟩ : ∃ x, w.heap.size = x := ⟨_, rfl⟩
  rw [hgb] at hP0 ⊢
  have hE0 := hEh.out.below hB0 hg
  with_reducible refine (TreeOk_any es g c _ hE0 hsh.out hcap).mono ?_
  rintro r w1 ⟨rfl, hB⟩
  have hC1 := hB0.trans (hB.mono hB0.size)
  have hP1 := Lib.hid (hP0.below hB hP0.1)
  clear hP0 hB0 hE0 hB
  replace hgb := Lib.hid hgb
  rcases boolOf (treeOk es) with hok | hok
  · rw [hok.out]
    have hbad := Lib.hid (treePart_bad (g := l) hok.out)
    go_wp2
    go_ret
    rw [hbad.out]
    exact ResG.of (n := 0) ⟨rfl, .inl ⟨rfl, rfl⟩⟩ rfl hC1
  rw [hok.out]
  have p0 := hP1.out.2
  have pl := hP1.out.1
  go_wp2_with fail
  with_reducible refine (GlobOk_any l hl _).mono ?_
  rintro r w2 ⟨rfl, hB⟩
  have hC2 := hC1.trans (hB.mono hC1.size)
  have hP2 := Lib.hid (hP1.out.below hB hP1.out.1)
  clear hP1 hB p0 pl
  rcases boolOf (globOk l) with hgo | hgo
  · rw [hgo.out]
    have hbad := Lib.hid (treePart_noglob (es := es) hgo.out)
    go_wp2
    go_ret
    rw [hbad.out]
    exact ResG.of (n := 0) ⟨rfl, .inl ⟨rfl, rfl⟩⟩ rfl hC2
  rw [hgo.out]
  have hgs : gb < w2.heap.size := hP2.out.1
  go_wp2
  go_loopw [5, 19] (fun out ii wr => ∃ (k n1 : Nat) (v : Value), k ≤ es.length ∧ ii = .int .i64 k ∧ out = v ∧ Hid (n1 = ((es.take k).filter (wanted es l)).length) ∧ n1 ≤ k ∧ Hid (wr.ownsRow (gb + 1) 31 4 v n1 (flatE ((es.take k).filter (wanted es l)))) ∧ Hid (PBox wr gb l) ∧ Below w.heap.size w wr) (fun _ ii _ => es.length - (intOf ii).toNat)
  case atStart => exact ⟨0, 0, .slice none 0 0, Nat.zero_le _, rfl, rfl, Lib.hid (by simp), Nat.le_refl _, Lib.hid ⟨by simp [flatE], .inl ⟨rfl, rfl⟩⟩, hP2, hC2⟩
  case round =>
    clear hP2 hgs
    obtain ⟨k, n1, v, hk, rfl, rfl, hn1, hnk, hown, hP, hB1⟩ := hrel
    by_cases hlt : k < es.length
    · have hkI : (k : Int) < (es.length : Int) := by omega
      have hpl := (hsh.out.2 k hlt).1
      obtain ⟨d0, d1, d2, d3⟩ := (hEh.out.below hB1 hg).2 k hlt
      have hnx := filter_take (q := wanted es l) hlt
      have hask := ask_wanted hok.out l (List.getElem_mem hlt)
      obtain ⟨x, hx⟩ : ∃ x, es[k] = x := ⟨_, rfl⟩
      rw [hx] at d0 d1 d2 d3 hnx hask hpl
      clear hx
      obtain ⟨p, kind, mode, t⟩ := x
      simp only at d0 d1 d2 d3 hask hpl
      replace hnx := Lib.hid hnx
      replace hask := Lib.hid hask
      go_wp2_with fail
      obtain ⟨Wb, hWb⟩ : ∃ X, wr.alloc (.cells #[.string (mkB p), .int .i64 kind, .int .i64 mode, .string (mkB t)] 31) = X := ⟨_, rfl⟩
      have hb1 : Box4 Wb wr.heap.size 31 (.string (mkB p)) (.int .i64 kind) (.int .i64 mode) (.string (mkB t)) := by rw [← hWb]; exact Box4.new _ _ _ _ _ _
      have hBb : Below wr.heap.size wr Wb := by rw [← hWb]; exact (Below.refl _ _).alloc (Nat.le_refl _) _
      rw [hWb]
      obtain ⟨eb, heb⟩ : ∃ x, wr.heap.size = x := ⟨_, rfl⟩
      have hown2 := own_below hown.out hBb
      have hP2 := hP.out.below hBb hP.out.1
      have hC2 := hB1.trans (hBb.mono hB1.size)
      rw [heb] at hb1 ⊢
      clear hWb heb hBb d0 d1 d2 d3 hown hP
      with_reducible refine (containsPart_any es ⟨p, kind, mode, t⟩ l eb gb g c Wb (hEh.out.below hC2 hg) hsh.out hb1 hP2 hl hpl).mono ?_
      rintro r w5 ⟨rfl, hB⟩
      have hC5 := hC2.trans (hB.mono hC2.size)
      have hb5 := hb1.below hB hb1.lt
      have hP5 := Lib.hid (hP2.below hB hP2.1)
      have hown5 := Lib.hid (own_below hown2 hB)
      have e0 := hb5.cell0
      have e1 := hb5.cell1
      have e2 := hb5.cell2
      have e3 := hb5.cell3
      have el := hb5.lt
      clear hb1 hP2 hown2 hB hC2 hb5
      rw [show es.any (askP (⟨p, kind, mode, t⟩ : En).path l) = wanted es l ⟨p, kind, mode, t⟩ from hask.out]
      rcases boolOf (wanted es l ⟨p, kind, mode, t⟩) with hw | hw
      · rw [hw.out]
        have hnx2 := hnx.out
        rw [hw.out] at hnx2
        replace hnx2 := Lib.hid hnx2
        clear hnx
        go_wp2
        go_round
        case rel => exact ⟨k + 1, n1, _, by omega, by go_num, rfl, Lib.hid (by rw [hnx2.out]; simpa using hn1.out), by omega, Lib.hid (by rw [hnx2.out]; simpa using hown5.out), hP5, hC5⟩
        case measure => simp [intOf]; omega
      · rw [hw.out]
        have hnx2 := hnx.out
        replace hnx2 : (es.take (k + 1)).filter (wanted es l) = (es.take k).filter (wanted es l) ++ [⟨p, kind, mode, t⟩] := by rw [hnx2, hw.out]; rfl
        replace hnx2 := Lib.hid hnx2
        clear hnx
        have h63 : n1 + 1 ≤ maxLen := by simp only [maxLen]; omega
        have hby : (n1 + 1) * 48 ≤ 140737488355328 := by omega
        have hbs : gb + 1 ≤ w5.heap.size := hP5.out.1
        have hone := Lib.hid (cellsE_one ⟨p, kind, mode, t⟩)
        go_wp2_with (at_builtin; go_loud (refine wpList_push rfl _ _ 27 rfl (gb + 1) 31 i0 _ 4 48 Tryd.underlying27 hi.out hz0.out hz1.out hz2.out rfl (by decide) w5 _ n1 (flatE ((es.take k).filter (wanted es l))) hown5.out rfl (cellsE ⟨p, kind, mode, t⟩) rfl rfl hone.out h63 hby hbs ?_); intro g6 c6 w6 hown6 hgr6 hB6 _)
        have hown7 : w6.ownsRow (gb + 1) 31 4 (.slice (some ⟨g6, 0, none⟩) (n1 + 1) c6) (n1 + 1) (flatE ((es.take (k + 1)).filter (wanted es l))) := by rw [hnx2.out, flatE_snoc]; exact hown6
        replace hown7 := Lib.hid hown7
        have hP6 : Hid (PBox w6 gb l) := Lib.hid (hP5.out.below hB6 (Nat.lt_succ_self gb))
        clear hown6 hgr6 e0 e1 e2 e3
        go_wp2
        go_round
        case rel => exact ⟨k + 1, n1 + 1, _, by omega, by go_num, rfl, Lib.hid (by rw [hnx2.out, List.length_append, ← hn1.out]; rfl), by omega, hown7, hP6, hC5.trans (hB6.mono (by have := hgb.out; omega))⟩
        case measure => simp [intOf]; omega
    · obtain rfl : k = es.length := by omega
      have hfl : (es.take es.length).filter (wanted es l) = treePart es l := by rw [List.take_length, treePart_ok hok.out]
      have hnl : n1 = (treePart es l).length := by rw [hn1.out, hfl]
      have hR := hown.out
      rw [hfl] at hR
      replace hR := Lib.hid hR
      replace hfl := Lib.hid hfl
      replace hnl := Lib.hid hnl
      go_wp2
      go_ret
      exact ResG.of (World.ownsRow.mono hR.out (by have := hgb.out; omega)) hnl.out hB1
theorem TreePart_any (es : List En) (l : List UInt8) (g c : Nat) (w : World) (hE : Ents w g es) (hsm : Small es) (hcap : es.length ≤ c) (hl : l.length ≤ 1048576) :
    Calls Tryd.prog 33 #[.slice (some ⟨g, 0, none⟩) es.length c, .string (mkB l)] w (ResF1 (treePart es l) w) := (TreePart_both es l g c w hE hsm hcap hl).mono fun _ _ h => h.f1
end Go.Proofs.YtjihpbioofikcaaDoor
