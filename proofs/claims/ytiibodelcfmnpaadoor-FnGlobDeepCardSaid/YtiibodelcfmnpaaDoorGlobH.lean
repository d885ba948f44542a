/-
  The walk of the program's globNames.
-/
import Derived.Test.YtiibodelcfmnpaaDoorGlobG
namespace Go.Proofs.YtiibodelcfmnpaaDoor
open Go.RowKit Go.Shelf
set_option linter.unusedVariables false
set_option linter.unusedSimpArgs false
attribute [local go_sem] Oper.semAt_some mkB_size mkB_extract mkB_get mkB_toList

def NamesPost (l : List UInt8) (w : World) (e : Ending) (w' : World) : Prop :=
  Below w.heap.size w w' ∧ ((globs l = none ∧ ∃ v, e = .returned (.tuple #[v, .bool false])) ∨
    (∃ (ys : List (Gn × Value)) (g cap : Nat), globs l = some (names ys) ∧ e = .returned (.tuple #[.slice (some ⟨g, 0, none⟩) ys.length cap, .bool true]) ∧
      w'.ownsRow w.heap.size 52 2 (.slice (some ⟨g, 0, none⟩) ys.length cap) ys.length (cellsN ys) ∧ HasAll w.heap.size w' ys))
theorem ownFrom_size' {β : Type} (B n : Nat) : OwnFrom B (fun (_ : β) W => n ≤ W.heap.size) := fun _ _ _ _ hs hg _ => Nat.le_trans hs hg.size
theorem AtBox.size' {β : Type} (bs n : Nat) : AtBox bs (fun (_ : β) W => n ≤ W.heap.size) := fun _ _ _ hs hg => Nat.le_trans hs hg.size
theorem parts_len : ∀ (n : Nat) (l : List UInt8) (ps : List Pt), l.length ≤ n → parts l = some ps → ps.length ≤ l.length := by
  intro n
  induction n with
  | zero =>
    intro l ps hl h
    obtain rfl : l = [] := List.eq_nil_of_length_eq_zero (by omega)
    cases h; simp
  | succ n ih =>
    intro l ps hl h
    cases l with
    | nil => cases h; simp
    | cons c r =>
      cases hh : head1 (c :: r) with
      | none => rw [parts_bad hh (List.cons_ne_nil _ _)] at h; cases h
      | some y =>
        obtain ⟨p, t⟩ := y
        rw [parts_step hh] at h
        obtain ⟨qs, hq, rfl⟩ := parts_map h
        have h1 := head1_short hh
        simp only [List.length_cons] at h1 hl ⊢
        have h2 := ih t qs (by omega) hq
        omega
theorem own_cells {W : World} {n : Nat} {e : TypeId} {k m : Nat} {v : Value} {xs : List Value} (h : W.ownsRow n e k v m xs) : ∀ j o, v.ownBlock = some j → W.heap[j]? = some o → o.isCells = true := by
  intro j o ej hj
  rcases h.2 with ⟨rfl, _⟩ | ⟨g, cap, cur, rfl, hb, hgb, _⟩
  · simp [Value.ownBlock] at ej
  · obtain rfl : g = j := by simpa [Value.ownBlock] using ej
    rw [hgb] at hj; cases hj; rfl
theorem own_names {w1 : World} {base g1 cap1 : Nat} {ys : List (Gn × Value)} {p : Gn} {f : Value} (h : w1.ownsRow base 52 2 (.slice (some ⟨g1, 0, none⟩) (ys.length + 1) cap1) (ys.length + 1) (cellsN ys ++ [.bool p.many, f])) :
    w1.ownsRow base 52 2 (.slice (some ⟨g1, 0, none⟩) (ys.length + 1) cap1) (ys ++ [(p, f)]).length (cellsN (ys ++ [(p, f)])) := by
  rw [cellsN_snoc, List.length_append]
  exact h
theorem below_alloc' {n : Nat} {w W : World} (h : Below n w W) (hn : n ≤ w.heap.size) (o : Obj) : Below n w (W.alloc o) := h.alloc (Nat.le_trans hn h.size) o
theorem own_aside {lo lo2 k : Nat} {W : World} {v : Value} {cs : List Value} (h : W.ownsRow lo2 52 2 v k cs) : Aside lo W v.ownBlock := fun r hr => by
  right
  intro cs' t fr hc
  rcases h.2 with ⟨rfl, _⟩ | ⟨g, cap, cur, rfl, hb, hh, _⟩
  · simp [Value.ownBlock] at hr
  · obtain rfl : g = r := by simpa [Value.ownBlock] using hr
    rw [hh] at hc
    cases hc
    rfl
theorem globs_bad {l x : List UInt8} {pre : List (List UInt8)} (h : pre ++ [x] <+: cut 47 l) (hx : globName x = none) : globs l = none := by
  unfold globs
  split
  · split
    · obtain ⟨r, hr⟩ := h
      rw [← hr, List.append_assoc]
      exact globAll_bad hx
    · rfl
  · rfl
theorem globs_many {l x : List UInt8} {pre : List (List UInt8)} (h : pre ++ [x] <+: cut 47 l) (hx : 5 ≤ pre.length) : globs l = none := by
  unfold globs
  have := h.length_le
  simp at this
  split
  · rw [if_neg (by omega)]
  · rfl
theorem globs_all' {l : List UInt8} {gs : List Gn} (hl : l.length ≤ 40) (h5 : (cut 47 l).length ≤ 5) (h : globAll (cut 47 l) = some gs) : globs l = some gs := by
  unfold globs; rw [if_pos hl, if_pos h5, h]
theorem globs_long {l : List UInt8} (hl : 40 < l.length) : globs l = none := by unfold globs; rw [if_neg (by omega)]
set_option maxRecDepth 1000000 in
set_option maxHeartbeats 8000000 in
theorem globNames_in (l : List UInt8) (hl : l.length ≤ 40) (w : World) :
    CallsIn Fence.wide 4 Tryd.prog 21 #[.string (mkB l)] w (NamesPost l w) := by
  obtain ⟨i0, hi, hzz, hz1, hz2⟩ := info_parts info_name
  have hlI : (l.length : Int) ≤ 40 := by omega
  refine callsIn_of_wp_marks Tryd.func21 rfl trivial ?_ rfl
  simp only [Tryd.ntmps21, List.size_toArray, List.length_cons, List.length_nil, Nat.reduceAdd, Nat.reduceSub, Array.replicate_succ, Array.replicate_zero, List.push_toArray, List.append_toArray, List.nil_append, List.cons_append]
  gi_wp2_with (refine ⟨trivial, ?_⟩; gi_at_call 24; refine (callsIn_wide.2 (SplitSeq_any _ _ _)).mono ?_; rintro e w' ⟨rfl, rfl⟩)
  obtain ⟨z, hz0⟩ : ∃ z, w.heap.size = z := ⟨_, rfl⟩
  rw [hz0]
  obtain ⟨W0, hW0⟩ : ∃ W0, ((((((w.alloc (.cells #[.slice none 0 0] 32)).alloc (.cells #[.bool false] 4)).alloc (.cells #[.slice none 0 0] 32)).alloc (.cells #[.string (mkB l)] 9)).alloc (.cells #[.string { data := #[47] }] 9)).alloc (.cells #[.int .i64 0] 3)) = W0 := ⟨_, rfl⟩
  have hz : W0.heap.size = z + 6 := by rw [← hW0]; simp [hz0]
  have b0 : Boxed W0 z 32 (.slice none 0 0) := by rw [← hW0, ← hz0]; exact (((((Boxed.new w _ _).alloc _).alloc _).alloc _).alloc _).alloc _
  have b1 : Boxed W0 (z + 1) 4 (.bool false) := by
    rw [← hW0, ← hz0]
    have h := Boxed.new (w.alloc (.cells #[.slice none 0 0] 32)) 4 (.bool false)
    simp only [World.size_alloc] at h
    exact (((h.alloc _).alloc _).alloc _).alloc _
  have b2 : Boxed W0 (z + 1 + 1) 32 (.slice none 0 0) := by
    rw [← hW0, ← hz0]
    have h := Boxed.new ((w.alloc (.cells #[.slice none 0 0] 32)).alloc (.cells #[.bool false] 4)) 32 (.slice none 0 0)
    simp only [World.size_alloc] at h
    exact ((h.alloc _).alloc _).alloc _
  have b3 : Boxed W0 (z + 1 + 1 + 1) 9 (.string (mkB l)) := by
    rw [← hW0, ← hz0]
    have h := Boxed.new (((w.alloc (.cells #[.slice none 0 0] 32)).alloc (.cells #[.bool false] 4)).alloc (.cells #[.slice none 0 0] 32)) 9 (.string (mkB l))
    simp only [World.size_alloc] at h
    exact (h.alloc _).alloc _
  have b4 : Boxed W0 (z + 1 + 1 + 1 + 1) 9 (.string (mkB [47])) := by
    rw [← hW0, ← hz0]
    have h := Boxed.new ((((w.alloc (.cells #[.slice none 0 0] 32)).alloc (.cells #[.bool false] 4)).alloc (.cells #[.slice none 0 0] 32)).alloc (.cells #[.string (mkB l)] 9)) 9 (.string (mkB [47]))
    simp only [World.size_alloc] at h
    exact h.alloc _
  have b5 : Boxed W0 (z + 1 + 1 + 1 + 1 + 1) 3 (.int .i64 0) := by
    rw [← hW0, ← hz0]
    have h := Boxed.new (((((w.alloc (.cells #[.slice none 0 0] 32)).alloc (.cells #[.bool false] 4)).alloc (.cells #[.slice none 0 0] 32)).alloc (.cells #[.string (mkB l)] 9)).alloc (.cells #[.string (mkB [47])] 9)) 3 (.int .i64 0)
    simp only [World.size_alloc] at h
    exact h
  have hB0 : Below z w W0 := by
    rw [← hW0, ← hz0]
    exact ((((((Below.refl _ w).alloc (Nat.le_refl _) _).alloc (by simp) _).alloc (by simp; omega) _).alloc (by simp; omega) _).alloc (by simp; omega) _).alloc (by simp; omega) _
  rw [hW0]
  clear hW0
  refine wpIn_range_box (n := 4) rfl (by omega) (gf := 53) (lb := #[.pointer (some ⟨z + 1 + 1 + 1 + 1, 0, none⟩), .pointer (some ⟨z + 1 + 1 + 1, 0, none⟩), .pointer (some ⟨z + 1 + 1 + 1 + 1 + 1, 0, none⟩)]) rfl trivial (enters_of Tryd.func53 (by kernel_rfl) rfl)
    (iter_box 3 (by omega) l (by omega) 47 (z + 1 + 1 + 1) W0 b3 b4 b5) (by omega) kpB_t (kpB_g (by omega))
    (fun pre W => NamesAt (z + 1 + 1) (z + 6) pre W ∧ Boxed W (z + 1) 4 (.bool false) ∧ Boxed W z 32 (.slice none 0 0) ∧ z + 6 ≤ W.heap.size ∧ Below z w W)
    (fun c _ W => (c = .ret ∧ globs l = none) ∧ Boxed W (z + 1) 4 (.bool false) ∧ Boxed W z 32 (.slice none 0 0) ∧ Below z w W)
    ((Own.from (namesAt_own _ _ (by omega)) _).and ((Own.from (boxed_own _ _ _) _).and ((Own.from (boxed_own _ _ _) _).and ((ownFrom_size' _ _).and (ownFrom_below (by omega) (by omega))))))
    ((namesAt_box _ _ _ (by omega) (by omega)).and ((AtBox.boxed _ _ (by omega)).and ((AtBox.boxed _ _ (by omega)).and ((AtBox.size' _ _).and (AtBox.below (by omega) (by omega))))))
    (fun c => (ownFrom_pure _ _).and ((Own.from (boxed_own _ _ _) _).and ((Own.from (boxed_own _ _ _) _).and (ownFrom_below (by omega) (by omega)))))
    ⟨⟨[], _, ⟨rfl, by simp⟩, b2, ⟨rfl, .inl ⟨rfl, rfl⟩⟩, fun y hy => by simp at hy⟩, b1, b0, by omega, hB0⟩
    (fun x => { tmps := #[.string (mkB l), undef, .pointer (some ⟨z, 0, none⟩), .pointer (some ⟨z + 1, 0, none⟩), .pointer (some ⟨z + 1 + 1, 0, none⟩), .string (mkB x), undef, undef, undef, .string (mkB l), .int .i64 l.length, .bool (decide ((40 : Int) < (l.length : Int))), .string (mkB l),
      .func (.func 53) #[] #[.pointer (some ⟨z + 1 + 1 + 1 + 1, 0, none⟩), .pointer (some ⟨z + 1 + 1 + 1, 0, none⟩), .pointer (some ⟨z + 1 + 1 + 1 + 1 + 1, 0, none⟩)],
      .string (mkB x), undef, undef, undef, undef, undef, undef, undef, undef, undef, undef, undef, undef, undef, undef, undef, undef, undef, undef, undef, undef, undef], defers := [] }) ?assign ?body ?done ?stop
  case assign =>
    intro lp x W K hK
    gi_wp2
    exact hK
  case body =>
    rintro lp pre x W hlp ⟨⟨ys, v, ⟨hns, h4⟩, hv, hrow, hall⟩, hr1, hr0, hzW, hB⟩ hpre
    have hxl : x.length ≤ 40 := by
      have := cut_mem_length (hpre.subset (by simp : x ∈ pre ++ [x]))
      omega
    have hnl : ys.length = pre.length := by
      have := globAll_length hns
      simpa [names] using this
    obtain ⟨pp, cap, rfl⟩ : ∃ pp cap, v = .slice pp ys.length cap := by
      rcases hrow.2 with ⟨rfl, h0⟩ | ⟨g, cap, _, rfl, _⟩
      · exact ⟨none, 0, by rw [h0]⟩
      · exact ⟨_, cap, rfl⟩
    have hns' := Lib.hid hns
    have hnl' := Lib.hid hnl
    clear hns hnl
    gi_wp2_with fail
    refine ⟨trivial, ?_⟩
    refine (CallsIn.inRound lp (callsIn_wide.2 (globParts_any x (by omega) _))).mono ?_
    rintro e wc ⟨hBc, ⟨hbad, A0, n0, k0, rfl⟩ | ⟨xs, g, cp, hgood, rfl, hown1, hT⟩⟩
    · have hgn : globName x = none := by unfold globName; rw [hbad]; rfl
      have hgl := Lib.hid (globs_bad hpre hgn)
      replace hbad := Lib.hid hbad
      replace hgn := Lib.hid hgn
      have r1 : Boxed wc (z + 1) 4 (.bool false) := (hBc.block _ hr1.lt).trans hr1
      have r0 : Boxed wc z 32 (.slice none 0 0) := (hBc.block _ hr0.lt).trans hr0
      have r2 : Boxed wc (z + 1 + 1) 32 (.slice pp ys.length cap) := (hBc.block _ hv.lt).trans hv
      have c1 := r1.cell
      have c0 := r0.cell
      have c2 := r2.cell
      have f1 := r1.frozen
      have f0 := r0.frozen
      have f2 := r2.frozen
      have l1 := r1.lt
      have l0 := r0.lt
      have l2 := r2.lt
      have hBw := hB.trans (hBc.mono (by omega))
      have hkc : KeepsOthers W wc := KeepsOthers.of_grownBy (row := none) ⟨hBc.os, hBc.tape, hBc.output, hBc.size, fun k hk _ => hBc.block k hk⟩ (fun j o e => by cases e)
      replace hv := Lib.hid hv
      replace hrow := Lib.hid hrow
      replace hr1 := Lib.hid hr1
      replace hr0 := Lib.hid hr0
      replace r1 := Lib.hid r1
      replace r0 := Lib.hid r0
      replace r2 := Lib.hid r2
      replace hall := Lib.hid hall
      gi_wp2
      exact ⟨(((hkc.trans (KeepsOthers.setCell _ _ _)).trans (KeepsOthers.setCell _ _ _)).trans (KeepsOthers.alloc _ _)).from _, ⟨rfl, hgl.out⟩, ((r1.out.other (by omega) _).set _).alloc _, ((r0.out.set _).other (by omega) _).alloc _,
        below_alloc' ((hBw.setCell (p := ⟨z, 0, none⟩) (Nat.le_refl _) _).setCell (p := ⟨z + 1, 0, none⟩) (by simp) _) (by omega) _⟩
    · have hgn : globName x = some ⟨x == [42, 42], stars xs⟩ := by unfold globName; rw [hgood]; rfl
      have hgm : pre.length = 5 → globs l = none := fun h => globs_many hpre (by omega)
      replace hgood := Lib.hid hgood
      replace hgn := Lib.hid hgn
      replace hgm := Lib.hid hgm
      have r1 : Boxed wc (z + 1) 4 (.bool false) := (hBc.block _ hr1.lt).trans hr1
      have r0 : Boxed wc z 32 (.slice none 0 0) := (hBc.block _ hr0.lt).trans hr0
      have r2 : Boxed wc (z + 1 + 1) 32 (.slice pp ys.length cap) := (hBc.block _ hv.lt).trans hv
      have c1 := r1.cell
      have c0 := r0.cell
      have c2 := r2.cell
      have f1 := r1.frozen
      have f0 := r0.frozen
      have f2 := r2.frozen
      have l1 := r1.lt
      have l0 := r0.lt
      have l2 := r2.lt
      have hBw := hB.trans (hBc.mono (by omega))
      have hkc : KeepsOthers W wc := KeepsOthers.of_grownBy (row := none) ⟨hBc.os, hBc.tape, hBc.output, hBc.size, fun k hk _ => hBc.block k hk⟩ (fun j o e => by cases e)
      have hxs : xs.length ≤ 1048576 := by
        have := parts_len x.length x _ (Nat.le_refl _) (nameParts_parts hgood.out)
        simp at this; omega
      have row3 := own_below (own_below hrow hBc) ((Below.refl _ _).alloc (Nat.le_refl _) (.cells #[.slice (some ⟨g, 0, none⟩) xs.length cp] 47))
      have hall3 := (hall.below hBc).below ((Below.refl _ _).alloc (Nat.le_refl _) (.cells #[.slice (some ⟨g, 0, none⟩) xs.length cp] 47))
      have hown3 := own_lower (n' := z + 6) hzW (own_below hown1 ((Below.refl _ _).alloc (Nat.le_refl _) (.cells #[.slice (some ⟨g, 0, none⟩) xs.length cp] 47)))
      have hT3 := (hT.below ((Below.refl _ _).alloc (Nat.le_refl _) (.cells #[.slice (some ⟨g, 0, none⟩) xs.length cp] 47))).mono hzW
      have r23 := r2.alloc (.cells #[.slice (some ⟨g, 0, none⟩) xs.length cp] 47)
      have hwcz := hBc.size
      have hHas : HasIs (z + 6) (wc.alloc (.cells #[.slice (some ⟨g, 0, none⟩) xs.length cp] 47)) (.func (.func 35) #[] #[.pointer (some ⟨wc.heap.size, 0, none⟩)]) (stars xs) := ⟨wc.heap.size, g, cp, xs, by omega, rfl, Boxed.new _ _ _, hown3, hT3, rfl, hxs⟩
      replace hHas := Lib.hid hHas
      replace hown3 := Lib.hid hown3
      replace hT3 := Lib.hid hT3
      replace hT := Lib.hid hT
      replace hown1 := Lib.hid hown1
      replace hv := Lib.hid hv
      replace hrow := Lib.hid hrow
      replace hr1 := Lib.hid hr1
      replace hr0 := Lib.hid hr0
      replace r1 := Lib.hid r1
      replace r0 := Lib.hid r0
      replace r2 := Lib.hid r2
      replace r23 := Lib.hid r23
      replace row3 := Lib.hid row3
      replace hall3 := Lib.hid hall3
      replace hall := Lib.hid hall
      by_cases h5 : ys.length = 5
      · have hgl := Lib.hid (hgm.out (by rw [← hnl'.out]; exact h5))
        have h5I : ((ys.length : Int) == 5) = true := by rw [h5]; rfl
        replace h5 := Lib.hid h5
        gi_wp2
        exact ⟨(((hkc.trans (KeepsOthers.setCell _ _ _)).trans (KeepsOthers.setCell _ _ _)).trans (KeepsOthers.alloc _ _)).from _, ⟨rfl, hgl.out⟩, ((r1.out.other (by omega) _).set _).alloc _, ((r0.out.set _).other (by omega) _).alloc _,
          below_alloc' ((hBw.setCell (p := ⟨z, 0, none⟩) (Nat.le_refl _) _).setCell (p := ⟨z + 1, 0, none⟩) (by simp) _) (by omega) _⟩
      · have h5I : ((ys.length : Int) == 5) = false := by simp; omega
        have h5' : ys.length ≤ 5 := by have := hnl'.out; omega
        replace h5 := Lib.hid h5
        gi_wp2_with (gi_at_builtin; go_loud (refine wpListIn_push rfl _ _ 32 rfl (z + 6) 52 i0 (.agg #[.bool false, .nilFunc]) 2 16 Tryd.underlying32 hi hzz hz1 hz2 rfl (by decide) (wc.alloc (.cells #[.slice (some ⟨g, 0, none⟩) xs.length cp] 47)) _ _ _ row3.out rfl [.bool (x == [42, 42]), .func (.func 35) #[] #[.pointer (some ⟨wc.heap.size, 0, none⟩)]] (by simp [Act.eval]) rfl (by simp [Value.oneCell']) (by simp only [maxLen]; omega) (by omega) (by simp; omega) ?_; intro g1 cap1 w1 hown4 hg1 hb1 _; have hv1 : Boxed w1 (z + 1 + 1) 32 _ := (hb1.block _ (by omega)).trans r23.out; have hv1c := hv1.cell; have hv1f := hv1.frozen))
        have hBz := hB.size
        have hbs := hb1.size
        have hsn := Lib.hid (globAll_snoc hns'.out hgn.out)
        have hsa : Aside (z + 6) w1 (some (z + 1 + 1)) := fun r e => .inl (by cases e; omega)
        have hw1z : wc.heap.size + 1 ≤ w1.heap.size := by simpa using hbs
        have hgs := grownBy_setCell' w1 (z + 1 + 1) (.slice (some ⟨g1, 0, none⟩) (ys.length + 1) cap1)
        refine ⟨(((hkc.trans (KeepsOthers.alloc _ _)).trans (KeepsOthers.of_grownBy hg1 (own_cells row3.out))).trans (KeepsOthers.setCell _ _ _)).from _, ?_,
          ⟨ys ++ [(⟨x == [42, 42], stars xs⟩, .func (.func 35) #[] #[.pointer (some ⟨wc.heap.size, 0, none⟩)])], _, ⟨by rw [hsn.out]; simp [names], by have := hnl'.out; have := h5.out; simp; omega⟩, hv1.set _, ?_, ?_⟩, ?_, ?_, ?_, ?_⟩
        · intro k h1 h2
          refine (Below.heap_setCell _ _ _ k (by simp; omega)).trans ((hb1.block k (by omega)).trans ((Below.heap_alloc _ _ k (by omega)).trans (hBc.block k (by omega))))
        · exact own_names (p := ⟨x == [42, 42], stars xs⟩) (hown4.kept hgs (.inr (hv1.not_row (by decide) hown4).symm))
        · intro y hy
          rcases List.mem_append.1 hy with hy | hy
          · exact ((hall3.out y hy).kept hg1 (own_aside row3.out)).kept hgs hsa
          · simp at hy; subst hy
            exact (hHas.out.kept hg1 (own_aside row3.out)).kept hgs hsa
        · exact Boxed.other (show Boxed w1 (z + 1) 4 (.bool false) from (hb1.block _ (by omega)).trans (r1.out.alloc _)) (by omega) _
        · exact Boxed.other (show Boxed w1 z 32 (.slice none 0 0) from (hb1.block _ (by omega)).trans (r0.out.alloc _)) (by omega) _
        · exact Nat.le_trans (by omega) (KeepsOthers.setCell _ _ _).size
        · exact ((below_alloc' hBw (by omega) (.cells #[.slice (some ⟨g, 0, none⟩) xs.length cp] 47)).trans (hb1.mono (by omega))).setCell (p := ⟨z + 1 + 1, 0, none⟩) (by simp; omega) _
  case done =>
    rintro D W hD ⟨⟨ys, v, ⟨hns, h4⟩, hv, hrow, hall⟩, hr1, hr0, hzW, hB⟩ hK
    have hnl : ys.length = (cut 47 l).length := by
      have := globAll_length hns
      simpa [names] using this
    have hpos := List.length_pos_iff.2 (cut_ne_nil 47 l)
    obtain ⟨g, cap, rfl⟩ : ∃ g cap, v = .slice (some ⟨g, 0, none⟩) ys.length cap := by
      rcases hrow.2 with ⟨rfl, h0⟩ | ⟨g, cap, _, rfl, _⟩
      · omega
      · exact ⟨g, cap, rfl⟩
    have hver := globs_all' hl h4 hns
    clear hns h4 hnl hpos
    have hvc := hv.cell
    have hvf := hv.frozen
    have hr1c := hr1.cell
    have hr1f := hr1.frozen
    have hr0c := hr0.cell
    have hr0f := hr0.frozen
    have hvh := Lib.hid hver
    clear hver
    gi_wp2
    have hK' := deferred_set (deferred_set hK ⟨z, 0, none⟩ (.slice (some ⟨g, 0, none⟩) ys.length cap)) ⟨z + 1, 0, none⟩ (.bool true)
    refine ⟨by simp, .inl ⟨_, _, rfl, run_takeDeferred hK', ?_⟩⟩
    have hc0 := (boxed_shut ((hr0.set (.slice (some ⟨g, 0, none⟩) ys.length cap)).other (by omega) (.bool true)) hK').cell
    have hc1 := (boxed_shut ((hr1.other (by omega) _).set (.bool true)) hK').cell
    have hga := grownBy_setCell' W z (.slice (some ⟨g, 0, none⟩) ys.length cap)
    have hgb := grownBy_setCell' (W.setCell ⟨z, 0, none⟩ (.slice (some ⟨g, 0, none⟩) ys.length cap)) (z + 1) (.bool true)
    have h1 := hrow.kept hga (.inr (hr0.not_row (by decide) hrow).symm)
    have h2 := h1.kept hgb (.inr ((hr1.other (B' := z) (by omega) _).not_row (by decide) h1).symm)
    have h3 := (hall.kept hga (fun r e => .inl (by cases e; omega))).kept hgb (fun r e => .inl (by cases e; omega))
    have h4 := h3.kept (grownBy_putObj' _ D (.deferred none)) (fun r e => .inr (fun cs t fr hc => by cases e; rw [hK'] at hc; cases hc))
    refine ⟨.tuple #[.slice (some ⟨g, 0, none⟩) ys.length cap, .bool true], by simp [results, Tryd.f21, go_sem, hc0, hc1], by rw [hz0]; exact below_shut ((hB.setCell (p := ⟨z, 0, none⟩) (Nat.le_refl _) _).setCell (p := ⟨z + 1, 0, none⟩) (by simp) _) (by omega) (by omega), .inr ⟨ys, g, cap, hvh.out, rfl, ?_, ?_⟩⟩
    · rw [hz0]
      exact own_lower (by omega) (ownsRow_putObj h2 _ hK' rfl)
    · rw [hz0]
      exact h4.mono (by omega)
  case stop =>
    rintro D c pre W hD hpre ⟨⟨rfl, hbad⟩, hr1, hr0, hB⟩ hK
    gi_wp2
    refine ⟨by simp, .inl ⟨_, _, rfl, run_takeDeferred hK, ?_⟩⟩
    have hc0 := (boxed_shut hr0 hK).cell
    have hc1 := (boxed_shut hr1 hK).cell
    refine ⟨.tuple #[.slice none 0 0, .bool false], by simp [results, Tryd.f21, go_sem, hc0, hc1], by rw [hz0]; exact below_shut hB (by omega) (by omega), .inl ⟨hbad, _, rfl⟩⟩
theorem globNames_any (l : List UInt8) (hl : l.length ≤ 1048576) (w : World) :
    Calls Tryd.prog 21 #[.string (mkB l)] w (NamesPost l w) := by
  by_cases h : l.length ≤ 40
  · exact callsIn_wide.1 (globNames_in l h w)
  · have hlI : (40 : Int) < (l.length : Int) := by omega
    have hno := Lib.hid (globs_long (l := l) (by omega))
    go_enter Tryd.func21, Tryd.ntmps21
    go_wp2
    exact bodyPost_ret (v := .tuple #[.slice none 0 0, .bool false]) (by simp [results, Tryd.results21, go_sem]) rfl ⟨((Below.refl _ _).alloc (Nat.le_refl _) _).alloc (by simp) _, .inl ⟨hno.out, _, rfl⟩⟩
end Go.Proofs.YtiibodelcfmnpaaDoor
