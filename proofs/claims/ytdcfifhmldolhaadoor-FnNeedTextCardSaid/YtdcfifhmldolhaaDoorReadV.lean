/-
  The walk of readVersion: the numbers of a version, on a row of the call's own.
-/
import Derived.Test.YtdcfifhmldolhaaDoorNum
import Derived.Test.YtdcfifhmldolhaaDoorIterS
namespace Go.Proofs.YtdcfifhmldolhaaDoor
open Go.RowKit Go.Shelf
set_option linter.unusedVariables false
attribute [local go_sem] Oper.semAt_some

def intV (n : Nat) : Value := .int .i64 n
theorem numPair_get {l : List UInt8} : (verNum l = none ∧ numPair l = (0, false)) ∨ ∃ n, verNum l = some n ∧ numPair l = ((n : Int), true) := by
  cases h : verNum l with
  | none => exact .inl ⟨rfl, numPair_none h⟩
  | some n => exact .inr ⟨n, rfl, numPair_some h⟩

theorem holdsRowE_own (n₀ B : Nat) (t e : TypeId) (p : List (List UInt8) → List Nat → Prop) : Own (fun pre W => ∃ (ns : List Nat) (v : Value), p pre ns ∧ Boxed W B t v ∧ W.ownsRow n₀ e 1 v ns.length (ns.map intV)) := by
  rintro s X Y row ⟨ns, v, hp, hv, hr⟩ hg hrow
  obtain ⟨v', h1, h2, _⟩ := holdsRow_own n₀ B t e 1 (fun _ : Unit => ns.length) (fun _ => ns.map intV) (fun _ _ => True) () X Y row ⟨v, hv, hr, trivial⟩ hg hrow
  exact ⟨ns, v', hp, h1, h2⟩
theorem AtBox.holdsRowE (bs n₀ B : Nat) (t e : TypeId) (p : List (List UInt8) → List Nat → Prop) (hB : B ≠ bs) (hn : bs < n₀) : AtBox bs (fun pre W => ∃ (ns : List Nat) (v : Value), p pre ns ∧ Boxed W B t v ∧ W.ownsRow n₀ e 1 v ns.length (ns.map intV)) := by
  rintro s W W' ⟨ns, v, hp, hv, hr⟩ hg
  refine ⟨ns, v, hp, hv.kept hg (fun e => hB (by cases e; rfl)), hr.kept hg ?_⟩
  rcases hr.2 with ⟨rfl, _⟩ | ⟨g, cap, cur, rfl, hb, _, _⟩
  · exact .inl rfl
  · refine .inr fun e' => ?_
    have : g = bs := by simpa [Value.ownBlock] using e'
    omega

theorem info_int : (Tryd.prog.info? 3).map (fun i => (i.zero, i.size, i.bytes)) = some (some (.int .i64 0), 1, 8) := by kernel_rfl
theorem ownFrom_size {β : Type} (B n : Nat) : OwnFrom B (fun (_ : β) W => n ≤ W.heap.size) := fun _ _ _ _ hs hg _ => Nat.le_trans hs hg.size
theorem AtBox.size {β : Type} (bs n : Nat) : AtBox bs (fun (_ : β) W => n ≤ W.heap.size) := fun _ _ _ hs hg => Nat.le_trans hs hg.size
theorem Below.isBoxed {n B : Nat} {W W' : World} (h : Below n W W') (hB : B < n) {t : TypeId} {v : Value} (hb : Boxed W B t v) : Boxed W' B t v := (h.block B hB).trans hb
theorem row_lower {W : World} {n n' : Nat} {e : TypeId} {k m : Nat} {v : Value} {xs : List Value} (hn : n' ≤ n) (h : W.ownsRow n e k v m xs) : W.ownsRow n' e k v m xs := by
  refine ⟨h.1, ?_⟩
  rcases h.2 with h0 | ⟨g, cap, cur, e1, hb, h2⟩
  · exact .inl h0
  · exact .inr ⟨g, cap, cur, e1, Nat.le_trans hn hb, h2⟩
theorem row_cells {W : World} {n : Nat} {e : TypeId} {k m : Nat} {v : Value} {xs : List Value} (h : W.ownsRow n e k v m xs) : ∀ j o, v.ownBlock = some j → W.heap[j]? = some o → o.isCells = true := by
  intro j o ej hj
  rcases h.2 with ⟨rfl, _⟩ | ⟨g, cap, cur, rfl, hb, hgb, _⟩
  · simp [Value.ownBlock] at ej
  · obtain rfl : g = j := by simpa [Value.ownBlock] using ej
    rw [hgb] at hj; cases hj; rfl

set_option maxHeartbeats 2000000 in
theorem readVersion_in (l : List UInt8) (hl : l.length ≤ 140737488355328) (w : World) :
    CallsIn Fence.wide 4 Tryd.prog 36 #[.string (mkB l)] w fun e w' =>
      ((version l = none ∧ e = .returned (.tuple #[.slice none 0 0, .bool false])) ∨
       ∃ (ns : List Nat) (g cap : Nat), version l = some ns ∧ e = .returned (.tuple #[.slice (some ⟨g, 0, none⟩) ns.length cap, .bool true]) ∧ w'.ownsRow w.heap.size 3 1 (.slice (some ⟨g, 0, none⟩) ns.length cap) ns.length (ns.map intV)) ∧ Below w.heap.size w w' := by
  obtain ⟨i0, hi, hzz, hz1, hz2⟩ := info_parts info_int
  refine callsIn_of_wp_marks Tryd.func36 rfl trivial ?_ rfl
  simp only [Tryd.ntmps36, List.size_toArray, List.length_cons, List.length_nil, Nat.reduceAdd, Nat.reduceSub, Array.replicate_succ, Array.replicate_zero, List.push_toArray, List.append_toArray, List.nil_append, List.cons_append]
  gi_wp2_with (refine ⟨trivial, ?_⟩; gi_at_call 43; refine (callsIn_wide.2 (SplitSeq_any _ _ _)).mono ?_; rintro e w' ⟨rfl, rfl⟩)
  obtain ⟨z, hz0⟩ : ∃ z, w.heap.size = z := ⟨_, rfl⟩
  rw [hz0]
  obtain ⟨W0, hW0⟩ : ∃ W0, ((((((w.alloc (.cells #[.slice none 0 0] 56)).alloc (.cells #[.bool false] 4)).alloc (.cells #[.slice none 0 0] 56)).alloc (.cells #[.string (mkB l)] 9)).alloc (.cells #[.string { data := #[46] }] 9)).alloc (.cells #[.int .i64 0] 3)) = W0 := ⟨_, rfl⟩
  have hz : W0.heap.size = z + 6 := by rw [← hW0]; simp [hz0]
  have b0 : Boxed W0 z 56 (.slice none 0 0) := by rw [← hW0, ← hz0]; exact (((((Boxed.new w _ _).alloc _).alloc _).alloc _).alloc _).alloc _
  have b1 : Boxed W0 (z + 1) 4 (.bool false) := by
    rw [← hW0, ← hz0]
    have h := Boxed.new (w.alloc (.cells #[.slice none 0 0] 56)) 4 (.bool false)
    simp only [World.size_alloc] at h
    exact (((h.alloc _).alloc _).alloc _).alloc _
  have b2 : Boxed W0 (z + 1 + 1) 56 (.slice none 0 0) := by
    rw [← hW0, ← hz0]
    have h := Boxed.new ((w.alloc (.cells #[.slice none 0 0] 56)).alloc (.cells #[.bool false] 4)) 56 (.slice none 0 0)
    simp only [World.size_alloc] at h
    exact ((h.alloc _).alloc _).alloc _
  have b3 : Boxed W0 (z + 1 + 1 + 1) 9 (.string (mkB l)) := by
    rw [← hW0, ← hz0]
    have h := Boxed.new (((w.alloc (.cells #[.slice none 0 0] 56)).alloc (.cells #[.bool false] 4)).alloc (.cells #[.slice none 0 0] 56)) 9 (.string (mkB l))
    simp only [World.size_alloc] at h
    exact (h.alloc _).alloc _
  have b4 : Boxed W0 (z + 1 + 1 + 1 + 1) 9 (.string (mkB [46])) := by
    rw [← hW0, ← hz0]
    have h := Boxed.new ((((w.alloc (.cells #[.slice none 0 0] 56)).alloc (.cells #[.bool false] 4)).alloc (.cells #[.slice none 0 0] 56)).alloc (.cells #[.string (mkB l)] 9)) 9 (.string (mkB [46]))
    simp only [World.size_alloc] at h
    exact h.alloc _
  have b5 : Boxed W0 (z + 1 + 1 + 1 + 1 + 1) 3 (.int .i64 0) := by
    rw [← hW0, ← hz0]
    have h := Boxed.new (((((w.alloc (.cells #[.slice none 0 0] 56)).alloc (.cells #[.bool false] 4)).alloc (.cells #[.slice none 0 0] 56)).alloc (.cells #[.string (mkB l)] 9)).alloc (.cells #[.string (mkB [46])] 9)) 3 (.int .i64 0)
    simp only [World.size_alloc] at h
    exact h
  have hB0 : Below z w W0 := by
    rw [← hW0, ← hz0]
    exact ((((((Below.refl _ w).alloc (Nat.le_refl _) _).alloc (by simp) _).alloc (by simp; omega) _).alloc (by simp; omega) _).alloc (by simp; omega) _).alloc (by simp; omega) _
  rw [hW0]
  clear hW0
  refine wpIn_range_box (n := 4) rfl (by omega) (gf := 50) (lb := #[.pointer (some ⟨z + 1 + 1 + 1 + 1, 0, none⟩), .pointer (some ⟨z + 1 + 1 + 1, 0, none⟩), .pointer (some ⟨z + 1 + 1 + 1 + 1 + 1, 0, none⟩)]) rfl trivial (enters_of Tryd.func50 (by kernel_rfl) rfl)
    (iter_box 3 (by omega) l hl 46 (z + 1 + 1 + 1) W0 b3 b4 b5) (by omega) kpB_t (kpB_g (by omega))
    (fun pre W => (∃ (ns : List Nat) (v : Value), (nums pre = some ns ∧ pre.length ≤ 4) ∧ Boxed W (z + 1 + 1) 56 v ∧ W.ownsRow (z + 6) 3 1 v ns.length (ns.map intV)) ∧ Boxed W (z + 1) 4 (.bool false) ∧ Boxed W z 56 (.slice none 0 0) ∧ z + 6 ≤ W.heap.size ∧ Below z w W)
    (fun c _ W => (c = .ret ∧ version l = none) ∧ Boxed W (z + 1) 4 (.bool false) ∧ Boxed W z 56 (.slice none 0 0) ∧ Below z w W)
    ((Own.from (holdsRowE_own _ _ _ _ _) _).and ((Own.from (boxed_own _ _ _) _).and ((Own.from (boxed_own _ _ _) _).and ((ownFrom_size _ _).and (ownFrom_below (by omega) (by omega))))))
    ((AtBox.holdsRowE _ _ _ _ _ _ (by omega) (by omega)).and ((AtBox.boxed _ _ (by omega)).and ((AtBox.boxed _ _ (by omega)).and ((AtBox.size _ _).and (AtBox.below (by omega) (by omega))))))
    (fun c => (ownFrom_pure _ _).and ((Own.from (boxed_own _ _ _) _).and ((Own.from (boxed_own _ _ _) _).and (ownFrom_below (by omega) (by omega)))))
    ⟨⟨[], _, ⟨rfl, by simp⟩, b2, ⟨by simp, .inl ⟨rfl, rfl⟩⟩⟩, b1, b0, by omega, hB0⟩
    (fun x => { tmps := #[.string (mkB l), undef, .pointer (some ⟨z, 0, none⟩), .pointer (some ⟨z + 1, 0, none⟩), .pointer (some ⟨z + 1 + 1, 0, none⟩), .string (mkB x), undef, undef, .string (mkB l),
      .func (.func 50) #[] #[.pointer (some ⟨z + 1 + 1 + 1 + 1, 0, none⟩), .pointer (some ⟨z + 1 + 1 + 1, 0, none⟩), .pointer (some ⟨z + 1 + 1 + 1 + 1 + 1, 0, none⟩)],
      .string (mkB x), undef, undef, undef, undef, undef, undef, undef, undef, undef, undef, undef, undef, undef, undef, undef, undef, undef], defers := [] }) ?assign ?body ?done ?stop
  case assign =>
    intro lp x W K hK
    gi_wp2
    exact hK
  case body =>
    rintro lp pre x W hlp ⟨⟨ns, v, ⟨hns, h4⟩, hv, hrow⟩, hr1, hr0, hzW, hB⟩ hpre
    have hxl : x.length ≤ 9223372036854775807 := by
      have := cut_mem_length (hpre.subset (by simp : x ∈ pre ++ [x]))
      omega
    have hnl : ns.length = pre.length := nums_length hns
    obtain ⟨pp, cap, rfl⟩ : ∃ pp cap, v = .slice pp ns.length cap := by
      rcases hrow.2 with ⟨rfl, h0⟩ | ⟨g, cap, _, rfl, _⟩
      · exact ⟨none, 0, by rw [h0]⟩
      · exact ⟨_, cap, rfl⟩
    rw [hnl] at hv hrow
    have hnl' := Lib.hid hnl
    clear hnl
    have hvc := hv.cell
    have hvf := hv.frozen
    have hr1c := hr1.cell
    have hr1f := hr1.frozen
    have hr0c := hr0.cell
    have hr0f := hr0.frozen
    have hns' := Lib.hid hns
    clear hns
    rcases numPair_get (l := x) with ⟨hx, hp⟩ | ⟨n, hx, hp⟩
    · gi_wp2_with (refine ⟨trivial, ?_⟩; gi_at_call 44; refine (CallsIn.inRound lp (callsIn_wide.2 (number_any _ hxl _))).mono ?_; rintro e w' ⟨rfl, rfl⟩; rw [hp])
      exact ⟨((KeepsOthers.setCell _ _ _).trans (KeepsOthers.setCell _ _ _)).from _, ⟨rfl, version_bad hpre hx⟩, (hr1.other (by omega) _).set _, (hr0.set _).other (by omega) _, (hB.setCell (p := ⟨z, 0, none⟩) (Nat.le_refl _) _).setCell (p := ⟨z + 1, 0, none⟩) (by simp) _⟩
    · have hx' := Lib.hid hx
      clear hx
      by_cases h : pre.length < 4
      · gi_wp2_with (first
          | (refine ⟨trivial, ?_⟩; gi_at_call 44; refine (CallsIn.inRound lp (callsIn_wide.2 (number_any _ hxl _))).mono ?_; rintro e w' ⟨rfl, rfl⟩; rw [hp])
          | (gi_at_builtin; go_loud (refine wpListIn_push rfl _ _ 56 rfl (z + 6) 3 i0 (.int .i64 0) 1 8 Tryd.underlying56 hi hzz hz1 hz2 rfl (by decide) W _ _ _ hrow rfl [.int .i64 (n : Int)] rfl rfl (by simp [Value.oneCell']) (by simp only [maxLen]; omega) (by omega) hzW ?_; intro g1 cap1 w1 hown1 hg1 hb1 _; have hv1 := Below.isBoxed hb1 (by omega) hv; have hv1c := hv1.cell; have hv1f := hv1.frozen)))
        have hrow' := Lib.hid hrow
        refine ⟨((KeepsOthers.of_grownBy hg1 (row_cells hrow)).trans (KeepsOthers.setCell _ _ _)).from _, fun k h1 h2 => (Below.heap_setCell _ _ _ k (by simp; omega)).trans (hb1.block k (by omega)),
          ⟨ns ++ [n], .slice (some ⟨g1, 0, none⟩) (pre.length + 1) cap1, ⟨nums_snoc hns'.out hx'.out, by simp; omega⟩, hv1.set _, ?_⟩,
          (Below.isBoxed hb1 (by omega) hr1).other (by omega) _, (Below.isBoxed hb1 (by omega) hr0).other (by omega) _, Nat.le_trans hzW (Nat.le_trans hg1.size (KeepsOthers.setCell _ _ _).size), (hB.trans (hb1.mono (by omega))).setCell (p := ⟨z + 1 + 1, 0, none⟩) (by simp; omega) _⟩
        have h := hown1.kept (grownBy_setCell' w1 (z + 1 + 1) (.slice (some ⟨g1, 0, none⟩) (pre.length + 1) cap1)) (.inr (hv1.not_row (by decide) hown1).symm)
        have e1 : ns.map intV ++ [Value.int .i64 (n : Int)] = (ns ++ [n]).map intV := by simp [intV]
        have e2 : pre.length + 1 = (ns ++ [n]).length := by simp [hnl'.out]
        rw [e1] at h
        rw [← e2]
        exact h
      · gi_wp2_with (refine ⟨trivial, ?_⟩; gi_at_call 44; refine (CallsIn.inRound lp (callsIn_wide.2 (number_any _ hxl _))).mono ?_; rintro e w' ⟨rfl, rfl⟩; rw [hp])
        exact ⟨((KeepsOthers.setCell _ _ _).trans (KeepsOthers.setCell _ _ _)).from _, ⟨rfl, version_many hpre (by omega)⟩, (hr1.other (by omega) _).set _, (hr0.set _).other (by omega) _, (hB.setCell (p := ⟨z, 0, none⟩) (Nat.le_refl _) _).setCell (p := ⟨z + 1, 0, none⟩) (by simp) _⟩
  case done =>
    rintro D W hD ⟨⟨ns, v, ⟨hns, h4⟩, hv, hrow⟩, hr1, hr0, hzW, hB⟩ hK
    have hnl := nums_length hns
    have hpos := List.length_pos_iff.2 (cut_ne_nil 46 l)
    obtain ⟨g, cap, rfl⟩ : ∃ g cap, v = .slice (some ⟨g, 0, none⟩) ns.length cap := by
      rcases hrow.2 with ⟨rfl, h0⟩ | ⟨g, cap, _, rfl, _⟩
      · omega
      · exact ⟨g, cap, rfl⟩
    have hver := version_all hns h4
    clear hns h4 hnl hpos
    have hvc := hv.cell
    have hvf := hv.frozen
    have hr1c := hr1.cell
    have hr1f := hr1.frozen
    have hr0c := hr0.cell
    have hr0f := hr0.frozen
    gi_wp2
    have hK' := deferred_set (deferred_set hK ⟨z, 0, none⟩ (.slice (some ⟨g, 0, none⟩) ns.length cap)) ⟨z + 1, 0, none⟩ (.bool true)
    refine ⟨by simp, .inl ⟨_, _, rfl, run_takeDeferred hK', ?_⟩⟩
    have hc0 := (boxed_shut ((hr0.set (.slice (some ⟨g, 0, none⟩) ns.length cap)).other (by omega) (.bool true)) hK').cell
    have hc1 := (boxed_shut ((hr1.other (by omega) _).set (.bool true)) hK').cell
    refine ⟨.tuple #[.slice (some ⟨g, 0, none⟩) ns.length cap, .bool true], by simp [results, Tryd.f36, go_sem, hc0, hc1], .inr ⟨ns, g, cap, hver, rfl, ?_⟩, by rw [hz0]; exact below_shut ((hB.setCell (p := ⟨z, 0, none⟩) (Nat.le_refl _) _).setCell (p := ⟨z + 1, 0, none⟩) (by simp) _) (by omega) (by omega)⟩
    have h1 := hrow.kept (grownBy_setCell' W z (.slice (some ⟨g, 0, none⟩) ns.length cap)) (.inr (hr0.not_row (by decide) hrow).symm)
    have h2 := h1.kept (grownBy_setCell' _ (z + 1) (.bool true)) (.inr ((hr1.other (B' := z) (by omega) _).not_row (by decide) h1).symm)
    rw [hz0]
    exact row_lower (by omega) (ownsRow_putObj h2 _ hK' rfl)
  case stop =>
    rintro D c pre W hD hpre ⟨⟨rfl, hbad⟩, hr1, hr0, hB⟩ hK
    gi_wp2
    refine ⟨by simp, .inl ⟨_, _, rfl, run_takeDeferred hK, ?_⟩⟩
    have hc0 := (boxed_shut hr0 hK).cell
    have hc1 := (boxed_shut hr1 hK).cell
    refine ⟨.tuple #[.slice none 0 0, .bool false], by simp [results, Tryd.f36, go_sem, hc0, hc1], .inl ⟨hbad, rfl⟩, by rw [hz0]; exact below_shut hB (by omega) (by omega)⟩

end Go.Proofs.YtdcfifhmldolhaaDoor
