/-
  The walk of slices.Collect over strings.SplitSeq: the pieces of a text, in a row of the call's own.
-/
import Derived.Test.YtiibodelcfmnpaaDoorGlobI
namespace Go.Proofs.YtiibodelcfmnpaaDoor
open Go.RowKit Go.Shelf
set_option linter.unusedVariables false
set_option linter.unusedSimpArgs false
attribute [local go_sem] Oper.semAt_some mkB_size mkB_extract mkB_get mkB_toList

/-- the pieces so far, in their box -/
def PiecesAt (B lo : Nat) (pre : List (List UInt8)) (W : World) : Prop := ∃ v : Value, Boxed W B 30 v ∧ W.ownsRow lo 9 1 v pre.length (pre.map strV)
theorem piecesAt_own (B lo : Nat) : Own (PiecesAt B lo) := by
  rintro s X Y row ⟨v, hv, hr⟩ hg hrow
  refine ⟨v, hv.kept hg (fun e => ?_), hr.kept hg ?_⟩
  · obtain ⟨o, ho, hc⟩ := hrow B e.symm
    rw [show X.heap[B]? = _ from hv] at ho; cases ho; cases hc
  · rcases hr.2 with ⟨rfl, _⟩ | ⟨g, cap, cur, rfl, _, hgb, _⟩
    · exact .inl rfl
    · refine .inr fun e' => ?_
      obtain ⟨o, ho, hc⟩ := hrow g (by rw [← e']; rfl)
      rw [hgb] at ho; cases ho; cases hc
theorem piecesAt_box (bs B lo : Nat) (hne : B ≠ bs) (hlo : bs < lo) : AtBox bs (PiecesAt B lo) := by
  rintro s W W' ⟨v, hv, hr⟩ hg
  refine ⟨v, hv.kept hg (fun e => hne (by cases e; rfl)), hr.kept hg ?_⟩
  rcases hr.2 with ⟨rfl, _⟩ | ⟨g, cap, cur, rfl, hb, _, _⟩
  · exact .inl rfl
  · refine .inr fun e' => ?_
    have : g = bs := by simpa [Value.ownBlock] using e'
    omega
set_option maxRecDepth 1000000 in
set_option maxHeartbeats 8000000 in
theorem AppendSeq_in (l : List UInt8) (hl : l.length ≤ 1048576) (q : Nat) (w : World)
    (b3 : Boxed w q 9 (.string (mkB l))) (b4 : Boxed w (q + 1) 9 (.string (mkB [47]))) (b5 : Boxed w (q + 1 + 1) 3 (.int .i64 0)) :
    CallsIn Fence.wide 4 Tryd.prog 44 #[.slice none 0 0, .func (.func 53) #[] #[.pointer (some ⟨q + 1, 0, none⟩), .pointer (some ⟨q, 0, none⟩), .pointer (some ⟨q + 1 + 1, 0, none⟩)]] w
      fun e w' => (∃ (g cap : Nat), e = .returned (.slice (some ⟨g, 0, none⟩) (cut 47 l).length cap) ∧ w'.ownsRow w.heap.size 9 1 (.slice (some ⟨g, 0, none⟩) (cut 47 l).length cap) (cut 47 l).length ((cut 47 l).map strV)) ∧ Below q w w' := by
  obtain ⟨i0, hi, hzz, hz1, hz2⟩ := info_parts info_str
  refine callsIn_of_wp_marks Tryd.func44 rfl trivial ?_ rfl
  simp only [Tryd.ntmps44, List.size_toArray, List.length_cons, List.length_nil, Nat.reduceAdd, Nat.reduceSub, Array.replicate_succ, Array.replicate_zero, List.push_toArray, List.append_toArray, List.nil_append, List.cons_append]
  gi_wp2
  obtain ⟨z, hz0⟩ : ∃ z, w.heap.size = z := ⟨_, rfl⟩
  rw [hz0]
  have hqz : q + 1 + 1 < z := by rw [← hz0]; exact b5.lt
  obtain ⟨W0, hW0⟩ : ∃ W0, w.alloc (.cells #[.slice none 0 0] 30) = W0 := ⟨_, rfl⟩
  have hz : W0.heap.size = z + 1 := by rw [← hW0]; simp [hz0]
  have b0 : Boxed W0 z 30 (.slice none 0 0) := by rw [← hW0, ← hz0]; exact Boxed.new w _ _
  have a3 : Boxed W0 q 9 (.string (mkB l)) := by rw [← hW0]; exact b3.alloc _
  have a4 : Boxed W0 (q + 1) 9 (.string (mkB [47])) := by rw [← hW0]; exact b4.alloc _
  have a5 : Boxed W0 (q + 1 + 1) 3 (.int .i64 0) := by rw [← hW0]; exact b5.alloc _
  have hB0 : Below q w W0 := by
    rw [← hW0]
    exact (Below.refl _ w).alloc (by omega) _
  rw [hW0]
  clear hW0 b3 b4 b5
  refine wpIn_range_box (n := 4) rfl (by omega) (gf := 53) (lb := #[.pointer (some ⟨q + 1, 0, none⟩), .pointer (some ⟨q, 0, none⟩), .pointer (some ⟨q + 1 + 1, 0, none⟩)]) rfl trivial (enters_of Tryd.func53 (by kernel_rfl) rfl)
    (iter_box 3 (by omega) l (by omega) 47 q W0 a3 a4 a5) (by omega) kpB_t (kpB_g (by omega))
    (fun pre W => PiecesAt z (z + 1) pre W ∧ z + 1 ≤ W.heap.size ∧ Below q w W)
    (fun c _ W => False)
    ((Own.from (piecesAt_own _ _) _).and ((ownFrom_size' _ _).and (ownFrom_below (by omega) (by omega))))
    ((piecesAt_box _ _ _ (by omega) (by omega)).and ((AtBox.size' _ _).and (AtBox.below (Nat.le_refl _) (by omega))))
    (fun c => ownFrom_pure _ _)
    ⟨⟨_, b0, ⟨rfl, .inl ⟨rfl, rfl⟩⟩⟩, by omega, hB0⟩
    (fun x => { tmps := #[.slice none 0 0, .func (.func 53) #[] #[.pointer (some ⟨q + 1, 0, none⟩), .pointer (some ⟨q, 0, none⟩), .pointer (some ⟨q + 1 + 1, 0, none⟩)], .pointer (some ⟨z, 0, none⟩), undef, .slice none 0 0, .string (mkB x),
      .func (.func 53) #[] #[.pointer (some ⟨q + 1, 0, none⟩), .pointer (some ⟨q, 0, none⟩), .pointer (some ⟨q + 1 + 1, 0, none⟩)], .string (mkB x), undef, undef, undef, undef, undef], defers := [] }) ?assign ?body ?done ?stop
  case assign =>
    intro lp x W K hK
    gi_wp2
    exact hK
  case body =>
    rintro lp pre x W hlp ⟨⟨v, hv, hrow⟩, hzW, hB⟩ hpre
    obtain ⟨pp, cap, rfl⟩ : ∃ pp cap, v = .slice pp pre.length cap := by
      rcases hrow.2 with ⟨rfl, h0⟩ | ⟨g, cap, _, rfl, _⟩
      · exact ⟨none, 0, by rw [h0]⟩
      · exact ⟨_, cap, rfl⟩
    have hpl : pre.length + 1 ≤ l.length + 1 := by
      have h1 := hpre.length_le
      have h2 := cut_sum 47 l
      simp at h1; omega
    have hvc := hv.cell
    have hvf := hv.frozen
    gi_wp2_with (gi_at_builtin; go_loud (refine wpListIn_push rfl _ _ 30 rfl (z + 1) 9 i0 (.string .empty) 1 16 Tryd.underlying30 hi hzz hz1 hz2 rfl (by decide) W _ _ _ hrow rfl [.string (mkB x)] rfl rfl (by simp [Value.oneCell']) (by simp only [maxLen]; omega) (by omega) hzW ?_; intro g1 cap1 w1 hown1 hg1 hb1 _; have hv1 : Boxed w1 z 30 _ := (hb1.block _ (by omega)).trans hv; have hv1c := hv1.cell; have hv1f := hv1.frozen))
    refine ⟨((KeepsOthers.of_grownBy hg1 (own_cells hrow)).trans (KeepsOthers.setCell _ _ _)).from _, fun k h1 h2 => (Below.heap_setCell _ _ _ k (by simp; omega)).trans (hb1.block k (by omega)),
      ⟨_, hv1.set _, ?_⟩, Nat.le_trans hzW (Nat.le_trans hg1.size (KeepsOthers.setCell _ _ _).size), (hB.trans (hb1.mono (by omega))).setCell (p := ⟨z, 0, none⟩) (by simp; omega) _⟩
    have h := hown1.kept (grownBy_setCell' w1 z (.slice (some ⟨g1, 0, none⟩) (pre.length + 1) cap1)) (.inr (hv1.not_row (by decide) hown1).symm)
    rw [List.length_append, List.map_append]
    exact h
  case done =>
    rintro D W hD ⟨⟨v, hv, hrow⟩, hzW, hB⟩ hK
    have hpos := List.length_pos_iff.2 (cut_ne_nil 47 l)
    obtain ⟨g, cap, rfl⟩ : ∃ g cap, v = .slice (some ⟨g, 0, none⟩) (cut 47 l).length cap := by
      rcases hrow.2 with ⟨rfl, h0⟩ | ⟨g, cap, _, rfl, _⟩
      · omega
      · exact ⟨g, cap, rfl⟩
    clear hpos
    have hvc := hv.cell
    have hvf := hv.frozen
    gi_wp2
    refine ⟨by simp, .inl ⟨_, _, rfl, run_takeDeferred hK, ?_⟩⟩
    refine ⟨.slice (some ⟨g, 0, none⟩) (cut 47 l).length cap, by simp [results, Tryd.f44, go_sem], ⟨g, cap, rfl, ?_⟩, below_shut hB (by omega) (by omega)⟩
    rw [hz0]
    exact own_lower (by omega) (ownsRow_putObj hrow _ hK rfl)
  case stop =>
    rintro D c pre W hD hpre h hK
    exact h.elim
def CollectPost (l : List UInt8) (q : Nat) (w : World) (e : Ending) (w' : World) : Prop :=
  (∃ (g cap : Nat), e = .returned (.slice (some ⟨g, 0, none⟩) (cut 47 l).length cap) ∧ w'.ownsRow w.heap.size 9 1 (.slice (some ⟨g, 0, none⟩) (cut 47 l).length cap) (cut 47 l).length ((cut 47 l).map strV)) ∧ Below q w w'
set_option maxHeartbeats 1000000 in
theorem Collect_any (l : List UInt8) (hl : l.length ≤ 1048576) (q : Nat) (w : World)
    (b3 : Boxed w q 9 (.string (mkB l))) (b4 : Boxed w (q + 1) 9 (.string (mkB [47]))) (b5 : Boxed w (q + 1 + 1) 3 (.int .i64 0)) :
    Calls Tryd.prog 29 #[.func (.func 53) #[] #[.pointer (some ⟨q + 1, 0, none⟩), .pointer (some ⟨q, 0, none⟩), .pointer (some ⟨q + 1 + 1, 0, none⟩)]] w (CollectPost l q w) := by
  have h := Lib.hid (callsIn_wide.1 (AppendSeq_in l hl q w b3 b4 b5))
  clear b3 b4 b5
  go_enter Tryd.func29, Tryd.ntmps29
  go_wp2_with fail
  refine h.out.mono ?_
  rintro e w1 ⟨⟨g, cap, rfl, hown⟩, hB⟩
  replace hown := Lib.hid hown
  go_wp2
  go_ret
  exact ⟨⟨g, cap, rfl, hown.out⟩, hB⟩
end Go.Proofs.YtiibodelcfmnpaaDoor
