/-
  The walks of PathOk, the program's and the reference's: each says of every text whether it is a path.
-/
import Derived.Test.YtiibodelcfmnpaaDoorLeaf
import Derived.Test.YtiibodelcfmnpaaDoorIterS
namespace Go.Proofs.YtiibodelcfmnpaaDoor
open Go.RowKit Go.Shelf
attribute [local go_sem] Oper.semAt_some

/-- what is known when a part of the names has been seen and all were good -/
theorem pathOk_all {l : List UInt8} {pre : List (List UInt8)} (h : pre = cut 47 l) (ha : ∀ x ∈ pre, nameOk x = true) (h5 : pre.length ≤ 5) : pathOk l = true := by
  subst h
  unfold pathOk
  rw [List.all_eq_true.2 ha, decide_eq_true h5]; rfl
theorem pathOk_bad {l x : List UInt8} {pre : List (List UInt8)} (h : pre ++ [x] <+: cut 47 l) (hx : nameOk x = false) : pathOk l = false := by
  unfold pathOk
  have hm : x ∈ cut 47 l := h.subset (by simp)
  have : (cut 47 l).all nameOk = false := by
    rw [List.all_eq_false]; exact ⟨x, hm, by simp [hx]⟩
  rw [this]; rfl
theorem pathOk_many {l x : List UInt8} {pre : List (List UInt8)} (h : pre ++ [x] <+: cut 47 l) (hx : 5 ≤ pre.length) : pathOk l = false := by
  unfold pathOk
  have := h.length_le
  simp at this
  rw [decide_eq_false (by omega)]; simp

set_option maxHeartbeats 1000000 in
theorem PathOk_in (l : List UInt8) (hl : l.length ≤ 140737488355328) (w : World) :
    CallsIn Fence.wide 4 Tryd.prog 12 #[.string (mkB l)] w fun e w' => e = .returned (.bool (pathOk l)) ∧ Below w.heap.size w w' := by
  refine callsIn_of_wp_marks Tryd.func12 rfl trivial ?_ rfl
  simp only [Tryd.ntmps12, List.size_toArray, List.length_cons, List.length_nil, Nat.reduceAdd, Nat.reduceSub, Array.replicate_succ, Array.replicate_zero, List.push_toArray, List.append_toArray, List.nil_append, List.cons_append]
  gi_wp2_with (refine ⟨trivial, ?_⟩; gi_at_call 24; refine (callsIn_wide.2 (SplitSeq_any _ _ _)).mono ?_; rintro e w' ⟨rfl, rfl⟩)
  obtain ⟨W0, hW0⟩ : ∃ W0, (((((w.alloc (.cells #[.bool false] 4)).alloc (.cells #[.int .i64 0] 3)).alloc (.cells #[.string (mkB l)] 9)).alloc (.cells #[.string { data := #[47] }] 9)).alloc (.cells #[.int .i64 0] 3)) = W0 := ⟨_, rfl⟩
  have hz : W0.heap.size = w.heap.size + 5 := by rw [← hW0]; simp
  have b0 : Boxed W0 w.heap.size 4 (.bool false) := by rw [← hW0]; exact ((((Boxed.new w _ _).alloc _).alloc _).alloc _).alloc _
  have b1 : Boxed W0 (w.heap.size + 1) 3 (.int .i64 0) := by
    rw [← hW0]
    have h := Boxed.new (w.alloc (.cells #[.bool false] 4)) 3 (.int .i64 0)
    simp only [World.size_alloc] at h
    exact ((h.alloc _).alloc _).alloc _
  have b2 : Boxed W0 (w.heap.size + 1 + 1) 9 (.string (mkB l)) := by
    rw [← hW0]
    have h := Boxed.new ((w.alloc (.cells #[.bool false] 4)).alloc (.cells #[.int .i64 0] 3)) 9 (.string (mkB l))
    simp only [World.size_alloc] at h
    exact (h.alloc _).alloc _
  have b3 : Boxed W0 (w.heap.size + 1 + 1 + 1) 9 (.string (mkB [47])) := by
    rw [← hW0]
    have h := Boxed.new (((w.alloc (.cells #[.bool false] 4)).alloc (.cells #[.int .i64 0] 3)).alloc (.cells #[.string (mkB l)] 9)) 9 (.string (mkB [47]))
    simp only [World.size_alloc] at h
    exact h.alloc _
  have b4 : Boxed W0 (w.heap.size + 1 + 1 + 1 + 1) 3 (.int .i64 0) := by
    rw [← hW0]
    have h := Boxed.new ((((w.alloc (.cells #[.bool false] 4)).alloc (.cells #[.int .i64 0] 3)).alloc (.cells #[.string (mkB l)] 9)).alloc (.cells #[.string (mkB [47])] 9)) 3 (.int .i64 0)
    simp only [World.size_alloc] at h
    exact h
  have hB0 : Below w.heap.size w W0 := by
    rw [← hW0]
    exact (((((Below.refl _ w).alloc (Nat.le_refl _) _).alloc (by simp) _).alloc (by simp; omega) _).alloc (by simp; omega) _).alloc (by simp; omega) _
  rw [hW0]
  clear hW0
  refine wpIn_range_box (n := 4) rfl (by omega) (gf := 53) (lb := #[.pointer (some ⟨w.heap.size + 1 + 1 + 1, 0, none⟩), .pointer (some ⟨w.heap.size + 1 + 1, 0, none⟩), .pointer (some ⟨w.heap.size + 1 + 1 + 1 + 1, 0, none⟩)]) rfl trivial (enters_of Tryd.func53 (by kernel_rfl) rfl)
    (iter_box 3 (by omega) l hl 47 (w.heap.size + 1 + 1) W0 b2 b3 b4) (by omega) kpB_t (kpB_g (by omega))
    (fun pre W => ((∀ x ∈ pre, nameOk x = true) ∧ pre.length ≤ 5) ∧ Boxed W (w.heap.size + 1) 3 (.int .i64 pre.length) ∧ Boxed W w.heap.size 4 (.bool false) ∧ Below w.heap.size w W)
    (fun c _ W => (c = .ret ∧ pathOk l = false) ∧ Boxed W w.heap.size 4 (.bool false) ∧ Below w.heap.size w W)
    ((ownFrom_pure _ _).and ((Own.from (boxed_own _ _ _) _).and ((Own.from (boxed_own _ _ _) _).and (ownFrom_below (Nat.le_refl _) (by omega)))))
    ((AtBox.plain _ _).and ((AtBox.boxed _ _ (by omega)).and ((AtBox.boxed _ _ (by omega)).and (AtBox.below (by omega) (Nat.le_refl _)))))
    (fun c => (ownFrom_pure _ _).and ((Own.from (boxed_own _ _ _) _).and (ownFrom_below (Nat.le_refl _) (by omega))))
    ⟨⟨by simp, by simp⟩, b1, b0, hB0⟩
    (fun x => { tmps := #[.string (mkB l), undef, .pointer (some ⟨w.heap.size, 0, none⟩), .pointer (some ⟨w.heap.size + 1, 0, none⟩), .string (mkB x), .string (mkB l),
      .func (.func 53) #[] #[.pointer (some ⟨w.heap.size + 1 + 1 + 1, 0, none⟩), .pointer (some ⟨w.heap.size + 1 + 1, 0, none⟩), .pointer (some ⟨w.heap.size + 1 + 1 + 1 + 1, 0, none⟩)],
      .string (mkB x), undef, undef, undef, undef, undef, undef, undef, undef, undef], defers := [] }) ?assign ?body ?done ?stop
  case assign =>
    intro lp x W K hK
    gi_wp2
    exact hK
  case body =>
    rintro lp pre x W hlp ⟨⟨ha, h5⟩, hc, hr, hB⟩ hpre
    have hxl : (mkB x).size ≤ 9223372036854775807 := by
      have := cut_mem_length (hpre.subset (by simp : x ∈ pre ++ [x]))
      rw [mkB_size]; omega
    have hcc := hc.cell
    have hcf := hc.frozen
    have hrc := hr.cell
    have hrf := hr.frozen
    by_cases h : pre.length < 5
    · rcases boolOf (nameOk x) with hb | hb
      · gi_wp2_with (refine ⟨trivial, ?_⟩; gi_at_call 25; refine (CallsIn.inRound lp (callsIn_wide.2 (nameOk_any _ hxl _))).mono ?_; rintro e w' ⟨rfl, rfl⟩; rw [mkB_data, hb.out])
        exact ⟨((KeepsOthers.setCell _ _ _).trans (KeepsOthers.setCell _ _ _)).from _, ⟨rfl, pathOk_bad hpre hb.out⟩, (hr.other (by omega) _).set _, (hB.setCell (p := ⟨w.heap.size + 1, 0, none⟩) (by simp) _).setCell (p := ⟨w.heap.size, 0, none⟩) (Nat.le_refl _) _⟩
      · gi_wp2_with (refine ⟨trivial, ?_⟩; gi_at_call 25; refine (CallsIn.inRound lp (callsIn_wide.2 (nameOk_any _ hxl _))).mono ?_; rintro e w' ⟨rfl, rfl⟩; rw [mkB_data, hb.out])
        refine ⟨(KeepsOthers.setCell _ _ _).from _, fun k h1 _ => Below.heap_setCell _ _ _ k (by simp; omega), ⟨fun y hy => ?_, by simp; omega⟩, ?_, hr.other (by omega) _, hB.setCell (p := ⟨w.heap.size + 1, 0, none⟩) (by simp) _⟩
        · rcases List.mem_append.1 hy with h' | h'
          · exact ha y h'
          · simp at h'; subst h'; exact hb.out
        · have h := hc.set (.int .i64 ((pre.length : Int) + 1))
          simpa using h
    · gi_wp2
      refine ⟨trivial, ?_⟩
      gi_wp2
      exact ⟨((KeepsOthers.setCell _ _ _).trans (KeepsOthers.setCell _ _ _)).from _, ⟨rfl, pathOk_many hpre (by omega)⟩, (hr.other (by omega) _).set _, (hB.setCell (p := ⟨w.heap.size + 1, 0, none⟩) (by simp) _).setCell (p := ⟨w.heap.size, 0, none⟩) (Nat.le_refl _) _⟩
  case done =>
    rintro D W hD ⟨⟨ha, h5⟩, hc, hr, hB⟩ hK
    have hrc := hr.cell
    have hrf := hr.frozen
    gi_wp2
    have hK' := deferred_set hK ⟨w.heap.size, 0, none⟩ (.bool true)
    refine ⟨by simp, .inl ⟨_, _, rfl, run_takeDeferred hK', ?_⟩⟩
    have hc5 := (boxed_shut (hr.set (.bool true)) hK').cell
    refine ⟨.bool true, by simp [results, Tryd.f12, go_sem, hc5], by rw [pathOk_all rfl ha h5], below_shut (hB.setCell (p := ⟨w.heap.size, 0, none⟩) (Nat.le_refl _) _) (Nat.le_refl _) (by omega)⟩
  case stop =>
    rintro D c pre W hD hpre ⟨⟨rfl, hbad⟩, hr, hB⟩ hK
    gi_wp2
    refine ⟨by simp, .inl ⟨_, _, rfl, run_takeDeferred hK, ?_⟩⟩
    have hc5 := (boxed_shut hr hK).cell
    refine ⟨.bool false, by simp [results, Tryd.f12, go_sem, hc5], by rw [hbad], below_shut hB (Nat.le_refl _) (by omega)⟩

theorem PathOk_any (s : ByteArray) (hs : s.size ≤ 140737488355328) (w : World) :
    Calls Tryd.prog 12 #[.string s] w fun e w' => e = .returned (.bool (pathOk s.data.toList)) ∧ Below w.heap.size w w' := by
  have h := callsIn_wide.1 (PathOk_in s.data.toList (by rw [← Lib.size_eq]; exact hs) w)
  rwa [mkB_self] at h

end Go.Proofs.YtiibodelcfmnpaaDoor
