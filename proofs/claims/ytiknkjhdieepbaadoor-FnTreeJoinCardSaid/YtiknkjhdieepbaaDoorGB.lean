/-
  PathOk, Cut, PathOrd, PathR, PathF, PathG, PlainT, Ent: merged.
-/
import Derived.Test.YtiknkjhdieepbaaDoorGA
import Derived.LoopTactic
import Derived.Lib.SmallJoins
import Derived.Laws.Cover1
/-
  The walks of PathOk, the program's and the reference's: each says of every text whether it is a path.
-/
namespace Go.Proofs.YtiknkjhdieepbaaDoor
open Go.RowKit Go.Shelf
attribute [local go_sem] Oper.semAt_some

/-- what is known when a part of the names has been seen and all were good -/
theorem pathOk_all {l : List UInt8} {pre : List (List UInt8)} (h : pre = cut 47 l) (ha : ∀ x ∈ pre, nameOk x = true) (h5 : pre.length ≤ 5) : pathOk l = true := by
  subst h
  unfold pathOk
  rw [List.all_eq_true.2 ha, decide_eq_true h5]; rfl
theorem pathOk_bad {l x : List UInt8} {pre : List (List UInt8)} (h : pre ++ [x] <+: cut 47 l) (hx : nameOk x = false) : pathOk l = false := by
  unfold pathOk
  have hm : x ∈ cut 47 l := h.subset (by simp)
  have : (cut 47 l).all nameOk = false := by
    rw [List.all_eq_false]; exact ⟨x, hm, by simp [hx]⟩
  rw [this]; rfl
theorem pathOk_many {l x : List UInt8} {pre : List (List UInt8)} (h : pre ++ [x] <+: cut 47 l) (hx : 5 ≤ pre.length) : pathOk l = false := by
  unfold pathOk
  have := h.length_le
  simp at this
  rw [decide_eq_false (by omega)]; simp

set_option maxHeartbeats 1000000 in
theorem PathOk_in (l : List UInt8) (hl : l.length ≤ 140737488355328) (w : World) :
    CallsIn Fence.wide 4 Tryd.prog 38 #[.string (mkB l)] w fun e w' => e = .returned (.bool (pathOk l)) ∧ Below w.heap.size w w' := by
  refine callsIn_of_wp_marks Tryd.func38 rfl trivial ?_ rfl
  simp only [Tryd.ntmps38, List.size_toArray, List.length_cons, List.length_nil, Nat.reduceAdd, Nat.reduceSub, Array.replicate_succ, Array.replicate_zero, List.push_toArray, List.append_toArray, List.nil_append, List.cons_append]
  gi_wp2_with (refine ⟨trivial, ?_⟩; gi_at_call 55; refine (callsIn_wide.2 (SplitSeq_any _ _ _)).mono ?_; rintro e w' ⟨rfl, rfl⟩)
  obtain ⟨W0, hW0⟩ : ∃ W0, (((((w.alloc (.cells #[.bool false] 4)).alloc (.cells #[.int .i64 0] 3)).alloc (.cells #[.string (mkB l)] 9)).alloc (.cells #[.string { data := #[47] }] 9)).alloc (.cells #[.int .i64 0] 3)) = W0 := ⟨_, rfl⟩
  have hz : W0.heap.size = w.heap.size + 5 := by rw [← hW0]; simp
  have b0 : Boxed W0 w.heap.size 4 (.bool false) := by rw [← hW0]; exact ((((Boxed.new w _ _).alloc _).alloc _).alloc _).alloc _
  have b1 : Boxed W0 (w.heap.size + 1) 3 (.int .i64 0) := by
    rw [← hW0]
    have h := Boxed.new (w.alloc (.cells #[.bool false] 4)) 3 (.int .i64 0)
    simp only [World.size_alloc] at h
    exact ((h.alloc _).alloc _).alloc _
  have b2 : Boxed W0 (w.heap.size + 1 + 1) 9 (.string (mkB l)) := by
    rw [← hW0]
    have h := Boxed.new ((w.alloc (.cells #[.bool false] 4)).alloc (.cells #[.int .i64 0] 3)) 9 (.string (mkB l))
    simp only [World.size_alloc] at h
    exact (h.alloc _).alloc _
  have b3 : Boxed W0 (w.heap.size + 1 + 1 + 1) 9 (.string (mkB [47])) := by
    rw [← hW0]
    have h := Boxed.new (((w.alloc (.cells #[.bool false] 4)).alloc (.cells #[.int .i64 0] 3)).alloc (.cells #[.string (mkB l)] 9)) 9 (.string (mkB [47]))
    simp only [World.size_alloc] at h
    exact h.alloc _
  have b4 : Boxed W0 (w.heap.size + 1 + 1 + 1 + 1) 3 (.int .i64 0) := by
    rw [← hW0]
    have h := Boxed.new ((((w.alloc (.cells #[.bool false] 4)).alloc (.cells #[.int .i64 0] 3)).alloc (.cells #[.string (mkB l)] 9)).alloc (.cells #[.string (mkB [47])] 9)) 3 (.int .i64 0)
    simp only [World.size_alloc] at h
    exact h
  have hB0 : Below w.heap.size w W0 := by
    rw [← hW0]
    exact (((((Below.refl _ w).alloc (Nat.le_refl _) _).alloc (by simp) _).alloc (by simp; omega) _).alloc (by simp; omega) _).alloc (by simp; omega) _
  rw [hW0]
  clear hW0
  refine wpIn_range_box (n := 4) rfl (by omega) (gf := 70) (lb := #[.pointer (some ⟨w.heap.size + 1 + 1 + 1, 0, none⟩), .pointer (some ⟨w.heap.size + 1 + 1, 0, none⟩), .pointer (some ⟨w.heap.size + 1 + 1 + 1 + 1, 0, none⟩)]) rfl trivial (enters_of Tryd.func70 (by kernel_rfl) rfl)
    (iter_box 3 (by omega) l hl 47 (w.heap.size + 1 + 1) W0 b2 b3 b4) (by omega) kpB_t (kpB_g (by omega))
    (fun pre W => ((∀ x ∈ pre, nameOk x = true) ∧ pre.length ≤ 5) ∧ Boxed W (w.heap.size + 1) 3 (.int .i64 pre.length) ∧ Boxed W w.heap.size 4 (.bool false) ∧ Below w.heap.size w W)
    (fun c _ W => (c = .ret ∧ pathOk l = false) ∧ Boxed W w.heap.size 4 (.bool false) ∧ Below w.heap.size w W)
    ((ownFrom_pure _ _).and ((Own.from (boxed_own _ _ _) _).and ((Own.from (boxed_own _ _ _) _).and (ownFrom_below (Nat.le_refl _) (by omega)))))
    ((AtBox.plain _ _).and ((AtBox.boxed _ _ (by omega)).and ((AtBox.boxed _ _ (by omega)).and (AtBox.below (by omega) (Nat.le_refl _)))))
    (fun c => (ownFrom_pure _ _).and ((Own.from (boxed_own _ _ _) _).and (ownFrom_below (Nat.le_refl _) (by omega))))
    ⟨⟨by simp, by simp⟩, b1, b0, hB0⟩
    (fun x => { tmps := #[.string (mkB l), undef, .pointer (some ⟨w.heap.size, 0, none⟩), .pointer (some ⟨w.heap.size + 1, 0, none⟩), .string (mkB x), .string (mkB l),
      .func (.func 70) #[] #[.pointer (some ⟨w.heap.size + 1 + 1 + 1, 0, none⟩), .pointer (some ⟨w.heap.size + 1 + 1, 0, none⟩), .pointer (some ⟨w.heap.size + 1 + 1 + 1 + 1, 0, none⟩)],
      .string (mkB x), undef, undef, undef, undef, undef, undef, undef, undef, undef], defers := [] }) ?assign ?body ?done ?stop
  case assign =>
    intro lp x W K hK
    gi_wp2
    exact hK
  case body =>
    rintro lp pre x W hlp ⟨⟨ha, h5⟩, hc, hr, hB⟩ hpre
    have hxl : (mkB x).size ≤ 9223372036854775807 := by
      have := cut_mem_length (hpre.subset (by simp : x ∈ pre ++ [x]))
      rw [mkB_size]; omega
    have hcc := hc.cell
    have hcf := hc.frozen
    have hrc := hr.cell
    have hrf := hr.frozen
    by_cases h : pre.length < 5
    · rcases boolOf (nameOk x) with hb | hb
      · gi_wp2_with (refine ⟨trivial, ?_⟩; gi_at_call 56; refine (CallsIn.inRound lp (callsIn_wide.2 (nameOk_any _ hxl _))).mono ?_; rintro e w' ⟨rfl, rfl⟩; rw [mkB_data, hb.out])
        exact ⟨((KeepsOthers.setCell _ _ _).trans (KeepsOthers.setCell _ _ _)).from _, ⟨rfl, pathOk_bad hpre hb.out⟩, (hr.other (by omega) _).set _, (hB.setCell (p := ⟨w.heap.size + 1, 0, none⟩) (by simp) _).setCell (p := ⟨w.heap.size, 0, none⟩) (Nat.le_refl _) _⟩
      · gi_wp2_with (refine ⟨trivial, ?_⟩; gi_at_call 56; refine (CallsIn.inRound lp (callsIn_wide.2 (nameOk_any _ hxl _))).mono ?_; rintro e w' ⟨rfl, rfl⟩; rw [mkB_data, hb.out])
        refine ⟨(KeepsOthers.setCell _ _ _).from _, fun k h1 _ => Below.heap_setCell _ _ _ k (by simp; omega), ⟨fun y hy => ?_, by simp; omega⟩, ?_, hr.other (by omega) _, hB.setCell (p := ⟨w.heap.size + 1, 0, none⟩) (by simp) _⟩
        · rcases List.mem_append.1 hy with h' | h'
          · exact ha y h'
          · simp at h'; subst h'; exact hb.out
        · have h := hc.set (.int .i64 ((pre.length : Int) + 1))
          simpa using h
    · gi_wp2
      refine ⟨trivial, ?_⟩
      gi_wp2
      exact ⟨((KeepsOthers.setCell _ _ _).trans (KeepsOthers.setCell _ _ _)).from _, ⟨rfl, pathOk_many hpre (by omega)⟩, (hr.other (by omega) _).set _, (hB.setCell (p := ⟨w.heap.size + 1, 0, none⟩) (by simp) _).setCell (p := ⟨w.heap.size, 0, none⟩) (Nat.le_refl _) _⟩
  case done =>
    rintro D W hD ⟨⟨ha, h5⟩, hc, hr, hB⟩ hK
    have hrc := hr.cell
    have hrf := hr.frozen
    gi_wp2
    have hK' := deferred_set hK ⟨w.heap.size, 0, none⟩ (.bool true)
    refine ⟨by simp, .inl ⟨_, _, rfl, run_takeDeferred hK', ?_⟩⟩
    have hc5 := (boxed_shut (hr.set (.bool true)) hK').cell
    refine ⟨.bool true, by simp [results, Tryd.f38, go_sem, hc5], by rw [pathOk_all rfl ha h5], below_shut (hB.setCell (p := ⟨w.heap.size, 0, none⟩) (Nat.le_refl _) _) (Nat.le_refl _) (by omega)⟩
  case stop =>
    rintro D c pre W hD hpre ⟨⟨rfl, hbad⟩, hr, hB⟩ hK
    gi_wp2
    refine ⟨by simp, .inl ⟨_, _, rfl, run_takeDeferred hK, ?_⟩⟩
    have hc5 := (boxed_shut hr hK).cell
    refine ⟨.bool false, by simp [results, Tryd.f38, go_sem, hc5], by rw [hbad], below_shut hB (Nat.le_refl _) (by omega)⟩

theorem PathOk_any (s : ByteArray) (hs : s.size ≤ 140737488355328) (w : World) :
    Calls Tryd.prog 38 #[.string s] w fun e w' => e = .returned (.bool (pathOk s.data.toList)) ∧ Below w.heap.size w w' := by
  have h := callsIn_wide.1 (PathOk_in s.data.toList (by rw [← Lib.size_eq]; exact hs) w)
  rwa [mkB_self] at h

end Go.Proofs.YtiknkjhdieepbaaDoor

/-
  The walks of the reference's l1Cut, l1Path, PathOk.
-/
namespace Go.Proofs.YtiknkjhdieepbaaDoor
open Go.RowKit
set_option linter.unusedVariables false

def strV (l : List UInt8) : Value := .string (mkB l)
theorem info_str : (Tryd.prog.info? 9).map (fun i => (i.zero, i.size, i.bytes)) = some (some (.string .empty), 1, 16) := by kernel_rfl

attribute [local go_sem] mkB_size mkB_extract
theorem mkB_get (l : List UInt8) (k : Nat) (h : k < (mkB l).size) : (mkB l)[k] = l[k]'(by rwa [mkB_size] at h) := rfl
attribute [local go_sem] mkB_get
theorem cutGo_hit {b : UInt8} {l f : List UInt8} {k : Nat} (hk : k < l.length) (hb : l[k] = b) : cutGo b f (l.drop k) = f :: cutGo b [] (l.drop (k + 1)) := by
  rw [List.drop_eq_getElem_cons hk]; simp only [cutGo]; rw [if_pos hb]
theorem cutGo_miss {b : UInt8} {l f : List UInt8} {k : Nat} (hk : k < l.length) (hb : ¬ l[k] = b) : cutGo b f (l.drop k) = cutGo b (f ++ [l[k]]) (l.drop (k + 1)) := by
  rw [List.drop_eq_getElem_cons hk]; simp only [cutGo]; rw [if_neg hb]
theorem piece_snoc {l : List UInt8} {p k : Nat} (hk : k < l.length) (hp : p ≤ k) : (l.drop p).take (k + 1 - p) = (l.drop p).take (k - p) ++ [l[k]] := by
  rw [show k + 1 - p = (k - p) + 1 by omega, List.take_succ_eq_append_getElem (by simp; omega)]
  congr 2
  rw [List.getElem_drop]
  congr 1
  omega

set_option maxHeartbeats 1000000 in
theorem l1Cut_any (l : List UInt8) (b : UInt8) (hl : l.length ≤ 1099511627776) (w : World) :
    Calls Tryd.prog 47 #[.string (mkB l), .int .u8 (b.toNat : Int), .int .i64 ((l.length : Int) + 1)] w fun e w' =>
      ∃ v, e = .returned v ∧ w'.ownsRow w.heap.size 9 1 v (cut b l).length ((cut b l).map strV) ∧ Below w.heap.size w w' := by
  obtain ⟨i0, hi, hz0, hz1, hz2⟩ := info_parts info_str
  go_enter Tryd.func47, Tryd.ntmps47
  go_wp2
  go_loopw [7, 8, 9] (fun out fr i wr => ∃ (k p : Nat) (pre : List (List UInt8)) (f : List UInt8) (g cap : Nat), k ≤ l.length ∧ i = .int .i64 k ∧ fr = .int .i64 p ∧ p ≤ k ∧ pre.length ≤ p ∧ Hid (f = (l.drop p).take (k - p)) ∧ Hid (cut b l = pre ++ cutGo b f (l.drop k)) ∧ out = .slice (some ⟨g, 0, none⟩) pre.length cap ∧ wr.ownsRow w.heap.size 9 1 (.slice (some ⟨g, 0, none⟩) pre.length cap) pre.length (pre.map strV) ∧ Below w.heap.size w wr)
    (fun _ _ i _ => l.length - (intOf i).toNat)
  case atStart =>
    exact ⟨0, 0, [], [], w.heap.size, 0, Nat.zero_le _, rfl, rfl, Nat.le_refl _, Nat.le_refl _, Lib.hid (by simp), Lib.hid (by simp [cut]), rfl, World.ownsRow_lit w #[] 0 (Nat.le_refl _) (by simp [maxLen]) rfl, (Below.refl _ _).alloc (Nat.le_refl _) _⟩
  case round =>
    obtain ⟨k, p, pre, f, g, cap, hk, rfl, rfl, hpk, hpp, hf, hcut, rfl, hown, hB⟩ := hrel
    by_cases hlt : k < l.length
    · have hq : (pre.length : Int) < (l.length : Int) + 1 := by omega
      by_cases hb : l[k] = b
      · have hb' : ((l[k].toNat : Int) == (b.toNat : Int)) = true := by rw [hb]; simp
        have hb := Lib.hid hb
        go_wp2_with (at_builtin; refine wpList_push rfl _ _ 41 rfl w.heap.size 9 i0 (.string .empty) 1 16 Tryd.underlying41 hi hz0 hz1 hz2 rfl (by decide) wr _ _ _ hown rfl [.string (mkB ((l.drop p).take (k - p)))] rfl rfl (by simp [Value.oneCell']) (by simp only [maxLen]; omega) (by omega) hB.size ?_; intro g1 cap1 w1 hown1 hg1 hb1 _)
        go_roundw
        case rel =>
          refine ⟨k + 1, k + 1, pre ++ [f], [], g1, cap1, by omega, by go_num, by go_num, Nat.le_refl _, by simp; omega, Lib.hid (by simp), Lib.hid ?_, ?_, ?_, hB.trans hb1⟩
          · rw [hcut.out, cutGo_hit hlt hb.out]; simp
          · simp
          · have e : [Value.string (mkB ((l.drop p).take (k - p)))] = [f].map strV := by rw [hf.out]; rfl
            rw [e] at hown1
            simpa using hown1
        case measure => simp [intOf]; omega
      · have hb' : ((l[k].toNat : Int) == (b.toNat : Int)) = false := by
          rw [beq_eq_false_iff_ne]; intro e; exact hb (UInt8.toNat_inj.1 (by omega))
        have hb := Lib.hid hb
        go_wp2
        go_roundw
        case rel =>
          refine ⟨k + 1, p, pre, f ++ [l[k]], g, cap, by omega, by go_num, rfl, by omega, hpp, Lib.hid ?_, Lib.hid ?_, rfl, hown, hB⟩
          · rw [hf.out, piece_snoc hlt hpk]
          · rw [hcut.out, cutGo_miss hlt hb.out]
        case measure => simp [intOf]; omega
    · have hkl : k = l.length := by omega
      subst hkl
      go_wp2_with (at_builtin; refine wpList_push rfl _ _ 41 rfl w.heap.size 9 i0 (.string .empty) 1 16 Tryd.underlying41 hi hz0 hz1 hz2 rfl (by decide) wr _ _ _ hown rfl [.string (mkB ((l.drop p).take (l.length - p)))] rfl rfl (by simp [Value.oneCell']) (by simp only [maxLen]; omega) (by omega) hB.size ?_; intro g1 cap1 w1 hown1 hg1 hb1 _)
      go_ret
      have e : cut b l = pre ++ [f] := by rw [hcut.out]; simp [cutGo]
      refine ⟨_, rfl, ?_, hB.trans hb1⟩
      rw [e, hf.out]
      simpa [strV] using hown1

end Go.Proofs.YtiknkjhdieepbaaDoor

/-
  What l1Cut's row of texts tells.
-/
namespace Go.Proofs.YtiknkjhdieepbaaDoor
open Go.RowKit

/-- a row of texts of the call's own: what its cells hold -/
theorem strs_cell {w : World} {base g n cap : Nat} {xs : List (List UInt8)} (h : w.ownsRow base 9 1 (.slice (some ⟨g, 0, none⟩) n cap) n (xs.map strV)) (k : Nat) (hk : k < xs.length) : w.cell? ⟨g, k, none⟩ = some (.string (mkB xs[k])) := by
  have hl := h.1
  simp at hl
  rw [h.cellAt k (by omega)]
  simp [strV, hk]

theorem cut_form {w : World} {base : Nat} {v : Value} {b : UInt8} {l : List UInt8} (h : w.ownsRow base 9 1 v (cut b l).length ((cut b l).map strV)) : ∃ g cap, v = .slice (some ⟨g, 0, none⟩) (cut b l).length cap := by
  have hn : 0 < (cut b l).length := List.length_pos_iff.2 (cut_ne_nil b l)
  rcases h.2 with ⟨_, h0⟩ | ⟨g, cap, _, hv, _⟩
  · omega
  · exact ⟨g, cap, hv⟩

theorem take_all_ok {xs : List (List UInt8)} {k : Nat} (hk : k < xs.length) {p : List UInt8 → Bool} (h : (xs.take k).all p = true) (hx : p xs[k] = true) : (xs.take (k + 1)).all p = true := by
  rw [List.take_succ_eq_append_getElem hk, List.all_append, h]; simp [hx]
theorem take_all_no {xs : List (List UInt8)} {k : Nat} (hk : k < xs.length) {p : List UInt8 → Bool} (hx : p xs[k] = false) : xs.all p = false := by
  rw [List.all_eq_false]; exact ⟨xs[k], List.getElem_mem hk, by simp [hx]⟩


end Go.Proofs.YtiknkjhdieepbaaDoor

/-
  The walks of the reference's l1Path and PathOk.
-/
namespace Go.Proofs.YtiknkjhdieepbaaDoor
open Go.RowKit
attribute [local go_sem] mkB_size mkB_extract

set_option maxHeartbeats 1000000 in
theorem l1Path_any (l : List UInt8) (hl : l.length ≤ 1099511627776) (w : World) :
    Calls Tryd.prog 45 #[.string (mkB l)] w fun e w' => e = .returned (.bool (pathOk l)) ∧ Below w.heap.size w w' := by
  go_enter Tryd.func45, Tryd.ntmps45
  go_wp2_with fail
  refine (l1Cut_any l 47 hl _).mono ?_
  rintro e w1 ⟨v, rfl, hown, hB⟩
  obtain ⟨g, cap, rfl⟩ := cut_form hown
  have hlen : (cut 47 l).length ≤ l.length + 1 := by
    have := cut_sum 47 l; omega
  obtain ⟨xs, hxs⟩ : ∃ xs, cut 47 l = xs := ⟨_, rfl⟩
  rw [hxs] at hown hlen ⊢
  have hxs' := Lib.hid hxs
  clear hxs
  go_wp2
  go_loop [4] (fun i => ∃ k : Nat, k ≤ xs.length ∧ i = .int .i64 k ∧ Hid ((xs.take k).all nameOk = true)) (fun i => xs.length - (intOf i).toNat)
  case atStart => exact ⟨0, Nat.zero_le _, rfl, Lib.hid rfl⟩
  case round =>
    obtain ⟨k, hk, rfl, hall⟩ := hrel
    by_cases hlt : k < xs.length
    · have hc := strs_cell hown k hlt
      have hx : xs[k].length ≤ l.length := cut_mem_length (b := 47) (by rw [hxs'.out]; exact List.getElem_mem hlt)
      have hxl : (mkB xs[k]).size ≤ 9223372036854775807 := by rw [mkB_size]; omega
      rcases boolOf (nameOk xs[k]) with hb | hb
      · go_wp2_with (go_at_call 60; refine (l1Name_any _ hxl _).mono ?_; rintro e w' ⟨rfl, rfl⟩; rw [mkB_data, hb.out])
        go_ret
        refine ⟨ret_bool ?_, hB⟩
        unfold pathOk
        rw [hxs'.out, take_all_no hlt hb.out]; rfl
      · go_wp2_with (go_at_call 60; refine (l1Name_any _ hxl _).mono ?_; rintro e w' ⟨rfl, rfl⟩; rw [mkB_data, hb.out])
        go_round
        case rel => exact ⟨k + 1, by omega, by go_num, Lib.hid (take_all_ok hlt hall.out hb.out)⟩
        case measure => simp [intOf]; omega
    · go_wp2
      go_ret
      refine ⟨ret_bool ?_, hB⟩
      have h := hall.out
      rw [List.take_of_length_le (by omega)] at h
      unfold pathOk
      rw [hxs'.out, h]
      rw [Bool.eq_iff_iff]; simp; omega

end Go.Proofs.YtiknkjhdieepbaaDoor

/-
  The walks of the program's PathIn, PathUp, PathLast, PathMove, of the reference's, and of what they call.
-/
namespace Go.Proofs.YtiknkjhdieepbaaDoor
open Go.RowKit
set_option linter.unusedVariables false
attribute [local go_sem] mkB_size mkB_extract mkB_get mkB_append mkB_append_raw raw_append_mkB mkB_toList

theorem mem_drop_step {b : UInt8} {l : List UInt8} {j : Nat} (hj : j < l.length) (h : b ∉ l.drop (j + 1)) (hne : ¬ l[j] = b) : b ∉ l.drop j := by
  rw [List.drop_eq_getElem_cons hj]
  intro hm
  rcases List.mem_cons.1 hm with e | e
  · exact hne e.symm
  · exact h e
theorem split_here {b : UInt8} {l : List UInt8} {j : Nat} (hj : j < l.length) (h : b ∉ l.drop (j + 1)) (he : l[j] = b) : ∃ c, b ∉ c ∧ l = l.take j ++ b :: c :=
  ⟨l.drop (j + 1), h, by rw [← he]; exact (List.take_append_drop j l).symm.trans (by rw [List.drop_eq_getElem_cons hj])⟩

/-- the place of the last b: -1 if there is none -/
def lastIx (b : UInt8) (l : List UInt8) : Int := if b ∈ l then (l.length : Int) - 1 - ((l.reverse.takeWhile (· != b)).length : Int) else -1
theorem lastIx_none {b : UInt8} {l : List UInt8} (h : b ∉ l) : lastIx b l = -1 := if_neg h
theorem lastIx_at {b : UInt8} {a c : List UInt8} (h : b ∉ c) : lastIx b (a ++ b :: c) = a.length := by
  unfold lastIx
  rw [if_pos (by simp), List.reverse_append, List.reverse_cons, List.append_assoc, takeWhile_app _ _ (fun x hx => by
    simp only [bne_iff_ne]; rintro rfl; exact h (by simpa using hx))]
  simp
  omega

set_option maxHeartbeats 1000000 in
theorem LastIndexByteString_any (l : List UInt8) (b : UInt8) (hl : l.length ≤ 9223372036854775807) (w : World) :
    Calls Tryd.prog 66 #[.string (mkB l), .int .u8 (b.toNat : Int)] w fun e w' => e = .returned (.int .i64 (lastIx b l)) ∧ w = w' := by
  go_enter Tryd.func66, Tryd.ntmps66
  go_wp2
  go_loop [5] (fun i => (∃ j : Nat, j < l.length ∧ i = .int .i64 j ∧ Hid (b ∉ l.drop (j + 1))) ∨ (i = .int .i64 (-1) ∧ Hid (b ∉ l))) (fun i => (intOf i + 1).toNat)
  case atStart =>
    cases l with
    | nil => exact .inr ⟨int_eq (by simp), Lib.hid (by simp)⟩
    | cons c l => exact .inl ⟨l.length, by simp, int_eq (by simp), Lib.hid (by simp)⟩
  case round =>
    rcases hrel with ⟨j, hj, rfl, hno⟩ | ⟨rfl, hno⟩
    · by_cases hb : l[j] = b
      · have hb' := u8_is hb
        have hb := Lib.hid hb
        go_wp2
        go_ret
        obtain ⟨c, hc, hs⟩ := split_here hj hno.out hb.out
        refine ⟨ret_int ?_, rfl⟩
        rw [hs, lastIx_at hc]; simp; omega
      · have hb' := u8_ne hb
        have hb := Lib.hid hb
        go_wp2
        go_round
        case rel =>
          have hn := mem_drop_step hj hno.out hb.out
          cases j with
          | zero => exact .inr ⟨int_eq (by simp), Lib.hid (by simpa using hn)⟩
          | succ j => exact .inl ⟨j, by omega, int_eq (by simp), Lib.hid hn⟩
        case measure => first | (simp [intOf]; done) | (simp [intOf]; omega)
    · go_wp2
      go_ret
      exact ⟨ret_int (lastIx_none hno.out).symm, rfl⟩
theorem LastIndexByte_any (l : List UInt8) (b : UInt8) (hl : l.length ≤ 9223372036854775807) (w : World) :
    Calls Tryd.prog 58 #[.string (mkB l), .int .u8 (b.toNat : Int)] w fun e w' => e = .returned (.int .i64 (lastIx b l)) ∧ w = w' := by
  go_enter Tryd.func58, Tryd.ntmps58
  go_wp2_with (go_at_call 66; refine (LastIndexByteString_any _ _ hl _).mono ?_; rintro e w' ⟨rfl, rfl⟩)
  go_ret
  exact ⟨rfl, rfl⟩

set_option maxHeartbeats 1000000 in
theorem l1Up_any (l : List UInt8) (hl : l.length ≤ 9223372036854775807) (w : World) :
    Calls Tryd.prog 36 #[.string (mkB l)] w fun e w' => e = .returned (.string (mkB (upL l))) ∧ w = w' := by
  go_enter Tryd.func36, Tryd.ntmps36
  go_wp2
  go_loop [3] (fun i => (∃ j : Nat, j < l.length ∧ i = .int .i64 j ∧ Hid (47 ∉ l.drop (j + 1))) ∨ (i = .int .i64 (-1) ∧ Hid (47 ∉ l))) (fun i => (intOf i + 1).toNat)
  case atStart =>
    cases l with
    | nil => exact .inr ⟨int_eq (by simp), Lib.hid (by simp)⟩
    | cons c l => exact .inl ⟨l.length, by simp, int_eq (by simp), Lib.hid (by simp)⟩
  case round =>
    rcases hrel with ⟨j, hj, rfl, hno⟩ | ⟨rfl, hno⟩
    · by_cases hb : l[j] = 47
      · have hb' : ((l[j].toNat : Int) == 47) = true := u8_is hb
        have hb := Lib.hid hb
        go_wp2
        go_ret
        obtain ⟨c, hc, hs⟩ := split_here hj hno.out hb.out
        refine ⟨ret_str (congrArg mkB ?_), rfl⟩
        have h2 := upL_at (a := l.take j) hc
        rw [← hs] at h2
        rw [h2]
      · have hb' : ((l[j].toNat : Int) == 47) = false := u8_ne hb
        have hb := Lib.hid hb
        go_wp2
        go_round
        case rel =>
          have hn := mem_drop_step hj hno.out hb.out
          cases j with
          | zero => exact .inr ⟨int_eq (by simp), Lib.hid (by simpa using hn)⟩
          | succ j => exact .inl ⟨j, by omega, int_eq (by simp), Lib.hid hn⟩
        case measure => first | (simp [intOf]; done) | (simp [intOf]; omega)
    · go_wp2
      go_ret
      refine ⟨ret_str ?_, rfl⟩
      rw [upL_none hno.out]; rfl

set_option maxHeartbeats 1000000 in
theorem PathUp_any (s : List UInt8) (hs : s.length ≤ 140737488355327) (w : World) :
    Calls Tryd.prog 40 #[.string (mkB s)] w fun e w' => e = .returned (.string (mkB (pathUp s))) ∧ Below w.heap.size w w' := by
  have hsm : (mkB s).size ≤ 140737488355328 := by rw [mkB_size]; omega
  rcases boolOf (pathOk s) with h1 | h1
  · go_enter Tryd.func40, Tryd.ntmps40
    go_wp2_with fail
    refine (PathOk_any _ hsm _).mono ?_
    rintro e w1 ⟨rfl, hB1⟩
    rw [mkB_data, h1.out]
    go_wp2
    go_ret
    refine ⟨ret_str ?_, hB1⟩
    unfold pathUp; rw [h1.out]; rfl
  · have hres : pathUp s = upL s := by unfold pathUp; rw [h1.out]; rfl
    rw [hres]
    clear hres
    rcases split_last 47 s with hno | ⟨a, c, hc, rfl⟩
    · rw [upL_none hno]
      go_enter Tryd.func40, Tryd.ntmps40
      go_wp2_with fail
      refine (PathOk_any _ hsm _).mono ?_
      rintro e w1 ⟨rfl, hB1⟩
      rw [mkB_data, h1.out]
      go_wp2_with fail
      refine (LastIndexByte_any _ 47 (by omega) _).mono ?_
      rintro e w2 ⟨rfl, rfl⟩
      rw [lastIx_none hno]
      go_wp2
      go_ret
      exact ⟨ret_str rfl, hB1⟩
    · have hal : a.length + 1 ≤ 140737488355327 := by simp at hs; omega
      rw [upL_at hc]
      go_enter Tryd.func40, Tryd.ntmps40
      go_wp2_with fail
      refine (PathOk_any _ hsm _).mono ?_
      rintro e w1 ⟨rfl, hB1⟩
      rw [mkB_data, h1.out]
      go_wp2_with fail
      refine (LastIndexByte_any _ 47 (by omega) _).mono ?_
      rintro e w2 ⟨rfl, rfl⟩
      rw [lastIx_at hc]
      go_wp2
      go_ret
      exact ⟨rfl, hB1⟩

/-! ### the reference -/
theorem below_long {p s : List UInt8} (h : p.length < s.length) : below p s = (s.take p.length == p && s[p.length] == 47) := by
  rw [Bool.eq_iff_iff, below_iff]
  simp only [Bool.and_eq_true, beq_iff_eq]
  constructor
  · rintro (e | ⟨r, e⟩)
    · subst e; omega
    · subst e; simp
  · rintro ⟨e1, e2⟩
    refine .inr ⟨s.drop (p.length + 1), ?_⟩
    have e3 := List.take_append_drop p.length s
    rw [List.drop_eq_getElem_cons h, e1, e2] at e3
    exact e3.symm
theorem below_short {p s : List UInt8} (h : s.length ≤ p.length) (hne : ¬ s = p) : below p s = false := by
  rw [Bool.eq_false_iff]; intro e
  rcases below_iff.1 e with e | ⟨r, e⟩
  · exact hne e
  · rw [e] at h; simp at h; omega

set_option maxHeartbeats 1000000 in
theorem l1Below_any (p s : List UInt8) (hs : s.length ≤ 9223372036854775807) (hp : p.length ≤ 9223372036854775807) (w : World) :
    Calls Tryd.prog 48 #[.string (mkB p), .string (mkB s)] w fun e w' => e = .returned (.bool (below p s)) ∧ w = w' := by
  by_cases he : s = p
  · subst he
    rw [below_refl]
    go_enter Tryd.func48, Tryd.ntmps48
    go_wp2
    go_ret
    exact ⟨rfl, rfl⟩
  · have he' : (s == p) = false := by simpa using he
    by_cases hl : s.length ≤ p.length
    · rw [below_short hl he]
      have he := Lib.hid he
      go_enter Tryd.func48, Tryd.ntmps48
      go_wp2
      go_ret
      exact ⟨rfl, rfl⟩
    · rw [below_long (by omega)]
      have he := Lib.hid he
      by_cases ht : s.take p.length = p
      · have ht' : (s.take p.length == p) = true := by simpa using ht
        rw [ht']
        have ht := Lib.hid ht
        by_cases hb : s[p.length]'(by omega) = 47
        · have hb' : (((s[p.length]'(by omega)).toNat : Int) == 47) = true := u8_is hb
          rw [hb]
          have hb := Lib.hid hb
          go_enter Tryd.func48, Tryd.ntmps48
          go_wp2
          go_ret
          exact ⟨rfl, rfl⟩
        · have hb' : (((s[p.length]'(by omega)).toNat : Int) == 47) = false := u8_ne hb
          have hb2 : (s[p.length]'(by omega) == 47) = false := by simpa using hb
          rw [hb2]
          clear hb2
          have hb := Lib.hid hb
          go_enter Tryd.func48, Tryd.ntmps48
          go_wp2
          go_ret
          exact ⟨rfl, rfl⟩
      · have ht' : (s.take p.length == p) = false := by simpa using ht
        rw [ht']
        have ht := Lib.hid ht
        go_enter Tryd.func48, Tryd.ntmps48
        go_wp2
        go_ret
        exact ⟨rfl, rfl⟩

end Go.Proofs.YtiknkjhdieepbaaDoor

/-
  The walk of the reference's PathMove.
-/
namespace Go.Proofs.YtiknkjhdieepbaaDoor
open Go.RowKit
set_option linter.unusedVariables false
attribute [local go_sem] mkB_size mkB_extract mkB_get mkB_append mkB_append_raw raw_append_mkB mkB_toList

theorem pathIn_parts {f s : List UInt8} (h : pathIn f s = true) : pathOk f = true ∧ pathOk s = true ∧ below f s = true := by
  unfold pathIn at h
  simp only [Bool.and_eq_true] at h
  exact ⟨h.1.1, h.1.2, h.2⟩
theorem below_len {f s : List UInt8} (h : below f s = true) : f.length ≤ s.length := by
  rcases below_iff.1 h with e | ⟨r, e⟩
  · rw [e]; exact Nat.le_refl _
  · rw [e]; simp

end Go.Proofs.YtiknkjhdieepbaaDoor

/-
  Plain functions of trees. No program in sight.
-/
namespace Go.Proofs.YtiknkjhdieepbaaDoor
open Go.RowKit
set_option linter.unusedVariables false

/-- an entry of a tree -/
structure En where
  path : List UInt8
  kind : Int
  mode : Int
  text : List UInt8

/-! ### the order of texts -/
abbrev lt (a b : List UInt8) : Bool := Op.bytesLess a b
theorem lt_iff : ∀ (x y : List UInt8), Op.bytesLess x y = decide (x < y)
  | [], [] => by simp [Op.bytesLess]
  | _ :: _, [] => by simp [Op.bytesLess]
  | [], _ :: _ => by simp [Op.bytesLess]
  | a :: x, b :: y => by
    rw [Op.bytesLess, lt_iff x y]
    simp only [List.cons_lt_cons_iff]
    by_cases h1 : a < b <;> by_cases h2 : a = b <;> by_cases h3 : x < y <;> simp [h1, h2, h3]
theorem lt_irrefl (a : List UInt8) : Op.bytesLess a a = false := by rw [lt_iff]; simp [List.lt_irrefl]
theorem lt_trans {a b c : List UInt8} (h : Op.bytesLess a b = true) (k : Op.bytesLess b c = true) : Op.bytesLess a c = true := by
  rw [lt_iff] at *; simp only [decide_eq_true_eq] at *; exact List.lt_trans h k
theorem lt_asymm {a b : List UInt8} (h : Op.bytesLess a b = true) : Op.bytesLess b a = false := by
  cases k : Op.bytesLess b a with
  | false => rfl
  | true => have := lt_trans h k; rw [lt_irrefl] at this; cases this
theorem lt_tri (a b : List UInt8) : Op.bytesLess a b = true ∨ a = b ∨ Op.bytesLess b a = true := by
  induction a generalizing b with
  | nil => cases b with
    | nil => exact .inr (.inl rfl)
    | cons => exact .inl rfl
  | cons x a ih => cases b with
    | nil => exact .inr (.inr rfl)
    | cons y b =>
      simp only [Op.bytesLess, Bool.or_eq_true, Bool.and_eq_true, decide_eq_true_eq, beq_iff_eq]
      rcases Nat.lt_trichotomy x.toNat y.toNat with h | h | h
      · exact .inl (.inl (UInt8.lt_iff_toNat_lt.2 h))
      · have he := UInt8.toNat_inj.1 h
        subst he
        rcases ih b with h | h | h
        · exact .inl (.inr ⟨rfl, h⟩)
        · exact .inr (.inl (by rw [h]))
        · exact .inr (.inr (.inr ⟨rfl, h⟩))
      · exact .inr (.inr (.inl (UInt8.lt_iff_toNat_lt.2 h)))
theorem lt_ne {a b : List UInt8} (h : Op.bytesLess a b = true) : (a == b) = false := by
  rw [beq_eq_false_iff_ne]; rintro rfl; rw [lt_irrefl] at h; cases h
theorem lt_of_not {a b : List UInt8} (h : Op.bytesLess a b = false) (hn : (a == b) = false) : Op.bytesLess b a = true := by
  rcases lt_tri a b with k | k | k
  · rw [k] at h; cases h
  · subst k; simp at hn
  · exact k
theorem lt_prefix (a : List UInt8) (c : UInt8) (t : List UInt8) : Op.bytesLess a (a ++ c :: t) = true := by
  induction a with
  | nil => rfl
  | cons x a ih => simp [Op.bytesLess, ih]
theorem upL_lt {l : List UInt8} (h : upL l ≠ []) : Op.bytesLess (upL l) l = true := by
  rcases split_last 47 l with h1 | ⟨a, c, hc, rfl⟩
  · exact absurd (upL_none h1) h
  · rw [upL_at hc]; exact lt_prefix a 47 c
theorem upL_len (l : List UInt8) : (upL l).length ≤ l.length := by
  rcases split_last 47 l with h1 | ⟨a, c, hc, rfl⟩
  · rw [upL_none h1]; simp
  · rw [upL_at hc]; simp

/-! ### entries -/
def seen (c : UInt8) : Bool := decide (32 ≤ c.toNat ∧ c.toNat ≤ 126)
def fileByte (c : UInt8) : Bool := seen c || c == 10
def fileTextOk (l : List UInt8) : Bool := decide (l.length ≤ 80) && l.all fileByte
def entryOk (e : En) : Bool := pathOk e.path && inI e.mode 0 7 &&
  (if e.kind = 1 then e.text.isEmpty else if e.kind = 2 then fileTextOk e.text else if e.kind = 3 then decide (e.mode = 0) && pathOk e.text else false)
theorem entryOk_path {e : En} (h : entryOk e = true) : pathOk e.path = true := by
  unfold entryOk at h; simp only [Bool.and_eq_true] at h; exact h.1.1

/-- where a path is, or would be -/
def atGo : List En → List UInt8 → Nat
  | [], _ => 0
  | e :: r, p => if Op.bytesLess e.path p then atGo r p + 1 else 0
def there (es : List En) (p : List UInt8) : Bool := match es[atGo es p]? with
  | some e => e.path == p
  | none => false
def dirAt (es : List En) (p : List UInt8) : Bool := match es[atGo es p]? with
  | some e => e.path == p && e.kind == 1
  | none => false
def placeOk (es : List En) (p : List UInt8) : Bool := p.isEmpty || dirAt es p

theorem atGo_le : ∀ (es : List En) (p : List UInt8), atGo es p ≤ es.length
  | [], _ => Nat.le_refl _
  | e :: r, p => by
    unfold atGo
    split
    · have := atGo_le r p; simp; omega
    · simp
theorem atGo_before : ∀ {es : List En} {p : List UInt8} (i : Nat) (h : i < es.length), i < atGo es p → Op.bytesLess es[i].path p = true
  | [], _, i, h, _ => by simp at h
  | e :: r, p, i, h, hi => by
    unfold atGo at hi
    split at hi
    · rename_i he
      cases i with
      | zero => exact he
      | succ j => simpa using atGo_before j (by simpa using h) (by omega)
    · omega
theorem atGo_at : ∀ {es : List En} {p : List UInt8} (h : atGo es p < es.length), Op.bytesLess es[atGo es p].path p = false
  | [], _, h => by simp at h
  | e :: r, p, h => by
    by_cases he : Op.bytesLess e.path p = true
    · have hu : atGo (e :: r) p = atGo r p + 1 := by simp [atGo, he]
      have := atGo_at (es := r) (p := p) (by rw [hu] at h; simpa using h)
      simpa [hu] using this
    · have hu : atGo (e :: r) p = 0 := by simp [atGo, he]
      simp only [hu]
      simpa using he
/-- it is known by its two sides -/
theorem atGo_is : ∀ {es : List En} {p : List UInt8} {k : Nat} (hk : k ≤ es.length) (hb : ∀ i (h : i < es.length), i < k → Op.bytesLess es[i].path p = true) (ha : ∀ h : k < es.length, Op.bytesLess es[k].path p = false), atGo es p = k := by
  intro es p k hk hb ha
  rcases Nat.lt_trichotomy (atGo es p) k with h | h | h
  · have h1 := atGo_at (es := es) (p := p) (by omega)
    rw [hb _ (by omega) h] at h1
    cases h1
  · exact h
  · have hl := atGo_le es p
    have h1 := atGo_before k (by omega) h
    rw [ha (by omega)] at h1
    cases h1

def Sorted (es : List En) : Prop := ∀ i (h : i + 1 < es.length), Op.bytesLess es[i].path es[i + 1].path = true
theorem Sorted.lt {es : List En} (hs : Sorted es) : ∀ (j i : Nat) (hj : j < es.length) (hi : i < j), Op.bytesLess (es[i]'(by omega)).path es[j].path = true
  | 0, i, hj, hi => by omega
  | j + 1, i, hj, hi => by
    rcases Nat.lt_or_ge i j with h | h
    · exact lt_trans (hs.lt j i (by omega) h) (hs j hj)
    · obtain rfl : i = j := by omega
      exact hs i hj
theorem Sorted.take {es : List En} (hs : Sorted es) (k : Nat) : Sorted (es.take k) := by
  intro i h
  simp only [List.length_take] at h
  simpa using hs i (by omega)
/-- what the binary search needs -/
theorem Sorted.mono {es : List En} (hs : Sorted es) {p : List UInt8} {i j : Nat} (hj : j < es.length) (hij : i ≤ j) (h : Op.bytesLess es[j].path p = true) : Op.bytesLess (es[i]'(by omega)).path p = true := by
  rcases Nat.lt_or_ge i j with h1 | h1
  · exact lt_trans (hs.lt j i hj h1) h
  · obtain rfl : i = j := by omega
    exact h

theorem dirAt_take {es : List En} {q : List UInt8} {i : Nat} (hi : i < es.length) (h : Op.bytesLess q es[i].path = true) : dirAt (es.take i) q = dirAt es q := by
  have hk : atGo es q ≤ i := by
    rcases Nat.lt_or_ge i (atGo es q) with h1 | h1
    · have := atGo_before i hi h1
      rw [lt_asymm h] at this
      cases this
    · exact h1
  have ht : atGo (es.take i) q = atGo es q := by
    refine atGo_is (by simp; omega) (fun j hj hjk => ?_) (fun hj => ?_)
    · simpa using atGo_before (es := es) (p := q) j (by omega) hjk
    · simpa using atGo_at (es := es) (p := q) (by omega)
  unfold dirAt
  rw [ht]
  rcases Nat.lt_or_ge (atGo es q) i with h1 | h1
  · rw [List.getElem?_take_of_lt h1]
  · have h2 : atGo es q = i := by omega
    rw [h2]
    rw [List.getElem?_eq_none (by simp; omega), List.getElem?_eq_getElem hi]
    have : (es[i].path == q) = false := by rw [beq_eq_false_iff_ne]; intro e; rw [e, lt_irrefl] at h; cases h
    simp [this]

/-- what a tree is -/
structure TreeIs (es : List En) : Prop where
  len : es.length ≤ 16
  ok : ∀ i (h : i < es.length), entryOk es[i] = true
  sorted : Sorted es
  place : ∀ i (h : i < es.length), placeOk es (upL es[i].path) = true
open Classical in
noncomputable def treeOk (es : List En) : Bool := decide (TreeIs es)
theorem treeOk_yes {es : List En} (h : TreeIs es) : treeOk es = true := by unfold treeOk; simp only [h, decide_true]
theorem treeOk_no {es : List En} (h : ¬ TreeIs es) : treeOk es = false := by unfold treeOk; simp only [h, decide_false]
theorem treeOk_is {es : List En} (h : treeOk es = true) : TreeIs es := by
  by_cases k : TreeIs es
  · exact k
  · rw [treeOk_no k] at h; cases h
theorem place_take {es : List En} {i : Nat} (hi : i < es.length) : placeOk (es.take i) (upL es[i].path) = placeOk es (upL es[i].path) := by
  unfold placeOk
  by_cases h : upL es[i].path = []
  · simp [h]
  · rw [dirAt_take hi (upL_lt h)]

/-- the entry at a path -/
def getAt (es : List En) (p : List UInt8) : Option En := if there es p then es[atGo es p]? else none
theorem there_iff {es : List En} {p : List UInt8} : there es p = true ↔ ∃ h : atGo es p < es.length, es[atGo es p].path = p := by
  unfold there
  rcases Nat.lt_or_ge (atGo es p) es.length with h | h
  · rw [List.getElem?_eq_getElem h]; simp [h]
  · rw [List.getElem?_eq_none h]; simp; omega
theorem getAt_yes {es : List En} {p : List UInt8} (h : there es p = true) : ∃ hk : atGo es p < es.length, getAt es p = some es[atGo es p] := by
  obtain ⟨hk, _⟩ := there_iff.1 h
  exact ⟨hk, by unfold getAt; rw [if_pos h, List.getElem?_eq_getElem hk]⟩
theorem getAt_no {es : List En} {p : List UInt8} (h : there es p = false) : getAt es p = none := by unfold getAt; rw [h]; rfl
end Go.Proofs.YtiknkjhdieepbaaDoor

/-
  Entries in memory: a box of one, a row of many.
-/
namespace Go.Proofs.YtiknkjhdieepbaaDoor
open Go.RowKit
set_option linter.unusedVariables false

theorem cell_same {w w' : World} {b : Nat} (h : w'.heap[b]? = w.heap[b]?) (i : Nat) : w'.cell? ⟨b, i, none⟩ = w.cell? ⟨b, i, none⟩ := by simp only [World.cell?, h]
theorem row_cell (w : World) (b : Nat) (cs : Array Value) (t : TypeId) (n : Nat) (i : Nat) (h : w.heap[b]? = some (.cells cs t (0, n))) : w.cell? ⟨b, i, none⟩ = cs[i]? := by simp [World.cell?, h]
/-- a box of four cells -/
def Box4 (W : World) (B : Nat) (t : TypeId) (a b c d : Value) : Prop := W.heap[B]? = some (.cells #[a, b, c, d] t (0, 0))
section
variable {W W' : World} {B : Nat} {t : TypeId} {a b c d : Value}
theorem Box4.new (w : World) (t : TypeId) (a b c d : Value) : Box4 (w.alloc (.cells #[a, b, c, d] t)) w.heap.size t a b c d := World.alloc_heap_new w _
theorem Box4.cell0 (h : Box4 W B t a b c d) : W.cell? ⟨B, 0, none⟩ = some a := by rw [row_cell _ _ _ _ _ _ h]; rfl
theorem Box4.cell1 (h : Box4 W B t a b c d) : W.cell? ⟨B, 1, none⟩ = some b := by rw [row_cell _ _ _ _ _ _ h]; rfl
theorem Box4.cell2 (h : Box4 W B t a b c d) : W.cell? ⟨B, 2, none⟩ = some c := by rw [row_cell _ _ _ _ _ _ h]; rfl
theorem Box4.cell3 (h : Box4 W B t a b c d) : W.cell? ⟨B, 3, none⟩ = some d := by rw [row_cell _ _ _ _ _ _ h]; rfl
theorem Box4.frozen (h : Box4 W B t a b c d) (j : Nat) : W.frozen? ⟨B, j, none⟩ = false := by
  unfold Box4 at h
  simp [World.frozen?, h]
theorem Box4.lt (h : Box4 W B t a b c d) : B < W.heap.size := (Array.getElem?_eq_some_iff.1 h).1
theorem Box4.kept {row : Option Nat} (h : Box4 W B t a b c d) (hg : W.grownBy W' row) (hne : some B ≠ row) : Box4 W' B t a b c d := (hg.block B h.lt hne).trans h
theorem Box4.drew (h : Box4 W B t a b c d) : Box4 W.drew B t a b c d := h
theorem Box4.below {n : Nat} (h : Box4 W B t a b c d) (hB : Below n W W') (hlt : B < n) : Box4 W' B t a b c d := (hB.block B hlt).trans h
theorem Box4.apart (h : Box4 W B t a b c d) {g j : Nat} (hne : B ≠ g) (v : Value) : Box4 (W.setCell ⟨g, j, none⟩ v) B t a b c d := (Below.heap_setCell _ _ _ B hne).trans h
theorem Box4.set0 (h : Box4 W B t a b c d) (v : Value) : Box4 (W.setCell ⟨B, 0, none⟩ v) B t v b c d := by
  unfold Box4 at h ⊢
  simp [World.setCell, Array.getElem?_modify, h]
theorem Box4.set1 (h : Box4 W B t a b c d) (v : Value) : Box4 (W.setCell ⟨B, 1, none⟩ v) B t a v c d := by
  unfold Box4 at h ⊢
  simp [World.setCell, Array.getElem?_modify, h]
theorem Box4.set2 (h : Box4 W B t a b c d) (v : Value) : Box4 (W.setCell ⟨B, 2, none⟩ v) B t a b v d := by
  unfold Box4 at h ⊢
  simp [World.setCell, Array.getElem?_modify, h]
theorem Box4.set3 (h : Box4 W B t a b c d) (v : Value) : Box4 (W.setCell ⟨B, 3, none⟩ v) B t a b c v := by
  unfold Box4 at h ⊢
  simp [World.setCell, Array.getElem?_modify, h]
end

/-- an entry as a value -/
abbrev enV (e : En) : Value := .agg #[.string (mkB e.path), .int .i64 e.kind, .int .i64 e.mode, .string (mkB e.text)]
def EBox (W : World) (B : Nat) (e : En) : Prop := Box4 W B 30 (.string (mkB e.path)) (.int .i64 e.kind) (.int .i64 e.mode) (.string (mkB e.text))
/-- entries lie in block g, from its head -/
def Ents (w : World) (g : Nat) (es : List En) : Prop := g < w.heap.size ∧ ∀ i (h : i < es.length),
  w.cell? ⟨g, i * 4, none⟩ = some (.string (mkB es[i].path)) ∧ w.cell? ⟨g, i * 4 + 1, none⟩ = some (.int .i64 es[i].kind) ∧
  w.cell? ⟨g, i * 4 + 2, none⟩ = some (.int .i64 es[i].mode) ∧ w.cell? ⟨g, i * 4 + 3, none⟩ = some (.string (mkB es[i].text))
theorem Ents.below {w w' : World} {g n : Nat} {es : List En} (h : Ents w g es) (hB : Below n w w') (hg : g < n) : Ents w' g es :=
  ⟨by have := (hB.block g hg); have h1 := h.1; rw [Array.getElem?_eq_getElem h1] at this; exact (Array.getElem?_eq_some_iff.1 this).1,
   fun i hi => by
    have hb := hB.block g hg
    obtain ⟨h0, h1, h2, h3⟩ := h.2 i hi
    exact ⟨(cell_same hb _).trans h0, (cell_same hb _).trans h1, (cell_same hb _).trans h2, (cell_same hb _).trans h3⟩⟩
theorem Ents.alloc {w : World} {g : Nat} {es : List En} (h : Ents w g es) (o : Obj) : Ents (w.alloc o) g es :=
  h.below ((Below.refl _ _).alloc (Nat.le_refl _) o) h.1
theorem Ents.drew {w : World} {g : Nat} {es : List En} (h : Ents w g es) : Ents w.drew g es := h
theorem Ents.take {w : World} {g : Nat} {es : List En} (h : Ents w g es) (k : Nat) : Ents w g (es.take k) := by
  refine ⟨h.1, fun i hi => ?_⟩
  simp only [List.length_take] at hi
  simpa using h.2 i (by omega)
/-- the texts are not great -/
def Small (es : List En) : Prop := es.length ≤ 1048576 ∧ ∀ i (h : i < es.length), es[i].path.length ≤ 1048576 ∧ es[i].text.length ≤ 1048576
theorem Small.take {es : List En} (h : Small es) (k : Nat) : Small (es.take k) := by
  refine ⟨by have := h.1; simp; omega, fun i hi => ?_⟩
  simp only [List.length_take] at hi
  simpa using h.2 i (by omega)

/-! ### comparing -/
def cmpT (a b : List UInt8) : Int := if Op.bytesLess a b then -1 else if Op.bytesLess b a then 1 else 0
theorem cmpT_lt {a b : List UInt8} (h : Op.bytesLess a b = true) : cmpT a b = -1 := by unfold cmpT; rw [h]; rfl
theorem cmpT_eq (a : List UInt8) : cmpT a a = 0 := by unfold cmpT; rw [lt_irrefl]; rfl
theorem cmpT_gt {a b : List UInt8} (h : Op.bytesLess b a = true) : cmpT a b = 1 := by unfold cmpT; rw [lt_asymm h, h]; rfl

attribute [local go_sem] mkB_size mkB_extract mkB_get mkB_append mkB_append_raw raw_append_mkB mkB_toList
set_option maxHeartbeats 1000000 in
theorem isNaN_any (a : ByteArray) (w : World) : Calls Tryd.prog 62 #[.string a] w fun e w' => e = .returned (.bool false) ∧ w = w' := by
  go_enter Tryd.func62, Tryd.ntmps62
  go_wp2
  go_ret
  exact ⟨by simp, rfl⟩
set_option maxHeartbeats 1000000 in
theorem Compare_any (a b : List UInt8) (w : World) : Calls Tryd.prog 51 #[.string (mkB a), .string (mkB b)] w fun e w' => e = .returned (.int .i64 (cmpT a b)) ∧ w = w' := by
  rcases lt_tri a b with h | h | h
  · have hk := lt_asymm h
    have hc := Lib.hid (cmpT_lt h)
    go_enter Tryd.func51, Tryd.ntmps51
    go_wp2_with (go_at_call 62; refine (isNaN_any _ _).mono ?_; rintro e w' ⟨rfl, rfl⟩)
    go_ret
    exact ⟨by rw [hc.out]; rfl, rfl⟩
  · subst h
    have hk := lt_irrefl a
    have hc := Lib.hid (cmpT_eq a)
    go_enter Tryd.func51, Tryd.ntmps51
    go_wp2_with (go_at_call 62; refine (isNaN_any _ _).mono ?_; rintro e w' ⟨rfl, rfl⟩)
    go_ret
    exact ⟨by rw [hc.out]; rfl, rfl⟩
  · have hk := lt_asymm h
    have hne : (a == b) = false := by rw [beq_eq_false_iff_ne]; rintro rfl; rw [lt_irrefl] at h; cases h
    have hc := Lib.hid (cmpT_gt h)
    go_enter Tryd.func51, Tryd.ntmps51
    go_wp2_with (go_at_call 62; refine (isNaN_any _ _).mono ?_; rintro e w' ⟨rfl, rfl⟩)
    go_ret
    exact ⟨by rw [hc.out]; rfl, rfl⟩
set_option maxHeartbeats 1000000 in
theorem byPath_any (a b : List UInt8) (k1 m1 k2 m2 : Int) (s t : List UInt8) (w : World) :
    Calls Tryd.prog 31 #[.agg #[.string (mkB a), .int .i64 k1, .int .i64 m1, .string (mkB s)], .agg #[.string (mkB b), .int .i64 k2, .int .i64 m2, .string (mkB t)]] w fun e w' => e = .returned (.int .i64 (cmpT a b)) ∧ Below w.heap.size w w' := by
  go_enter Tryd.func31, Tryd.ntmps31
  go_wp2_with (go_at_call 51; refine (Compare_any _ _ _).mono ?_; rintro e w' ⟨rfl, rfl⟩)
  go_ret
  exact ⟨rfl, ((Below.refl _ _).alloc (Nat.le_refl _) _).alloc (by simp) _⟩
end Go.Proofs.YtiknkjhdieepbaaDoor

