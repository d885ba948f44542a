/-
  The walks of the reference's l2Drop and TreeDrop.
-/
import Derived.Test.YtjihpbioofikcaaDoorDropT
namespace Go.Proofs.YtjihpbioofikcaaDoor
open Go.RowKit
set_option linter.unusedVariables false
set_option linter.unusedSimpArgs false
attribute [local go_sem] mkB_size mkB_extract mkB_get mkB_append mkB_append_raw raw_append_mkB mkB_toList

theorem cellsE_one (e : En) : ∀ u ∈ cellsE e, u.oneCell' = true := by
  intro u hu
  simp only [cellsE, List.mem_cons, List.not_mem_nil, or_false] at hu
  rcases hu with rfl | rfl | rfl | rfl <;> rfl
theorem flatE_snoc (es : List En) (e : En) : flatE (es ++ [e]) = flatE es ++ cellsE e := by rw [flatE_append]; simp [flatE]

set_option maxRecDepth 1000000 in
set_option maxHeartbeats 8000000 in
theorem l2Drop_any (es : List En) (p : List UInt8) (g c : Nat) (w : World) (hE : Ents w g es) (hsm : Small es) (hp : p.length ≤ 1048576) :
    Calls Tryd.prog 79 #[.slice (some ⟨g, 0, none⟩) es.length c, .string (mkB p)] w fun r w' => ∃ v, r = .returned v ∧ NewE (dropL es p) w v w' := by
  have hEh := Lib.hid hE
  have hsh := Lib.hid hsm
  have hg := hE.1
  have hlen := hsm.1
  clear hE hsm
  obtain ⟨i0, hi, hz0, hz1, hz2⟩ := info_parts infoE
  replace hi := Lib.hid hi
  replace hz0 := Lib.hid hz0
  replace hz1 := Lib.hid hz1
  replace hz2 := Lib.hid hz2
  have hown0 := Lib.hid (World.ownsRow_made (base := w.heap.size) (e := 31) (size := 4) w #[] 0 (Nat.le_refl _) (by simp [maxLen]) rfl)
  go_enter Tryd.func79, Tryd.ntmps79
  go_wp2
  go_loopw [5, 6] (fun out ii wr => ∃ (k g1 n1 c1 : Nat), k ≤ es.length ∧ ii = .int .i64 k ∧ out = .slice (some ⟨g1, 0, none⟩) n1 c1 ∧ Hid (n1 = ((es.take k).filter (stays p)).length) ∧ n1 ≤ k ∧ Hid (wr.ownsRow w.heap.size 31 4 (.slice (some ⟨g1, 0, none⟩) n1 c1) n1 (flatE ((es.take k).filter (stays p)))) ∧ Below w.heap.size w wr) (fun _ ii _ => es.length - (intOf ii).toNat)
  case atStart => exact ⟨0, w.heap.size, 0, 0, Nat.zero_le _, rfl, rfl, Lib.hid (by simp), Nat.le_refl _, Lib.hid (by simpa [flatE] using hown0.out), (Below.refl _ _).alloc (Nat.le_refl _) _⟩
  case round =>
    obtain ⟨k, g1, n1, c1, hk, rfl, rfl, hn1, hnk, hown, hB1⟩ := hrel
    by_cases hlt : k < es.length
    · obtain ⟨d0, d1, d2, d3⟩ := (hEh.out.below hB1 hg).2 k hlt
      have hkI : (k : Int) < (es.length : Int) := by omega
      have hpl := (hsh.out.2 k hlt).1
      rcases boolOf (below p es[k].path) with hb | hb
      · have hst : stays p es[k] = true := by unfold stays; rw [hb.out]; rfl
        have hnx : (es.take (k + 1)).filter (stays p) = (es.take k).filter (stays p) ++ [es[k]] := by rw [filter_take hlt, hst]; rfl
        replace hnx := Lib.hid hnx
        replace hst := Lib.hid hst
        have h63 : n1 + 1 ≤ maxLen := by simp only [maxLen]; omega
        have hby : (n1 + 1) * 48 ≤ 140737488355328 := by omega
        have hbs := hB1.size
        have hone := Lib.hid (cellsE_one es[k])
        go_wp2_with (first
          | (go_at_call 100; refine (l1Below_any p es[k].path (by omega) (by omega) _).mono ?_; rintro r w2 ⟨rfl, rfl⟩; rw [hb.out])
          | (at_builtin; go_loud (refine wpList_push rfl _ _ 27 rfl w.heap.size 31 i0 _ 4 48 Tryd.underlying27 hi.out hz0.out hz1.out hz2.out rfl (by decide) wr _ n1 (flatE ((es.take k).filter (stays p))) hown.out rfl (cellsE es[k]) rfl rfl hone.out h63 hby hbs ?_); intro g2 c2 w2 hown2 hgr2 hB2 _))
        have hown3 : w2.ownsRow w.heap.size 31 4 (.slice (some ⟨g2, 0, none⟩) (n1 + 1) c2) (n1 + 1) (flatE ((es.take (k + 1)).filter (stays p))) := by rw [hnx.out, flatE_snoc]; exact hown2
        replace hown3 := Lib.hid hown3
        clear hown2 hgr2
        go_wp2
        go_round
        case rel => exact ⟨k + 1, g2, n1 + 1, c2, by omega, by go_num, rfl, Lib.hid (by rw [hnx.out, List.length_append, ← hn1.out]; rfl), by omega, hown3, hB1.trans hB2⟩
        case measure => simp [intOf]; omega
      · have hst : stays p es[k] = false := by unfold stays; rw [hb.out]; rfl
        have hnx : (es.take (k + 1)).filter (stays p) = (es.take k).filter (stays p) := by rw [filter_take hlt, hst]; simp
        replace hnx := Lib.hid hnx
        replace hst := Lib.hid hst
        go_wp2_with (go_at_call 100; refine (l1Below_any p es[k].path (by omega) (by omega) _).mono ?_; rintro r w2 ⟨rfl, rfl⟩; rw [hb.out])
        go_round
        case rel => exact ⟨k + 1, g1, n1, c1, by omega, by go_num, rfl, Lib.hid (by rw [hnx.out]; exact hn1.out), by omega, Lib.hid (by rw [hnx.out]; exact hown.out), hB1⟩
        case measure => simp [intOf]; omega
    · obtain rfl : k = es.length := by omega
      have hfl : (es.take es.length).filter (stays p) = dropL es p := by rw [List.take_length]; rfl
      have hnl : n1 = (dropL es p).length := by rw [hn1.out, hfl]
      have hR := hown.out
      rw [hfl] at hR
      obtain ⟨gg, cc, hv, hgg, hnc, _⟩ := own_form hR (by intro e; cases e)
      cases hv
      have hRR := RowE.of_own hR
      subst hnl
      replace hR := Lib.hid hR
      replace hfl := Lib.hid hfl
      go_wp2
      go_ret
      exact ⟨_, rfl, g1, c1, rfl, hgg, hnc, hRR, hB1⟩
end Go.Proofs.YtjihpbioofikcaaDoor
