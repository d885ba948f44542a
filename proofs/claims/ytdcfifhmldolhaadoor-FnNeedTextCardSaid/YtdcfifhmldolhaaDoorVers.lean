/-
  The walks of l3Parts, of the orders, and of VersionOk and VersionOrder.
-/
import Derived.Test.YtdcfifhmldolhaaDoorReadV
import Derived.Test.YtdcfifhmldolhaaDoorPathOrd
namespace Go.Proofs.YtdcfifhmldolhaaDoor
open Go.RowKit
set_option linter.unusedVariables false
attribute [local go_sem] mkB_size mkB_extract mkB_get mkB_toList

theorem intV_cell {w : World} {base g n cap : Nat} {xs : List Nat} (h : w.ownsRow base 3 1 (.slice (some ⟨g, 0, none⟩) n cap) n (xs.map intV)) (k : Nat) (hk : k < xs.length) : w.cell? ⟨g, k, none⟩ = some (.int .i64 xs[k]) := by
  have hl := h.1
  simp at hl
  rw [h.cellAt k (by omega)]
  simp [intV, hk]
/-- what l1Num's answer tells -/
theorem numI_get (l : List UInt8) : (verNum l = none ∧ inI (numI l) 0 999 = false) ∨ ∃ n : Nat, verNum l = some n ∧ numI l = n ∧ inI (n : Int) 0 999 = true := by
  by_cases hn : isNum l = true
  · by_cases h6 : l.length ≤ 6
    · have e := numI_is hn h6 rfl
      by_cases h9 : valL l ≤ 999
      · exact .inr ⟨valL l, verNum_is hn h9, e, by unfold inI; simp; omega⟩
      · exact .inl ⟨verNum_big (by omega), by rw [e]; unfold inI; simp; omega⟩
    · exact .inl ⟨verNum_long (by omega), by rw [numI_long (by omega)]; rfl⟩
  · have hn' : isNum l = false := by simpa using hn
    exact .inl ⟨verNum_not hn', by rw [numI_not hn']; rfl⟩
theorem nums_take {xs : List (List UInt8)} {ns : List Nat} {k n : Nat} (hk : k < xs.length) (h : nums (xs.take k) = some ns) (hx : verNum xs[k] = some n) : nums (xs.take (k + 1)) = some (ns ++ [n]) := by
  rw [List.take_succ_eq_append_getElem hk]; exact nums_snoc h hx

theorem version_at {l : List UInt8} {xs : List (List UInt8)} {k : Nat} (h : cut 46 l = xs) (hk : k < xs.length) (hx : verNum xs[k] = none) : version l = none := by
  refine version_bad (pre := xs.take k) (x := xs[k]) ?_ hx
  rw [h, ← List.take_succ_eq_append_getElem hk]
  exact List.take_prefix _ _

set_option maxHeartbeats 2000000 in
theorem l3Parts_any (l : List UInt8) (hl : l.length ≤ 1099511627776) (w : World) :
    Calls Tryd.prog 37 #[.string (mkB l)] w fun e w' =>
      ∃ (ns : List Nat) (g cap : Nat) (ok : Bool), e = .returned (.tuple #[.slice (some ⟨g, 0, none⟩) ns.length cap, .bool ok]) ∧ w'.ownsRow w.heap.size 3 1 (.slice (some ⟨g, 0, none⟩) ns.length cap) ns.length (ns.map intV) ∧
        ((ok = false ∧ version l = none) ∨ (ok = true ∧ version l = some ns)) ∧ Below w.heap.size w w' := by
  obtain ⟨i0, hi, hz0, hz1, hz2⟩ := info_parts info_int
  go_enter Tryd.func37, Tryd.ntmps37
  go_wp2_with fail
  refine (l1Cut_any l 46 hl _).mono ?_
  rintro e w1 ⟨v, rfl, hown, hB⟩
  obtain ⟨g, cap, rfl⟩ := cut_form hown
  have hlen : (cut 46 l).length ≤ l.length + 1 := by
    have := cut_sum 46 l; omega
  obtain ⟨xs, hxs⟩ : ∃ xs, cut 46 l = xs := ⟨_, rfl⟩
  rw [hxs] at hown hlen ⊢
  have hxs' := Lib.hid hxs
  clear hxs
  go_wp2
  go_loopw [5, 6] (fun out i wr => ∃ (k g1 cap1 : Nat) (ns : List Nat), k ≤ xs.length ∧ i = .int .i64 k ∧ ns.length = k ∧ Hid (nums (xs.take k) = some ns) ∧ out = .slice (some ⟨g1, 0, none⟩) k cap1 ∧ wr.ownsRow w1.heap.size 3 1 (.slice (some ⟨g1, 0, none⟩) k cap1) k (ns.map intV) ∧ Below w1.heap.size w1 wr)
    (fun _ i _ => xs.length - (intOf i).toNat)
  case atStart =>
    exact ⟨0, w1.heap.size, 0, [], Nat.zero_le _, rfl, rfl, Lib.hid rfl, rfl, World.ownsRow_lit w1 #[] 0 (Nat.le_refl _) (by simp [maxLen]) rfl, (Below.refl _ _).alloc (Nat.le_refl _) _⟩
  case round =>
    obtain ⟨k, g1, cap1, ns, hk, rfl, hns, hnum, rfl, hrow, hB1⟩ := hrel
    by_cases hlt : k < xs.length
    · have hc0 := strs_cell hown k hlt
      have hg : g < w1.heap.size := (hown.lt g rfl).2
      have hc : wr.cell? ⟨g, k, none⟩ = some (.string (mkB xs[k])) := (hB1.cell (by simpa using hg)).trans hc0
      have hx : xs[k].length ≤ l.length := cut_mem_length (b := 46) (by rw [hxs'.out]; exact List.getElem_mem hlt)
      have hxl : xs[k].length ≤ 9223372036854775807 := by omega
      rcases numI_get xs[k] with ⟨hv, hin⟩ | ⟨n, hv, hnI, hin⟩
      · go_wp2_with (first
          | (go_at_call 46; refine (l1Num_any _ hxl _).mono ?_; rintro e w' ⟨rfl, rfl⟩)
          | (go_at_call 23; refine (l1In_any _ _ _ _).mono ?_; rintro e w' ⟨rfl, rfl⟩; rw [hin]))
        go_ret2
        exact ⟨ns, g1, cap1, false, by rw [hns]; rfl, by rw [hns]; exact row_lower hB.size hrow, .inl ⟨rfl, version_at hxs'.out hlt hv⟩, hB.trans (hB1.mono hB.size)⟩
      · go_wp2_with (first
          | (go_at_call 46; refine (l1Num_any _ hxl _).mono ?_; rintro e w' ⟨rfl, rfl⟩; rw [hnI])
          | (go_at_call 23; refine (l1In_any _ _ _ _).mono ?_; rintro e w' ⟨rfl, rfl⟩; rw [hin])
          | (at_builtin; go_loud (refine wpList_push rfl _ _ 55 rfl w1.heap.size 3 i0 (.int .i64 0) 1 8 Tryd.underlying55 hi hz0 hz1 hz2 rfl (by decide) wr _ _ _ hrow rfl [.int .i64 (n : Int)] rfl rfl (by simp [Value.oneCell']) (by simp only [maxLen]; omega) (by omega) hB1.size ?_; intro g2 cap2 w2 hown2 hg2 hb2 _)))
        go_roundw
        case rel =>
          refine ⟨k + 1, g2, cap2, ns ++ [n], by omega, by go_num, by simp [hns], Lib.hid (nums_take hlt hnum.out hv), rfl, ?_, hB1.trans hb2⟩
          have e1 : ns.map intV ++ [Value.int .i64 (n : Int)] = (ns ++ [n]).map intV := by simp [intV]
          rw [e1] at hown2
          exact hown2
        case measure => simp [intOf]; omega
    · have hkl : k = xs.length := by omega
      subst hkl
      have hnum' := hnum.out
      rw [List.take_length] at hnum'
      have hnum'' := Lib.hid hnum'
      clear hnum hnum'
      by_cases h4 : xs.length ≤ 4
      · go_wp2
        go_ret2
        exact ⟨ns, g1, cap1, true, by rw [hns]; simp; omega, by rw [hns]; exact row_lower hB.size hrow, .inr ⟨rfl, version_all (by rw [hxs'.out]; exact hnum''.out) (by rw [hxs'.out]; exact h4)⟩, hB.trans (hB1.mono hB.size)⟩
      · go_wp2
        go_ret2
        exact ⟨ns, g1, cap1, false, by rw [hns]; simp; omega, by rw [hns]; exact row_lower hB.size hrow, .inl ⟨rfl, by unfold version; rw [if_neg (by rw [hxs'.out]; exact h4)]⟩, hB.trans (hB1.mono hB.size)⟩

/-! ### the orders -/
def ReadsI (w : World) (v : Value) (xs : List Nat) : Prop := ∃ g cap, v = .slice (some ⟨g, 0, none⟩) xs.length cap ∧ ∀ k (hk : k < xs.length), w.cell? ⟨g, k, none⟩ = some (.int .i64 xs[k])

theorem cmpL_step {xs ys : List Nat} {k : Nat} (hx : k < xs.length) (hy : k < ys.length) : cmpL (xs.drop k) (ys.drop k) = if xs[k] < ys[k] then -1 else if ys[k] < xs[k] then 1 else cmpL (xs.drop (k + 1)) (ys.drop (k + 1)) := by
  rw [List.drop_eq_getElem_cons hx, List.drop_eq_getElem_cons hy]
  rfl
theorem cmpL_more {xs ys : List Nat} {k : Nat} (hx : k < xs.length) (hy : ys.length ≤ k) : cmpL (xs.drop k) (ys.drop k) = 1 := by
  rw [List.drop_eq_getElem_cons hx, List.drop_of_length_le hy]; rfl
theorem cmpL_less {xs ys : List Nat} {k : Nat} (hx : xs.length ≤ k) (hy : k < ys.length) : cmpL (xs.drop k) (ys.drop k) = -1 := by
  rw [List.drop_eq_getElem_cons hy, List.drop_of_length_le hx]; rfl
theorem cmpL_end {xs ys : List Nat} {k : Nat} (hx : xs.length ≤ k) (hy : ys.length ≤ k) : cmpL (xs.drop k) (ys.drop k) = 0 := by
  rw [List.drop_of_length_le hx, List.drop_of_length_le hy]; rfl

/-! ### VersionOk and VersionOrder -/
theorem reads_own {w : World} {base g cap : Nat} {xs : List Nat} (h : w.ownsRow base 3 1 (.slice (some ⟨g, 0, none⟩) xs.length cap) xs.length (xs.map intV)) : ReadsI w (.slice (some ⟨g, 0, none⟩) xs.length cap) xs := ⟨g, cap, rfl, fun k hk => intV_cell h k hk⟩
theorem ReadsI.below {w w' : World} {v : Value} {xs : List Nat} (h : ReadsI w v xs) (hB : Below w.heap.size w w') : ReadsI w' v xs := by
  obtain ⟨g, cap, rfl, hc⟩ := h
  refine ⟨g, cap, rfl, fun k hk => ?_⟩
  have h := hc k hk
  have hlt : g < w.heap.size := by
    cases hg : w.heap[g]? with
    | none => simp [World.cell?, hg] at h
    | some o => exact (Array.getElem?_eq_some_iff.1 hg).1
  exact (hB.cell (by simpa using hlt)).trans h

theorem specVersionOk_any (l : List UInt8) (hl : l.length ≤ 1099511627776) (w : World) :
    Calls Tryd.prog 24 #[.string (mkB l)] w fun e w' => e = .returned (.bool (versionOk l)) ∧ Below w.heap.size w w' := by
  go_enter Tryd.func24, Tryd.ntmps24
  go_wp2_with (go_at_call 37; refine (l3Parts_any _ hl _).mono ?_; rintro e w1 ⟨ns, g, cap, ok, rfl, _, hok, hB⟩)
  go_ret
  refine ⟨ret_bool ?_, hB⟩
  unfold versionOk
  rcases hok with ⟨rfl, h⟩ | ⟨rfl, h⟩ <;> rw [h] <;> rfl
theorem VersionOk_any (l : List UInt8) (hl : l.length ≤ 140737488355328) (w : World) :
    Calls Tryd.prog 21 #[.string (mkB l)] w fun e w' => e = .returned (.bool (versionOk l)) ∧ Below w.heap.size w w' := by
  go_enter Tryd.func21, Tryd.ntmps21
  go_wp2_with fail
  refine (callsIn_wide.1 (readVersion_in l hl _)).mono ?_
  rintro e w1 ⟨⟨hn, rfl⟩ | ⟨ns, g, cap, hn, rfl, _⟩, hB⟩
  all_goals go_wp2
  all_goals go_ret
  all_goals refine ⟨ret_bool ?_, hB⟩
  all_goals (unfold versionOk; rw [hn]; rfl)

end Go.Proofs.YtdcfifhmldolhaaDoor
