/-
  The walks of l11Cut and DrawNeedGet.
-/
import Derived.Test.YtdcfifhmldolhaaDoorDrawNF
import Derived.Test.YtdcfifhmldolhaaDoorNeedG
import Derived.Deep.RegionWith
namespace Go.Proofs.YtdcfifhmldolhaaDoor
open Go.RowKit
set_option linter.unusedVariables false
attribute [local go_sem] mkB_size mkB_extract mkB_get mkB_append mkB_append_raw raw_append_mkB mkB_toList

theorem Rd.below {w w' : World} {rb p n : Nat} (h : Rd w rb p) (hB : Below n w w') (hn : rb < n) : Rd w' rb p := by
  have hlt := h.lt
  obtain ⟨A, n', c, hb, h1, h2, h3⟩ := h
  refine ⟨A, n', c, (hB.block rb hn).trans hb, h1, h2, ?_⟩
  rcases h3 with h3 | ⟨b, off, rfl, hlt2, hc⟩
  · exact .inl h3
  · refine .inr ⟨b, off, rfl, hlt2, fun i hi => ?_⟩
    obtain ⟨x, hx, hc'⟩ := hc i hi
    exact ⟨x, hx, (cell_of_same (hB.block b (by omega)) _).trans hc'⟩
theorem needPut_len (nm vr : List UInt8) (kd : Int) : (needPut nm kd vr).length ≤ nm.length + vr.length + 2 := by
  have := sign_len kd
  unfold needPut needText
  split
  · simp only [List.length_append]; omega
  · simp
def cutsL : List (List UInt8) := [[32], [10], [48], [120], [47], [45]]
theorem cuts_short : ∀ s ∈ cutsL, s.length ≤ 1 := by decide
def CutPost (n rb p : Nat) (w : World) (e : Ending) (w' : World) : Prop :=
  ∃ t q, t.length ≤ n + 1 ∧ q ≤ p + 3 ∧ e = .returned (.string (mkB t)) ∧ Rd w' rb q ∧ w.grownBy w' (some rb)

set_option maxHeartbeats 4000000 in
theorem l11Cut_any (rb p : Nat) (s : List UInt8) (w : World) (h : Rd w rb p) (hp : p ≤ 1073741000) (hs : s.length ≤ 1073741000) :
    Calls Tryd.prog 25 #[.pointer (some ⟨rb, 0, none⟩), .string (mkB s)] w (CutPost s.length rb p w) := by
  go_enter Tryd.func25, Tryd.ntmps25
  go_wp2_with fail
  refine (pick_any rb p ((s.length : Int) + 1) w h (by omega) (by omega) (by omega)).mono ?_
  rintro e w1 ⟨k, hk, rfl, hR, hg⟩
  have hk' : k ≤ s.length := by omega
  have hkI : (k : Int) ≤ (s.length : Int) := by omega
  clear hk
  go_wp2_with fail
  refine (pick_any rb (p + 1) 5 w1 hR (by omega) (by omega) (by omega)).mono ?_
  rintro e w2 ⟨j, hj, rfl, hR2, hg2⟩
  have hg3 := grown_trans hg hg2
  clear hg hg2 hR
  by_cases hj0 : j = 0
  · subst hj0
    clear hj
    have hlt2 := hR2.lt
    have hof := of_at rb (p + 1 + 1) w2.heap.size 6 cutsL (w2.alloc (.cells #[.string (mkB [32]), .string (mkB [10]), .string (mkB [48]), .string (mkB [120]), .string (mkB [47]), .string (mkB [45])] 9)).drew ((hR2.more (.cells #[.string (mkB [32]), .string (mkB [10]), .string (mkB [48]), .string (mkB [120]), .string (mkB [47]), .string (mkB [45])] 9)).drewN 1) (by omega) (by decide) (by decide) (by omega) (World.alloc_heap_new w2 _)
    have hgA : w.grownBy (w2.alloc (.cells #[.string (mkB [32]), .string (mkB [10]), .string (mkB [48]), .string (mkB [120]), .string (mkB [47]), .string (mkB [45])] 9)).drew (some rb) := grown_drewN (grown_more hg3 _) 1
    go_wp2_with fail
    first
      | skip
        go_region_with (go_at_call 34; refine hof.mono ?_; rintro e w4 ⟨x, hx, rfl, hR4, hg4⟩; have hx1 := cuts_short x hx)
      | fail
    all_goals go_wp2
    all_goals
      go_ret
      exact ⟨_, p + 1 + 1 + 1, by simp; omega, by omega, rfl, hR4, grown_trans hgA hg4⟩
  · have hj1 : ((j : Int) == 0) = false := by simp; omega
    have hj0 := Lib.hid hj0
    by_cases hj2 : j = 1
    · subst hj2
      go_wp2
      go_ret
      exact ⟨_, p + 1 + 1, by simp; omega, by omega, rfl, hR2, hg3⟩
    · have hj3 : ((j : Int) == 1) = false := by simp; omega
      have hj2 := Lib.hid hj2
      go_wp2
      go_ret
      exact ⟨_, p + 1 + 1, by simp, by omega, rfl, hR2, hg3⟩

def DrawnG (w : World) (e : Ending) (w' : World) : Prop := ∃ t, t.length ≤ 100 ∧ e = .returned (.string (mkB t)) ∧ Below w.heap.size w w'
set_option maxHeartbeats 1000000 in
theorem DrawNeedGet_any (A : Option Addr) (n c : Nat) (w : World) (h : IsBytes w A n c) :
    Calls Tryd.prog 13 #[.slice A n c] w (DrawnG w) := by
  go_enter Tryd.func13, Tryd.ntmps13
  go_wp2_with fail
  refine (l1Open_any A n c w h).mono ?_
  rintro e w1 ⟨rb, hr, rfl, hR, hB⟩
  go_wp2_with fail
  refine (l11Need_any rb 0 w1 hR (by omega)).mono ?_
  rintro e w2 ⟨nm, vr, kd, q, hnm, hvr, hk1, hk2, hq, rfl, hR2, hg⟩
  have hB2 := below_rb hB hr hg
  go_wp2_with fail
  refine (specNeedPut_any _ _ _ (by omega) (by omega) _).mono ?_
  rintro e w3 ⟨rfl, hB3⟩
  have hR3 : Rd w3 rb q := hR2.below hB3 hR2.lt
  have hBB3 := hB2.trans (hB3.mono hB2.size)
  have hlen := needPut_len nm vr kd
  go_wp2_with fail
  refine (l11Cut_any rb q _ w3 hR3 (by omega) (by omega)).mono ?_
  rintro e w4 ⟨t, q4, ht, hq4, rfl, hR4, hg4⟩
  go_wp2
  go_ret
  exact ⟨t, by omega, rfl, below_rb hBB3 hr hg4⟩

end Go.Proofs.YtdcfifhmldolhaaDoor
