/-
  The law FnGlob, walked.
-/
import Derived.Test.YtiibodelcfmnpaaDoorGlobL
import Derived.Test.YtiibodelcfmnpaaDoorGlobY
import Derived.Test.YtiibodelcfmnpaaDoorPathF
namespace Go.Proofs.YtiibodelcfmnpaaDoor
open Go.RowKit
set_option linter.unusedVariables false
set_option linter.unusedSimpArgs false
attribute [local go_sem] mkB_size mkB_extract mkB_get mkB_append mkB_append_raw raw_append_mkB mkB_toList

set_option maxRecDepth 1000000 in
set_option maxHeartbeats 32000000 in
theorem law_FnGlob (A0 : Option Addr) (n0 c0 : Nat) (w : World) (h0 : IsBytes w A0 n0 c0) :
    Calls Tryd.prog 7 #[.slice A0 n0 c0] w fun e w' => e = .returned (.bool true) ∧ Below w.heap.size w w' := by
  by_cases hn0 : n0 ≤ 1048576
  case neg =>
    go_enter Tryd.func7, Tryd.ntmps7
    go_wp2
    go_ret
    exact ⟨rfl, Below.refl _ _⟩
  go_enter Tryd.func7, Tryd.ntmps7
  go_wp2_with fail
  with_reducible refine (DrawGlobHas_any A0 n0 c0 w h0).mono ?_
  rintro e w1 ⟨g, s, hg, hs, rfl, hC⟩
  have hsl := drawn_short s hs
  have hgl := globs_short g hg
  have hsz : (mkB s).size ≤ 140737488355328 := by rw [mkB_size]; omega
  have hw := glob_with g hg s hs
  have hself := glob_self s hs
  have hbad := glob_bad g hg s hs
  have hgok := glob_ok g hg s hs
  obtain ⟨b, hb⟩ : ∃ b, globHas g s = b := ⟨_, rfl⟩
  obtain ⟨k, hk⟩ : ∃ k, globOk g = k := ⟨_, rfl⟩
  rw [hb] at hw hbad hgok
  rw [hk] at hgok
  replace hb := Lib.hid hb
  replace hk := Lib.hid hk
  replace hw := Lib.hid hw
  replace hself := Lib.hid hself
  replace hbad := Lib.hid hbad
  replace hgok := Lib.hid hgok
  have n1 : (b != b) = false := by simp
  have n2 : (b == b) = true := by simp
  have n3 : (k != k) = false := by simp
  have n4 : (k == k) = true := by simp
  go_wp2_with fail
  refine (GlobHas_any g s (by omega) (by omega) w1).mono ?_
  rintro e w2 ⟨rfl, hB⟩
  replace hC := hC.trans (hB.mono hC.size)
  clear hB
  rw [hb.out]
  go_wp2_with fail
  refine (specGlobHas_any g s (by omega) (by omega) w2).mono ?_
  rintro e w3 ⟨rfl, hB⟩
  replace hC := hC.trans (hB.mono hC.size)
  clear hB
  rw [hb.out]
  go_wp2_with fail
  refine (GlobOk_any g (by omega) w3).mono ?_
  rintro e w4 ⟨rfl, hB⟩
  replace hC := hC.trans (hB.mono hC.size)
  clear hB
  rw [hk.out]
  go_wp2_with fail
  refine (specGlobOk_any g (by omega) w4).mono ?_
  rintro e w5 ⟨rfl, hB⟩
  replace hC := hC.trans (hB.mono hC.size)
  clear hB
  rw [hk.out]
  rcases boolOf (pathOk s) with hok | hok
  · have hb0 := hbad.out hok.out
    subst hb0
    go_wp2_with fail
    refine (specPathOk_any s (by omega) w5).mono ?_
    rintro e w6 ⟨rfl, hB⟩
    replace hC := hC.trans (hB.mono hC.size)
    clear hB
    rw [hok.out]
    go_wp2_with fail
    refine (specGlobHas_any g s (by omega) (by omega) w6).mono ?_
    rintro e w7 ⟨rfl, hB⟩
    replace hC := hC.trans (hB.mono hC.size)
    clear hB
    rw [hb.out]
    go_wp2_with fail
    refine (GlobOk_any g (by omega) w7).mono ?_
    rintro e w8 ⟨rfl, hB⟩
    replace hC := hC.trans (hB.mono hC.size)
    clear hB
    rw [hk.out]
    go_wp2_with fail
    refine (specGlobOk_any g (by omega) w8).mono ?_
    rintro e w9 ⟨rfl, hB⟩
    replace hC := hC.trans (hB.mono hC.size)
    clear hB
    rw [hk.out]
    go_wp2
    go_ret
    exact ⟨rfl, hC⟩
  go_wp2_with fail
  refine (specPathOk_any s (by omega) w5).mono ?_
  rintro e w6 ⟨rfl, hB⟩
  replace hC := hC.trans (hB.mono hC.size)
  clear hB
  rw [hok.out]
  obtain ⟨e1, e2⟩ := hself.out hok.out
  replace e1 := Lib.hid e1
  replace e2 := Lib.hid e2
  have hs40 : ¬ (40 : Int) < (s.length : Int) := by omega
  clear n1 n2 n3 n4
  cases b with
  | false =>
    go_wp2_with fail
    refine (GlobHas_any (s) s (by first | omega | (simp; done) | (simp; omega)) (by omega) w6).mono ?_
    rintro e w7 ⟨rfl, hB⟩
    replace hC := hC.trans (hB.mono hC.size)
    clear hB
    rw [e1.out]
    go_wp2_with fail
    refine (GlobHas_any ([42, 42]) s (by first | omega | (simp; done) | (simp; omega)) (by omega) w7).mono ?_
    rintro e w8 ⟨rfl, hB⟩
    replace hC := hC.trans (hB.mono hC.size)
    clear hB
    rw [e2.out]
    go_wp2
    go_ret
    exact ⟨rfl, hC⟩
  | true =>
    have hk1 := hgok.out rfl
    subst hk1
    have hwo := hw.out rfl
    replace hwo := Lib.hid hwo
    rcases boolOf (globOk (42 :: 42 :: 47 :: g)) with hq | hq
    · skip
      go_wp2_with fail
      refine (GlobOk_any (42 :: 42 :: 47 :: g) (by simp; omega) w6).mono ?_
      rintro e w7 ⟨rfl, hB⟩
      replace hC := hC.trans (hB.mono hC.size)
      clear hB
      rw [hq.out]
      go_wp2_with fail
      refine (GlobHas_any (s) s (by first | omega | (simp; done) | (simp; omega)) (by omega) w7).mono ?_
      rintro e w8 ⟨rfl, hB⟩
      replace hC := hC.trans (hB.mono hC.size)
      clear hB
      rw [e1.out]
      go_wp2_with fail
      refine (GlobHas_any ([42, 42]) s (by first | omega | (simp; done) | (simp; omega)) (by omega) w8).mono ?_
      rintro e w9 ⟨rfl, hB⟩
      replace hC := hC.trans (hB.mono hC.size)
      clear hB
      rw [e2.out]
      go_wp2_with fail
      refine (GlobOk_any g (by omega) w9).mono ?_
      rintro e w10 ⟨rfl, hB⟩
      replace hC := hC.trans (hB.mono hC.size)
      clear hB
      rw [hk.out]
      go_wp2
      go_ret
      exact ⟨rfl, hC⟩
    · skip
      go_wp2_with fail
      refine (GlobOk_any (42 :: 42 :: 47 :: g) (by simp; omega) w6).mono ?_
      rintro e w7 ⟨rfl, hB⟩
      replace hC := hC.trans (hB.mono hC.size)
      clear hB
      rw [hq.out]
      have hq2 := Lib.hid (hwo.out hq.out)
      go_wp2_with fail
      with_reducible refine (GlobHas_any (42 :: 42 :: 47 :: g) s (by first | omega | (simp; done) | (simp; omega)) (by omega) w7).mono ?_
      rintro e w8 ⟨rfl, hB⟩
      replace hC := hC.trans (hB.mono hC.size)
      clear hB
      rw [hq2.out]
      go_wp2_with fail
      refine (GlobHas_any (s) s (by first | omega | (simp; done) | (simp; omega)) (by omega) w8).mono ?_
      rintro e w9 ⟨rfl, hB⟩
      replace hC := hC.trans (hB.mono hC.size)
      clear hB
      rw [e1.out]
      go_wp2_with fail
      refine (GlobHas_any ([42, 42]) s (by first | omega | (simp; done) | (simp; omega)) (by omega) w9).mono ?_
      rintro e w10 ⟨rfl, hB⟩
      replace hC := hC.trans (hB.mono hC.size)
      clear hB
      rw [e2.out]
      go_wp2_with fail
      refine (GlobOk_any g (by omega) w10).mono ?_
      rintro e w11 ⟨rfl, hB⟩
      replace hC := hC.trans (hB.mono hC.size)
      clear hB
      rw [hk.out]
      go_wp2
      go_ret
      exact ⟨rfl, hC⟩
end Go.Proofs.YtiibodelcfmnpaaDoor
