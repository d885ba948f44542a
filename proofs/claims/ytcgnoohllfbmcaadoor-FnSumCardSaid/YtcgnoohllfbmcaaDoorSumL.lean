/-
  The walk of the reference's l2Block.
-/
import Derived.Test.YtcgnoohllfbmcaaDoorSumK
namespace Go.Proofs.YtcgnoohllfbmcaaDoor
open Go.RowKit
set_option linter.unusedVariables false
set_option linter.unusedSimpArgs false
attribute [local go_sem] w_add w_xor w_and w_shr3 w_shr10 w_not

set_option maxRecDepth 1000000 in
set_option maxHeartbeats 16000000 in
theorem l2Block_any (s : S8) (b : List UInt8) (gh ch lo gb off cb : Nat) (w : World) (hh : RowV w 27 lo gh ch (s.list.map wV)) (hb : b.length = 64) (hB : BAt w gb off b) :
    Calls Tryd.prog 18 #[.slice (some ⟨gh, 0, none⟩) 8 ch, .slice (some ⟨gb, off, none⟩) 64 cb] w (ResV 27 ((blk s b).list.map wV) w) := by
  obtain ⟨i0, hi0, hz0, hz1, hz2⟩ := info_parts infoWord
  replace hh := Lib.hid hh
  replace hB := Lib.hid hB
  go_enter Tryd.func18, Tryd.ntmps18
  go_wp2_with fail
  with_reducible refine (l2Words_any b gb off cb w hb hB.out).mono ?_
  rintro r w1 ⟨gw, cw, rfl, hW, hC1⟩
  have hkw : ((wsAt b 64).map wV).length = 64 := by rw [List.length_map, wsAt_len]
  rw [hkw]
  replace hW := Lib.hid hW
  replace hh := Lib.hid (hh.out.below hC1 hh.out.lt)
  replace hkw := Lib.hid hkw
  go_wp2_with fail
  with_reducible refine (l2Consts_any w1).mono ?_
  rintro r w2 ⟨gk, ck, rfl, hKr, hC2⟩
  have hkk : (sumKs.map wV).length = 64 := rfl
  rw [hkk]
  clear hkk
  replace hKr := Lib.hid hKr
  replace hW := Lib.hid (hW.out.below hC2 hW.out.lt)
  replace hh := Lib.hid (hh.out.below hC2 hh.out.lt)
  have hC : Below w.heap.size w w2 := hC1.trans (hC2.mono hC1.size)
  clear hC1 hC2 hB
  obtain ⟨B, hBe⟩ : ∃ x, w2.heap.size = x := ⟨_, rfl⟩
  have hgw : gw < B := by rw [← hBe]; exact hW.out.lt
  have hgk : gk < B := by rw [← hBe]; exact hKr.out.lt
  have hgh : gh < B := by rw [← hBe]; exact hh.out.lt
  have hwB : w.heap.size ≤ B := by rw [← hBe]; exact hC.size
  go_wp2_with (at_builtin; refine wp_here ?_)
  refine Lib.hid ?_
  have hrow0 := RowV.lit w2 27 [] (by decide) (A := #[]) rfl
  refine wpList_app rfl _ _ 34 rfl _ 27 i0 (.int .u32 0) 4 Tryd.underlying34 hi0 hz0 hz1 hz2 rfl w2.heap.size w2.heap.size 0 [] hrow0 0 rfl (by rw [hBe]; rfl) ⟨gh, 0, none⟩ 8 ch (s.list.map wV) rfl rfl ?hnews ?h1 (show (8 : Nat) ≤ maxLen by decide) (show (8 : Nat) * 4 ≤ 140737488355328 by decide) (by simp) ?hk
  case hnews =>
    intro j u hj
    obtain ⟨hj1, hj2⟩ := List.getElem?_eq_some_iff.1 hj
    rw [add_of_head, alloc_cell hh.out.lt _ _ rfl, hh.out.cell hj1, hj2]
  case h1 => intro u hu; obtain ⟨x, _, rfl⟩ := List.mem_map.1 hu; rfl
  intro v w3 ⟨gs, cs, hv, hrow, hgr, _, _⟩
  subst hv
  rw [List.nil_append] at hrow
  have hB3 : Below B w2 w3 := by rw [← hBe]; exact ((Below.refl _ _).alloc (Nat.le_refl _) _).grown hgr (by simp) (fun k hk => by cases hk; exact Nat.le_refl _)
  rw [hBe] at hrow
  replace hC := hC.trans (hB3.mono hwB)
  replace hW := Lib.hid (hW.out.below hB3 hgw)
  replace hKr := Lib.hid (hKr.out.below hB3 hgk)
  replace hh := Lib.hid (hh.out.below hB3 hgh)
  have hlow : B ≤ w3.heap.size := by have := hB3.size; omega
  clear hgr hrow0 hB3
  replace hBe := Lib.hid hBe
  replace hrow := Lib.hid hrow
  have hl8 : ([] : List Value).length + (s.list.map wV).length = 8 := rfl
  rw [hl8]
  clear hl8
  go_wp2
  go_loopw [8] (fun iv wr => ∃ k : Nat, k ≤ 64 ∧ iv = .int .i64 (k : Nat) ∧ Hid (RowV wr 27 B gs cs ((roundsAt s (wsAt b 64) k).list.map wV)) ∧ Hid (RowV wr 27 w.heap.size gw cw ((wsAt b 64).map wV)) ∧ Hid (RowV wr 27 w1.heap.size gk ck (sumKs.map wV)) ∧ Hid (RowV wr 27 lo gh ch (s.list.map wV)) ∧ B ≤ wr.heap.size ∧ Below w.heap.size w wr) (fun iv _ => 64 - (intOf iv).toNat)
  case atStart => exact ⟨0, by omega, rfl, hrow, hW, hKr, hh, hlow, hC⟩
  case round =>
    clear hrow hW hKr hh hlow hC
    obtain ⟨k, hk, hiv, hrow, hW, hKr, hh, hlow, hC⟩ := hrel
    obtain ⟨t, ht⟩ : ∃ t, roundsAt s (wsAt b 64) k = t := ⟨_, rfl⟩
    rw [ht] at hrow
    by_cases hlt : k < 64
    · subst hiv
      have hkI : (k : Int) < 64 := by omega
      have hnx : roundsAt s (wsAt b 64) (k + 1) = round t (sumKs.getD k 0) ((wsAt b 64).getD k 0) := by rw [← ht]; rfl
      clear ht
      replace hrow := Lib.hid hrow.out
      have hkc := hKr.out.word (j := k) hlt
      have hwc := hW.out.word (j := k) (by rw [wsAt_len]; exact hlt)
      obtain ⟨kk, hkk⟩ : ∃ x, sumKs.getD k 0 = x := ⟨_, rfl⟩
      obtain ⟨ww, hww⟩ : ∃ x, (wsAt b 64).getD k 0 = x := ⟨_, rfl⟩
      rw [hkk] at hkc hnx
      rw [hww] at hwc hnx
      clear hkk hww
      replace hnx := Lib.hid hnx
      have c0 := hrow.out.word (j := 0) (show (_ : Nat) < 8 by decide)
      have c1 := hrow.out.word (j := 1) (show (_ : Nat) < 8 by decide)
      have c2 := hrow.out.word (j := 2) (show (_ : Nat) < 8 by decide)
      have c3 := hrow.out.word (j := 3) (show (_ : Nat) < 8 by decide)
      have c4 := hrow.out.word (j := 4) (show (_ : Nat) < 8 by decide)
      have c5 := hrow.out.word (j := 5) (show (_ : Nat) < 8 by decide)
      have c6 := hrow.out.word (j := 6) (show (_ : Nat) < 8 by decide)
      have c7 := hrow.out.word (j := 7) (show (_ : Nat) < 8 by decide)
      simp only [S8.list, List.getD_cons_zero, List.getD_cons_succ] at c0 c1 c2 c3 c4 c5 c6 c7
      have ht6 : Hid (∀ w : World, Calls Tryd.prog 24 #[.int .u32 (t.e.toNat : Int), .int .i64 6] w fun e w' => e = .returned (.int .u32 ((rotr t.e 6).toNat : Int)) ∧ ∃ m, w' = w.drewN m) := Lib.hid (fun w => spec_turn t.e 6 (by omega) (by omega) w)
      have ht11 : Hid (∀ w : World, Calls Tryd.prog 24 #[.int .u32 (t.e.toNat : Int), .int .i64 11] w fun e w' => e = .returned (.int .u32 ((rotr t.e 11).toNat : Int)) ∧ ∃ m, w' = w.drewN m) := Lib.hid (fun w => spec_turn t.e 11 (by omega) (by omega) w)
      have ht25 : Hid (∀ w : World, Calls Tryd.prog 24 #[.int .u32 (t.e.toNat : Int), .int .i64 25] w fun e w' => e = .returned (.int .u32 ((rotr t.e 25).toNat : Int)) ∧ ∃ m, w' = w.drewN m) := Lib.hid (fun w => spec_turn t.e 25 (by omega) (by omega) w)
      have ht2 : Hid (∀ w : World, Calls Tryd.prog 24 #[.int .u32 (t.a.toNat : Int), .int .i64 2] w fun e w' => e = .returned (.int .u32 ((rotr t.a 2).toNat : Int)) ∧ ∃ m, w' = w.drewN m) := Lib.hid (fun w => spec_turn t.a 2 (by omega) (by omega) w)
      have ht13 : Hid (∀ w : World, Calls Tryd.prog 24 #[.int .u32 (t.a.toNat : Int), .int .i64 13] w fun e w' => e = .returned (.int .u32 ((rotr t.a 13).toNat : Int)) ∧ ∃ m, w' = w.drewN m) := Lib.hid (fun w => spec_turn t.a 13 (by omega) (by omega) w)
      have ht22 : Hid (∀ w : World, Calls Tryd.prog 24 #[.int .u32 (t.a.toNat : Int), .int .i64 22] w fun e w' => e = .returned (.int .u32 ((rotr t.a 22).toNat : Int)) ∧ ∃ m, w' = w.drewN m) := Lib.hid (fun w => spec_turn t.a 22 (by omega) (by omega) w)
      have qa1 := trivial
      clear qa1
      go_wp2_with fail
      have qb1 := trivial
      clear qb1
      go_quiet ((first | (go_at_call 24; with_reducible exact Calls.quiet_of (ht6.out _)) | (go_at_call 24; with_reducible exact Calls.quiet_of (ht11.out _)) | (go_at_call 24; with_reducible exact Calls.quiet_of (ht25.out _))))
      revert nq
      intro n1
      replace hrow : RowV (wr.drewN n1) 27 B gs cs (t.list.map wV) := hrow.out
      replace hW : RowV (wr.drewN n1) 27 w.heap.size gw cw ((wsAt b 64).map wV) := hW.out
      replace hKr : RowV (wr.drewN n1) 27 w1.heap.size gk ck (sumKs.map wV) := hKr.out
      replace hh : RowV (wr.drewN n1) 27 lo gh ch (s.list.map wV) := hh.out
      replace hlow : B ≤ (wr.drewN n1).heap.size := hlow
      replace hC := Below.drewW hC n1
      replace c0 : (wr.drewN n1).cell? ⟨gs, 0, none⟩ = some (.int .u32 (t.a.toNat : Int)) := c0
      replace c1 : (wr.drewN n1).cell? ⟨gs, 1, none⟩ = some (.int .u32 (t.b.toNat : Int)) := c1
      replace c2 : (wr.drewN n1).cell? ⟨gs, 2, none⟩ = some (.int .u32 (t.c.toNat : Int)) := c2
      replace c3 : (wr.drewN n1).cell? ⟨gs, 3, none⟩ = some (.int .u32 (t.d.toNat : Int)) := c3
      replace c4 : (wr.drewN n1).cell? ⟨gs, 4, none⟩ = some (.int .u32 (t.e.toNat : Int)) := c4
      replace c5 : (wr.drewN n1).cell? ⟨gs, 5, none⟩ = some (.int .u32 (t.f.toNat : Int)) := c5
      replace c6 : (wr.drewN n1).cell? ⟨gs, 6, none⟩ = some (.int .u32 (t.g.toNat : Int)) := c6
      replace c7 : (wr.drewN n1).cell? ⟨gs, 7, none⟩ = some (.int .u32 (t.h.toNat : Int)) := c7
      replace hkc : (wr.drewN n1).cell? ⟨gk, k, none⟩ = some (.int .u32 (kk.toNat : Int)) := hkc
      replace hwc : (wr.drewN n1).cell? ⟨gw, k, none⟩ = some (.int .u32 (ww.toNat : Int)) := hwc
      obtain ⟨v1, hwx⟩ : ∃ X, wr.drewN n1 = X := ⟨_, rfl⟩
      rw [hwx] at hrow hW hKr hh hlow hC hkc hwc c0 c1 c2 c3 c4 c5 c6 c7 ⊢
      clear hwx
      replace hrow := Lib.hid hrow
      replace hW := Lib.hid hW
      replace hKr := Lib.hid hKr
      replace hh := Lib.hid hh
      have qa2 := trivial
      clear qa2
      go_wp2_with fail
      have qb2 := trivial
      clear qb2
      go_quiet (fail)
      revert nq
      intro n2
      simp only [if_neg (show ¬ IntKind.u32.signed = true by decide), w_not, w_and, w_xor]
      replace hrow : RowV (v1.drewN n2) 27 B gs cs (t.list.map wV) := hrow.out
      replace hW : RowV (v1.drewN n2) 27 w.heap.size gw cw ((wsAt b 64).map wV) := hW.out
      replace hKr : RowV (v1.drewN n2) 27 w1.heap.size gk ck (sumKs.map wV) := hKr.out
      replace hh : RowV (v1.drewN n2) 27 lo gh ch (s.list.map wV) := hh.out
      replace hlow : B ≤ (v1.drewN n2).heap.size := hlow
      replace hC := Below.drewW hC n2
      replace c0 : (v1.drewN n2).cell? ⟨gs, 0, none⟩ = some (.int .u32 (t.a.toNat : Int)) := c0
      replace c1 : (v1.drewN n2).cell? ⟨gs, 1, none⟩ = some (.int .u32 (t.b.toNat : Int)) := c1
      replace c2 : (v1.drewN n2).cell? ⟨gs, 2, none⟩ = some (.int .u32 (t.c.toNat : Int)) := c2
      replace c3 : (v1.drewN n2).cell? ⟨gs, 3, none⟩ = some (.int .u32 (t.d.toNat : Int)) := c3
      replace c4 : (v1.drewN n2).cell? ⟨gs, 4, none⟩ = some (.int .u32 (t.e.toNat : Int)) := c4
      replace c5 : (v1.drewN n2).cell? ⟨gs, 5, none⟩ = some (.int .u32 (t.f.toNat : Int)) := c5
      replace c6 : (v1.drewN n2).cell? ⟨gs, 6, none⟩ = some (.int .u32 (t.g.toNat : Int)) := c6
      replace c7 : (v1.drewN n2).cell? ⟨gs, 7, none⟩ = some (.int .u32 (t.h.toNat : Int)) := c7
      replace hkc : (v1.drewN n2).cell? ⟨gk, k, none⟩ = some (.int .u32 (kk.toNat : Int)) := hkc
      replace hwc : (v1.drewN n2).cell? ⟨gw, k, none⟩ = some (.int .u32 (ww.toNat : Int)) := hwc
      obtain ⟨v2, hwx⟩ : ∃ X, v1.drewN n2 = X := ⟨_, rfl⟩
      rw [hwx] at hrow hW hKr hh hlow hC hkc hwc c0 c1 c2 c3 c4 c5 c6 c7 ⊢
      clear hwx
      replace hrow := Lib.hid hrow
      replace hW := Lib.hid hW
      replace hKr := Lib.hid hKr
      replace hh := Lib.hid hh
      have qa3 := trivial
      clear qa3
      go_wp2_with fail
      have qb3 := trivial
      clear qb3
      go_quiet (fail)
      revert nq
      intro n3
      replace hrow : RowV (v2.drewN n3) 27 B gs cs (t.list.map wV) := hrow.out
      replace hW : RowV (v2.drewN n3) 27 w.heap.size gw cw ((wsAt b 64).map wV) := hW.out
      replace hKr : RowV (v2.drewN n3) 27 w1.heap.size gk ck (sumKs.map wV) := hKr.out
      replace hh : RowV (v2.drewN n3) 27 lo gh ch (s.list.map wV) := hh.out
      replace hlow : B ≤ (v2.drewN n3).heap.size := hlow
      replace hC := Below.drewW hC n3
      replace c0 : (v2.drewN n3).cell? ⟨gs, 0, none⟩ = some (.int .u32 (t.a.toNat : Int)) := c0
      replace c1 : (v2.drewN n3).cell? ⟨gs, 1, none⟩ = some (.int .u32 (t.b.toNat : Int)) := c1
      replace c2 : (v2.drewN n3).cell? ⟨gs, 2, none⟩ = some (.int .u32 (t.c.toNat : Int)) := c2
      replace c3 : (v2.drewN n3).cell? ⟨gs, 3, none⟩ = some (.int .u32 (t.d.toNat : Int)) := c3
      replace c4 : (v2.drewN n3).cell? ⟨gs, 4, none⟩ = some (.int .u32 (t.e.toNat : Int)) := c4
      replace c5 : (v2.drewN n3).cell? ⟨gs, 5, none⟩ = some (.int .u32 (t.f.toNat : Int)) := c5
      replace c6 : (v2.drewN n3).cell? ⟨gs, 6, none⟩ = some (.int .u32 (t.g.toNat : Int)) := c6
      replace c7 : (v2.drewN n3).cell? ⟨gs, 7, none⟩ = some (.int .u32 (t.h.toNat : Int)) := c7
      replace hkc : (v2.drewN n3).cell? ⟨gk, k, none⟩ = some (.int .u32 (kk.toNat : Int)) := hkc
      replace hwc : (v2.drewN n3).cell? ⟨gw, k, none⟩ = some (.int .u32 (ww.toNat : Int)) := hwc
      obtain ⟨v3, hwx⟩ : ∃ X, v2.drewN n3 = X := ⟨_, rfl⟩
      rw [hwx] at hrow hW hKr hh hlow hC hkc hwc c0 c1 c2 c3 c4 c5 c6 c7 ⊢
      clear hwx
      replace hrow := Lib.hid hrow
      replace hW := Lib.hid hW
      replace hKr := Lib.hid hKr
      replace hh := Lib.hid hh
      have qa4 := trivial
      clear qa4
      go_wp2_with fail
      have qb4 := trivial
      clear qb4
      go_quiet ((first | (go_at_call 24; with_reducible exact Calls.quiet_of (ht2.out _)) | (go_at_call 24; with_reducible exact Calls.quiet_of (ht13.out _)) | (go_at_call 24; with_reducible exact Calls.quiet_of (ht22.out _))))
      revert nq
      intro n4
      replace hrow : RowV (v3.drewN n4) 27 B gs cs (t.list.map wV) := hrow.out
      replace hW : RowV (v3.drewN n4) 27 w.heap.size gw cw ((wsAt b 64).map wV) := hW.out
      replace hKr : RowV (v3.drewN n4) 27 w1.heap.size gk ck (sumKs.map wV) := hKr.out
      replace hh : RowV (v3.drewN n4) 27 lo gh ch (s.list.map wV) := hh.out
      replace hlow : B ≤ (v3.drewN n4).heap.size := hlow
      replace hC := Below.drewW hC n4
      replace c0 : (v3.drewN n4).cell? ⟨gs, 0, none⟩ = some (.int .u32 (t.a.toNat : Int)) := c0
      replace c1 : (v3.drewN n4).cell? ⟨gs, 1, none⟩ = some (.int .u32 (t.b.toNat : Int)) := c1
      replace c2 : (v3.drewN n4).cell? ⟨gs, 2, none⟩ = some (.int .u32 (t.c.toNat : Int)) := c2
      replace c3 : (v3.drewN n4).cell? ⟨gs, 3, none⟩ = some (.int .u32 (t.d.toNat : Int)) := c3
      replace c4 : (v3.drewN n4).cell? ⟨gs, 4, none⟩ = some (.int .u32 (t.e.toNat : Int)) := c4
      replace c5 : (v3.drewN n4).cell? ⟨gs, 5, none⟩ = some (.int .u32 (t.f.toNat : Int)) := c5
      replace c6 : (v3.drewN n4).cell? ⟨gs, 6, none⟩ = some (.int .u32 (t.g.toNat : Int)) := c6
      replace c7 : (v3.drewN n4).cell? ⟨gs, 7, none⟩ = some (.int .u32 (t.h.toNat : Int)) := c7
      replace hkc : (v3.drewN n4).cell? ⟨gk, k, none⟩ = some (.int .u32 (kk.toNat : Int)) := hkc
      replace hwc : (v3.drewN n4).cell? ⟨gw, k, none⟩ = some (.int .u32 (ww.toNat : Int)) := hwc
      obtain ⟨v4, hwx⟩ : ∃ X, v3.drewN n4 = X := ⟨_, rfl⟩
      rw [hwx] at hrow hW hKr hh hlow hC hkc hwc c0 c1 c2 c3 c4 c5 c6 c7 ⊢
      clear hwx
      replace hrow := Lib.hid hrow
      replace hW := Lib.hid hW
      replace hKr := Lib.hid hKr
      replace hh := Lib.hid hh
      have qa5 := trivial
      clear qa5
      go_wp2_with fail
      have qb5 := trivial
      clear qb5
      go_quiet (fail)
      revert nq
      intro n5
      replace hrow : RowV (v4.drewN n5) 27 B gs cs (t.list.map wV) := hrow.out
      replace hW : RowV (v4.drewN n5) 27 w.heap.size gw cw ((wsAt b 64).map wV) := hW.out
      replace hKr : RowV (v4.drewN n5) 27 w1.heap.size gk ck (sumKs.map wV) := hKr.out
      replace hh : RowV (v4.drewN n5) 27 lo gh ch (s.list.map wV) := hh.out
      replace hlow : B ≤ (v4.drewN n5).heap.size := hlow
      replace hC := Below.drewW hC n5
      replace c0 : (v4.drewN n5).cell? ⟨gs, 0, none⟩ = some (.int .u32 (t.a.toNat : Int)) := c0
      replace c1 : (v4.drewN n5).cell? ⟨gs, 1, none⟩ = some (.int .u32 (t.b.toNat : Int)) := c1
      replace c2 : (v4.drewN n5).cell? ⟨gs, 2, none⟩ = some (.int .u32 (t.c.toNat : Int)) := c2
      replace c3 : (v4.drewN n5).cell? ⟨gs, 3, none⟩ = some (.int .u32 (t.d.toNat : Int)) := c3
      replace c4 : (v4.drewN n5).cell? ⟨gs, 4, none⟩ = some (.int .u32 (t.e.toNat : Int)) := c4
      replace c5 : (v4.drewN n5).cell? ⟨gs, 5, none⟩ = some (.int .u32 (t.f.toNat : Int)) := c5
      replace c6 : (v4.drewN n5).cell? ⟨gs, 6, none⟩ = some (.int .u32 (t.g.toNat : Int)) := c6
      replace c7 : (v4.drewN n5).cell? ⟨gs, 7, none⟩ = some (.int .u32 (t.h.toNat : Int)) := c7
      replace hkc : (v4.drewN n5).cell? ⟨gk, k, none⟩ = some (.int .u32 (kk.toNat : Int)) := hkc
      replace hwc : (v4.drewN n5).cell? ⟨gw, k, none⟩ = some (.int .u32 (ww.toNat : Int)) := hwc
      obtain ⟨v5, hwx⟩ : ∃ X, v4.drewN n5 = X := ⟨_, rfl⟩
      rw [hwx] at hrow hW hKr hh hlow hC hkc hwc c0 c1 c2 c3 c4 c5 c6 c7 ⊢
      clear hwx
      replace hrow := Lib.hid hrow
      replace hW := Lib.hid hW
      replace hKr := Lib.hid hKr
      replace hh := Lib.hid hh
      clear ht6 ht11 ht25 ht2 ht13 ht22 hkc hwc c0 c1 c2 c3 c4 c5 c6 c7
      go_wp2
      go_loopw [14] (fun nv wr => ∃ m : Nat, m ≤ 7 ∧ nv = .int .i64 (7 - (m : Nat) : Int) ∧ Hid (RowV wr 27 B gs cs ((shL t m).map wV)) ∧ Hid (RowV wr 27 w.heap.size gw cw ((wsAt b 64).map wV)) ∧ Hid (RowV wr 27 w1.heap.size gk ck (sumKs.map wV)) ∧ Hid (RowV wr 27 lo gh ch (s.list.map wV)) ∧ B ≤ wr.heap.size ∧ Below w.heap.size w wr) (fun nv _ => (intOf nv).toNat)
      case atStart => exact ⟨0, by omega, rfl, hrow, hW, hKr, hh, hlow, hC⟩
      case round =>
        clear hrow hW hKr hh hlow hC
        obtain ⟨m, hm7, hnv, hrow, hW, hKr, hh, hlow, hC⟩ := hrel
        have hgB := hrow.out.1
        have hcs : m = 0 ∨ m = 1 ∨ m = 2 ∨ m = 3 ∨ m = 4 ∨ m = 5 ∨ m = 6 ∨ m = 7 := by omega
        rcases hcs with rfl | rfl | rfl | rfl | rfl | rfl | rfl | rfl
        · obtain rfl : _ = Value.int .i64 7 := hnv
          have h1 : RowV wr 27 B gs cs (([t.a, t.b, t.c, t.d, t.e, t.f, t.g, t.h]).map wV) := hrow.out
          have hcap8 : 8 ≤ cs := h1.2.1
          have c := h1.word (j := 6) (show (_ : Nat) < 8 by decide)
          have c' := h1.word (j := 7) (show (_ : Nat) < 8 by decide)
          simp only [List.getD_cons_zero, List.getD_cons_succ] at c c'
          have hf := h1.free (j := 7) (by omega)
          have hn : RowV (wr.setCell ⟨gs, 7, none⟩ (.int .u32 (t.g.toNat : Int))) 27 B gs cs ((shL t 1).map wV) := h1.setW 7 t.g
          have hW2 := Lib.hid (hW.out.other (p := ⟨gs, 7, none⟩) (by simp; omega) (.int .u32 (t.g.toNat : Int)))
          have hKr2 := Lib.hid (hKr.out.other (p := ⟨gs, 7, none⟩) (by simp; omega) (.int .u32 (t.g.toNat : Int)))
          have hh2 := Lib.hid (hh.out.other (p := ⟨gs, 7, none⟩) (by simp; omega) (.int .u32 (t.g.toNat : Int)))
          have hC2 := hC.setCell (p := ⟨gs, 7, none⟩) (by simp; omega) (.int .u32 (t.g.toNat : Int))
          have hlow2 : B ≤ (wr.setCell ⟨gs, 7, none⟩ (.int .u32 (t.g.toNat : Int))).heap.size := by rw [size_setCell]; exact hlow
          replace hn := Lib.hid hn
          clear h1 hrow hW hKr hh hC
          go_wp2
          go_round
          case rel => exact ⟨1, by omega, rfl, hn, hW2, hKr2, hh2, hlow2, hC2⟩
          case measure => decide
        · obtain rfl : _ = Value.int .i64 6 := hnv
          have h1 : RowV wr 27 B gs cs (([t.a, t.b, t.c, t.d, t.e, t.f, t.g, t.g]).map wV) := hrow.out
          have hcap8 : 8 ≤ cs := h1.2.1
          have c := h1.word (j := 5) (show (_ : Nat) < 8 by decide)
          have c' := h1.word (j := 6) (show (_ : Nat) < 8 by decide)
          simp only [List.getD_cons_zero, List.getD_cons_succ] at c c'
          have hf := h1.free (j := 6) (by omega)
          have hn : RowV (wr.setCell ⟨gs, 6, none⟩ (.int .u32 (t.f.toNat : Int))) 27 B gs cs ((shL t 2).map wV) := h1.setW 6 t.f
          have hW2 := Lib.hid (hW.out.other (p := ⟨gs, 6, none⟩) (by simp; omega) (.int .u32 (t.f.toNat : Int)))
          have hKr2 := Lib.hid (hKr.out.other (p := ⟨gs, 6, none⟩) (by simp; omega) (.int .u32 (t.f.toNat : Int)))
          have hh2 := Lib.hid (hh.out.other (p := ⟨gs, 6, none⟩) (by simp; omega) (.int .u32 (t.f.toNat : Int)))
          have hC2 := hC.setCell (p := ⟨gs, 6, none⟩) (by simp; omega) (.int .u32 (t.f.toNat : Int))
          have hlow2 : B ≤ (wr.setCell ⟨gs, 6, none⟩ (.int .u32 (t.f.toNat : Int))).heap.size := by rw [size_setCell]; exact hlow
          replace hn := Lib.hid hn
          clear h1 hrow hW hKr hh hC
          go_wp2
          go_round
          case rel => exact ⟨2, by omega, rfl, hn, hW2, hKr2, hh2, hlow2, hC2⟩
          case measure => decide
        · obtain rfl : _ = Value.int .i64 5 := hnv
          have h1 : RowV wr 27 B gs cs (([t.a, t.b, t.c, t.d, t.e, t.f, t.f, t.g]).map wV) := hrow.out
          have hcap8 : 8 ≤ cs := h1.2.1
          have c := h1.word (j := 4) (show (_ : Nat) < 8 by decide)
          have c' := h1.word (j := 5) (show (_ : Nat) < 8 by decide)
          simp only [List.getD_cons_zero, List.getD_cons_succ] at c c'
          have hf := h1.free (j := 5) (by omega)
          have hn : RowV (wr.setCell ⟨gs, 5, none⟩ (.int .u32 (t.e.toNat : Int))) 27 B gs cs ((shL t 3).map wV) := h1.setW 5 t.e
          have hW2 := Lib.hid (hW.out.other (p := ⟨gs, 5, none⟩) (by simp; omega) (.int .u32 (t.e.toNat : Int)))
          have hKr2 := Lib.hid (hKr.out.other (p := ⟨gs, 5, none⟩) (by simp; omega) (.int .u32 (t.e.toNat : Int)))
          have hh2 := Lib.hid (hh.out.other (p := ⟨gs, 5, none⟩) (by simp; omega) (.int .u32 (t.e.toNat : Int)))
          have hC2 := hC.setCell (p := ⟨gs, 5, none⟩) (by simp; omega) (.int .u32 (t.e.toNat : Int))
          have hlow2 : B ≤ (wr.setCell ⟨gs, 5, none⟩ (.int .u32 (t.e.toNat : Int))).heap.size := by rw [size_setCell]; exact hlow
          replace hn := Lib.hid hn
          clear h1 hrow hW hKr hh hC
          go_wp2
          go_round
          case rel => exact ⟨3, by omega, rfl, hn, hW2, hKr2, hh2, hlow2, hC2⟩
          case measure => decide
        · obtain rfl : _ = Value.int .i64 4 := hnv
          have h1 : RowV wr 27 B gs cs (([t.a, t.b, t.c, t.d, t.e, t.e, t.f, t.g]).map wV) := hrow.out
          have hcap8 : 8 ≤ cs := h1.2.1
          have c := h1.word (j := 3) (show (_ : Nat) < 8 by decide)
          have c' := h1.word (j := 4) (show (_ : Nat) < 8 by decide)
          simp only [List.getD_cons_zero, List.getD_cons_succ] at c c'
          have hf := h1.free (j := 4) (by omega)
          have hn : RowV (wr.setCell ⟨gs, 4, none⟩ (.int .u32 (t.d.toNat : Int))) 27 B gs cs ((shL t 4).map wV) := h1.setW 4 t.d
          have hW2 := Lib.hid (hW.out.other (p := ⟨gs, 4, none⟩) (by simp; omega) (.int .u32 (t.d.toNat : Int)))
          have hKr2 := Lib.hid (hKr.out.other (p := ⟨gs, 4, none⟩) (by simp; omega) (.int .u32 (t.d.toNat : Int)))
          have hh2 := Lib.hid (hh.out.other (p := ⟨gs, 4, none⟩) (by simp; omega) (.int .u32 (t.d.toNat : Int)))
          have hC2 := hC.setCell (p := ⟨gs, 4, none⟩) (by simp; omega) (.int .u32 (t.d.toNat : Int))
          have hlow2 : B ≤ (wr.setCell ⟨gs, 4, none⟩ (.int .u32 (t.d.toNat : Int))).heap.size := by rw [size_setCell]; exact hlow
          replace hn := Lib.hid hn
          clear h1 hrow hW hKr hh hC
          go_wp2
          go_round
          case rel => exact ⟨4, by omega, rfl, hn, hW2, hKr2, hh2, hlow2, hC2⟩
          case measure => decide
        · obtain rfl : _ = Value.int .i64 3 := hnv
          have h1 : RowV wr 27 B gs cs (([t.a, t.b, t.c, t.d, t.d, t.e, t.f, t.g]).map wV) := hrow.out
          have hcap8 : 8 ≤ cs := h1.2.1
          have c := h1.word (j := 2) (show (_ : Nat) < 8 by decide)
          have c' := h1.word (j := 3) (show (_ : Nat) < 8 by decide)
          simp only [List.getD_cons_zero, List.getD_cons_succ] at c c'
          have hf := h1.free (j := 3) (by omega)
          have hn : RowV (wr.setCell ⟨gs, 3, none⟩ (.int .u32 (t.c.toNat : Int))) 27 B gs cs ((shL t 5).map wV) := h1.setW 3 t.c
          have hW2 := Lib.hid (hW.out.other (p := ⟨gs, 3, none⟩) (by simp; omega) (.int .u32 (t.c.toNat : Int)))
          have hKr2 := Lib.hid (hKr.out.other (p := ⟨gs, 3, none⟩) (by simp; omega) (.int .u32 (t.c.toNat : Int)))
          have hh2 := Lib.hid (hh.out.other (p := ⟨gs, 3, none⟩) (by simp; omega) (.int .u32 (t.c.toNat : Int)))
          have hC2 := hC.setCell (p := ⟨gs, 3, none⟩) (by simp; omega) (.int .u32 (t.c.toNat : Int))
          have hlow2 : B ≤ (wr.setCell ⟨gs, 3, none⟩ (.int .u32 (t.c.toNat : Int))).heap.size := by rw [size_setCell]; exact hlow
          replace hn := Lib.hid hn
          clear h1 hrow hW hKr hh hC
          go_wp2
          go_round
          case rel => exact ⟨5, by omega, rfl, hn, hW2, hKr2, hh2, hlow2, hC2⟩
          case measure => decide
        · obtain rfl : _ = Value.int .i64 2 := hnv
          have h1 : RowV wr 27 B gs cs (([t.a, t.b, t.c, t.c, t.d, t.e, t.f, t.g]).map wV) := hrow.out
          have hcap8 : 8 ≤ cs := h1.2.1
          have c := h1.word (j := 1) (show (_ : Nat) < 8 by decide)
          have c' := h1.word (j := 2) (show (_ : Nat) < 8 by decide)
          simp only [List.getD_cons_zero, List.getD_cons_succ] at c c'
          have hf := h1.free (j := 2) (by omega)
          have hn : RowV (wr.setCell ⟨gs, 2, none⟩ (.int .u32 (t.b.toNat : Int))) 27 B gs cs ((shL t 6).map wV) := h1.setW 2 t.b
          have hW2 := Lib.hid (hW.out.other (p := ⟨gs, 2, none⟩) (by simp; omega) (.int .u32 (t.b.toNat : Int)))
          have hKr2 := Lib.hid (hKr.out.other (p := ⟨gs, 2, none⟩) (by simp; omega) (.int .u32 (t.b.toNat : Int)))
          have hh2 := Lib.hid (hh.out.other (p := ⟨gs, 2, none⟩) (by simp; omega) (.int .u32 (t.b.toNat : Int)))
          have hC2 := hC.setCell (p := ⟨gs, 2, none⟩) (by simp; omega) (.int .u32 (t.b.toNat : Int))
          have hlow2 : B ≤ (wr.setCell ⟨gs, 2, none⟩ (.int .u32 (t.b.toNat : Int))).heap.size := by rw [size_setCell]; exact hlow
          replace hn := Lib.hid hn
          clear h1 hrow hW hKr hh hC
          go_wp2
          go_round
          case rel => exact ⟨6, by omega, rfl, hn, hW2, hKr2, hh2, hlow2, hC2⟩
          case measure => decide
        · obtain rfl : _ = Value.int .i64 1 := hnv
          have h1 : RowV wr 27 B gs cs (([t.a, t.b, t.b, t.c, t.d, t.e, t.f, t.g]).map wV) := hrow.out
          have hcap8 : 8 ≤ cs := h1.2.1
          have c := h1.word (j := 0) (show (_ : Nat) < 8 by decide)
          have c' := h1.word (j := 1) (show (_ : Nat) < 8 by decide)
          simp only [List.getD_cons_zero, List.getD_cons_succ] at c c'
          have hf := h1.free (j := 1) (by omega)
          have hn : RowV (wr.setCell ⟨gs, 1, none⟩ (.int .u32 (t.a.toNat : Int))) 27 B gs cs ((shL t 7).map wV) := h1.setW 1 t.a
          have hW2 := Lib.hid (hW.out.other (p := ⟨gs, 1, none⟩) (by simp; omega) (.int .u32 (t.a.toNat : Int)))
          have hKr2 := Lib.hid (hKr.out.other (p := ⟨gs, 1, none⟩) (by simp; omega) (.int .u32 (t.a.toNat : Int)))
          have hh2 := Lib.hid (hh.out.other (p := ⟨gs, 1, none⟩) (by simp; omega) (.int .u32 (t.a.toNat : Int)))
          have hC2 := hC.setCell (p := ⟨gs, 1, none⟩) (by simp; omega) (.int .u32 (t.a.toNat : Int))
          have hlow2 : B ≤ (wr.setCell ⟨gs, 1, none⟩ (.int .u32 (t.a.toNat : Int))).heap.size := by rw [size_setCell]; exact hlow
          replace hn := Lib.hid hn
          clear h1 hrow hW hKr hh hC
          go_wp2
          go_round
          case rel => exact ⟨7, by omega, rfl, hn, hW2, hKr2, hh2, hlow2, hC2⟩
          case measure => decide
        · obtain rfl : _ = Value.int .i64 0 := hnv
          have h1 : RowV wr 27 B gs cs (([t.a, t.a, t.b, t.c, t.d, t.e, t.f, t.g]).map wV) := hrow.out
          have hcap8 : 8 ≤ cs := h1.2.1
          have c4 := h1.word (j := 4) (show (_ : Nat) < 8 by decide)
          have c0 := h1.word (j := 0) (show (_ : Nat) < 8 by decide)
          simp only [List.getD_cons_zero, List.getD_cons_succ] at c4 c0
          have hf4 := h1.free (j := 4) (by omega)
          have hf0 := h1.free (j := 0) (by omega)
          have hl : (([t.a, t.a, t.b, t.c, t.d, t.e, t.f, t.g]).set 4 (addW t.d (addW (addW (addW (addW t.h (xorW (xorW (rotr t.e 6) (rotr t.e 11)) (rotr t.e 25))) (xorW (andW t.e t.f) (andW (notW t.e) t.g))) kk) ww))).set 0 (addW (addW (addW (addW (addW (addW t.h (xorW (xorW (rotr t.e 6) (rotr t.e 11)) (rotr t.e 25))) (xorW (andW t.e t.f) (andW (notW t.e) t.g))) kk) ww) (xorW (xorW (rotr t.a 2) (rotr t.a 13)) (rotr t.a 22))) (xorW (xorW (andW t.a t.b) (andW t.a t.c)) (andW t.b t.c))) = (round t kk ww).list := by rw [addW_assoc (addW (addW (addW (addW t.h (xorW (xorW (rotr t.e 6) (rotr t.e 11)) (rotr t.e 25))) (xorW (andW t.e t.f) (andW (notW t.e) t.g))) kk) ww)]; rfl
          have hn : RowV ((wr.setCell ⟨gs, 4, none⟩ (.int .u32 ((addW t.d (addW (addW (addW (addW t.h (xorW (xorW (rotr t.e 6) (rotr t.e 11)) (rotr t.e 25))) (xorW (andW t.e t.f) (andW (notW t.e) t.g))) kk) ww)).toNat : Int))).setCell ⟨gs, 0, none⟩ (.int .u32 ((addW (addW (addW (addW (addW (addW t.h (xorW (xorW (rotr t.e 6) (rotr t.e 11)) (rotr t.e 25))) (xorW (andW t.e t.f) (andW (notW t.e) t.g))) kk) ww) (xorW (xorW (rotr t.a 2) (rotr t.a 13)) (rotr t.a 22))) (xorW (xorW (andW t.a t.b) (andW t.a t.c)) (andW t.b t.c))).toNat : Int))) 27 B gs cs ((roundsAt s (wsAt b 64) (k + 1)).list.map wV) := by rw [hnx.out, ← hl]; exact (h1.setW 4 (addW t.d (addW (addW (addW (addW t.h (xorW (xorW (rotr t.e 6) (rotr t.e 11)) (rotr t.e 25))) (xorW (andW t.e t.f) (andW (notW t.e) t.g))) kk) ww))).setW 0 (addW (addW (addW (addW (addW (addW t.h (xorW (xorW (rotr t.e 6) (rotr t.e 11)) (rotr t.e 25))) (xorW (andW t.e t.f) (andW (notW t.e) t.g))) kk) ww) (xorW (xorW (rotr t.a 2) (rotr t.a 13)) (rotr t.a 22))) (xorW (xorW (andW t.a t.b) (andW t.a t.c)) (andW t.b t.c)))
          have hW2 := Lib.hid (hW.out.other (p := ⟨gs, 4, none⟩) (by simp; omega) (.int .u32 ((addW t.d (addW (addW (addW (addW t.h (xorW (xorW (rotr t.e 6) (rotr t.e 11)) (rotr t.e 25))) (xorW (andW t.e t.f) (andW (notW t.e) t.g))) kk) ww)).toNat : Int)))
          have hKr2 := Lib.hid (hKr.out.other (p := ⟨gs, 4, none⟩) (by simp; omega) (.int .u32 ((addW t.d (addW (addW (addW (addW t.h (xorW (xorW (rotr t.e 6) (rotr t.e 11)) (rotr t.e 25))) (xorW (andW t.e t.f) (andW (notW t.e) t.g))) kk) ww)).toNat : Int)))
          have hh2 := Lib.hid (hh.out.other (p := ⟨gs, 4, none⟩) (by simp; omega) (.int .u32 ((addW t.d (addW (addW (addW (addW t.h (xorW (xorW (rotr t.e 6) (rotr t.e 11)) (rotr t.e 25))) (xorW (andW t.e t.f) (andW (notW t.e) t.g))) kk) ww)).toNat : Int)))
          have hC2 := hC.setCell (p := ⟨gs, 4, none⟩) (by simp; omega) (.int .u32 ((addW t.d (addW (addW (addW (addW t.h (xorW (xorW (rotr t.e 6) (rotr t.e 11)) (rotr t.e 25))) (xorW (andW t.e t.f) (andW (notW t.e) t.g))) kk) ww)).toNat : Int))
          have hW3 := Lib.hid (hW2.out.other (p := ⟨gs, 0, none⟩) (by simp; omega) (.int .u32 ((addW (addW (addW (addW (addW (addW t.h (xorW (xorW (rotr t.e 6) (rotr t.e 11)) (rotr t.e 25))) (xorW (andW t.e t.f) (andW (notW t.e) t.g))) kk) ww) (xorW (xorW (rotr t.a 2) (rotr t.a 13)) (rotr t.a 22))) (xorW (xorW (andW t.a t.b) (andW t.a t.c)) (andW t.b t.c))).toNat : Int)))
          have hKr3 := Lib.hid (hKr2.out.other (p := ⟨gs, 0, none⟩) (by simp; omega) (.int .u32 ((addW (addW (addW (addW (addW (addW t.h (xorW (xorW (rotr t.e 6) (rotr t.e 11)) (rotr t.e 25))) (xorW (andW t.e t.f) (andW (notW t.e) t.g))) kk) ww) (xorW (xorW (rotr t.a 2) (rotr t.a 13)) (rotr t.a 22))) (xorW (xorW (andW t.a t.b) (andW t.a t.c)) (andW t.b t.c))).toNat : Int)))
          have hh3 := Lib.hid (hh2.out.other (p := ⟨gs, 0, none⟩) (by simp; omega) (.int .u32 ((addW (addW (addW (addW (addW (addW t.h (xorW (xorW (rotr t.e 6) (rotr t.e 11)) (rotr t.e 25))) (xorW (andW t.e t.f) (andW (notW t.e) t.g))) kk) ww) (xorW (xorW (rotr t.a 2) (rotr t.a 13)) (rotr t.a 22))) (xorW (xorW (andW t.a t.b) (andW t.a t.c)) (andW t.b t.c))).toNat : Int)))
          have hC3 := hC2.setCell (p := ⟨gs, 0, none⟩) (by simp; omega) (.int .u32 ((addW (addW (addW (addW (addW (addW t.h (xorW (xorW (rotr t.e 6) (rotr t.e 11)) (rotr t.e 25))) (xorW (andW t.e t.f) (andW (notW t.e) t.g))) kk) ww) (xorW (xorW (rotr t.a 2) (rotr t.a 13)) (rotr t.a 22))) (xorW (xorW (andW t.a t.b) (andW t.a t.c)) (andW t.b t.c))).toNat : Int))
          have hlow3 : B ≤ ((wr.setCell ⟨gs, 4, none⟩ (.int .u32 ((addW t.d (addW (addW (addW (addW t.h (xorW (xorW (rotr t.e 6) (rotr t.e 11)) (rotr t.e 25))) (xorW (andW t.e t.f) (andW (notW t.e) t.g))) kk) ww)).toNat : Int))).setCell ⟨gs, 0, none⟩ (.int .u32 ((addW (addW (addW (addW (addW (addW t.h (xorW (xorW (rotr t.e 6) (rotr t.e 11)) (rotr t.e 25))) (xorW (andW t.e t.f) (andW (notW t.e) t.g))) kk) ww) (xorW (xorW (rotr t.a 2) (rotr t.a 13)) (rotr t.a 22))) (xorW (xorW (andW t.a t.b) (andW t.a t.c)) (andW t.b t.c))).toNat : Int))).heap.size := by rw [size_setCell, size_setCell]; exact hlow
          replace hn := Lib.hid hn
          clear h1 hrow hW hKr hh hC hW2 hKr2 hh2 hC2 hl
          go_wp2
          go_round
          case rel => exact ⟨k + 1, by omega, by go_num, hn, hW3, hKr3, hh3, hlow3, hC3⟩
          case measure => simp [intOf]; omega
    · obtain rfl : k = 64 := by omega
      obtain rfl : _ = Value.int .i64 64 := hiv
      have hbl : blk s b = addS s t := by rw [← ht]; rfl
      clear ht hW hKr
      replace hbl := Lib.hid hbl
      replace hrow := Lib.hid hrow.out
      have hgsl := hrow.out.lt
      go_wp2
      have hO := RowV.lit wr 27 [] (by decide) (A := #[]) rfl
      have hA9 : Below wr.heap.size wr (wr.alloc (.cells #[] 27)) := (Below.refl _ _).alloc (Nat.le_refl _) _
      replace hrow := hrow.out.below hA9 hgsl
      replace hh := hh.out.below hA9 (by omega)
      replace hC := hC.trans (hA9.mono hC.size)
      have hlo2 := hA9.size
      have hwr : w.heap.size ≤ wr.heap.size := by omega
      have hghl : gh < wr.heap.size := by omega
      clear hlow hA9
      refine wp_name (fun w6 hw6 => ?_)
      rw [hw6] at hO hrow hh hC hlo2
      clear hw6
      obtain ⟨B2, hB2e⟩ : ∃ x, wr.heap.size = x := ⟨_, rfl⟩
      rw [hB2e] at hO hlo2 hwr hghl hgsl ⊢
      clear hB2e
      replace hO : Hid (RowV w6 27 B2 B2 0 (((addS s t).list.take 0).map wV)) := Lib.hid hO
      replace hrow := Lib.hid hrow
      replace hh := Lib.hid hh
      refine wp_name (fun w7 hw7 => ?_)
      rw [hw7] at hO hrow hh hC hlo2
      clear hw7
      go_loopw [15, 16] (fun dv iv wr => ∃ i g cap, i ≤ 8 ∧ iv = .int .i64 (i : Nat) ∧ dv = .slice (some ⟨g, 0, none⟩) i cap ∧ Hid (RowV wr 27 B2 g cap (((addS s t).list.take i).map wV)) ∧ Hid (RowV wr 27 B gs cs (t.list.map wV)) ∧ Hid (RowV wr 27 lo gh ch (s.list.map wV)) ∧ B2 ≤ wr.heap.size ∧ Below w.heap.size w wr) (fun _ iv _ => 8 - (intOf iv).toNat)
      case atStart => exact ⟨0, B2, 0, by omega, rfl, rfl, hO, hrow, hh, hlo2, hC⟩
      case round =>
        clear hO hrow hh hlo2 hC
        obtain ⟨i, g, cap, hi8, hiv, rfl, hO, hrow, hh, hlo2, hC⟩ := hrel
        by_cases hlt : i < 8
        · subst hiv
          have hiI : (i : Int) < 8 := by omega
          have h0 := hh.out.word (j := i) hlt
          have h1 := hrow.out.word (j := i) hlt
          obtain ⟨x, hx⟩ : ∃ x, s.list.getD i 0 = x := ⟨_, rfl⟩
          obtain ⟨y, hy⟩ : ∃ y, t.list.getD i 0 = y := ⟨_, rfl⟩
          have hnx := addS_at s t hlt
          rw [hx] at h0 hnx
          rw [hy] at h1 hnx
          clear hx hy
          obtain ⟨v, hv⟩ : ∃ v, addW x y = v := ⟨_, rfl⟩
          have ha := wrap_add x y
          rw [hv] at ha hnx
          clear hv
          have hkl : ((addS s t).list.take i).length = i := by rw [List.length_take]; show min i 8 = i; omega
          have hiw : IntKind.i64.wrap (i : Int) = (i : Int) := wrap_small _ (by omega) (by omega)
          have kal := fun (o : Obj) (a : Addr) (ha : a.block < B2) => alloc_cell (w := wr.drew) (g := a.block) (Nat.lt_of_lt_of_le ha hlo2) o a rfl
          replace kal := Lib.hid kal
          replace hnx := Lib.hid hnx
          replace hkl := Lib.hid hkl
          go_wp2_with fail
          first | refine wp_region_noPanic ?_ | skip
          refine wp_region_held_drew (S := (fun W' => W'.cell? ⟨gh, i, none⟩ = some (.int .u32 (x.toNat : Int)) ∧ W'.cell? ⟨gs, i, none⟩ = some (.int .u32 (y.toNat : Int)))) (by kernel_rfl) ?_ (fun hHeld => ?_)
          · exact ⟨h0, h1⟩
          refine wpAnyH_take (i := 0) (v := ?_) rfl (by kernel_rfl) (by kernel_rfl) (by kernel_rfl) (fun _ _ _ h => h) (Or.inl ⟨by rfl, ?_⟩) (by assumption) ?_
          rotate_left
          · (intro w hSw; (try dsimp only at hSw); go_simp; try with_reducible rfl)
          try simp only [Array.reduceGetElem, Act.put, List.setIfInBounds_toArray, List.set_cons_zero, List.set_cons_succ]
          refine wpAnyH_take (i := 1) (v := ?_) rfl (by kernel_rfl) (by kernel_rfl) (by kernel_rfl) (fun _ _ _ h => h) (Or.inl ⟨by rfl, ?_⟩) (by assumption) ?_
          rotate_left
          · (intro w hSw; (try dsimp only at hSw); go_simp; try with_reducible rfl)
          try simp only [Array.reduceGetElem, Act.put, List.setIfInBounds_toArray, List.set_cons_zero, List.set_cons_succ]
          refine wpAnyH_take (i := 2) (v := ?_) rfl (by kernel_rfl) (by kernel_rfl) (by kernel_rfl) (fun _ _ _ h => h) (Or.inl ⟨by rfl, ?_⟩) (by assumption) ?_
          rotate_left
          · (intro w hSw; (try dsimp only at hSw); go_simp; try with_reducible rfl)
          try simp only [Array.reduceGetElem, Act.put, List.setIfInBounds_toArray, List.set_cons_zero, List.set_cons_succ]
          refine wpAnyH_take (i := 3) (v := .pointer (some ⟨gh, i, none⟩)) rfl (by kernel_rfl) (by kernel_rfl) (by kernel_rfl) (fun _ _ _ h => h) (Or.inl ⟨by rfl, ?_⟩) (by assumption) ?_
          · (intro w hSw; (try dsimp only at hSw); go_simp; first | done | with_reducible rfl | (intro hh; exact absurd (hh (by omega)) (by omega)) | (rw [if_pos (by omega)]; done) | (rw [if_pos (by omega)]; rfl) | (simp only [*]; done) | rfl)
          try simp only [Array.reduceGetElem, Act.put, List.setIfInBounds_toArray, List.set_cons_zero, List.set_cons_succ]
          refine wpAnyH_take (i := 4) (v := .int .u32 (x.toNat : Int)) rfl (by kernel_rfl) (by kernel_rfl) (by kernel_rfl) (fun _ _ _ h => h) (Or.inl ⟨by rfl, ?_⟩) (by assumption) ?_
          · (intro w hSw; (try dsimp only at hSw); go_simp; first | done | with_reducible rfl | (intro hh; exact absurd (hh (by omega)) (by omega)) | (rw [if_pos (by omega)]; done) | (rw [if_pos (by omega)]; rfl) | (simp only [*]; done) | rfl)
          try simp only [Array.reduceGetElem, Act.put, List.setIfInBounds_toArray, List.set_cons_zero, List.set_cons_succ]
          refine wpAnyH_take (i := 5) (v := ?_) rfl (by kernel_rfl) (by kernel_rfl) (by kernel_rfl) (fun _ _ _ h => h) (Or.inl ⟨by rfl, ?_⟩) (by assumption) ?_
          rotate_left
          · (intro w hSw; (try dsimp only at hSw); go_simp; try with_reducible rfl)
          try simp only [Array.reduceGetElem, Act.put, List.setIfInBounds_toArray, List.set_cons_zero, List.set_cons_succ]
          refine wpAnyH_take (i := 6) (v := ?_) rfl (by kernel_rfl) (by kernel_rfl) (by kernel_rfl) (fun _ _ _ h => h) (Or.inl ⟨by rfl, ?_⟩) (by assumption) ?_
          rotate_left
          · (intro w hSw; (try dsimp only at hSw); go_simp; try with_reducible rfl)
          try simp only [Array.reduceGetElem, Act.put, List.setIfInBounds_toArray, List.set_cons_zero, List.set_cons_succ]
          refine wpAnyH_take (i := 7) (v := .pointer (some ⟨gs, i, none⟩)) rfl (by kernel_rfl) (by kernel_rfl) (by kernel_rfl) (fun _ _ _ h => h) (Or.inl ⟨by rfl, ?_⟩) (by assumption) ?_
          · (intro w hSw; (try dsimp only at hSw); go_simp; first | done | with_reducible rfl | (intro hh; exact absurd (hh (by omega)) (by omega)) | (rw [if_pos (by omega)]; done) | (rw [if_pos (by omega)]; rfl) | (simp only [*]; done) | rfl)
          try simp only [Array.reduceGetElem, Act.put, List.setIfInBounds_toArray, List.set_cons_zero, List.set_cons_succ]
          refine wpAnyH_take (i := 8) (v := .int .u32 (y.toNat : Int)) rfl (by kernel_rfl) (by kernel_rfl) (by kernel_rfl) (fun _ _ _ h => h) (Or.inl ⟨by rfl, ?_⟩) (by assumption) ?_
          · (intro w hSw; (try dsimp only at hSw); go_simp; first | done | with_reducible rfl | (intro hh; exact absurd (hh (by omega)) (by omega)) | (rw [if_pos (by omega)]; done) | (rw [if_pos (by omega)]; rfl) | (simp only [*]; done) | rfl)
          try simp only [Array.reduceGetElem, Act.put, List.setIfInBounds_toArray, List.set_cons_zero, List.set_cons_succ]
          refine wpAnyH_take (i := 9) (v := .int .u32 (v.toNat : Int)) rfl (by kernel_rfl) (by kernel_rfl) (by kernel_rfl) (fun _ _ _ h => h) (Or.inl ⟨by rfl, ?_⟩) (by assumption) ?_
          · (intro w hSw; (try dsimp only at hSw); go_simp; first | done | with_reducible rfl | (intro hh; exact absurd (hh (by omega)) (by omega)) | (rw [if_pos (by omega)]; done) | (rw [if_pos (by omega)]; rfl) | (simp only [*]; done) | rfl)
          try simp only [Array.reduceGetElem, Act.put, List.setIfInBounds_toArray, List.set_cons_zero, List.set_cons_succ]
          refine wpAnyH_ready (rs := [10]) (by kernel_rfl) (by simp) ?_
          refine AllReadyH.cons rfl (fun K hK => ?_) AllReadyH.nil
          go_simp
          refine hK.out _ _ ?_ (fun hHeld => ?_)
          · (try dsimp only); first | exact ⟨h0, h1⟩ | exact ⟨(kal.out _ _ hghl).trans h0, (kal.out _ _ hgsl).trans h1⟩
          clear hK K
          try simp only [Array.reduceGetElem, Act.put, List.setIfInBounds_toArray, List.set_cons_zero, List.set_cons_succ]
          refine wpAnyH_push1 11 (by kernel_rfl) rfl rfl _ _ 34 rfl _ 27 i0 (.int .u32 0) 4 Tryd.underlying34 hi0 hz0 hz1 hz2 rfl B2 _ _ _ (RowV.drew hO.out) _ (by rw [List.length_map]; exact hkl.out.symm) rfl 1 1 [.int .u32 (v.toNat : Int)] _ rfl rfl rfl ?h1_c ?h63_c ?hb_c ?hlo_c ?hS_c ?hk_c
          case h1_c => intro u hu; simp only [List.mem_singleton] at hu; subst hu; rfl
          case h63_c => rw [List.length_map, hkl.out]; simp only [List.length_singleton]; omega
          case hb_c => decide
          case hlo_c => exact hlo2
          case hS_c =>
            intro w9 hB9 _
            have hB := hB9 B2 (Nat.le_refl _) hlo2
            exact ⟨(hB.cell (p := ⟨gh, i, none⟩) hghl).trans h0, (hB.cell (p := ⟨gs, i, none⟩) hgsl).trans h1⟩
          intro g2 cap2 w9 hrow2 hBB hHeld9
          rw [List.length_map, hkl.out]
          try simp only [Array.reduceGetElem, Act.put, List.setIfInBounds_toArray, List.set_cons_zero, List.set_cons_succ]
          refine wpAnyH_take (i := 12) (v := ?_) rfl (by kernel_rfl) (by kernel_rfl) (by kernel_rfl) (fun _ _ _ h => h) (Or.inl ⟨by rfl, ?_⟩) (by assumption) ?_
          rotate_left
          · (intro w hSw; (try dsimp only at hSw); go_simp; try with_reducible rfl)
          try simp only [Array.reduceGetElem, Act.put, List.setIfInBounds_toArray, List.set_cons_zero, List.set_cons_succ]
          refine wpAnyH_done (by kernel_rfl) ?_ _
          replace hrow2 : RowV w9 27 B2 g2 cap2 (((addS s t).list.take (i + 1)).map wV) := by rw [hnx.out, List.map_append]; exact hrow2
          replace hrow2 := Lib.hid hrow2
          have hb9 := hBB B2 (Nat.le_refl _) hlo2
          have hrow9 := Lib.hid (hrow.out.below (w' := w9) ((Below.refl B2 wr).drew.trans hb9) hgsl)
          have hh9 := Lib.hid (hh.out.below (w' := w9) ((Below.refl B2 wr).drew.trans hb9) hghl)
          have hC9 : Below w.heap.size w w9 := hC.drew.trans (hb9.mono hwr)
          have hl9 : B2 ≤ w9.heap.size := Nat.le_trans hlo2 hb9.size
          clear hO hrow hh hC h0 h1 hHeld9 hBB hb9 hlo2
          go_wp2
          go_round
          case rel => exact ⟨i + 1, g2, cap2, by omega, by go_num, rfl, hrow2, hrow9, hh9, hl9, hC9⟩
          case measure => simp [intOf]; omega
        · obtain rfl : i = 8 := by omega
          obtain rfl : _ = Value.int .i64 8 := hiv
          replace hO : RowV wr 27 B2 g cap ((blk s b).list.map wV) := by rw [hbl.out]; exact hO.out
          replace hO := Lib.hid hO
          go_wp2
          go_ret
          exact ⟨g, cap, rfl, hO.out.lower hwr, hC⟩
end Go.Proofs.YtcgnoohllfbmcaaDoor
