/-
  The law FnExactTreeDrop, walked: the reference's answer and the program's are one.
-/
import Derived.Test.YtmchhdocbklebaaDoorDropU
import Derived.Test.YtmchhdocbklebaaDoorArgE
namespace Go.Proofs.YtmchhdocbklebaaDoor
open Go.RowKit
set_option linter.unusedVariables false
set_option linter.unusedSimpArgs false
attribute [local go_sem] mkB_size mkB_extract mkB_get mkB_append mkB_append_raw raw_append_mkB mkB_toList

def ResF (fs : List En) (b : Bool) (w : World) (r : Ending) (w' : World) : Prop := ∃ A c', r = .returned (.tuple #[.slice A fs.length c', .bool b]) ∧ OwnE w' w.heap.size A fs ∧ Below w.heap.size w w'
theorem specTreeDrop_fs {es fs : List En} {b : Bool} {p : List UInt8} (hx : treeDrop es p = (fs, b)) (g c : Nat) (w : World) (hE : Ents w g es) (hsm : Small es) (hp : p.length ≤ 1048576) :
    Calls Tryd.prog 14 #[.slice (some ⟨g, 0, none⟩) es.length c, .string (mkB p)] w (ResF fs b w) := by
  have h := specTreeDrop_any es p g c w hE hsm hp
  rw [hx] at h
  exact h
theorem TreeDrop_fs {es fs : List En} {b : Bool} {p : List UInt8} (hx : treeDrop es p = (fs, b)) (g c : Nat) (w : World) (hE : Ents w g es) (hsm : Small es) (hcap : es.length ≤ c) (hp : p.length ≤ 1048576) :
    Calls Tryd.prog 15 #[.slice (some ⟨g, 0, none⟩) es.length c, .string (mkB p)] w (ResF fs b w) := by
  have h := TreeDrop_any es p g c w hE hsm hcap hp
  rw [hx] at h
  exact h
theorem markRow (es : List En) (g c K : Nat) (w : World) (hR : RowE w g es.length es.length es) (hn : es.length ≤ 1048576) (hK : 1 + 4 * es.length = K) :
    Calls Tryd.prog 12 #[.slice (some ⟨g, 0, none⟩) es.length c, .int .i64 1] w fun r w' => r = .returned (.int .i64 (K : Int)) ∧ w.grownBy w' (some g) := by
  have hR0 : RowE w g es.length 0 (marks es.length 1) := by
    obtain ⟨cur, hh, hs, _⟩ := hR
    exact ⟨cur, hh, hs, fun i _ hi => by omega⟩
  subst hK
  exact (markEntryS_any es.length g es.length c 1 w hR0 (Nat.le_refl _) hn (Nat.le_refl _) (by omega)).mono fun r w' h => ⟨h.1, h.2.2⟩
theorem markOwnK (es : List En) (A : Option Addr) (c lo K : Nat) (w : World) (hO : OwnE w lo A es) (hn : es.length ≤ 1048576) (hlo : lo ≤ w.heap.size) (hK : 1 + 4 * es.length = K) :
    Calls Tryd.prog 12 #[.slice A es.length c, .int .i64 1] w fun r w' => r = .returned (.int .i64 (K : Int)) ∧ SlE w' A (marks es.length 1) ∧ Below lo w w' := by
  subst hK
  exact markOwn es A c lo w hO hn hlo
theorem heldSlK (n c K : Nat) (A : Option Addr) (w : World) (hS : SlE w A (marks n 1)) (hn : n ≤ 1048576) (hK : 1 + 4 * n = K) :
    Calls Tryd.prog 13 #[.slice A n c, .int .i64 1] w fun r w' => r = .returned (.int .i64 (K : Int)) ∧ Below w.heap.size w w' := by
  subst hK
  exact heldSl n c A w hS hn

set_option maxRecDepth 1000000 in
set_option maxHeartbeats 16000000 in
theorem law_FnExactTreeDrop (es : List En) (A : Option Addr) (n c : Nat) (s0 : ByteArray) (hs0 : s0.size ≤ maxLen) (w : World) (hE : ArgE w A n c es) :
    Calls Tryd.prog 4 #[.slice A n c, .string s0] w fun e w' => e = .returned (.bool true) ∧ Below w.heap.size w w' := by
  obtain ⟨s0, rfl⟩ : ∃ l, s0 = mkB l := ⟨_, (mkB_self s0).symm⟩
  unfold maxLen at hs0
  rw [mkB_size] at hs0
  by_cases h0 : s0.length ≤ 1048576
  case neg =>
    go_enter Tryd.func4, Tryd.ntmps4
    go_wp2
    go_ret
    exact ⟨rfl, Below.refl _ _⟩
  have hEh := Lib.hid hE
  clear hE
  obtain ⟨fs, b, hx⟩ : ∃ fs b, treeDrop es s0 = (fs, b) := ⟨_, _, rfl⟩
  have hfl0 : fs.length ≤ es.length := by have := treeDrop_len es s0; rwa [hx] at this
  replace hx := Lib.hid hx
  obtain ⟨K, hK⟩ : ∃ K, 1 + 4 * es.length = K := ⟨_, rfl⟩
  obtain ⟨M, hM⟩ : ∃ M, 1 + 4 * fs.length = M := ⟨_, rfl⟩
  replace hK := Lib.hid hK
  replace hM := Lib.hid hM
  cases b with
  | false =>
    go_enter Tryd.func4, Tryd.ntmps4
    go_wp2_with fail
    refine (szEntryS_any es A n c w hEh.out).mono ?_
    rintro e w1 ⟨v, rfl, hv0, hv1, hsm, hB1⟩
    by_cases hv : v < 0
    · go_wp2
      go_ret
      exact ⟨rfl, hB1⟩
    replace hsm := Lib.hid (hsm.out (by omega))
    have hlen := hsm.out.1
    have hfl : fs.length ≤ 1048576 := by omega
    have hE1 := Lib.hid (hEh.out.below hB1)
    go_wp2_with fail
    refine (toEntryS_any es A n c w1 hE1.out hsm.out).mono ?_
    rintro e w2 ⟨rfl, hx2, hB2⟩
    have hC2 := hB1.trans (hB2.mono hB1.size)
    replace hx2 := Lib.hid hx2
    go_wp2_with fail
    refine (specTreeDrop_fs hx.out _ _ _ hx2.out hsm.out h0).mono ?_
    rintro e w3 ⟨A0, c0, rfl, hO0, hB3⟩
    have hC3 := hC2.trans (hB3.mono hC2.size)
    have hS3 := Lib.hid (SlB.of hO0)
    replace hO0 := Lib.hid hO0
    have hE3 := Lib.hid (hEh.out.below hC3)
    go_wp2_with fail
    refine (toEntryS_row es A n c _ hE3.out hsm.out).mono ?_
    rintro e w4 ⟨rfl, hx4, hB4⟩
    have hgx : w3.heap.size < w4.heap.size := hx4.lt
    have hC4 := hC3.trans (hB4.mono hC3.size)
    have hS4 := Lib.hid (hS3.out.below hB4 (Nat.le_refl _))
    replace hx4 := Lib.hid hx4
    go_wp2_with fail
    refine (TreeDrop_fs hx.out _ _ _ hx4.out.ents hsm.out (Nat.le_refl _) h0).mono ?_
    rintro e w5 ⟨A1, c1, rfl, hO5, hB5⟩
    have hlo5 := hB5.size
    have hC5 := hC4.trans (hB5.mono hC4.size)
    have hS5 := Lib.hid (hS4.out.below hB5 (by omega))
    have hx5 := Lib.hid (hx4.out.below hB5 hgx)
    replace hO5 := Lib.hid hO5
    go_wp2_with fail
    refine (eqEntryS_sl fs A1 A0 _ _ _ _ _ hO5.out.sl hS5.out.sl rfl rfl hfl).mono ?_
    rintro e w6 ⟨rfl, hB6⟩
    have hlo6 : w4.heap.size ≤ w6.heap.size := by have := hB6.size; omega
    have hC6 := hC5.trans (hB6.mono hC5.size)
    have hS6 := Lib.hid (hS5.out.below hB6 (by omega))
    have hO6 := Lib.hid (hO5.out.below hB6)
    have hx6 := Lib.hid (hx5.out.below hB6 (by omega))
    have hE6 := Lib.hid (hEh.out.below hC6)
    go_wp2_with fail
    refine (toEntryS_any es A n c _ hE6.out hsm.out).mono ?_
    rintro e w7 ⟨rfl, hy7, hB7⟩
    have hlo7 : w4.heap.size ≤ w7.heap.size := by have := hB7.size; omega
    have hC7 := hC6.trans (hB7.mono hC6.size)
    have hS7 := Lib.hid (hS6.out.below hB7 (by omega))
    have hO7 := Lib.hid (hO6.out.below hB7)
    have hx7 := Lib.hid (hx6.out.below hB7 (by omega))
    replace hy7 := Lib.hid hy7
    go_wp2_with fail
    refine (eqEntryS_any es _ _ _ _ _ _ _ hx7.out.ents hy7.out rfl rfl hlen).mono ?_
    rintro e w8 ⟨rfl, hB8⟩
    have hlo8 : w4.heap.size ≤ w8.heap.size := by have := hB8.size; omega
    have hC8 := hC7.trans (hB8.mono hC7.size)
    have hS8 := Lib.hid (hS7.out.below hB8 (by omega))
    have hO8 := Lib.hid (hO7.out.below hB8)
    have hx8 := Lib.hid (hx7.out.below hB8 (by omega))
    go_wp2_with fail
    refine (markRow es _ _ K _ hx8.out hlen hK.out).mono ?_
    rintro e w9 ⟨rfl, hg9⟩
    have hb9 : Below w3.heap.size w8 w9 := gr_is_below hg9 (Nat.le_refl _) (by omega)
    have hlo9 : w4.heap.size ≤ w9.heap.size := by have := hg9.size; omega
    have hC9 := hC8.trans (hb9.mono hC3.size)
    have hS9 := Lib.hid (hS8.out.below hb9 (Nat.le_refl _))
    have hO9 := Lib.hid (hO8.out.gr hg9 hgx)
    clear hg9 hb9
    go_wp2_with fail
    refine (eqEntryS_sl fs A1 A0 _ _ _ _ _ hO9.out.sl hS9.out.sl rfl rfl hfl).mono ?_
    rintro e w10 ⟨rfl, hB10⟩
    have hlo10 : w4.heap.size ≤ w10.heap.size := by have := hB10.size; omega
    have hC10 := hC9.trans (hB10.mono hC9.size)
    have hS10 := Lib.hid (hS9.out.below hB10 (by omega))
    have hO10 := Lib.hid (hO9.out.below hB10)
    go_wp2_with fail
    refine (markOwnK fs A1 _ _ M _ hO10.out hfl hlo10 hM.out).mono ?_
    rintro e w11 ⟨rfl, hM11, hB11⟩
    replace hM11 := Lib.hid hM11
    have hlo11 : w4.heap.size ≤ w11.heap.size := by have := hB11.size; omega
    have hC11 := hC10.trans (hB11.mono hC4.size)
    have hS11 := Lib.hid (hS10.out.below hB11 (by omega))
    go_wp2_with fail
    refine (heldSlK fs.length _ M A1 _ hM11.out hfl hM.out).mono ?_
    rintro e w12 ⟨rfl, hB12⟩
    have hlo12 : w4.heap.size ≤ w12.heap.size := by have := hB12.size; omega
    have hC12 := hC11.trans (hB12.mono hC11.size)
    have hS12 := Lib.hid (hS11.out.below hB12 (by omega))
    have hM12 := Lib.hid (hM11.out.below hB12)
    have hE12 := Lib.hid (hEh.out.below hC12)
    go_wp2_with fail
    refine (toEntryS_any es A n c _ hE12.out hsm.out).mono ?_
    rintro e w13 ⟨rfl, hy13, hB13⟩
    have hlo13 : w4.heap.size ≤ w13.heap.size := by have := hB13.size; omega
    have hC13 := hC12.trans (hB13.mono hC12.size)
    have hS13 := Lib.hid (hS12.out.below hB13 (by omega))
    have hM13 := Lib.hid (hM12.out.below hB13)
    replace hy13 := Lib.hid hy13
    go_wp2_with fail
    refine (TreeDrop_fs hx.out _ _ _ hy13.out hsm.out (Nat.le_refl _) h0).mono ?_
    rintro e w14 ⟨A2, c2, rfl, hO14, hB14⟩
    have hlo14 : w4.heap.size ≤ w14.heap.size := by have := hB14.size; omega
    have hC14 := hC13.trans (hB14.mono hC13.size)
    have hS14 := Lib.hid (hS13.out.below hB14 (by omega))
    have hM14 := Lib.hid (hM13.out.below hB14)
    replace hO14 := Lib.hid hO14
    go_wp2_with fail
    refine (eqEntryS_sl fs A2 A0 _ _ _ _ _ hO14.out.sl hS14.out.sl rfl rfl hfl).mono ?_
    rintro e w15 ⟨rfl, hB15⟩
    have hlo15 : w4.heap.size ≤ w15.heap.size := by have := hB15.size; omega
    have hC15 := hC14.trans (hB15.mono hC14.size)
    have hS15 := Lib.hid (hS14.out.below hB15 (by omega))
    have hM15 := Lib.hid (hM14.out.below hB15)
    go_wp2_with fail
    refine (heldSlK fs.length _ M A1 _ hM15.out hfl hM.out).mono ?_
    rintro e w16 ⟨rfl, hB16⟩
    go_wp2
    go_ret
    exact ⟨rfl, hC15.trans (hB16.mono hC15.size)⟩
  | true =>
    go_enter Tryd.func4, Tryd.ntmps4
    go_wp2_with fail
    refine (szEntryS_any es A n c w hEh.out).mono ?_
    rintro e w1 ⟨v, rfl, hv0, hv1, hsm, hB1⟩
    by_cases hv : v < 0
    · go_wp2
      go_ret
      exact ⟨rfl, hB1⟩
    replace hsm := Lib.hid (hsm.out (by omega))
    have hlen := hsm.out.1
    have hfl : fs.length ≤ 1048576 := by omega
    have hE1 := Lib.hid (hEh.out.below hB1)
    go_wp2_with fail
    refine (toEntryS_any es A n c w1 hE1.out hsm.out).mono ?_
    rintro e w2 ⟨rfl, hx2, hB2⟩
    have hC2 := hB1.trans (hB2.mono hB1.size)
    replace hx2 := Lib.hid hx2
    go_wp2_with fail
    refine (specTreeDrop_fs hx.out _ _ _ hx2.out hsm.out h0).mono ?_
    rintro e w3 ⟨A0, c0, rfl, hO0, hB3⟩
    have hC3 := hC2.trans (hB3.mono hC2.size)
    have hS3 := Lib.hid (SlB.of hO0)
    replace hO0 := Lib.hid hO0
    have hE3 := Lib.hid (hEh.out.below hC3)
    go_wp2_with fail
    refine (toEntryS_row es A n c _ hE3.out hsm.out).mono ?_
    rintro e w4 ⟨rfl, hx4, hB4⟩
    have hgx : w3.heap.size < w4.heap.size := hx4.lt
    have hC4 := hC3.trans (hB4.mono hC3.size)
    have hS4 := Lib.hid (hS3.out.below hB4 (Nat.le_refl _))
    replace hx4 := Lib.hid hx4
    go_wp2_with fail
    refine (TreeDrop_fs hx.out _ _ _ hx4.out.ents hsm.out (Nat.le_refl _) h0).mono ?_
    rintro e w5 ⟨A1, c1, rfl, hO5, hB5⟩
    have hlo5 := hB5.size
    have hC5 := hC4.trans (hB5.mono hC4.size)
    have hS5 := Lib.hid (hS4.out.below hB5 (by omega))
    have hx5 := Lib.hid (hx4.out.below hB5 hgx)
    replace hO5 := Lib.hid hO5
    go_wp2_with fail
    refine (eqEntryS_sl fs A1 A0 _ _ _ _ _ hO5.out.sl hS5.out.sl rfl rfl hfl).mono ?_
    rintro e w6 ⟨rfl, hB6⟩
    have hlo6 : w4.heap.size ≤ w6.heap.size := by have := hB6.size; omega
    have hC6 := hC5.trans (hB6.mono hC5.size)
    have hS6 := Lib.hid (hS5.out.below hB6 (by omega))
    have hO6 := Lib.hid (hO5.out.below hB6)
    have hx6 := Lib.hid (hx5.out.below hB6 (by omega))
    have hE6 := Lib.hid (hEh.out.below hC6)
    go_wp2_with fail
    refine (toEntryS_any es A n c _ hE6.out hsm.out).mono ?_
    rintro e w7 ⟨rfl, hy7, hB7⟩
    have hlo7 : w4.heap.size ≤ w7.heap.size := by have := hB7.size; omega
    have hC7 := hC6.trans (hB7.mono hC6.size)
    have hS7 := Lib.hid (hS6.out.below hB7 (by omega))
    have hO7 := Lib.hid (hO6.out.below hB7)
    have hx7 := Lib.hid (hx6.out.below hB7 (by omega))
    replace hy7 := Lib.hid hy7
    go_wp2_with fail
    refine (eqEntryS_any es _ _ _ _ _ _ _ hx7.out.ents hy7.out rfl rfl hlen).mono ?_
    rintro e w8 ⟨rfl, hB8⟩
    have hlo8 : w4.heap.size ≤ w8.heap.size := by have := hB8.size; omega
    have hC8 := hC7.trans (hB8.mono hC7.size)
    have hS8 := Lib.hid (hS7.out.below hB8 (by omega))
    have hO8 := Lib.hid (hO7.out.below hB8)
    have hx8 := Lib.hid (hx7.out.below hB8 (by omega))
    go_wp2_with fail
    refine (markRow es _ _ K _ hx8.out hlen hK.out).mono ?_
    rintro e w9 ⟨rfl, hg9⟩
    have hb9 : Below w3.heap.size w8 w9 := gr_is_below hg9 (Nat.le_refl _) (by omega)
    have hlo9 : w4.heap.size ≤ w9.heap.size := by have := hg9.size; omega
    have hC9 := hC8.trans (hb9.mono hC3.size)
    have hS9 := Lib.hid (hS8.out.below hb9 (Nat.le_refl _))
    have hO9 := Lib.hid (hO8.out.gr hg9 hgx)
    clear hg9 hb9
    go_wp2_with fail
    refine (eqEntryS_sl fs A1 A0 _ _ _ _ _ hO9.out.sl hS9.out.sl rfl rfl hfl).mono ?_
    rintro e w10 ⟨rfl, hB10⟩
    have hlo10 : w4.heap.size ≤ w10.heap.size := by have := hB10.size; omega
    have hC10 := hC9.trans (hB10.mono hC9.size)
    have hS10 := Lib.hid (hS9.out.below hB10 (by omega))
    have hO10 := Lib.hid (hO9.out.below hB10)
    go_wp2_with fail
    refine (markOwnK fs A1 _ _ M _ hO10.out hfl hlo10 hM.out).mono ?_
    rintro e w11 ⟨rfl, hM11, hB11⟩
    replace hM11 := Lib.hid hM11
    have hlo11 : w4.heap.size ≤ w11.heap.size := by have := hB11.size; omega
    have hC11 := hC10.trans (hB11.mono hC4.size)
    have hS11 := Lib.hid (hS10.out.below hB11 (by omega))
    go_wp2_with fail
    refine (heldSlK fs.length _ M A1 _ hM11.out hfl hM.out).mono ?_
    rintro e w12 ⟨rfl, hB12⟩
    have hlo12 : w4.heap.size ≤ w12.heap.size := by have := hB12.size; omega
    have hC12 := hC11.trans (hB12.mono hC11.size)
    have hS12 := Lib.hid (hS11.out.below hB12 (by omega))
    have hM12 := Lib.hid (hM11.out.below hB12)
    have hE12 := Lib.hid (hEh.out.below hC12)
    go_wp2_with fail
    refine (toEntryS_any es A n c _ hE12.out hsm.out).mono ?_
    rintro e w13 ⟨rfl, hy13, hB13⟩
    have hlo13 : w4.heap.size ≤ w13.heap.size := by have := hB13.size; omega
    have hC13 := hC12.trans (hB13.mono hC12.size)
    have hS13 := Lib.hid (hS12.out.below hB13 (by omega))
    have hM13 := Lib.hid (hM12.out.below hB13)
    replace hy13 := Lib.hid hy13
    go_wp2_with fail
    refine (TreeDrop_fs hx.out _ _ _ hy13.out hsm.out (Nat.le_refl _) h0).mono ?_
    rintro e w14 ⟨A2, c2, rfl, hO14, hB14⟩
    have hlo14 : w4.heap.size ≤ w14.heap.size := by have := hB14.size; omega
    have hC14 := hC13.trans (hB14.mono hC13.size)
    have hS14 := Lib.hid (hS13.out.below hB14 (by omega))
    have hM14 := Lib.hid (hM13.out.below hB14)
    replace hO14 := Lib.hid hO14
    go_wp2_with fail
    refine (eqEntryS_sl fs A2 A0 _ _ _ _ _ hO14.out.sl hS14.out.sl rfl rfl hfl).mono ?_
    rintro e w15 ⟨rfl, hB15⟩
    have hlo15 : w4.heap.size ≤ w15.heap.size := by have := hB15.size; omega
    have hC15 := hC14.trans (hB15.mono hC14.size)
    have hS15 := Lib.hid (hS14.out.below hB15 (by omega))
    have hM15 := Lib.hid (hM14.out.below hB15)
    go_wp2_with fail
    refine (heldSlK fs.length _ M A1 _ hM15.out hfl hM.out).mono ?_
    rintro e w16 ⟨rfl, hB16⟩
    go_wp2
    go_ret
    exact ⟨rfl, hC15.trans (hB16.mono hC15.size)⟩
end Go.Proofs.YtmchhdocbklebaaDoor
