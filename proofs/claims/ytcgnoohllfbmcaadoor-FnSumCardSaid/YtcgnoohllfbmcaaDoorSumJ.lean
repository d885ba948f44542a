/-
  The walk of impl.Sum.
-/
import Derived.Test.YtcgnoohllfbmcaaDoorSumI
import Derived.Test.YtcgnoohllfbmcaaDoorSumR
import Derived.Test.YtcgnoohllfbmcaaDoorSumB
namespace Go.Proofs.YtcgnoohllfbmcaaDoor
open Go.RowKit
set_option linter.unusedVariables false
set_option linter.unusedSimpArgs false
attribute [local go_sem] mkB_size

/-- the bytes of the data, some noughts of the padding laid -/
def padV (l : List UInt8) (j : Nat) : List Value := l.map bV ++ [.int .u8 128] ++ List.replicate j (.int .u8 0)
theorem padV_len (l : List UInt8) (j : Nat) : (padV l j).length = l.length + 1 + j := by simp [padV]; omega
theorem padV_succ (l : List UInt8) (j : Nat) : padV l j ++ [.int .u8 0] = padV l (j + 1) := by unfold padV; rw [List.replicate_succ']; simp only [List.append_assoc]
theorem pad_more {n j : Nat} (h : j < padN n) : ¬ (n + 1 + j) % 64 = 56 := by unfold padN at h; omega
theorem pad_end {n j : Nat} (h : j ≤ padN n) (h2 : ¬ j < padN n) : (n + 1 + j) % 64 = 56 := by unfold padN at h h2; omega
theorem padN_end (n : Nat) : (n + 1 + padN n) % 64 = 56 := by unfold padN; omega
theorem lenB_len (n : Nat) : (lenB n).length = 8 := rfl
theorem padded_map (l : List UInt8) : padV l (padN l.length) ++ ((lenB l.length).map bV).take 8 = (padded l).map bV := by
  rw [List.take_of_length_le (by simp [lenB_len])]
  simp [padV, padded, bV]
theorem padded_len (l : List UInt8) : (padded l).length = l.length + 1 + padN l.length + 8 := by simp [padded, lenB_len]; omega
theorem padded_blocks (l : List UInt8) : (padded l).length = 64 * ((padded l).length / 64) := by
  have := padN_end l.length
  rw [padded_len]; omega
theorem takeV_snoc {xs : List Value} {m : Nat} {v : Value} (h : xs[m]? = some v) : xs.take m ++ [v] = xs.take (m + 1) := by
  rw [List.take_add_one, h]; rfl
theorem and_15 (x : UInt32) (s : Nat) : bits .and .u32 ((x.toNat : Int) / ((2 ^ s : Nat) : Int)) 15 = ((x.toNat / 2 ^ s % 16 : Nat) : Int) := by
  have e : ((x.toNat : Int) / ((2 ^ s : Nat) : Int)) = ((x.toNat / 2 ^ s : Nat) : Int) := by simp
  have h := x.toNat_lt
  rw [e]
  have := u32_and_nat (x.toNat / 2 ^ s) 15 (Nat.lt_of_le_of_lt (Nat.div_le_self _ _) h) (by decide)
  rw [show (15 : Int) = ((15 : Nat) : Int) from rfl, this, show (15 : Nat) = 2 ^ 4 - 1 from rfl, Nat.and_two_pow_sub_one_eq_mod]
theorem and_15z (x : UInt32) : bits .and .u32 (x.toNat : Int) 15 = ((x.toNat / 2 ^ 0 % 16 : Nat) : Int) := by
  have h := and_15 x 0
  rw [show ((x.toNat : Int) / ((2 ^ 0 : Nat) : Int)) = (x.toNat : Int) by simp] at h
  exact h
theorem fig_0 (w : World) : (Instr.index 9 (.string { data := #[48, 49, 50, 51, 52, 53, 54, 55, 56, 57, 97, 98, 99, 100, 101, 102] }) (.int .u32 ((0 : Nat) : Int))).run Tryd.prog w = .ok (.int .u8 ((hexD 0).toNat : Int)) w := by kernel_rfl
theorem fig_1 (w : World) : (Instr.index 9 (.string { data := #[48, 49, 50, 51, 52, 53, 54, 55, 56, 57, 97, 98, 99, 100, 101, 102] }) (.int .u32 ((1 : Nat) : Int))).run Tryd.prog w = .ok (.int .u8 ((hexD 1).toNat : Int)) w := by kernel_rfl
theorem fig_2 (w : World) : (Instr.index 9 (.string { data := #[48, 49, 50, 51, 52, 53, 54, 55, 56, 57, 97, 98, 99, 100, 101, 102] }) (.int .u32 ((2 : Nat) : Int))).run Tryd.prog w = .ok (.int .u8 ((hexD 2).toNat : Int)) w := by kernel_rfl
theorem fig_3 (w : World) : (Instr.index 9 (.string { data := #[48, 49, 50, 51, 52, 53, 54, 55, 56, 57, 97, 98, 99, 100, 101, 102] }) (.int .u32 ((3 : Nat) : Int))).run Tryd.prog w = .ok (.int .u8 ((hexD 3).toNat : Int)) w := by kernel_rfl
theorem fig_4 (w : World) : (Instr.index 9 (.string { data := #[48, 49, 50, 51, 52, 53, 54, 55, 56, 57, 97, 98, 99, 100, 101, 102] }) (.int .u32 ((4 : Nat) : Int))).run Tryd.prog w = .ok (.int .u8 ((hexD 4).toNat : Int)) w := by kernel_rfl
theorem fig_5 (w : World) : (Instr.index 9 (.string { data := #[48, 49, 50, 51, 52, 53, 54, 55, 56, 57, 97, 98, 99, 100, 101, 102] }) (.int .u32 ((5 : Nat) : Int))).run Tryd.prog w = .ok (.int .u8 ((hexD 5).toNat : Int)) w := by kernel_rfl
theorem fig_6 (w : World) : (Instr.index 9 (.string { data := #[48, 49, 50, 51, 52, 53, 54, 55, 56, 57, 97, 98, 99, 100, 101, 102] }) (.int .u32 ((6 : Nat) : Int))).run Tryd.prog w = .ok (.int .u8 ((hexD 6).toNat : Int)) w := by kernel_rfl
theorem fig_7 (w : World) : (Instr.index 9 (.string { data := #[48, 49, 50, 51, 52, 53, 54, 55, 56, 57, 97, 98, 99, 100, 101, 102] }) (.int .u32 ((7 : Nat) : Int))).run Tryd.prog w = .ok (.int .u8 ((hexD 7).toNat : Int)) w := by kernel_rfl
theorem fig_8 (w : World) : (Instr.index 9 (.string { data := #[48, 49, 50, 51, 52, 53, 54, 55, 56, 57, 97, 98, 99, 100, 101, 102] }) (.int .u32 ((8 : Nat) : Int))).run Tryd.prog w = .ok (.int .u8 ((hexD 8).toNat : Int)) w := by kernel_rfl
theorem fig_9 (w : World) : (Instr.index 9 (.string { data := #[48, 49, 50, 51, 52, 53, 54, 55, 56, 57, 97, 98, 99, 100, 101, 102] }) (.int .u32 ((9 : Nat) : Int))).run Tryd.prog w = .ok (.int .u8 ((hexD 9).toNat : Int)) w := by kernel_rfl
theorem fig_10 (w : World) : (Instr.index 9 (.string { data := #[48, 49, 50, 51, 52, 53, 54, 55, 56, 57, 97, 98, 99, 100, 101, 102] }) (.int .u32 ((10 : Nat) : Int))).run Tryd.prog w = .ok (.int .u8 ((hexD 10).toNat : Int)) w := by kernel_rfl
theorem fig_11 (w : World) : (Instr.index 9 (.string { data := #[48, 49, 50, 51, 52, 53, 54, 55, 56, 57, 97, 98, 99, 100, 101, 102] }) (.int .u32 ((11 : Nat) : Int))).run Tryd.prog w = .ok (.int .u8 ((hexD 11).toNat : Int)) w := by kernel_rfl
theorem fig_12 (w : World) : (Instr.index 9 (.string { data := #[48, 49, 50, 51, 52, 53, 54, 55, 56, 57, 97, 98, 99, 100, 101, 102] }) (.int .u32 ((12 : Nat) : Int))).run Tryd.prog w = .ok (.int .u8 ((hexD 12).toNat : Int)) w := by kernel_rfl
theorem fig_13 (w : World) : (Instr.index 9 (.string { data := #[48, 49, 50, 51, 52, 53, 54, 55, 56, 57, 97, 98, 99, 100, 101, 102] }) (.int .u32 ((13 : Nat) : Int))).run Tryd.prog w = .ok (.int .u8 ((hexD 13).toNat : Int)) w := by kernel_rfl
theorem fig_14 (w : World) : (Instr.index 9 (.string { data := #[48, 49, 50, 51, 52, 53, 54, 55, 56, 57, 97, 98, 99, 100, 101, 102] }) (.int .u32 ((14 : Nat) : Int))).run Tryd.prog w = .ok (.int .u8 ((hexD 14).toNat : Int)) w := by kernel_rfl
theorem fig_15 (w : World) : (Instr.index 9 (.string { data := #[48, 49, 50, 51, 52, 53, 54, 55, 56, 57, 97, 98, 99, 100, 101, 102] }) (.int .u32 ((15 : Nat) : Int))).run Tryd.prog w = .ok (.int .u8 ((hexD 15).toNat : Int)) w := by kernel_rfl
theorem fig_at {q : Nat} (h : q < 16) (w : World) : (Instr.index 9 (.string { data := #[48, 49, 50, 51, 52, 53, 54, 55, 56, 57, 97, 98, 99, 100, 101, 102] }) (.int .u32 (q : Int))).run Tryd.prog w = .ok (.int .u8 ((hexD q).toNat : Int)) w := by
  have hc : q = 0 ∨ q = 1 ∨ q = 2 ∨ q = 3 ∨ q = 4 ∨ q = 5 ∨ q = 6 ∨ q = 7 ∨ q = 8 ∨ q = 9 ∨ q = 10 ∨ q = 11 ∨ q = 12 ∨ q = 13 ∨ q = 14 ∨ q = 15 := by omega
  rcases hc with rfl | rfl | rfl | rfl | rfl | rfl | rfl | rfl | rfl | rfl | rfl | rfl | rfl | rfl | rfl | rfl
  · exact fig_0 w
  · exact fig_1 w
  · exact fig_2 w
  · exact fig_3 w
  · exact fig_4 w
  · exact fig_5 w
  · exact fig_6 w
  · exact fig_7 w
  · exact fig_8 w
  · exact fig_9 w
  · exact fig_10 w
  · exact fig_11 w
  · exact fig_12 w
  · exact fig_13 w
  · exact fig_14 w
  · exact fig_15 w
theorem hex8_len (x : UInt32) : (hex8 x).length = 8 := rfl
theorem takeH_snoc {xs : List UInt8} {m : Nat} {v : UInt8} (h : xs[m]? = some v) : xs.take m ++ [v] = xs.take (m + 1) := by
  rw [List.take_add_one, h]; rfl
theorem byte_shr (n s : Nat) : ((n : Int) / ((2 ^ s : Nat) : Int) % 256) = ((UInt8.ofNat (n / 2 ^ s)).toNat : Int) := by
  rw [UInt8.toNat_ofNat']; simp
theorem padN_le (n : Nat) : padN n ≤ 63 := by unfold padN; omega

set_option maxRecDepth 1000000 in
set_option maxHeartbeats 16000000 in
theorem implSum_any (l : List UInt8) (hl : l.length ≤ 1048576) (w : World) (hK : KAt w) :
    Calls Tryd.prog 6 #[.string (mkB l)] w fun e w' => e = .returned (.string (mkB (sumT l))) ∧ Below w.heap.size w w' := by
  have hKh := Lib.hid hK
  clear hK
  have hconv := fun w' : World => run_bytes_of_string (P := Tryd.prog) w' 9 24 5 (mkB l) Tryd.underlying9 Tryd.underlying24 Tryd.underlying5
  obtain ⟨i0, hi0, hz0, hz1, hz2⟩ := info_parts infoByte
  go_enter Tryd.func6, Tryd.ntmps6
  go_wp2_with (at_builtin; refine wp_here ?_)
  refine Lib.hid ?_
  refine wpList_first rfl _ _ 24 rfl _ 5 i0 (.int .u8 0) 1 Tryd.underlying24 hi0 hz0 hz1 hz2 rfl l hl _ rfl l.length rfl ?hs 1 1 [.int .u8 128] _ rfl rfl ?hx ?h1_2 ?h63_2 ?hb_2 ?hk_2
  case hs => show Value.slice _ _ _ = Value.slice _ _ _; simp
  case hx => show Value.slice _ _ _ = Value.slice _ _ _; simp
  case h1_2 => intro u hu; simp at hu; subst hu; rfl
  case h63_2 => decide
  case hb_2 => decide
  intro g cap w1 hrow hB
  obtain ⟨sb, hsb⟩ : ∃ x, w.heap.size = x := ⟨_, rfl⟩
  obtain ⟨lo, hlo⟩ : ∃ x, w.heap.size + 1 = x := ⟨_, rfl⟩
  have hS : RowW w1 sb initS.list := by
    rw [← hsb]
    exact RowW.below ⟨28, World.alloc_heap_new w _⟩ hB (by simp)
  have hC : Below w.heap.size w w1 := ((Below.refl _ _).alloc (Nat.le_refl _) _).trans (hB.mono (by simp))
  have hlow : lo ≤ w1.heap.size := by have := hB.size; simp at this; omega
  replace hrow : RowV w1 5 lo g cap (padV l 0) := by
    have e : (w.alloc (.cells #[.int .u32 1779033703, .int .u32 3144134277, .int .u32 1013904242, .int .u32 2773480762, .int .u32 1359893119, .int .u32 2600822924, .int .u32 528734635, .int .u32 1541459225] 28)).heap.size = lo := by simp; exact hlo
    rw [e] at hrow
    simpa [padV] using hrow
  clear hB hconv
  replace hS := Lib.hid hS
  replace hrow := Lib.hid hrow
  have hsl : sb < lo := by omega
  have hsw : w.heap.size = sb := hsb
  replace hsw := Lib.hid hsw
  rw [hsb]
  clear hsb hlo
  go_wp2
  go_loopw [4] (fun dv wr => ∃ j g cap, j ≤ padN l.length ∧ dv = .slice (some ⟨g, 0, none⟩) (l.length + 1 + j) cap ∧ Hid (RowV wr 5 lo g cap (padV l j)) ∧ lo ≤ wr.heap.size ∧ Hid (RowW wr sb initS.list) ∧ Below w.heap.size w wr) (fun dv _ => match dv with | .slice _ n _ => l.length + 1 + 63 - n | _ => 0)
  case atStart => exact ⟨0, g, cap, by omega, rfl, hrow, hlow, hS, hC⟩
  case round =>
    clear hS hrow hC hlow
    obtain ⟨j, g, cap, hj, rfl, hrow, hlow, hS, hC⟩ := hrel
    have hp63 := padN_le l.length
    by_cases hlt : j < padN l.length
    · have hne := pad_more hlt
      have hxl := padV_len l j
      obtain ⟨n, hn⟩ : ∃ n, l.length + 1 + j = n := ⟨_, rfl⟩
      rw [hn] at hne hxl ⊢
      have hn2 : l.length + 1 + (j + 1) = n + 1 := by omega
      have hnm : n ≤ 1048576 + 64 := by omega
      obtain ⟨r, hr⟩ : ∃ r, n % 64 = r := ⟨_, rfl⟩
      rw [hr] at hne
      have hmod : (n : Int).tmod 64 = (r : Int) := by have := Int.tmod_eq_emod_of_nonneg (a := (n : Int)) (b := 64) (by omega); omega
      have hmod2 : (n : Int) % 64 = (r : Int) := by omega
      have hrI : ¬ (r : Int) = 56 := by omega
      have hnI : (n : Int) ≤ 1048640 := by omega
      replace hn := Lib.hid hn
      replace hr := Lib.hid hr
      replace hn2 := Lib.hid hn2
      go_wp2_with (at_builtin; refine wp_here ?_)
      refine Lib.hid ?_
      refine wpList_push1 rfl _ _ 24 rfl _ 5 i0 (.int .u8 0) 1 Tryd.underlying24 hi0 hz0 hz1 hz2 rfl lo _ _ _ hrow.out _ (hxl).symm rfl 1 1 [.int .u8 0] _ rfl rfl rfl ?h1_3 ?h63_3 ?hb_3 ?hlo_3 ?hk_3
      case h1_3 => intro u hu; simp only [List.mem_singleton] at hu; subst hu; rfl
      case h63_3 => rw [hxl]; simp only [List.length_singleton]; omega
      case hb_3 => decide
      case hlo_3 => exact hlow
      intro g2 cap2 w2 hrow2 hB2
      rw [hxl]
      have hS2 := Lib.hid (hS.out.below (hB2 lo (Nat.le_refl _) hlow) hsl)
      have hC2 := hC.trans (hB2 w.heap.size (by have := hsw.out; omega) hC.size)
      have hlow2 : lo ≤ w2.heap.size := Nat.le_trans hlow (hB2 lo (Nat.le_refl _) hlow).size
      rw [padV_succ] at hrow2
      replace hrow2 := Lib.hid hrow2
      clear hS hC hrow hB2 hmod hmod2
      go_wp2
      go_round
      case rel => exact ⟨j + 1, g2, cap2, by omega, by rw [hn2.out], hrow2, hlow2, hS2, hC2⟩
      case measure => show _ - (n + 1) < _ - n; have := hn.out; omega
    · obtain rfl : j = padN l.length := by omega
      have hxl0 := padV_len l (padN l.length)
      have hend := padN_end l.length
      obtain ⟨n, hn⟩ : ∃ n, l.length + 1 + padN l.length = n := ⟨_, rfl⟩
      rw [hn] at hend hxl0 ⊢
      have hnm : n ≤ 1048576 + 64 := by omega
      have hmod : (n : Int).tmod 64 = 56 := by have := Int.tmod_eq_emod_of_nonneg (a := (n : Int)) (b := 64) (by omega); omega
      have hmod2 : (n : Int) % 64 = 56 := by omega
      have hnI : (n : Int) ≤ 1048640 := by omega
      have hlI : (l.length : Int) ≤ 1048576 := by omega
      replace hn := Lib.hid hn
      replace hend := Lib.hid hend
      go_wp2
      go_loopw [4, 6] (fun dv sv wr => ∃ m g cap, m ≤ 8 ∧ sv = .int .i64 (56 - 8 * (m : Nat) : Int) ∧ dv = .slice (some ⟨g, 0, none⟩) (n + m) cap ∧ Hid (RowV wr 5 lo g cap (padV l (padN l.length) ++ ((lenB l.length).map bV).take m)) ∧ lo ≤ wr.heap.size ∧ Hid (RowW wr sb initS.list) ∧ Below w.heap.size w wr) (fun dv _ _ => match dv with | .slice _ k _ => n + 8 - k | _ => 0)
      case atStart => exact ⟨0, g, cap, by omega, rfl, rfl, by simpa using hrow, hlow, hS, hC⟩
      case round =>
        clear hS hrow hC hlow hmod hmod2
        obtain ⟨m, g, cap, hm8, hsv, rfl, hrow, hlow, hS, hC⟩ := hrel
        have hcs : m = 0 ∨ m = 1 ∨ m = 2 ∨ m = 3 ∨ m = 4 ∨ m = 5 ∨ m = 6 ∨ m = 7 ∨ m = 8 := by omega
        rcases hcs with rfl | rfl | rfl | rfl | rfl | rfl | rfl | rfl | rfl
        · obtain rfl : _ = Value.int .i64 56 := hsv
          have hxl : (padV l (padN l.length) ++ ((lenB l.length).map bV).take 0).length = n + 0 := by rw [List.length_append, hxl0, List.length_take]; simp [lenB_len]
          have hv : ((l.length : Int) * 8 / 72057594037927936 % 256) = ((UInt8.ofNat (l.length * 8 / 2 ^ 56)).toNat : Int) := by have := byte_shr (l.length * 8) 56; simp at this ⊢; try exact this
          have hv2 : ((l.length : Int) * 8 / 72057594037927936) = ((UInt8.ofNat (l.length * 8 / 2 ^ 56)).toNat : Int) := by rw [← hv]; omega
          obtain ⟨v, hve⟩ : ∃ v, UInt8.ofNat (l.length * 8 / 2 ^ 56) = v := ⟨_, rfl⟩
          rw [hve] at hv hv2
          have hsn : ((lenB l.length).map bV).take 0 ++ [.int .u8 (v.toNat : Int)] = ((lenB l.length).map bV).take 1 := by rw [← hve]; exact takeV_snoc rfl
          clear hve
          replace hsn := Lib.hid hsn
          go_wp2_with (at_builtin; refine wp_here ?_)
          refine Lib.hid ?_
          refine wpList_push1 rfl _ _ 24 rfl _ 5 i0 (.int .u8 0) 1 Tryd.underlying24 hi0 hz0 hz1 hz2 rfl lo _ _ _ hrow.out _ (hxl).symm rfl 1 1 [.int .u8 (v.toNat : Int)] _ rfl rfl rfl ?h1_4 ?h63_4 ?hb_4 ?hlo_4 ?hk_4
          case h1_4 => intro u hu; simp only [List.mem_singleton] at hu; subst hu; rfl
          case h63_4 => rw [hxl]; simp only [List.length_singleton]; omega
          case hb_4 => decide
          case hlo_4 => exact hlow
          intro g2 cap2 w2 hrow2 hB2
          rw [hxl]
          have hS2 := Lib.hid (hS.out.below (hB2 lo (Nat.le_refl _) hlow) hsl)
          have hC2 := hC.trans (hB2 w.heap.size (by have := hsw.out; omega) hC.size)
          have hlow2 : lo ≤ w2.heap.size := Nat.le_trans hlow (hB2 lo (Nat.le_refl _) hlow).size
          rw [List.append_assoc, hsn.out] at hrow2
          replace hrow2 := Lib.hid hrow2
          clear hS hC hrow hB2 hv
          go_wp2
          go_round
          case rel => exact ⟨1, g2, cap2, by omega, rfl, rfl, hrow2, hlow2, hS2, hC2⟩
          case measure => show _ - (n + 0 + 1) < _ - (n + 0); omega
        · obtain rfl : _ = Value.int .i64 48 := hsv
          have hxl : (padV l (padN l.length) ++ ((lenB l.length).map bV).take 1).length = n + 1 := by rw [List.length_append, hxl0, List.length_take]; simp [lenB_len]
          have hv : ((l.length : Int) * 8 / 281474976710656 % 256) = ((UInt8.ofNat (l.length * 8 / 2 ^ 48)).toNat : Int) := by have := byte_shr (l.length * 8) 48; simp at this ⊢; try exact this
          have hv2 : ((l.length : Int) * 8 / 281474976710656) = ((UInt8.ofNat (l.length * 8 / 2 ^ 48)).toNat : Int) := by rw [← hv]; omega
          obtain ⟨v, hve⟩ : ∃ v, UInt8.ofNat (l.length * 8 / 2 ^ 48) = v := ⟨_, rfl⟩
          rw [hve] at hv hv2
          have hsn : ((lenB l.length).map bV).take 1 ++ [.int .u8 (v.toNat : Int)] = ((lenB l.length).map bV).take 2 := by rw [← hve]; exact takeV_snoc rfl
          clear hve
          replace hsn := Lib.hid hsn
          go_wp2_with (at_builtin; refine wp_here ?_)
          refine Lib.hid ?_
          refine wpList_push1 rfl _ _ 24 rfl _ 5 i0 (.int .u8 0) 1 Tryd.underlying24 hi0 hz0 hz1 hz2 rfl lo _ _ _ hrow.out _ (hxl).symm rfl 1 1 [.int .u8 (v.toNat : Int)] _ rfl rfl rfl ?h1_5 ?h63_5 ?hb_5 ?hlo_5 ?hk_5
          case h1_5 => intro u hu; simp only [List.mem_singleton] at hu; subst hu; rfl
          case h63_5 => rw [hxl]; simp only [List.length_singleton]; omega
          case hb_5 => decide
          case hlo_5 => exact hlow
          intro g2 cap2 w2 hrow2 hB2
          rw [hxl]
          have hS2 := Lib.hid (hS.out.below (hB2 lo (Nat.le_refl _) hlow) hsl)
          have hC2 := hC.trans (hB2 w.heap.size (by have := hsw.out; omega) hC.size)
          have hlow2 : lo ≤ w2.heap.size := Nat.le_trans hlow (hB2 lo (Nat.le_refl _) hlow).size
          rw [List.append_assoc, hsn.out] at hrow2
          replace hrow2 := Lib.hid hrow2
          clear hS hC hrow hB2 hv
          go_wp2
          go_round
          case rel => exact ⟨2, g2, cap2, by omega, rfl, rfl, hrow2, hlow2, hS2, hC2⟩
          case measure => show _ - (n + 1 + 1) < _ - (n + 1); omega
        · obtain rfl : _ = Value.int .i64 40 := hsv
          have hxl : (padV l (padN l.length) ++ ((lenB l.length).map bV).take 2).length = n + 2 := by rw [List.length_append, hxl0, List.length_take]; simp [lenB_len]
          have hv : ((l.length : Int) * 8 / 1099511627776 % 256) = ((UInt8.ofNat (l.length * 8 / 2 ^ 40)).toNat : Int) := by have := byte_shr (l.length * 8) 40; simp at this ⊢; try exact this
          have hv2 : ((l.length : Int) * 8 / 1099511627776) = ((UInt8.ofNat (l.length * 8 / 2 ^ 40)).toNat : Int) := by rw [← hv]; omega
          obtain ⟨v, hve⟩ : ∃ v, UInt8.ofNat (l.length * 8 / 2 ^ 40) = v := ⟨_, rfl⟩
          rw [hve] at hv hv2
          have hsn : ((lenB l.length).map bV).take 2 ++ [.int .u8 (v.toNat : Int)] = ((lenB l.length).map bV).take 3 := by rw [← hve]; exact takeV_snoc rfl
          clear hve
          replace hsn := Lib.hid hsn
          go_wp2_with (at_builtin; refine wp_here ?_)
          refine Lib.hid ?_
          refine wpList_push1 rfl _ _ 24 rfl _ 5 i0 (.int .u8 0) 1 Tryd.underlying24 hi0 hz0 hz1 hz2 rfl lo _ _ _ hrow.out _ (hxl).symm rfl 1 1 [.int .u8 (v.toNat : Int)] _ rfl rfl rfl ?h1_6 ?h63_6 ?hb_6 ?hlo_6 ?hk_6
          case h1_6 => intro u hu; simp only [List.mem_singleton] at hu; subst hu; rfl
          case h63_6 => rw [hxl]; simp only [List.length_singleton]; omega
          case hb_6 => decide
          case hlo_6 => exact hlow
          intro g2 cap2 w2 hrow2 hB2
          rw [hxl]
          have hS2 := Lib.hid (hS.out.below (hB2 lo (Nat.le_refl _) hlow) hsl)
          have hC2 := hC.trans (hB2 w.heap.size (by have := hsw.out; omega) hC.size)
          have hlow2 : lo ≤ w2.heap.size := Nat.le_trans hlow (hB2 lo (Nat.le_refl _) hlow).size
          rw [List.append_assoc, hsn.out] at hrow2
          replace hrow2 := Lib.hid hrow2
          clear hS hC hrow hB2 hv
          go_wp2
          go_round
          case rel => exact ⟨3, g2, cap2, by omega, rfl, rfl, hrow2, hlow2, hS2, hC2⟩
          case measure => show _ - (n + 2 + 1) < _ - (n + 2); omega
        · obtain rfl : _ = Value.int .i64 32 := hsv
          have hxl : (padV l (padN l.length) ++ ((lenB l.length).map bV).take 3).length = n + 3 := by rw [List.length_append, hxl0, List.length_take]; simp [lenB_len]
          have hv : ((l.length : Int) * 8 / 4294967296 % 256) = ((UInt8.ofNat (l.length * 8 / 2 ^ 32)).toNat : Int) := by have := byte_shr (l.length * 8) 32; simp at this ⊢; try exact this
          have hv2 : ((l.length : Int) * 8 / 4294967296) = ((UInt8.ofNat (l.length * 8 / 2 ^ 32)).toNat : Int) := by rw [← hv]; omega
          obtain ⟨v, hve⟩ : ∃ v, UInt8.ofNat (l.length * 8 / 2 ^ 32) = v := ⟨_, rfl⟩
          rw [hve] at hv hv2
          have hsn : ((lenB l.length).map bV).take 3 ++ [.int .u8 (v.toNat : Int)] = ((lenB l.length).map bV).take 4 := by rw [← hve]; exact takeV_snoc rfl
          clear hve
          replace hsn := Lib.hid hsn
          go_wp2_with (at_builtin; refine wp_here ?_)
          refine Lib.hid ?_
          refine wpList_push1 rfl _ _ 24 rfl _ 5 i0 (.int .u8 0) 1 Tryd.underlying24 hi0 hz0 hz1 hz2 rfl lo _ _ _ hrow.out _ (hxl).symm rfl 1 1 [.int .u8 (v.toNat : Int)] _ rfl rfl rfl ?h1_7 ?h63_7 ?hb_7 ?hlo_7 ?hk_7
          case h1_7 => intro u hu; simp only [List.mem_singleton] at hu; subst hu; rfl
          case h63_7 => rw [hxl]; simp only [List.length_singleton]; omega
          case hb_7 => decide
          case hlo_7 => exact hlow
          intro g2 cap2 w2 hrow2 hB2
          rw [hxl]
          have hS2 := Lib.hid (hS.out.below (hB2 lo (Nat.le_refl _) hlow) hsl)
          have hC2 := hC.trans (hB2 w.heap.size (by have := hsw.out; omega) hC.size)
          have hlow2 : lo ≤ w2.heap.size := Nat.le_trans hlow (hB2 lo (Nat.le_refl _) hlow).size
          rw [List.append_assoc, hsn.out] at hrow2
          replace hrow2 := Lib.hid hrow2
          clear hS hC hrow hB2 hv
          go_wp2
          go_round
          case rel => exact ⟨4, g2, cap2, by omega, rfl, rfl, hrow2, hlow2, hS2, hC2⟩
          case measure => show _ - (n + 3 + 1) < _ - (n + 3); omega
        · obtain rfl : _ = Value.int .i64 24 := hsv
          have hxl : (padV l (padN l.length) ++ ((lenB l.length).map bV).take 4).length = n + 4 := by rw [List.length_append, hxl0, List.length_take]; simp [lenB_len]
          have hv : ((l.length : Int) * 8 / 16777216 % 256) = ((UInt8.ofNat (l.length * 8 / 2 ^ 24)).toNat : Int) := by have := byte_shr (l.length * 8) 24; simp at this ⊢; try exact this
          have hv2 : ((l.length : Int) * 8 / 16777216) = ((UInt8.ofNat (l.length * 8 / 2 ^ 24)).toNat : Int) := by rw [← hv]; omega
          obtain ⟨v, hve⟩ : ∃ v, UInt8.ofNat (l.length * 8 / 2 ^ 24) = v := ⟨_, rfl⟩
          rw [hve] at hv hv2
          have hsn : ((lenB l.length).map bV).take 4 ++ [.int .u8 (v.toNat : Int)] = ((lenB l.length).map bV).take 5 := by rw [← hve]; exact takeV_snoc rfl
          clear hve
          replace hsn := Lib.hid hsn
          go_wp2_with (at_builtin; refine wp_here ?_)
          refine Lib.hid ?_
          refine wpList_push1 rfl _ _ 24 rfl _ 5 i0 (.int .u8 0) 1 Tryd.underlying24 hi0 hz0 hz1 hz2 rfl lo _ _ _ hrow.out _ (hxl).symm rfl 1 1 [.int .u8 (v.toNat : Int)] _ rfl rfl rfl ?h1_8 ?h63_8 ?hb_8 ?hlo_8 ?hk_8
          case h1_8 => intro u hu; simp only [List.mem_singleton] at hu; subst hu; rfl
          case h63_8 => rw [hxl]; simp only [List.length_singleton]; omega
          case hb_8 => decide
          case hlo_8 => exact hlow
          intro g2 cap2 w2 hrow2 hB2
          rw [hxl]
          have hS2 := Lib.hid (hS.out.below (hB2 lo (Nat.le_refl _) hlow) hsl)
          have hC2 := hC.trans (hB2 w.heap.size (by have := hsw.out; omega) hC.size)
          have hlow2 : lo ≤ w2.heap.size := Nat.le_trans hlow (hB2 lo (Nat.le_refl _) hlow).size
          rw [List.append_assoc, hsn.out] at hrow2
          replace hrow2 := Lib.hid hrow2
          clear hS hC hrow hB2 hv
          go_wp2
          go_round
          case rel => exact ⟨5, g2, cap2, by omega, rfl, rfl, hrow2, hlow2, hS2, hC2⟩
          case measure => show _ - (n + 4 + 1) < _ - (n + 4); omega
        · obtain rfl : _ = Value.int .i64 16 := hsv
          have hxl : (padV l (padN l.length) ++ ((lenB l.length).map bV).take 5).length = n + 5 := by rw [List.length_append, hxl0, List.length_take]; simp [lenB_len]
          have hv : ((l.length : Int) * 8 / 65536 % 256) = ((UInt8.ofNat (l.length * 8 / 2 ^ 16)).toNat : Int) := by have := byte_shr (l.length * 8) 16; simp at this ⊢; try exact this
          have hv2 : ((l.length : Int) * 8 / 65536) = ((UInt8.ofNat (l.length * 8 / 2 ^ 16)).toNat : Int) := by rw [← hv]; omega
          obtain ⟨v, hve⟩ : ∃ v, UInt8.ofNat (l.length * 8 / 2 ^ 16) = v := ⟨_, rfl⟩
          rw [hve] at hv hv2
          have hsn : ((lenB l.length).map bV).take 5 ++ [.int .u8 (v.toNat : Int)] = ((lenB l.length).map bV).take 6 := by rw [← hve]; exact takeV_snoc rfl
          clear hve
          replace hsn := Lib.hid hsn
          go_wp2_with (at_builtin; refine wp_here ?_)
          refine Lib.hid ?_
          refine wpList_push1 rfl _ _ 24 rfl _ 5 i0 (.int .u8 0) 1 Tryd.underlying24 hi0 hz0 hz1 hz2 rfl lo _ _ _ hrow.out _ (hxl).symm rfl 1 1 [.int .u8 (v.toNat : Int)] _ rfl rfl rfl ?h1_9 ?h63_9 ?hb_9 ?hlo_9 ?hk_9
          case h1_9 => intro u hu; simp only [List.mem_singleton] at hu; subst hu; rfl
          case h63_9 => rw [hxl]; simp only [List.length_singleton]; omega
          case hb_9 => decide
          case hlo_9 => exact hlow
          intro g2 cap2 w2 hrow2 hB2
          rw [hxl]
          have hS2 := Lib.hid (hS.out.below (hB2 lo (Nat.le_refl _) hlow) hsl)
          have hC2 := hC.trans (hB2 w.heap.size (by have := hsw.out; omega) hC.size)
          have hlow2 : lo ≤ w2.heap.size := Nat.le_trans hlow (hB2 lo (Nat.le_refl _) hlow).size
          rw [List.append_assoc, hsn.out] at hrow2
          replace hrow2 := Lib.hid hrow2
          clear hS hC hrow hB2 hv
          go_wp2
          go_round
          case rel => exact ⟨6, g2, cap2, by omega, rfl, rfl, hrow2, hlow2, hS2, hC2⟩
          case measure => show _ - (n + 5 + 1) < _ - (n + 5); omega
        · obtain rfl : _ = Value.int .i64 8 := hsv
          have hxl : (padV l (padN l.length) ++ ((lenB l.length).map bV).take 6).length = n + 6 := by rw [List.length_append, hxl0, List.length_take]; simp [lenB_len]
          have hv : ((l.length : Int) * 8 / 256 % 256) = ((UInt8.ofNat (l.length * 8 / 2 ^ 8)).toNat : Int) := by have := byte_shr (l.length * 8) 8; simp at this ⊢; try exact this
          obtain ⟨v, hve⟩ : ∃ v, UInt8.ofNat (l.length * 8 / 2 ^ 8) = v := ⟨_, rfl⟩
          rw [hve] at hv
          have hsn : ((lenB l.length).map bV).take 6 ++ [.int .u8 (v.toNat : Int)] = ((lenB l.length).map bV).take 7 := by rw [← hve]; exact takeV_snoc rfl
          clear hve
          replace hsn := Lib.hid hsn
          go_wp2_with (at_builtin; refine wp_here ?_)
          refine Lib.hid ?_
          refine wpList_push1 rfl _ _ 24 rfl _ 5 i0 (.int .u8 0) 1 Tryd.underlying24 hi0 hz0 hz1 hz2 rfl lo _ _ _ hrow.out _ (hxl).symm rfl 1 1 [.int .u8 (v.toNat : Int)] _ rfl rfl rfl ?h1_10 ?h63_10 ?hb_10 ?hlo_10 ?hk_10
          case h1_10 => intro u hu; simp only [List.mem_singleton] at hu; subst hu; rfl
          case h63_10 => rw [hxl]; simp only [List.length_singleton]; omega
          case hb_10 => decide
          case hlo_10 => exact hlow
          intro g2 cap2 w2 hrow2 hB2
          rw [hxl]
          have hS2 := Lib.hid (hS.out.below (hB2 lo (Nat.le_refl _) hlow) hsl)
          have hC2 := hC.trans (hB2 w.heap.size (by have := hsw.out; omega) hC.size)
          have hlow2 : lo ≤ w2.heap.size := Nat.le_trans hlow (hB2 lo (Nat.le_refl _) hlow).size
          rw [List.append_assoc, hsn.out] at hrow2
          replace hrow2 := Lib.hid hrow2
          clear hS hC hrow hB2 hv
          go_wp2
          go_round
          case rel => exact ⟨7, g2, cap2, by omega, rfl, rfl, hrow2, hlow2, hS2, hC2⟩
          case measure => show _ - (n + 6 + 1) < _ - (n + 6); omega
        · obtain rfl : _ = Value.int .i64 0 := hsv
          have hxl : (padV l (padN l.length) ++ ((lenB l.length).map bV).take 7).length = n + 7 := by rw [List.length_append, hxl0, List.length_take]; simp [lenB_len]
          have hv : ((l.length : Int) * 8 % 256) = ((UInt8.ofNat (l.length * 8 / 2 ^ 0)).toNat : Int) := by have := byte_shr (l.length * 8) 0; simp at this ⊢; try exact this
          obtain ⟨v, hve⟩ : ∃ v, UInt8.ofNat (l.length * 8 / 2 ^ 0) = v := ⟨_, rfl⟩
          rw [hve] at hv
          have hsn : ((lenB l.length).map bV).take 7 ++ [.int .u8 (v.toNat : Int)] = ((lenB l.length).map bV).take 8 := by rw [← hve]; exact takeV_snoc rfl
          clear hve
          replace hsn := Lib.hid hsn
          go_wp2_with (at_builtin; refine wp_here ?_)
          refine Lib.hid ?_
          refine wpList_push1 rfl _ _ 24 rfl _ 5 i0 (.int .u8 0) 1 Tryd.underlying24 hi0 hz0 hz1 hz2 rfl lo _ _ _ hrow.out _ (hxl).symm rfl 1 1 [.int .u8 (v.toNat : Int)] _ rfl rfl rfl ?h1_11 ?h63_11 ?hb_11 ?hlo_11 ?hk_11
          case h1_11 => intro u hu; simp only [List.mem_singleton] at hu; subst hu; rfl
          case h63_11 => rw [hxl]; simp only [List.length_singleton]; omega
          case hb_11 => decide
          case hlo_11 => exact hlow
          intro g2 cap2 w2 hrow2 hB2
          rw [hxl]
          have hS2 := Lib.hid (hS.out.below (hB2 lo (Nat.le_refl _) hlow) hsl)
          have hC2 := hC.trans (hB2 w.heap.size (by have := hsw.out; omega) hC.size)
          have hlow2 : lo ≤ w2.heap.size := Nat.le_trans hlow (hB2 lo (Nat.le_refl _) hlow).size
          rw [List.append_assoc, hsn.out] at hrow2
          replace hrow2 := Lib.hid hrow2
          clear hS hC hrow hB2 hv
          go_wp2
          go_round
          case rel => exact ⟨8, g2, cap2, by omega, rfl, rfl, hrow2, hlow2, hS2, hC2⟩
          case measure => show _ - (n + 7 + 1) < _ - (n + 7); omega
        · obtain rfl : _ = Value.int .i64 (-8) := hsv
          rw [padded_map] at hrow
          have hpl := padded_len l
          have hpb := padded_blocks l
          rw [hn.out] at hpl
          obtain ⟨D, hD⟩ : ∃ D, padded l = D := ⟨_, rfl⟩
          obtain ⟨N, hN⟩ : ∃ N, D.length / 64 = N := ⟨_, rfl⟩
          rw [hD] at hrow hpl hpb
          rw [hN] at hpb
          have hsum : sumS l = stAt D N := by unfold sumS; rw [hD, hN]
          rw [← hpl]
          have hN2 : N ≤ 17000 := by omega
          have hDI : (D.length : Int) = 64 * (N : Int) := by omega
          have hpl16 : D.length ≤ 1048648 := by omega
          replace hpl := Lib.hid hpl
          replace hpb := Lib.hid hpb
          replace hrow := Lib.hid hrow
          replace hsum := Lib.hid hsum
          replace hD := Lib.hid hD
          replace hN := Lib.hid hN
          go_wp2
          go_loopw [7] (fun iv wr => ∃ k : Nat, k ≤ N ∧ iv = .int .i64 (64 * (k : Int)) ∧ Hid (RowV wr 5 lo g cap (D.map bV)) ∧ lo ≤ wr.heap.size ∧ Hid (RowW wr sb (stAt D k).list) ∧ Below w.heap.size w wr) (fun iv _ => 64 * N - (intOf iv).toNat)
          case atStart => exact ⟨0, by omega, rfl, hrow, hlow, hS, hC⟩
          case round =>
            clear hS hrow hC hlow
            obtain ⟨k, hk, rfl, hrow, hlow, hS, hC⟩ := hrel
            by_cases hlt : k < N
            · have hkI : 64 * (k : Int) < (D.length : Int) := by omega
              obtain ⟨s, hs⟩ : ∃ s, stAt D k = s := ⟨_, rfl⟩
              rw [hs] at hS
              have hnx : stAt D (k + 1) = blk s (blockAt D k) := by rw [← hs]; rfl
              clear hs
              replace hS := Lib.hid hS.out
              have hc0 := hS.out.cell (k := 0) (show (_ : Nat) < 8 by decide)
              have hc1 := hS.out.cell (k := 1) (show (_ : Nat) < 8 by decide)
              have hc2 := hS.out.cell (k := 2) (show (_ : Nat) < 8 by decide)
              have hc3 := hS.out.cell (k := 3) (show (_ : Nat) < 8 by decide)
              have hc4 := hS.out.cell (k := 4) (show (_ : Nat) < 8 by decide)
              have hc5 := hS.out.cell (k := 5) (show (_ : Nat) < 8 by decide)
              have hc6 := hS.out.cell (k := 6) (show (_ : Nat) < 8 by decide)
              have hc7 := hS.out.cell (k := 7) (show (_ : Nat) < 8 by decide)
              simp only [S8.list, List.getD_cons_zero, List.getD_cons_succ] at hc0 hc1 hc2 hc3 hc4 hc5 hc6 hc7
              have hcap : D.length ≤ cap := by have := hrow.out.2.1; simpa using this
              have hbl : (blockAt D k).length = 64 := by have := hpb.out; unfold blockAt; rw [List.length_take, List.length_drop]; omega
              have hBA : BAt wr g (64 * k) (blockAt D k) := by
                refine ⟨hrow.out.lt, fun j hj => ?_⟩
                have hpbo := hpb.out
                have h2 := hrow.out.cell (j := 64 * k + j) (by rw [List.length_map]; omega)
                rw [h2, List.getElem_map]
                simp [blockAt, bV]
              have hcm : 64 * k + (cap - 64 * k) ≤ maxLen := by have := hrow.out.2.2.1; omega
              have hpbo := hpb.out
              have hbk := sumBlock_any s (blockAt D k) g (64 * k) (cap - 64 * k) wr.drew hbl (by omega) hcm (show BAt wr.drew g (64 * k) (blockAt D k) from hBA) (show KAt wr.drew from KAt.below hKh.out hC.drew)
              obtain ⟨z, hz⟩ : ∃ z, blk s (blockAt D k) = z := ⟨_, rfl⟩
              rw [hz] at hbk hnx
              clear hz
              have hcap64 : 64 * k + 64 ≤ cap := by omega
              clear hpbo
              replace hnx := Lib.hid hnx
              replace hBA := Lib.hid hBA
              replace hbk := Lib.hid hbk
              have hcI : 64 * (k : Int) + 64 ≤ (cap : Int) := by omega
              have hwr : IntKind.i64.wrap (64 * (k : Int) + 64) = 64 * (k : Int) + 64 := wrap_small _ (by omega) (by omega)
              have e1 : (64 * (k : Int)).toNat = 64 * k := by omega
              have e2 : (64 * (k : Int) + 64).toNat - 64 * k = 64 := by omega
              have hkI2 : (k : Int) ≤ 17000 := by omega
              go_wp2_with fail
              first | refine wp_region_noPanic ?_ | skip
              refine wp_region_held_drew (S := (fun _ => True)) (by kernel_rfl) ?_ (fun hHeld => ?_)
              · trivial
              refine wpAnyH_take (i := 1) (v := ?_) rfl (by kernel_rfl) (by kernel_rfl) (by kernel_rfl) (fun _ _ _ h => h) (Or.inl ⟨by rfl, ?_⟩) (by assumption) ?_
              rotate_left
              · (intro w hSw; (try dsimp only at hSw); go_simp; try with_reducible rfl)
              try simp only [Array.reduceGetElem, Act.put, List.setIfInBounds_toArray, List.set_cons_zero, List.set_cons_succ]
              refine wpAnyH_take (i := 2) (v := ?_) rfl (by kernel_rfl) (by kernel_rfl) (by kernel_rfl) (fun _ _ _ h => h) (Or.inl ⟨by rfl, ?_⟩) (by assumption) ?_
              rotate_left
              · (intro w hSw; (try dsimp only at hSw); go_simp; try with_reducible rfl)
              try simp only [Array.reduceGetElem, Act.put, List.setIfInBounds_toArray, List.set_cons_zero, List.set_cons_succ]
              refine wpAnyH_take (i := 3) (v := ?_) rfl (by kernel_rfl) (by kernel_rfl) (by kernel_rfl) (fun _ _ _ h => h) (Or.inl ⟨by rfl, ?_⟩) (by assumption) ?_
              rotate_left
              · (intro w hSw; (try dsimp only at hSw); go_simp; try with_reducible rfl)
              try simp only [Array.reduceGetElem, Act.put, List.setIfInBounds_toArray, List.set_cons_zero, List.set_cons_succ]
              refine wpAnyH_take (i := 4) (v := .int .i64 (64 * (k : Int) + 64)) rfl (by kernel_rfl) (by kernel_rfl) (by kernel_rfl) (fun _ _ _ h => h) (Or.inl ⟨by rfl, ?_⟩) (by assumption) ?_
              · (intro w hSw; (try dsimp only at hSw); go_simp; try rw [hwr])
              try simp only [Array.reduceGetElem, Act.put, List.setIfInBounds_toArray, List.set_cons_zero, List.set_cons_succ]
              refine wpAnyH_take (i := 5) (v := .slice (some ⟨g, 64 * k, none⟩) 64 (cap - 64 * k)) rfl (by kernel_rfl) (by kernel_rfl) (by kernel_rfl) (fun _ _ _ h => h) (Or.inl ⟨by rfl, ?_⟩) (by assumption) ?_
              · (intro w hSw; (try dsimp only at hSw); go_simp; first | done | rfl | (rw [if_pos (by omega), if_pos (by omega), if_neg (by omega)]; done) | (rw [if_pos (by omega), if_pos (by omega), if_neg (by omega)]; rfl))
              try simp only [Array.reduceGetElem, Act.put, List.setIfInBounds_toArray, List.set_cons_zero, List.set_cons_succ]
              refine wpAnyH_ready (rs := [0]) (by kernel_rfl) (by simp) ?_
              refine AllReadyH.cons rfl (fun K hK => ?_) AllReadyH.nil
              go_simp
              refine hK.out _ _ ?_ (fun hHeld => ?_)
              · (try dsimp only); all_goals trivial
              clear hK K
              try simp only [Array.reduceGetElem, Act.put, List.setIfInBounds_toArray, List.set_cons_zero, List.set_cons_succ]
              refine wpAnyH_ready (rs := [6]) (by kernel_rfl) (by simp) ?_
              refine AllReadyH.cons rfl (fun K hK => ?_) AllReadyH.nil
              go_simp
              refine (hbk.out).mono ?_
              rintro e w5 ⟨rfl, hB5⟩
              have hB5' : Below wr.heap.size wr w5 := (Below.refl wr.heap.size wr).drew.trans hB5
              clear hB5
              have hS5 : RowW w5 sb s.list := hS.out.below hB5' hS.out.lt
              have hrow5 := Lib.hid (hrow.out.below hB5' hrow.out.lt)
              have hC5 := hC.trans (hB5'.mono hC.size)
              have hsb0 : w.heap.size ≤ sb := by have := hsw.out; omega
              have hgs : sb ≠ g := by have := hrow.out.1; omega
              have hd0 := hS5.cell (k := 0) (show (_ : Nat) < 8 by decide)
              have hd1 := hS5.cell (k := 1) (show (_ : Nat) < 8 by decide)
              have hd2 := hS5.cell (k := 2) (show (_ : Nat) < 8 by decide)
              have hd3 := hS5.cell (k := 3) (show (_ : Nat) < 8 by decide)
              have hd4 := hS5.cell (k := 4) (show (_ : Nat) < 8 by decide)
              have hd5 := hS5.cell (k := 5) (show (_ : Nat) < 8 by decide)
              have hd6 := hS5.cell (k := 6) (show (_ : Nat) < 8 by decide)
              have hd7 := hS5.cell (k := 7) (show (_ : Nat) < 8 by decide)
              have hfr := fun k => hS5.free k
              have hf0 := hfr 0
              have hf1 := hfr 1
              have hf2 := hfr 2
              have hf3 := hfr 3
              have hf4 := hfr 4
              have hf5 := hfr 5
              have hf6 := hfr 6
              have hf7 := hfr 7
              clear hfr
              have hF : RowW ((((((((w5.setCell ⟨sb, 0, none⟩ (.int .u32 (z.a.toNat : Int))).setCell ⟨sb, 1, none⟩ (.int .u32 (z.b.toNat : Int))).setCell ⟨sb, 2, none⟩ (.int .u32 (z.c.toNat : Int))).setCell ⟨sb, 3, none⟩ (.int .u32 (z.d.toNat : Int))).setCell ⟨sb, 4, none⟩ (.int .u32 (z.e.toNat : Int))).setCell ⟨sb, 5, none⟩ (.int .u32 (z.f.toNat : Int))).setCell ⟨sb, 6, none⟩ (.int .u32 (z.g.toNat : Int))).setCell ⟨sb, 7, none⟩ (.int .u32 (z.h.toNat : Int))) sb (stAt D (k + 1)).list := by rw [hnx.out]; exact (RowW.set (RowW.set (RowW.set (RowW.set (RowW.set (RowW.set (RowW.set (RowW.set hS5 (k := 0) (show (_ : Nat) < 8 by decide) z.a) (k := 1) (show (_ : Nat) < 8 by decide) z.b) (k := 2) (show (_ : Nat) < 8 by decide) z.c) (k := 3) (show (_ : Nat) < 8 by decide) z.d) (k := 4) (show (_ : Nat) < 8 by decide) z.e) (k := 5) (show (_ : Nat) < 8 by decide) z.f) (k := 6) (show (_ : Nat) < 8 by decide) z.g) (k := 7) (show (_ : Nat) < 8 by decide) z.h)
              have hCF : Below w.heap.size w ((((((((w5.setCell ⟨sb, 0, none⟩ (.int .u32 (z.a.toNat : Int))).setCell ⟨sb, 1, none⟩ (.int .u32 (z.b.toNat : Int))).setCell ⟨sb, 2, none⟩ (.int .u32 (z.c.toNat : Int))).setCell ⟨sb, 3, none⟩ (.int .u32 (z.d.toNat : Int))).setCell ⟨sb, 4, none⟩ (.int .u32 (z.e.toNat : Int))).setCell ⟨sb, 5, none⟩ (.int .u32 (z.f.toNat : Int))).setCell ⟨sb, 6, none⟩ (.int .u32 (z.g.toNat : Int))).setCell ⟨sb, 7, none⟩ (.int .u32 (z.h.toNat : Int))) := (Below.setCell (Below.setCell (Below.setCell (Below.setCell (Below.setCell (Below.setCell (Below.setCell (Below.setCell hC5 (p := ⟨sb, 0, none⟩) hsb0 (.int .u32 (z.a.toNat : Int))) (p := ⟨sb, 1, none⟩) hsb0 (.int .u32 (z.b.toNat : Int))) (p := ⟨sb, 2, none⟩) hsb0 (.int .u32 (z.c.toNat : Int))) (p := ⟨sb, 3, none⟩) hsb0 (.int .u32 (z.d.toNat : Int))) (p := ⟨sb, 4, none⟩) hsb0 (.int .u32 (z.e.toNat : Int))) (p := ⟨sb, 5, none⟩) hsb0 (.int .u32 (z.f.toNat : Int))) (p := ⟨sb, 6, none⟩) hsb0 (.int .u32 (z.g.toNat : Int))) (p := ⟨sb, 7, none⟩) hsb0 (.int .u32 (z.h.toNat : Int)))
              have hRF : RowV ((((((((w5.setCell ⟨sb, 0, none⟩ (.int .u32 (z.a.toNat : Int))).setCell ⟨sb, 1, none⟩ (.int .u32 (z.b.toNat : Int))).setCell ⟨sb, 2, none⟩ (.int .u32 (z.c.toNat : Int))).setCell ⟨sb, 3, none⟩ (.int .u32 (z.d.toNat : Int))).setCell ⟨sb, 4, none⟩ (.int .u32 (z.e.toNat : Int))).setCell ⟨sb, 5, none⟩ (.int .u32 (z.f.toNat : Int))).setCell ⟨sb, 6, none⟩ (.int .u32 (z.g.toNat : Int))).setCell ⟨sb, 7, none⟩ (.int .u32 (z.h.toNat : Int))) 5 lo g cap (D.map bV) := (RowV.other (RowV.other (RowV.other (RowV.other (RowV.other (RowV.other (RowV.other (RowV.other hrow5.out (p := ⟨sb, 0, none⟩) hgs (.int .u32 (z.a.toNat : Int))) (p := ⟨sb, 1, none⟩) hgs (.int .u32 (z.b.toNat : Int))) (p := ⟨sb, 2, none⟩) hgs (.int .u32 (z.c.toNat : Int))) (p := ⟨sb, 3, none⟩) hgs (.int .u32 (z.d.toNat : Int))) (p := ⟨sb, 4, none⟩) hgs (.int .u32 (z.e.toNat : Int))) (p := ⟨sb, 5, none⟩) hgs (.int .u32 (z.f.toNat : Int))) (p := ⟨sb, 6, none⟩) hgs (.int .u32 (z.g.toNat : Int))) (p := ⟨sb, 7, none⟩) hgs (.int .u32 (z.h.toNat : Int)))
              have hlF : lo ≤ ((((((((w5.setCell ⟨sb, 0, none⟩ (.int .u32 (z.a.toNat : Int))).setCell ⟨sb, 1, none⟩ (.int .u32 (z.b.toNat : Int))).setCell ⟨sb, 2, none⟩ (.int .u32 (z.c.toNat : Int))).setCell ⟨sb, 3, none⟩ (.int .u32 (z.d.toNat : Int))).setCell ⟨sb, 4, none⟩ (.int .u32 (z.e.toNat : Int))).setCell ⟨sb, 5, none⟩ (.int .u32 (z.f.toNat : Int))).setCell ⟨sb, 6, none⟩ (.int .u32 (z.g.toNat : Int))).setCell ⟨sb, 7, none⟩ (.int .u32 (z.h.toNat : Int))).heap.size := by simp only [size_setCell]; exact Nat.le_trans hlow hB5'.size
              replace hF := Lib.hid hF
              replace hRF := Lib.hid hRF
              replace hlF := Lib.hid hlF
              replace hS5 := Lib.hid hS5
              refine hK.out _ _ ?_ (fun hHeld => ?_)
              · (try dsimp only); all_goals trivial
              clear hK K
              try simp only [Array.reduceGetElem, Act.put, List.setIfInBounds_toArray, List.set_cons_zero, List.set_cons_succ]
              refine wpAnyH_ready (rs := [7]) (by kernel_rfl) (by simp) ?_
              refine AllReadyH.cons rfl (fun K hK => ?_) AllReadyH.nil
              go_simp
              refine hK.out _ _ ?_ (fun hHeld => ?_)
              · (try dsimp only); all_goals trivial
              clear hK K
              try simp only [Array.reduceGetElem, Act.put, List.setIfInBounds_toArray, List.set_cons_zero, List.set_cons_succ]
              refine wpAnyH_done (by kernel_rfl) ?_ _
              clear hS hrow hC hlow hc0 hc1 hc2 hc3 hc4 hc5 hc6 hc7 hd0 hd1 hd2 hd3 hd4 hd5 hd6 hd7 hf0 hf1 hf2 hf3 hf4 hf5 hf6 hf7
              go_wp2
              refine ⟨?rel, ?measure⟩
              case rel => with_reducible exact ⟨k + 1, by omega, by rw [show (64 * ((k + 1 : Nat) : Int)) = 64 * (k : Int) + 64 by omega], hRF, hlF.out, hF, hCF⟩
              case measure => show 64 * N - (64 * (k : Int) + 64).toNat < 64 * N - (64 * (k : Int)).toNat; omega
            · obtain rfl : k = N := by omega
              obtain ⟨s, hs⟩ : ∃ s, stAt D k = s := ⟨_, rfl⟩
              rw [hs] at hS
              have hsumT : sumT l = hex8 s.a ++ hex8 s.b := by unfold sumT; rw [hsum.out, hs]
              clear hs hrow
              replace hS := Lib.hid hS.out
              replace hsumT := Lib.hid hsumT
              go_wp2
              have hI0 := IsB.new wr (B := wr.heap.size) (Nat.le_refl _)
              replace hS := hS.out.below ((Below.refl wr.heap.size wr).alloc (Nat.le_refl _) (.cells #[.pointer none, .slice none 0 0] 33)) hS.out.lt
              replace hC := hC.alloc hC.size (.cells #[.pointer none, .slice none 0 0] 33)
              have hbs : wr.heap.size ≤ (wr.alloc (.cells #[.pointer none, .slice none 0 0] 33)).heap.size := by simp
              have hsb : sb < wr.heap.size := Nat.lt_of_lt_of_le hsl hlow
              have hwb : w.heap.size ≤ wr.heap.size := by have := hsw.out; omega
              clear hlow
              refine wp_name (fun w7 hw7 => ?_)
              rw [hw7] at hI0 hS hC hbs
              clear hw7
              obtain ⟨B, hBe⟩ : ∃ x, wr.heap.size = x := ⟨_, rfl⟩
              rw [hBe] at hI0 hbs hsb hwb ⊢
              clear hBe
              replace hS := Lib.hid hS
              replace hI0 := Lib.hid hI0
              refine wp_name (fun w8 hw8 => ?_)
              rw [hw8] at hI0 hS hC hbs
              clear hw8
              go_loopw [54] (fun jj wr => ∃ j : Nat, j ≤ 2 ∧ jj = .int .i64 j ∧ Hid (IsB B B (Lib.byteCells ((hex8 s.a ++ hex8 s.b).take (8 * j))) wr) ∧ Hid (RowW wr sb s.list) ∧ B ≤ wr.heap.size ∧ Below w.heap.size w wr) (fun jj _ => 2 - (intOf jj).toNat)
              case atStart => exact ⟨0, by omega, rfl, hI0, hS, hbs, hC⟩
              case round =>
                clear hI0 hS hbs hC
                obtain ⟨j, hj, hjj, hI, hS, hbs, hC⟩ := hrel
                have hcs : j = 0 ∨ j = 1 ∨ j = 2 := by omega
                rcases hcs with rfl | rfl | rfl
                · obtain rfl : _ = Value.int .i64 0 := hjj
                  replace hI : IsB B B (Lib.byteCells (([] : List UInt8) ++ (hex8 s.a).take 0)) wr := hI.out
                  replace hI := Lib.hid hI
                  have hcx := hS.out.cell (k := 0) (show (_ : Nat) < 8 by decide)
                  simp only [S8.list, List.getD_cons_zero, List.getD_cons_succ] at hcx
                  obtain ⟨x, hx⟩ : ∃ x, s.a = x := ⟨_, rfl⟩
                  rw [hx] at hcx hI
                  replace hI := Lib.hid hI.out
                  replace hx := Lib.hid hx
                  go_wp2
                  clear hcx
                  go_loopw [11] (fun sv wr => ∃ m : Nat, m ≤ 8 ∧ sv = .int .i64 (28 - 4 * (m : Nat) : Int) ∧ Hid (IsB B B (Lib.byteCells (([] : List UInt8) ++ (hex8 x).take m)) wr) ∧ Hid (RowW wr sb s.list) ∧ B ≤ wr.heap.size ∧ Below w.heap.size w wr) (fun sv _ => ((intOf sv) + 4).toNat)
                  case atStart => exact ⟨0, by omega, rfl, hI, hS, hbs, hC⟩
                  case round =>
                    clear hI hS hbs hC
                    obtain ⟨m, hm8, hsv, hI, hS, hbs, hC⟩ := hrel
                    have hcs : m = 0 ∨ m = 1 ∨ m = 2 ∨ m = 3 ∨ m = 4 ∨ m = 5 ∨ m = 6 ∨ m = 7 ∨ m = 8 := by omega
                    rcases hcs with rfl | rfl | rfl | rfl | rfl | rfl | rfl | rfl | rfl
                    · obtain rfl : _ = Value.int .i64 28 := hsv
                      have hnd := and_15 x 28
                      obtain ⟨q, hq⟩ : ∃ q, x.toNat / 2 ^ 28 % 16 = q := ⟨_, rfl⟩
                      have hq16 : q < 16 := by omega
                      have hix := fig_at hq16
                      rw [hq] at hnd
                      simp only [Nat.reducePow, Int.cast_ofNat_Int] at hnd
                      have hsn : (hex8 x).take 0 ++ [hexD q] = (hex8 x).take 1 := by rw [← hq]; exact takeH_snoc rfl
                      have hqI : (q : Int) < 16 := by omega
                      clear hq
                      replace hsn := Lib.hid hsn
                      go_wp2_with fail
                      with_reducible refine (WriteByte_any B B (([] : List UInt8) ++ (hex8 x).take 0) (hexD q) wr hI.out (by simp [hex8_len]) hbs).mono ?_
                      rintro e w9 ⟨rfl, hI9, hB9⟩
                      rw [List.append_assoc, hsn.out] at hI9
                      replace hI9 := Lib.hid hI9
                      have hS9 := Lib.hid (hS.out.below hB9 hsb)
                      have hC9 := hC.trans (hB9.mono hwb)
                      have hb9 : B ≤ w9.heap.size := Nat.le_trans hbs (Nat.le_trans (Nat.le_refl _) (by have := hB9.size; omega))
                      clear hB9 hI hS hC
                      go_wp2
                      go_round
                      case rel => exact ⟨1, by omega, rfl, hI9, hS9, hb9, hC9⟩
                      case measure => decide
                    · obtain rfl : _ = Value.int .i64 24 := hsv
                      have hnd := and_15 x 24
                      obtain ⟨q, hq⟩ : ∃ q, x.toNat / 2 ^ 24 % 16 = q := ⟨_, rfl⟩
                      have hq16 : q < 16 := by omega
                      have hix := fig_at hq16
                      rw [hq] at hnd
                      simp only [Nat.reducePow, Int.cast_ofNat_Int] at hnd
                      have hsn : (hex8 x).take 1 ++ [hexD q] = (hex8 x).take 2 := by rw [← hq]; exact takeH_snoc rfl
                      have hqI : (q : Int) < 16 := by omega
                      clear hq
                      replace hsn := Lib.hid hsn
                      go_wp2_with fail
                      with_reducible refine (WriteByte_any B B (([] : List UInt8) ++ (hex8 x).take 1) (hexD q) wr hI.out (by simp [hex8_len]) hbs).mono ?_
                      rintro e w9 ⟨rfl, hI9, hB9⟩
                      rw [List.append_assoc, hsn.out] at hI9
                      replace hI9 := Lib.hid hI9
                      have hS9 := Lib.hid (hS.out.below hB9 hsb)
                      have hC9 := hC.trans (hB9.mono hwb)
                      have hb9 : B ≤ w9.heap.size := Nat.le_trans hbs (Nat.le_trans (Nat.le_refl _) (by have := hB9.size; omega))
                      clear hB9 hI hS hC
                      go_wp2
                      go_round
                      case rel => exact ⟨2, by omega, rfl, hI9, hS9, hb9, hC9⟩
                      case measure => decide
                    · obtain rfl : _ = Value.int .i64 20 := hsv
                      have hnd := and_15 x 20
                      obtain ⟨q, hq⟩ : ∃ q, x.toNat / 2 ^ 20 % 16 = q := ⟨_, rfl⟩
                      have hq16 : q < 16 := by omega
                      have hix := fig_at hq16
                      rw [hq] at hnd
                      simp only [Nat.reducePow, Int.cast_ofNat_Int] at hnd
                      have hsn : (hex8 x).take 2 ++ [hexD q] = (hex8 x).take 3 := by rw [← hq]; exact takeH_snoc rfl
                      have hqI : (q : Int) < 16 := by omega
                      clear hq
                      replace hsn := Lib.hid hsn
                      go_wp2_with fail
                      with_reducible refine (WriteByte_any B B (([] : List UInt8) ++ (hex8 x).take 2) (hexD q) wr hI.out (by simp [hex8_len]) hbs).mono ?_
                      rintro e w9 ⟨rfl, hI9, hB9⟩
                      rw [List.append_assoc, hsn.out] at hI9
                      replace hI9 := Lib.hid hI9
                      have hS9 := Lib.hid (hS.out.below hB9 hsb)
                      have hC9 := hC.trans (hB9.mono hwb)
                      have hb9 : B ≤ w9.heap.size := Nat.le_trans hbs (Nat.le_trans (Nat.le_refl _) (by have := hB9.size; omega))
                      clear hB9 hI hS hC
                      go_wp2
                      go_round
                      case rel => exact ⟨3, by omega, rfl, hI9, hS9, hb9, hC9⟩
                      case measure => decide
                    · obtain rfl : _ = Value.int .i64 16 := hsv
                      have hnd := and_15 x 16
                      obtain ⟨q, hq⟩ : ∃ q, x.toNat / 2 ^ 16 % 16 = q := ⟨_, rfl⟩
                      have hq16 : q < 16 := by omega
                      have hix := fig_at hq16
                      rw [hq] at hnd
                      simp only [Nat.reducePow, Int.cast_ofNat_Int] at hnd
                      have hsn : (hex8 x).take 3 ++ [hexD q] = (hex8 x).take 4 := by rw [← hq]; exact takeH_snoc rfl
                      have hqI : (q : Int) < 16 := by omega
                      clear hq
                      replace hsn := Lib.hid hsn
                      go_wp2_with fail
                      with_reducible refine (WriteByte_any B B (([] : List UInt8) ++ (hex8 x).take 3) (hexD q) wr hI.out (by simp [hex8_len]) hbs).mono ?_
                      rintro e w9 ⟨rfl, hI9, hB9⟩
                      rw [List.append_assoc, hsn.out] at hI9
                      replace hI9 := Lib.hid hI9
                      have hS9 := Lib.hid (hS.out.below hB9 hsb)
                      have hC9 := hC.trans (hB9.mono hwb)
                      have hb9 : B ≤ w9.heap.size := Nat.le_trans hbs (Nat.le_trans (Nat.le_refl _) (by have := hB9.size; omega))
                      clear hB9 hI hS hC
                      go_wp2
                      go_round
                      case rel => exact ⟨4, by omega, rfl, hI9, hS9, hb9, hC9⟩
                      case measure => decide
                    · obtain rfl : _ = Value.int .i64 12 := hsv
                      have hnd := and_15 x 12
                      obtain ⟨q, hq⟩ : ∃ q, x.toNat / 2 ^ 12 % 16 = q := ⟨_, rfl⟩
                      have hq16 : q < 16 := by omega
                      have hix := fig_at hq16
                      rw [hq] at hnd
                      simp only [Nat.reducePow, Int.cast_ofNat_Int] at hnd
                      have hsn : (hex8 x).take 4 ++ [hexD q] = (hex8 x).take 5 := by rw [← hq]; exact takeH_snoc rfl
                      have hqI : (q : Int) < 16 := by omega
                      clear hq
                      replace hsn := Lib.hid hsn
                      go_wp2_with fail
                      with_reducible refine (WriteByte_any B B (([] : List UInt8) ++ (hex8 x).take 4) (hexD q) wr hI.out (by simp [hex8_len]) hbs).mono ?_
                      rintro e w9 ⟨rfl, hI9, hB9⟩
                      rw [List.append_assoc, hsn.out] at hI9
                      replace hI9 := Lib.hid hI9
                      have hS9 := Lib.hid (hS.out.below hB9 hsb)
                      have hC9 := hC.trans (hB9.mono hwb)
                      have hb9 : B ≤ w9.heap.size := Nat.le_trans hbs (Nat.le_trans (Nat.le_refl _) (by have := hB9.size; omega))
                      clear hB9 hI hS hC
                      go_wp2
                      go_round
                      case rel => exact ⟨5, by omega, rfl, hI9, hS9, hb9, hC9⟩
                      case measure => decide
                    · obtain rfl : _ = Value.int .i64 8 := hsv
                      have hnd := and_15 x 8
                      obtain ⟨q, hq⟩ : ∃ q, x.toNat / 2 ^ 8 % 16 = q := ⟨_, rfl⟩
                      have hq16 : q < 16 := by omega
                      have hix := fig_at hq16
                      rw [hq] at hnd
                      simp only [Nat.reducePow, Int.cast_ofNat_Int] at hnd
                      have hsn : (hex8 x).take 5 ++ [hexD q] = (hex8 x).take 6 := by rw [← hq]; exact takeH_snoc rfl
                      have hqI : (q : Int) < 16 := by omega
                      clear hq
                      replace hsn := Lib.hid hsn
                      go_wp2_with fail
                      with_reducible refine (WriteByte_any B B (([] : List UInt8) ++ (hex8 x).take 5) (hexD q) wr hI.out (by simp [hex8_len]) hbs).mono ?_
                      rintro e w9 ⟨rfl, hI9, hB9⟩
                      rw [List.append_assoc, hsn.out] at hI9
                      replace hI9 := Lib.hid hI9
                      have hS9 := Lib.hid (hS.out.below hB9 hsb)
                      have hC9 := hC.trans (hB9.mono hwb)
                      have hb9 : B ≤ w9.heap.size := Nat.le_trans hbs (Nat.le_trans (Nat.le_refl _) (by have := hB9.size; omega))
                      clear hB9 hI hS hC
                      go_wp2
                      go_round
                      case rel => exact ⟨6, by omega, rfl, hI9, hS9, hb9, hC9⟩
                      case measure => decide
                    · obtain rfl : _ = Value.int .i64 4 := hsv
                      have hnd := and_15 x 4
                      obtain ⟨q, hq⟩ : ∃ q, x.toNat / 2 ^ 4 % 16 = q := ⟨_, rfl⟩
                      have hq16 : q < 16 := by omega
                      have hix := fig_at hq16
                      rw [hq] at hnd
                      simp only [Nat.reducePow, Int.cast_ofNat_Int] at hnd
                      have hsn : (hex8 x).take 6 ++ [hexD q] = (hex8 x).take 7 := by rw [← hq]; exact takeH_snoc rfl
                      have hqI : (q : Int) < 16 := by omega
                      clear hq
                      replace hsn := Lib.hid hsn
                      go_wp2_with fail
                      with_reducible refine (WriteByte_any B B (([] : List UInt8) ++ (hex8 x).take 6) (hexD q) wr hI.out (by simp [hex8_len]) hbs).mono ?_
                      rintro e w9 ⟨rfl, hI9, hB9⟩
                      rw [List.append_assoc, hsn.out] at hI9
                      replace hI9 := Lib.hid hI9
                      have hS9 := Lib.hid (hS.out.below hB9 hsb)
                      have hC9 := hC.trans (hB9.mono hwb)
                      have hb9 : B ≤ w9.heap.size := Nat.le_trans hbs (Nat.le_trans (Nat.le_refl _) (by have := hB9.size; omega))
                      clear hB9 hI hS hC
                      go_wp2
                      go_round
                      case rel => exact ⟨7, by omega, rfl, hI9, hS9, hb9, hC9⟩
                      case measure => decide
                    · obtain rfl : _ = Value.int .i64 0 := hsv
                      have hnd := and_15z x
                      obtain ⟨q, hq⟩ : ∃ q, x.toNat / 2 ^ 0 % 16 = q := ⟨_, rfl⟩
                      have hq16 : q < 16 := by omega
                      have hix := fig_at hq16
                      rw [hq] at hnd
                      have hsn : (hex8 x).take 7 ++ [hexD q] = (hex8 x).take 8 := by rw [← hq]; exact takeH_snoc rfl
                      have hqI : (q : Int) < 16 := by omega
                      clear hq
                      replace hsn := Lib.hid hsn
                      go_wp2_with fail
                      with_reducible refine (WriteByte_any B B (([] : List UInt8) ++ (hex8 x).take 7) (hexD q) wr hI.out (by simp [hex8_len]) hbs).mono ?_
                      rintro e w9 ⟨rfl, hI9, hB9⟩
                      rw [List.append_assoc, hsn.out] at hI9
                      replace hI9 := Lib.hid hI9
                      have hS9 := Lib.hid (hS.out.below hB9 hsb)
                      have hC9 := hC.trans (hB9.mono hwb)
                      have hb9 : B ≤ w9.heap.size := Nat.le_trans hbs (Nat.le_trans (Nat.le_refl _) (by have := hB9.size; omega))
                      clear hB9 hI hS hC
                      go_wp2
                      go_round
                      case rel => exact ⟨8, by omega, rfl, hI9, hS9, hb9, hC9⟩
                      case measure => decide
                    · obtain rfl : _ = Value.int .i64 (-4) := hsv
                      replace hI : IsB B B (Lib.byteCells ((hex8 s.a ++ hex8 s.b).take (8 * 1))) wr := by rw [← hx.out] at hI; exact hI.out
                      replace hI := Lib.hid hI
                      go_wp2
                      go_round
                      case rel => exact ⟨1, by omega, rfl, hI, hS, hbs, hC⟩
                      case measure => simp [intOf]
                · obtain rfl : _ = Value.int .i64 1 := hjj
                  replace hI : IsB B B (Lib.byteCells (hex8 s.a ++ (hex8 s.b).take 0)) wr := hI.out
                  replace hI := Lib.hid hI
                  have hcx := hS.out.cell (k := 1) (show (_ : Nat) < 8 by decide)
                  simp only [S8.list, List.getD_cons_zero, List.getD_cons_succ] at hcx
                  obtain ⟨x, hx⟩ : ∃ x, s.b = x := ⟨_, rfl⟩
                  rw [hx] at hcx hI
                  replace hI := Lib.hid hI.out
                  replace hx := Lib.hid hx
                  go_wp2
                  clear hcx
                  go_loopw [11] (fun sv wr => ∃ m : Nat, m ≤ 8 ∧ sv = .int .i64 (28 - 4 * (m : Nat) : Int) ∧ Hid (IsB B B (Lib.byteCells (hex8 s.a ++ (hex8 x).take m)) wr) ∧ Hid (RowW wr sb s.list) ∧ B ≤ wr.heap.size ∧ Below w.heap.size w wr) (fun sv _ => ((intOf sv) + 4).toNat)
                  case atStart => exact ⟨0, by omega, rfl, hI, hS, hbs, hC⟩
                  case round =>
                    clear hI hS hbs hC
                    obtain ⟨m, hm8, hsv, hI, hS, hbs, hC⟩ := hrel
                    have hcs : m = 0 ∨ m = 1 ∨ m = 2 ∨ m = 3 ∨ m = 4 ∨ m = 5 ∨ m = 6 ∨ m = 7 ∨ m = 8 := by omega
                    rcases hcs with rfl | rfl | rfl | rfl | rfl | rfl | rfl | rfl | rfl
                    · obtain rfl : _ = Value.int .i64 28 := hsv
                      have hnd := and_15 x 28
                      obtain ⟨q, hq⟩ : ∃ q, x.toNat / 2 ^ 28 % 16 = q := ⟨_, rfl⟩
                      have hq16 : q < 16 := by omega
                      have hix := fig_at hq16
                      rw [hq] at hnd
                      simp only [Nat.reducePow, Int.cast_ofNat_Int] at hnd
                      have hsn : (hex8 x).take 0 ++ [hexD q] = (hex8 x).take 1 := by rw [← hq]; exact takeH_snoc rfl
                      have hqI : (q : Int) < 16 := by omega
                      clear hq
                      replace hsn := Lib.hid hsn
                      go_wp2_with fail
                      with_reducible refine (WriteByte_any B B (hex8 s.a ++ (hex8 x).take 0) (hexD q) wr hI.out (by simp [hex8_len]) hbs).mono ?_
                      rintro e w9 ⟨rfl, hI9, hB9⟩
                      rw [List.append_assoc, hsn.out] at hI9
                      replace hI9 := Lib.hid hI9
                      have hS9 := Lib.hid (hS.out.below hB9 hsb)
                      have hC9 := hC.trans (hB9.mono hwb)
                      have hb9 : B ≤ w9.heap.size := Nat.le_trans hbs (Nat.le_trans (Nat.le_refl _) (by have := hB9.size; omega))
                      clear hB9 hI hS hC
                      go_wp2
                      go_round
                      case rel => exact ⟨1, by omega, rfl, hI9, hS9, hb9, hC9⟩
                      case measure => decide
                    · obtain rfl : _ = Value.int .i64 24 := hsv
                      have hnd := and_15 x 24
                      obtain ⟨q, hq⟩ : ∃ q, x.toNat / 2 ^ 24 % 16 = q := ⟨_, rfl⟩
                      have hq16 : q < 16 := by omega
                      have hix := fig_at hq16
                      rw [hq] at hnd
                      simp only [Nat.reducePow, Int.cast_ofNat_Int] at hnd
                      have hsn : (hex8 x).take 1 ++ [hexD q] = (hex8 x).take 2 := by rw [← hq]; exact takeH_snoc rfl
                      have hqI : (q : Int) < 16 := by omega
                      clear hq
                      replace hsn := Lib.hid hsn
                      go_wp2_with fail
                      with_reducible refine (WriteByte_any B B (hex8 s.a ++ (hex8 x).take 1) (hexD q) wr hI.out (by simp [hex8_len]) hbs).mono ?_
                      rintro e w9 ⟨rfl, hI9, hB9⟩
                      rw [List.append_assoc, hsn.out] at hI9
                      replace hI9 := Lib.hid hI9
                      have hS9 := Lib.hid (hS.out.below hB9 hsb)
                      have hC9 := hC.trans (hB9.mono hwb)
                      have hb9 : B ≤ w9.heap.size := Nat.le_trans hbs (Nat.le_trans (Nat.le_refl _) (by have := hB9.size; omega))
                      clear hB9 hI hS hC
                      go_wp2
                      go_round
                      case rel => exact ⟨2, by omega, rfl, hI9, hS9, hb9, hC9⟩
                      case measure => decide
                    · obtain rfl : _ = Value.int .i64 20 := hsv
                      have hnd := and_15 x 20
                      obtain ⟨q, hq⟩ : ∃ q, x.toNat / 2 ^ 20 % 16 = q := ⟨_, rfl⟩
                      have hq16 : q < 16 := by omega
                      have hix := fig_at hq16
                      rw [hq] at hnd
                      simp only [Nat.reducePow, Int.cast_ofNat_Int] at hnd
                      have hsn : (hex8 x).take 2 ++ [hexD q] = (hex8 x).take 3 := by rw [← hq]; exact takeH_snoc rfl
                      have hqI : (q : Int) < 16 := by omega
                      clear hq
                      replace hsn := Lib.hid hsn
                      go_wp2_with fail
                      with_reducible refine (WriteByte_any B B (hex8 s.a ++ (hex8 x).take 2) (hexD q) wr hI.out (by simp [hex8_len]) hbs).mono ?_
                      rintro e w9 ⟨rfl, hI9, hB9⟩
                      rw [List.append_assoc, hsn.out] at hI9
                      replace hI9 := Lib.hid hI9
                      have hS9 := Lib.hid (hS.out.below hB9 hsb)
                      have hC9 := hC.trans (hB9.mono hwb)
                      have hb9 : B ≤ w9.heap.size := Nat.le_trans hbs (Nat.le_trans (Nat.le_refl _) (by have := hB9.size; omega))
                      clear hB9 hI hS hC
                      go_wp2
                      go_round
                      case rel => exact ⟨3, by omega, rfl, hI9, hS9, hb9, hC9⟩
                      case measure => decide
                    · obtain rfl : _ = Value.int .i64 16 := hsv
                      have hnd := and_15 x 16
                      obtain ⟨q, hq⟩ : ∃ q, x.toNat / 2 ^ 16 % 16 = q := ⟨_, rfl⟩
                      have hq16 : q < 16 := by omega
                      have hix := fig_at hq16
                      rw [hq] at hnd
                      simp only [Nat.reducePow, Int.cast_ofNat_Int] at hnd
                      have hsn : (hex8 x).take 3 ++ [hexD q] = (hex8 x).take 4 := by rw [← hq]; exact takeH_snoc rfl
                      have hqI : (q : Int) < 16 := by omega
                      clear hq
                      replace hsn := Lib.hid hsn
                      go_wp2_with fail
                      with_reducible refine (WriteByte_any B B (hex8 s.a ++ (hex8 x).take 3) (hexD q) wr hI.out (by simp [hex8_len]) hbs).mono ?_
                      rintro e w9 ⟨rfl, hI9, hB9⟩
                      rw [List.append_assoc, hsn.out] at hI9
                      replace hI9 := Lib.hid hI9
                      have hS9 := Lib.hid (hS.out.below hB9 hsb)
                      have hC9 := hC.trans (hB9.mono hwb)
                      have hb9 : B ≤ w9.heap.size := Nat.le_trans hbs (Nat.le_trans (Nat.le_refl _) (by have := hB9.size; omega))
                      clear hB9 hI hS hC
                      go_wp2
                      go_round
                      case rel => exact ⟨4, by omega, rfl, hI9, hS9, hb9, hC9⟩
                      case measure => decide
                    · obtain rfl : _ = Value.int .i64 12 := hsv
                      have hnd := and_15 x 12
                      obtain ⟨q, hq⟩ : ∃ q, x.toNat / 2 ^ 12 % 16 = q := ⟨_, rfl⟩
                      have hq16 : q < 16 := by omega
                      have hix := fig_at hq16
                      rw [hq] at hnd
                      simp only [Nat.reducePow, Int.cast_ofNat_Int] at hnd
                      have hsn : (hex8 x).take 4 ++ [hexD q] = (hex8 x).take 5 := by rw [← hq]; exact takeH_snoc rfl
                      have hqI : (q : Int) < 16 := by omega
                      clear hq
                      replace hsn := Lib.hid hsn
                      go_wp2_with fail
                      with_reducible refine (WriteByte_any B B (hex8 s.a ++ (hex8 x).take 4) (hexD q) wr hI.out (by simp [hex8_len]) hbs).mono ?_
                      rintro e w9 ⟨rfl, hI9, hB9⟩
                      rw [List.append_assoc, hsn.out] at hI9
                      replace hI9 := Lib.hid hI9
                      have hS9 := Lib.hid (hS.out.below hB9 hsb)
                      have hC9 := hC.trans (hB9.mono hwb)
                      have hb9 : B ≤ w9.heap.size := Nat.le_trans hbs (Nat.le_trans (Nat.le_refl _) (by have := hB9.size; omega))
                      clear hB9 hI hS hC
                      go_wp2
                      go_round
                      case rel => exact ⟨5, by omega, rfl, hI9, hS9, hb9, hC9⟩
                      case measure => decide
                    · obtain rfl : _ = Value.int .i64 8 := hsv
                      have hnd := and_15 x 8
                      obtain ⟨q, hq⟩ : ∃ q, x.toNat / 2 ^ 8 % 16 = q := ⟨_, rfl⟩
                      have hq16 : q < 16 := by omega
                      have hix := fig_at hq16
                      rw [hq] at hnd
                      simp only [Nat.reducePow, Int.cast_ofNat_Int] at hnd
                      have hsn : (hex8 x).take 5 ++ [hexD q] = (hex8 x).take 6 := by rw [← hq]; exact takeH_snoc rfl
                      have hqI : (q : Int) < 16 := by omega
                      clear hq
                      replace hsn := Lib.hid hsn
                      go_wp2_with fail
                      with_reducible refine (WriteByte_any B B (hex8 s.a ++ (hex8 x).take 5) (hexD q) wr hI.out (by simp [hex8_len]) hbs).mono ?_
                      rintro e w9 ⟨rfl, hI9, hB9⟩
                      rw [List.append_assoc, hsn.out] at hI9
                      replace hI9 := Lib.hid hI9
                      have hS9 := Lib.hid (hS.out.below hB9 hsb)
                      have hC9 := hC.trans (hB9.mono hwb)
                      have hb9 : B ≤ w9.heap.size := Nat.le_trans hbs (Nat.le_trans (Nat.le_refl _) (by have := hB9.size; omega))
                      clear hB9 hI hS hC
                      go_wp2
                      go_round
                      case rel => exact ⟨6, by omega, rfl, hI9, hS9, hb9, hC9⟩
                      case measure => decide
                    · obtain rfl : _ = Value.int .i64 4 := hsv
                      have hnd := and_15 x 4
                      obtain ⟨q, hq⟩ : ∃ q, x.toNat / 2 ^ 4 % 16 = q := ⟨_, rfl⟩
                      have hq16 : q < 16 := by omega
                      have hix := fig_at hq16
                      rw [hq] at hnd
                      simp only [Nat.reducePow, Int.cast_ofNat_Int] at hnd
                      have hsn : (hex8 x).take 6 ++ [hexD q] = (hex8 x).take 7 := by rw [← hq]; exact takeH_snoc rfl
                      have hqI : (q : Int) < 16 := by omega
                      clear hq
                      replace hsn := Lib.hid hsn
                      go_wp2_with fail
                      with_reducible refine (WriteByte_any B B (hex8 s.a ++ (hex8 x).take 6) (hexD q) wr hI.out (by simp [hex8_len]) hbs).mono ?_
                      rintro e w9 ⟨rfl, hI9, hB9⟩
                      rw [List.append_assoc, hsn.out] at hI9
                      replace hI9 := Lib.hid hI9
                      have hS9 := Lib.hid (hS.out.below hB9 hsb)
                      have hC9 := hC.trans (hB9.mono hwb)
                      have hb9 : B ≤ w9.heap.size := Nat.le_trans hbs (Nat.le_trans (Nat.le_refl _) (by have := hB9.size; omega))
                      clear hB9 hI hS hC
                      go_wp2
                      go_round
                      case rel => exact ⟨7, by omega, rfl, hI9, hS9, hb9, hC9⟩
                      case measure => decide
                    · obtain rfl : _ = Value.int .i64 0 := hsv
                      have hnd := and_15z x
                      obtain ⟨q, hq⟩ : ∃ q, x.toNat / 2 ^ 0 % 16 = q := ⟨_, rfl⟩
                      have hq16 : q < 16 := by omega
                      have hix := fig_at hq16
                      rw [hq] at hnd
                      have hsn : (hex8 x).take 7 ++ [hexD q] = (hex8 x).take 8 := by rw [← hq]; exact takeH_snoc rfl
                      have hqI : (q : Int) < 16 := by omega
                      clear hq
                      replace hsn := Lib.hid hsn
                      go_wp2_with fail
                      with_reducible refine (WriteByte_any B B (hex8 s.a ++ (hex8 x).take 7) (hexD q) wr hI.out (by simp [hex8_len]) hbs).mono ?_
                      rintro e w9 ⟨rfl, hI9, hB9⟩
                      rw [List.append_assoc, hsn.out] at hI9
                      replace hI9 := Lib.hid hI9
                      have hS9 := Lib.hid (hS.out.below hB9 hsb)
                      have hC9 := hC.trans (hB9.mono hwb)
                      have hb9 : B ≤ w9.heap.size := Nat.le_trans hbs (Nat.le_trans (Nat.le_refl _) (by have := hB9.size; omega))
                      clear hB9 hI hS hC
                      go_wp2
                      go_round
                      case rel => exact ⟨8, by omega, rfl, hI9, hS9, hb9, hC9⟩
                      case measure => decide
                    · obtain rfl : _ = Value.int .i64 (-4) := hsv
                      replace hI : IsB B B (Lib.byteCells ((hex8 s.a ++ hex8 s.b).take (8 * 2))) wr := by rw [← hx.out] at hI; exact hI.out
                      replace hI := Lib.hid hI
                      go_wp2
                      go_round
                      case rel => exact ⟨2, by omega, rfl, hI, hS, hbs, hC⟩
                      case measure => simp [intOf]
                · obtain rfl : _ = Value.int .i64 2 := hjj
                  replace hI : IsB B B (Lib.byteCells (hex8 s.a ++ hex8 s.b)) wr := hI.out
                  go_wp2_with fail
                  with_reducible refine (String_any B B (hex8 s.a ++ hex8 s.b) wr hI hbs).mono ?_
                  rintro e w9 ⟨rfl, hB9⟩
                  have hC9 := hC.trans (hB9.mono hwb)
                  rw [← hsumT.out]
                  go_wp2
                  go_ret
                  exact ⟨rfl, hC9⟩
end Go.Proofs.YtcgnoohllfbmcaaDoor
