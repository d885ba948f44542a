/-
  The walks of the reference's l1Cut, l1Path, PathOk.
-/
import Derived.Test.YtiibodelcfmnpaaDoorBasic
import Derived.Test.YtiibodelcfmnpaaDoorPush
import Derived.LoopTactic
namespace Go.Proofs.YtiibodelcfmnpaaDoor
open Go.RowKit
set_option linter.unusedVariables false

def strV (l : List UInt8) : Value := .string (mkB l)
theorem info_str : (Tryd.prog.info? 9).map (fun i => (i.zero, i.size, i.bytes)) = some (some (.string .empty), 1, 16) := by kernel_rfl

attribute [local go_sem] mkB_size mkB_extract
theorem mkB_get (l : List UInt8) (k : Nat) (h : k < (mkB l).size) : (mkB l)[k] = l[k]'(by rwa [mkB_size] at h) := rfl
attribute [local go_sem] mkB_get
theorem cutGo_hit {b : UInt8} {l f : List UInt8} {k : Nat} (hk : k < l.length) (hb : l[k] = b) : cutGo b f (l.drop k) = f :: cutGo b [] (l.drop (k + 1)) := by
  rw [List.drop_eq_getElem_cons hk]; simp only [cutGo]; rw [if_pos hb]
theorem cutGo_miss {b : UInt8} {l f : List UInt8} {k : Nat} (hk : k < l.length) (hb : ¬ l[k] = b) : cutGo b f (l.drop k) = cutGo b (f ++ [l[k]]) (l.drop (k + 1)) := by
  rw [List.drop_eq_getElem_cons hk]; simp only [cutGo]; rw [if_neg hb]
theorem piece_snoc {l : List UInt8} {p k : Nat} (hk : k < l.length) (hp : p ≤ k) : (l.drop p).take (k + 1 - p) = (l.drop p).take (k - p) ++ [l[k]] := by
  rw [show k + 1 - p = (k - p) + 1 by omega, List.take_succ_eq_append_getElem (by simp; omega)]
  congr 2
  rw [List.getElem_drop]
  congr 1
  omega

set_option maxHeartbeats 1000000 in
theorem l1Cut_any (l : List UInt8) (b : UInt8) (hl : l.length ≤ 1099511627776) (w : World) :
    Calls Tryd.prog 19 #[.string (mkB l), .int .u8 (b.toNat : Int), .int .i64 ((l.length : Int) + 1)] w fun e w' =>
      ∃ v, e = .returned v ∧ w'.ownsRow w.heap.size 9 1 v (cut b l).length ((cut b l).map strV) ∧ Below w.heap.size w w' := by
  obtain ⟨i0, hi, hz0, hz1, hz2⟩ := info_parts info_str
  go_enter Tryd.func19, Tryd.ntmps19
  go_wp2
  go_loopw [7, 8, 9] (fun out fr i wr => ∃ (k p : Nat) (pre : List (List UInt8)) (f : List UInt8) (g cap : Nat), k ≤ l.length ∧ i = .int .i64 k ∧ fr = .int .i64 p ∧ p ≤ k ∧ pre.length ≤ p ∧ Hid (f = (l.drop p).take (k - p)) ∧ Hid (cut b l = pre ++ cutGo b f (l.drop k)) ∧ out = .slice (some ⟨g, 0, none⟩) pre.length cap ∧ wr.ownsRow w.heap.size 9 1 (.slice (some ⟨g, 0, none⟩) pre.length cap) pre.length (pre.map strV) ∧ Below w.heap.size w wr)
    (fun _ _ i _ => l.length - (intOf i).toNat)
  case atStart =>
    exact ⟨0, 0, [], [], w.heap.size, 0, Nat.zero_le _, rfl, rfl, Nat.le_refl _, Nat.le_refl _, Lib.hid (by simp), Lib.hid (by simp [cut]), rfl, World.ownsRow_lit w #[] 0 (Nat.le_refl _) (by simp [maxLen]) rfl, (Below.refl _ _).alloc (Nat.le_refl _) _⟩
  case round =>
    obtain ⟨k, p, pre, f, g, cap, hk, rfl, rfl, hpk, hpp, hf, hcut, rfl, hown, hB⟩ := hrel
    by_cases hlt : k < l.length
    · have hq : (pre.length : Int) < (l.length : Int) + 1 := by omega
      by_cases hb : l[k] = b
      · have hb' : ((l[k].toNat : Int) == (b.toNat : Int)) = true := by rw [hb]; simp
        have hb := Lib.hid hb
        go_wp2_with (at_builtin; refine wpList_push rfl _ _ 30 rfl w.heap.size 9 i0 (.string .empty) 1 16 Tryd.underlying30 hi hz0 hz1 hz2 rfl (by decide) wr _ _ _ hown rfl [.string (mkB ((l.drop p).take (k - p)))] rfl rfl (by simp [Value.oneCell']) (by simp only [maxLen]; omega) (by omega) hB.size ?_; intro g1 cap1 w1 hown1 hg1 hb1 _)
        go_roundw
        case rel =>
          refine ⟨k + 1, k + 1, pre ++ [f], [], g1, cap1, by omega, by go_num, by go_num, Nat.le_refl _, by simp; omega, Lib.hid (by simp), Lib.hid ?_, ?_, ?_, hB.trans hb1⟩
          · rw [hcut.out, cutGo_hit hlt hb.out]; simp
          · simp
          · have e : [Value.string (mkB ((l.drop p).take (k - p)))] = [f].map strV := by rw [hf.out]; rfl
            rw [e] at hown1
            simpa using hown1
        case measure => simp [intOf]; omega
      · have hb' : ((l[k].toNat : Int) == (b.toNat : Int)) = false := by
          rw [beq_eq_false_iff_ne]; intro e; exact hb (UInt8.toNat_inj.1 (by omega))
        have hb := Lib.hid hb
        go_wp2
        go_roundw
        case rel =>
          refine ⟨k + 1, p, pre, f ++ [l[k]], g, cap, by omega, by go_num, rfl, by omega, hpp, Lib.hid ?_, Lib.hid ?_, rfl, hown, hB⟩
          · rw [hf.out, piece_snoc hlt hpk]
          · rw [hcut.out, cutGo_miss hlt hb.out]
        case measure => simp [intOf]; omega
    · have hkl : k = l.length := by omega
      subst hkl
      go_wp2_with (at_builtin; refine wpList_push rfl _ _ 30 rfl w.heap.size 9 i0 (.string .empty) 1 16 Tryd.underlying30 hi hz0 hz1 hz2 rfl (by decide) wr _ _ _ hown rfl [.string (mkB ((l.drop p).take (l.length - p)))] rfl rfl (by simp [Value.oneCell']) (by simp only [maxLen]; omega) (by omega) hB.size ?_; intro g1 cap1 w1 hown1 hg1 hb1 _)
      go_ret
      have e : cut b l = pre ++ [f] := by rw [hcut.out]; simp [cutGo]
      refine ⟨_, rfl, ?_, hB.trans hb1⟩
      rw [e, hf.out]
      simpa [strV] using hown1

end Go.Proofs.YtiibodelcfmnpaaDoor
