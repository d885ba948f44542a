/-
  The walks of the functions that draw entries: whatever the code, short texts of which none begins as "fresh" does.
-/
import Derived.Test.YtjihpbioofikcaaDoorGC
import Derived.Test.YtjihpbioofikcaaDoorPutI
import Derived.Test.YtjihpbioofikcaaDoorMarkE
import Derived.Test.YtjihpbioofikcaaDoorResE
namespace Go.Proofs.YtjihpbioofikcaaDoor
open Go.RowKit
set_option linter.unusedVariables false
set_option linter.unusedSimpArgs false
attribute [local go_sem] mkB_size mkB_extract mkB_get mkB_append mkB_append_raw raw_append_mkB mkB_toList

def Plain2 (s : List UInt8) : Prop := s.length ≤ 100 ∧ s.take 2 ≠ [102, 114]
instance (s : List UInt8) : Decidable (Plain2 s) := by unfold Plain2; exact inferInstance
theorem drawn_plain : ∀ s ∈ drawnL, Plain2 s := by decide
theorem paths_plain : ∀ s ∈ pathsL, Plain2 s := by decide
def DrE (e : En) : Prop := Plain2 e.path ∧ Plain2 e.text
/-- the reader, so many picks at most -/
def RdB (w : World) (rb b : Nat) : Prop := ∃ p, p ≤ b ∧ Rd w rb p
theorem RdB.lt {w : World} {rb b : Nat} (h : RdB w rb b) : rb < w.heap.size := by obtain ⟨p, _, h⟩ := h; exact h.lt
theorem RdB.le {w : World} {rb b b' : Nat} (h : RdB w rb b) (hb : b ≤ b') : RdB w rb b' := by obtain ⟨p, hp, h⟩ := h; exact ⟨p, by omega, h⟩
theorem gr_of_below {w w' : World} {n rb : Nat} (h : Below n w w') (hn : w.heap.size ≤ n) : w.grownBy w' (some rb) := gr_below (World.grownBy.refl w _) (h.mono hn)
theorem RdB.below {w w' : World} {rb b n : Nat} (h : RdB w rb b) (hB : Below n w w') (hn : w.heap.size ≤ n) : RdB w' rb b := by
  obtain ⟨p, hp, h⟩ := h
  exact ⟨p, hp, h.kept (row := none) ⟨hB.os, hB.tape, hB.output, hB.size, fun k hk _ => hB.block k (by omega)⟩ (fun r e => by cases e)⟩
theorem RdB.alloc {w : World} {rb b : Nat} (h : RdB w rb b) (o : Obj) : RdB (w.alloc o) rb b := h.below ((Below.refl w.heap.size w).alloc (Nat.le_refl _) o) (Nat.le_refl _)
theorem RdB.set {w : World} {rb b : Nat} (h : RdB w rb b) {g j : Nat} {v : Value} (hg : rb < g) : RdB (w.setCell ⟨g, j, none⟩ v) rb b := by
  obtain ⟨p, hp, h⟩ := h
  exact ⟨p, hp, h.kept (grown_set w g j v) (fun r e => by cases e; exact hg)⟩
theorem own_gr {w w' : World} {lo g c rb : Nat} {es : List En} (h : OwnR w lo g c es) (hg : w.grownBy w' (some rb)) (hr : rb < lo) : OwnR w' lo g c es := by
  obtain ⟨h1, h2, h3, h4⟩ := h.parts
  obtain ⟨cur, hh, hs, hc⟩ := h1
  refine OwnR.of ⟨cur, (hg.block g h.lt (fun e => by injection e; omega)).trans hh, hs, hc⟩ h2 h3 h4
theorem box_gr {w w' : World} {rb B : Nat} {t : TypeId} {a b c d : Value} (h : Box4 w B t a b c d) (hg : w.grownBy w' (some rb)) (hr : rb ≠ B) : Box4 w' B t a b c d := h.kept hg (fun e => hr (by injection e; omega))

def PickB (m : Int) (rb b : Nat) (w : World) (e : Ending) (w' : World) : Prop := ∃ v : Nat, (v : Int) < m ∧ e = .returned (.int .i64 (v : Int)) ∧ RdB w' rb b ∧ w.grownBy w' (some rb)
theorem pick_b (rb b : Nat) (m : Int) (w : World) (h : RdB w rb b) (hb : b ≤ 1000000) (hm : 1 ≤ m) (hm2 : m ≤ 1000000) :
    Calls Tryd.prog 86 #[.pointer (some ⟨rb, 0, none⟩), .int .i64 m] w (PickB m rb (b + 1) w) := by
  obtain ⟨p, hp, h⟩ := h
  refine (pick_any rb p m w h (by omega) hm (by omega)).mono ?_
  rintro e w' ⟨v, hv, rfl, hR, hg⟩
  exact ⟨v, hv, rfl, ⟨p + 1, by omega, hR⟩, hg⟩
def OfB (P : List UInt8 → Prop) (rb b : Nat) (w : World) (e : Ending) (w' : World) : Prop := ∃ s, P s ∧ e = .returned (.string (mkB s)) ∧ RdB w' rb b ∧ w.grownBy w' (some rb)
theorem path_b (rb b : Nat) (w : World) (h : RdB w rb b) (hb : b ≤ 1000000) :
    Calls Tryd.prog 116 #[.pointer (some ⟨rb, 0, none⟩)] w (OfB Plain2 rb (b + 1) w) := by
  obtain ⟨p, hp, h⟩ := h
  refine (l11Path_any rb p w h (by omega)).mono ?_
  rintro e w' ⟨s, hs, rfl, hR, hg⟩
  exact ⟨s, paths_plain s hs, rfl, ⟨p + 1, by omega, hR⟩, hg⟩
theorem any_b (rb b : Nat) (w : World) (h : RdB w rb b) (hb : b ≤ 1000000) :
    Calls Tryd.prog 85 #[.pointer (some ⟨rb, 0, none⟩)] w (OfB Plain2 rb (b + 2) w) := by
  obtain ⟨p, hp, h⟩ := h
  refine (l11AnyPath_any rb p w h (by omega)).mono ?_
  rintro e w' ⟨s, hs, rfl, hR, hg⟩
  exact ⟨s, drawn_plain s hs, rfl, ⟨p + 2, by omega, hR⟩, hg⟩
theorem of_b (rb b : Nat) (ss : List (List UInt8)) (P : List UInt8 → Prop) (w : World) (h : RdB w rb b) (hb : b ≤ 1000000) (h1 : 1 ≤ ss.length) (h2 : ss.length ≤ 1000) (hP : ∀ s ∈ ss, P s) :
    Calls Tryd.prog 88 #[.pointer (some ⟨rb, 0, none⟩), .slice (some ⟨w.heap.size, 0, none⟩) ss.length ss.length] (w.alloc (.cells (ss.map strW).toArray 9)) (OfB P rb (b + 1) w) := by
  obtain ⟨p, hp, h⟩ := h
  refine (of_lit rb p ss w h (by omega) h1 (by omega)).mono ?_
  rintro e w' ⟨s, hs, rfl, hR, hg⟩
  exact ⟨s, hP s hs, rfl, ⟨p + 1, by omega, hR⟩, hg⟩
def OneB (ns : List Int) (rb b : Nat) (w : World) (e : Ending) (w' : World) : Prop := ∃ n, n ∈ ns ∧ e = .returned (.int .i64 n) ∧ RdB w' rb b ∧ w.grownBy w' (some rb)
def intV (n : Int) : Value := .int .i64 n
set_option maxHeartbeats 1000000 in
theorem one_b (rb b : Nat) (ns : List Int) (w : World) (h : RdB w rb b) (hb : b ≤ 1000000) (h1 : 1 ≤ ns.length) (h2 : ns.length ≤ 1000) :
    Calls Tryd.prog 114 #[.pointer (some ⟨rb, 0, none⟩), .slice (some ⟨w.heap.size, 0, none⟩) ns.length ns.length] (w.alloc (.cells (ns.map intV).toArray 3)) (OneB ns rb (b + 1) w) := by
  have hlt := h.lt
  obtain ⟨W, hW⟩ : ∃ W, w.alloc (.cells (ns.map intV).toArray 3) = W := ⟨_, rfl⟩
  obtain ⟨g, hg⟩ : ∃ g, w.heap.size = g := ⟨_, rfl⟩
  have hb1 : W.heap[g]? = some (.cells (ns.map intV).toArray 3 (0, 0)) := by rw [← hW, ← hg]; exact World.alloc_heap_new w _
  have hR1 : RdB W rb b := by rw [← hW]; exact h.alloc _
  have hG1 : w.grownBy W (some rb) := by rw [← hW]; exact gr_of_below ((Below.refl w.heap.size w).alloc (Nat.le_refl _) _) (Nat.le_refl _)
  rw [hW, hg]
  have hne : rb ≠ g := by omega
  clear hW
  go_enter Tryd.func114, Tryd.ntmps114
  go_wp2_with fail
  refine (pick_b rb b _ W hR1 hb (by omega) (by omega)).mono ?_
  rintro e w1 ⟨v, hv, rfl, hR, hgr⟩
  have hvl : v < ns.length := by omega
  have hb2 : w1.heap[g]? = some (.cells (ns.map intV).toArray 3 (0, 0)) := (hgr.block g (Array.getElem?_eq_some_iff.1 hb1).1 (fun e => hne (by injection e; omega))).trans hb1
  have hc : w1.cell? ⟨g, v, none⟩ = some (.int .i64 ns[v]) := by
    rw [cell_of_row _ _ _ _ _ _ hb2]
    simp [intV, hvl]
  clear hb1 hb2
  go_wp2
  go_ret
  exact ⟨_, List.getElem_mem hvl, rfl, hR, grown_trans hG1 hgr⟩

set_option maxHeartbeats 2000000 in
theorem l1Many_any (c : UInt8) (N : Nat) (hN : N ≤ 1000) (w : World) :
    Calls Tryd.prog 115 #[.string (mkB [c]), .int .i64 N] w fun e w' => e = .returned (.string (mkB (List.replicate N c))) ∧ w = w' := by
  go_enter Tryd.func115, Tryd.ntmps115
  go_wp2
  go_loopw [0, 1, 5] (fun s n out wr => ∃ a b m : Nat, s = .string (mkB (List.replicate b c)) ∧ n = .int .i64 m ∧ out = .string (mkB (List.replicate a c)) ∧ Hid (a + b * m = N) ∧ b ≤ 2 * N + 1 ∧ a ≤ N ∧ m ≤ N ∧ w = wr) (fun _ n _ _ => (intOf n).toNat)
  case atStart => exact ⟨0, 1, N, rfl, rfl, rfl, Lib.hid (by omega), by omega, by omega, Nat.le_refl _, rfl⟩
  case round =>
    obtain ⟨a, b, m, rfl, rfl, rfl, hs, hb, ha, hm, rfl⟩ := hrel
    rcases Nat.eq_zero_or_pos m with h0 | h0
    · subst h0
      have haN : a = N := by have := hs.out; omega
      subst haN
      go_wp2
      go_ret
      exact ⟨rfl, rfl⟩
    · have hmI : (0 : Int) < (m : Int) := by omega
      have hbN : b ≤ N := by have := hs.out; have := Nat.le_mul_of_pos_right b h0; omega
      have h1 : (mkB (List.replicate b c)).size + (mkB (List.replicate b c)).size ≤ 140737488355328 := by simp [mkB_size]; omega
      have h2 : (mkB (List.replicate a c)).size + (mkB (List.replicate b c)).size ≤ 140737488355328 := by simp [mkB_size]; omega
      have hw : IntKind.i64.wrap ((m : Int) / 2) = (m : Int) / 2 := by rw [IntKind.wrap_i64]; omega
      by_cases hodd : m % 2 = 1
      · have hoI : (m : Int) % 2 = 1 := by omega
        have hnx : (a + b) + (b + b) * (m / 2) = N := by
          have h3 : m = 2 * (m / 2) + 1 := by omega
          have h4 := hs.out
          rw [h3] at h4
          rw [← h4]
          simp only [Nat.mul_add, Nat.add_mul, Nat.mul_one, Nat.two_mul]
          omega
        have hab : a + b ≤ N := by omega
        replace hnx := Lib.hid hnx
        replace hodd := Lib.hid hodd
        go_wp2
        go_round
        case rel => exact ⟨a + b, b + b, m / 2, rfl, by go_num, rfl, hnx, by omega, by omega, by omega, by first | rfl | trivial⟩
        case measure => simp [intOf]; omega
      · have hoI : ¬ (m : Int) % 2 = 1 := by omega
        have hnx : a + (b + b) * (m / 2) = N := by
          have h3 : m = 2 * (m / 2) := by omega
          have h4 := hs.out
          rw [h3] at h4
          rw [← h4]
          simp only [Nat.mul_add, Nat.add_mul, Nat.mul_one, Nat.two_mul]
        replace hnx := Lib.hid hnx
        replace hodd := Lib.hid hodd
        go_wp2
        go_round
        case rel => exact ⟨a, b + b, m / 2, rfl, by go_num, rfl, hnx, by omega, by omega, by omega, by first | rfl | trivial⟩
        case measure => simp [intOf]; omega
end Go.Proofs.YtjihpbioofikcaaDoor
