/-
  DrawE, DrawF: merged.
-/
import Derived.Test.YtiknkjhdieepbaaDoorGC
import Derived.Test.YtiknkjhdieepbaaDoorPutI
import Derived.Test.YtiknkjhdieepbaaDoorGF
import Derived.Test.YtiknkjhdieepbaaDoorResE
/-
  The walks of the functions that draw entries: whatever the code, short texts of which none begins as "fresh" does.
-/
namespace Go.Proofs.YtiknkjhdieepbaaDoor
open Go.RowKit
set_option linter.unusedVariables false
set_option linter.unusedSimpArgs false
attribute [local go_sem] mkB_size mkB_extract mkB_get mkB_append mkB_append_raw raw_append_mkB mkB_toList

def Plain2 (s : List UInt8) : Prop := s.length ≤ 100 ∧ s.take 2 ≠ [102, 114]
instance (s : List UInt8) : Decidable (Plain2 s) := by unfold Plain2; exact inferInstance
theorem drawn_plain : ∀ s ∈ drawnL, Plain2 s := by decide
theorem paths_plain : ∀ s ∈ pathsL, Plain2 s := by decide
def DrE (e : En) : Prop := Plain2 e.path ∧ Plain2 e.text
/-- the reader, so many picks at most -/
def RdB (w : World) (rb b : Nat) : Prop := ∃ p, p ≤ b ∧ Rd w rb p
theorem RdB.lt {w : World} {rb b : Nat} (h : RdB w rb b) : rb < w.heap.size := by obtain ⟨p, _, h⟩ := h; exact h.lt
theorem RdB.le {w : World} {rb b b' : Nat} (h : RdB w rb b) (hb : b ≤ b') : RdB w rb b' := by obtain ⟨p, hp, h⟩ := h; exact ⟨p, by omega, h⟩
theorem gr_of_below {w w' : World} {n rb : Nat} (h : Below n w w') (hn : w.heap.size ≤ n) : w.grownBy w' (some rb) := gr_below (World.grownBy.refl w _) (h.mono hn)
theorem RdB.below {w w' : World} {rb b n : Nat} (h : RdB w rb b) (hB : Below n w w') (hn : w.heap.size ≤ n) : RdB w' rb b := by
  obtain ⟨p, hp, h⟩ := h
  exact ⟨p, hp, h.kept (row := none) ⟨hB.os, hB.tape, hB.output, hB.size, fun k hk _ => hB.block k (by omega)⟩ (fun r e => by cases e)⟩
theorem RdB.alloc {w : World} {rb b : Nat} (h : RdB w rb b) (o : Obj) : RdB (w.alloc o) rb b := h.below ((Below.refl w.heap.size w).alloc (Nat.le_refl _) o) (Nat.le_refl _)
theorem RdB.set {w : World} {rb b : Nat} (h : RdB w rb b) {g j : Nat} {v : Value} (hg : rb < g) : RdB (w.setCell ⟨g, j, none⟩ v) rb b := by
  obtain ⟨p, hp, h⟩ := h
  exact ⟨p, hp, h.kept (grown_set w g j v) (fun r e => by cases e; exact hg)⟩
theorem own_gr {w w' : World} {lo g c rb : Nat} {es : List En} (h : OwnR w lo g c es) (hg : w.grownBy w' (some rb)) (hr : rb < lo) : OwnR w' lo g c es := by
  obtain ⟨h1, h2, h3, h4⟩ := h.parts
  obtain ⟨cur, hh, hs, hc⟩ := h1
  refine OwnR.of ⟨cur, (hg.block g h.lt (fun e => by injection e; omega)).trans hh, hs, hc⟩ h2 h3 h4
theorem box_gr {w w' : World} {rb B : Nat} {t : TypeId} {a b c d : Value} (h : Box4 w B t a b c d) (hg : w.grownBy w' (some rb)) (hr : rb ≠ B) : Box4 w' B t a b c d := h.kept hg (fun e => hr (by injection e; omega))

def PickB (m : Int) (rb b : Nat) (w : World) (e : Ending) (w' : World) : Prop := ∃ v : Nat, (v : Int) < m ∧ e = .returned (.int .i64 (v : Int)) ∧ RdB w' rb b ∧ w.grownBy w' (some rb)
theorem pick_b (rb b : Nat) (m : Int) (w : World) (h : RdB w rb b) (hb : b ≤ 1000000) (hm : 1 ≤ m) (hm2 : m ≤ 1000000) :
    Calls Tryd.prog 12 #[.pointer (some ⟨rb, 0, none⟩), .int .i64 m] w (PickB m rb (b + 1) w) := by
  obtain ⟨p, hp, h⟩ := h
  refine (pick_any rb p m w h (by omega) hm (by omega)).mono ?_
  rintro e w' ⟨v, hv, rfl, hR, hg⟩
  exact ⟨v, hv, rfl, ⟨p + 1, by omega, hR⟩, hg⟩
def OfB (P : List UInt8 → Prop) (rb b : Nat) (w : World) (e : Ending) (w' : World) : Prop := ∃ s, P s ∧ e = .returned (.string (mkB s)) ∧ RdB w' rb b ∧ w.grownBy w' (some rb)
theorem path_b (rb b : Nat) (w : World) (h : RdB w rb b) (hb : b ≤ 1000000) :
    Calls Tryd.prog 49 #[.pointer (some ⟨rb, 0, none⟩)] w (OfB Plain2 rb (b + 1) w) := by
  obtain ⟨p, hp, h⟩ := h
  refine (l11Path_any rb p w h (by omega)).mono ?_
  rintro e w' ⟨s, hs, rfl, hR, hg⟩
  exact ⟨s, paths_plain s hs, rfl, ⟨p + 1, by omega, hR⟩, hg⟩
theorem any_b (rb b : Nat) (w : World) (h : RdB w rb b) (hb : b ≤ 1000000) :
    Calls Tryd.prog 41 #[.pointer (some ⟨rb, 0, none⟩)] w (OfB Plain2 rb (b + 2) w) := by
  obtain ⟨p, hp, h⟩ := h
  refine (l11AnyPath_any rb p w h (by omega)).mono ?_
  rintro e w' ⟨s, hs, rfl, hR, hg⟩
  exact ⟨s, drawn_plain s hs, rfl, ⟨p + 2, by omega, hR⟩, hg⟩
theorem of_b (rb b : Nat) (ss : List (List UInt8)) (P : List UInt8 → Prop) (w : World) (h : RdB w rb b) (hb : b ≤ 1000000) (h1 : 1 ≤ ss.length) (h2 : ss.length ≤ 1000) (hP : ∀ s ∈ ss, P s) :
    Calls Tryd.prog 15 #[.pointer (some ⟨rb, 0, none⟩), .slice (some ⟨w.heap.size, 0, none⟩) ss.length ss.length] (w.alloc (.cells (ss.map strW).toArray 9)) (OfB P rb (b + 1) w) := by
  obtain ⟨p, hp, h⟩ := h
  refine (of_lit rb p ss w h (by omega) h1 (by omega)).mono ?_
  rintro e w' ⟨s, hs, rfl, hR, hg⟩
  exact ⟨s, hP s hs, rfl, ⟨p + 1, by omega, hR⟩, hg⟩
def OneB (ns : List Int) (rb b : Nat) (w : World) (e : Ending) (w' : World) : Prop := ∃ n, n ∈ ns ∧ e = .returned (.int .i64 n) ∧ RdB w' rb b ∧ w.grownBy w' (some rb)
def intV (n : Int) : Value := .int .i64 n
set_option maxHeartbeats 1000000 in
theorem one_b (rb b : Nat) (ns : List Int) (w : World) (h : RdB w rb b) (hb : b ≤ 1000000) (h1 : 1 ≤ ns.length) (h2 : ns.length ≤ 1000) :
    Calls Tryd.prog 42 #[.pointer (some ⟨rb, 0, none⟩), .slice (some ⟨w.heap.size, 0, none⟩) ns.length ns.length] (w.alloc (.cells (ns.map intV).toArray 3)) (OneB ns rb (b + 1) w) := by
  have hlt := h.lt
  obtain ⟨W, hW⟩ : ∃ W, w.alloc (.cells (ns.map intV).toArray 3) = W := ⟨_, rfl⟩
  obtain ⟨g, hg⟩ : ∃ g, w.heap.size = g := ⟨_, rfl⟩
  have hb1 : W.heap[g]? = some (.cells (ns.map intV).toArray 3 (0, 0)) := by rw [← hW, ← hg]; exact World.alloc_heap_new w _
  have hR1 : RdB W rb b := by rw [← hW]; exact h.alloc _
  have hG1 : w.grownBy W (some rb) := by rw [← hW]; exact gr_of_below ((Below.refl w.heap.size w).alloc (Nat.le_refl _) _) (Nat.le_refl _)
  rw [hW, hg]
  have hne : rb ≠ g := by omega
  clear hW
  go_enter Tryd.func42, Tryd.ntmps42
  go_wp2_with fail
  refine (pick_b rb b _ W hR1 hb (by omega) (by omega)).mono ?_
  rintro e w1 ⟨v, hv, rfl, hR, hgr⟩
  have hvl : v < ns.length := by omega
  have hb2 : w1.heap[g]? = some (.cells (ns.map intV).toArray 3 (0, 0)) := (hgr.block g (Array.getElem?_eq_some_iff.1 hb1).1 (fun e => hne (by injection e; omega))).trans hb1
  have hc : w1.cell? ⟨g, v, none⟩ = some (.int .i64 ns[v]) := by
    rw [cell_of_row _ _ _ _ _ _ hb2]
    simp [intV, hvl]
  clear hb1 hb2
  go_wp2
  go_ret
  exact ⟨_, List.getElem_mem hvl, rfl, hR, grown_trans hG1 hgr⟩

end Go.Proofs.YtiknkjhdieepbaaDoor

/-
  The walks of l11Text, l11Entry and l11AnyEntry.
-/
namespace Go.Proofs.YtiknkjhdieepbaaDoor
open Go.RowKit
set_option linter.unusedVariables false
set_option linter.unusedSimpArgs false
attribute [local go_sem] mkB_size mkB_extract mkB_get mkB_append mkB_append_raw raw_append_mkB mkB_toList

set_option maxHeartbeats 2000000 in
theorem l11Text_any (rb b : Nat) (w : World) (h : RdB w rb b) (hb : b ≤ 1000000) :
    Calls Tryd.prog 50 #[.pointer (some ⟨rb, 0, none⟩)] w (OfB Plain2 rb (b + 1) w) := by
  go_enter Tryd.func50, Tryd.ntmps50
  go_wp2_with fail
  refine (l1Many_any 116 80 (by omega) _).mono ?_
  rintro e w1 ⟨rfl, rfl⟩
  obtain ⟨x, hx⟩ : ∃ x, List.replicate 80 (116 : UInt8) = x := ⟨_, rfl⟩
  have hxp : Plain2 x := by rw [← hx]; decide
  rw [hx]
  clear hx
  go_wp2_with fail
  refine (of_b rb b [[], [111, 110, 101, 10], [111, 110, 101, 10, 116, 119, 111, 10, 116, 104, 114, 101, 101, 10], [110, 111, 32, 101, 110, 100], [97, 10, 98, 10, 99, 10, 100, 10, 101, 10, 102, 10, 103, 10], x] Plain2 w h hb (by simp) (by simp) ?_).mono ?_
  · intro s hs
    simp only [List.mem_cons, List.mem_nil_iff, or_false] at hs
    rcases hs with rfl | rfl | rfl | rfl | rfl | rfl
    · decide
    · decide
    · decide
    · decide
    · decide
    · exact hxp
  rintro e w2 ⟨s, hs, rfl, hR, hg⟩
  go_wp2
  go_ret
  exact ⟨s, hs, rfl, hR, hg⟩

theorem plain_nil : Plain2 [] := by decide
/-- an entry was drawn -/
def EnB (rb b : Nat) (w : World) (e : Ending) (w' : World) : Prop := ∃ x : En, DrE x ∧ e = .returned (enV x) ∧ RdB w' rb b ∧ w.grownBy w' (some rb)
/-- the entry of the call's result is written, and handed back -/
theorem set4_gr {w W : World} {rb B : Nat} (h : w.grownBy W (some rb)) (hB : w.heap.size ≤ B) (a b c d : Value) : w.grownBy ((((W.setCell ⟨B, 0, none⟩ a).setCell ⟨B, 1, none⟩ b).setCell ⟨B, 2, none⟩ c).setCell ⟨B, 3, none⟩ d) (some rb) := by
  have h1 : ∀ {X : World} (j : Nat) (v : Value), w.grownBy X (some rb) → w.grownBy (X.setCell ⟨B, j, none⟩ v) (some rb) := fun j v k =>
    ⟨k.os, k.tape, k.output, Nat.le_trans k.size (KeepsWalks.setCell _ _ v).size, fun i hi hne => (Below.heap_setCell _ _ _ i (fun e => by simp at e; omega)).trans (k.block i hi hne)⟩
  exact h1 3 d (h1 2 c (h1 1 b (h1 0 a h)))
theorem set1_gr {w W : World} {rb B : Nat} (h : w.grownBy W (some rb)) (hB : w.heap.size ≤ B) (j : Nat) (v : Value) : w.grownBy (W.setCell ⟨B, j, none⟩ v) (some rb) :=
  ⟨h.os, h.tape, h.output, Nat.le_trans h.size (KeepsWalks.setCell _ _ v).size, fun i hi hne => (Below.heap_setCell _ _ _ i (fun e => by simp at e; omega)).trans (h.block i hi hne)⟩
theorem set4_rd {W : World} {rb bb B : Nat} (h : RdB W rb bb) (hB : rb < B) (a b c d : Value) : RdB ((((W.setCell ⟨B, 0, none⟩ a).setCell ⟨B, 1, none⟩ b).setCell ⟨B, 2, none⟩ c).setCell ⟨B, 3, none⟩ d) rb bb := (((h.set hB).set hB).set hB).set hB

set_option maxRecDepth 1000000 in
set_option maxHeartbeats 8000000 in
theorem l11Entry_any (rb b : Nat) (w : World) (h : RdB w rb b) (hb : b ≤ 900000) :
    Calls Tryd.prog 28 #[.pointer (some ⟨rb, 0, none⟩)] w (EnB rb (b + 4) w) := by
  have hlt := h.lt
  have hh := Lib.hid h
  clear h
  go_enter Tryd.func28, Tryd.ntmps28
  go_wp2_with fail
  obtain ⟨W1, hW1⟩ : ∃ W1, (w.alloc (.cells #[.string { data := #[] }, .int .i64 0, .int .i64 0, .string { data := #[] }] 30)) = W1 := ⟨_, rfl⟩
  have hr1 : Box4 W1 w.heap.size 30 (.string { data := #[] }) (.int .i64 0) (.int .i64 0) (.string { data := #[] }) := by rw [← hW1]; exact (Box4.new _ _ _ _ _ _)
  have hR1 := hh.out.alloc (.cells #[.string { data := #[] }, .int .i64 0, .int .i64 0, .string { data := #[] }] 30)
  have hg1 : w.grownBy W1 (some rb) := by rw [← hW1]; exact gr_of_below ((Below.refl w.heap.size w).alloc (Nat.le_refl _) _) (Nat.le_refl _)
  rw [hW1] at hR1 ⊢
  clear hW1
  with_reducible refine (path_b rb b _ hR1 (by omega)).mono ?_
  rintro e w2 ⟨p, hp, rfl, hR2, hg2⟩
  have hr2 := box_gr hr1 hg2 (by omega)
  replace hg2 := grown_trans hg1 hg2
  clear hr1 hR1 hg1
  go_wp2_with fail
  refine (one_b rb (b + 1) [1, 1, 2, 2, 3] w2 hR2 (by omega) (by simp) (by simp)).mono ?_
  rintro e w3 ⟨kd, hkd, rfl, hR3, hg3⟩
  have hr3 := box_gr hr2 hg3 (by omega)
  replace hg3 := grown_trans hg2 hg3
  clear hr2 hR2 hg2
  go_wp2_with fail
  with_reducible refine (pick_b rb (b + 1 + 1) 8 w3 hR3 (by omega) (by omega) (by omega)).mono ?_
  rintro e w4 ⟨md, hmd, rfl, hR4, hg4⟩
  have hr4 := box_gr hr3 hg4 (by omega)
  replace hg4 := grown_trans hg3 hg4
  clear hr3 hR3 hg3 hmd
  have hBlt := hr4.lt
  have b0 := hr4.cell0
  have f0 := hr4.frozen 0
  have b1 := hr4.cell1
  have f1 := hr4.frozen 1
  have b2 := hr4.cell2
  have f2 := hr4.frozen 2
  have b3 := hr4.cell3
  have f3 := hr4.frozen 3
  have hk3 : kd = 1 ∨ kd = 2 ∨ kd = 3 := by simp at hkd; omega
  clear hkd
  rcases hk3 with rfl | rfl | rfl
  · obtain ⟨W5, hW5⟩ : ∃ X, (((w4.setCell ⟨w.heap.size, 0, none⟩ (.string (mkB p))).setCell ⟨w.heap.size, 1, none⟩ (.int .i64 1)).setCell ⟨w.heap.size, 2, none⟩ (.int .i64 md)).setCell ⟨w.heap.size, 3, none⟩ (.string { data := #[] }) = X := ⟨_, rfl⟩
    have hbx : Box4 W5 w.heap.size 30 (.string (mkB p)) (.int .i64 1) (.int .i64 md) (.string { data := #[] }) := by rw [← hW5]; exact ((((hr4.set0 _).set1 _).set2 _).set3 _)
    have hR5 : RdB W5 rb (b + 1 + 1 + 1) := by rw [← hW5]; exact set4_rd hR4 hlt _ _ _ _
    have hg5 : w.grownBy W5 (some rb) := by rw [← hW5]; exact set4_gr hg4 (Nat.le_refl _) _ _ _ _
    replace hbx := Lib.hid hbx
    replace hR5 := Lib.hid hR5
    replace hg5 := Lib.hid hg5
    replace hW5 := Lib.hid hW5
    go_wp2
    rw [hW5.out]
    have hB6 : Below W5.heap.size W5 (W5.alloc (.cells #[.string (mkB p), .int .i64 1, .int .i64 md, .string { data := #[] }] 30)) := (Below.refl _ _).alloc (Nat.le_refl _) _
    have hfin := hbx.out.below hB6 hbx.out.lt
    have e0 := hfin.cell0
    have e1 := hfin.cell1
    have e2 := hfin.cell2
    have e3 := hfin.cell3
    refine bodyPost_ret (v := .agg #[.string (mkB p), .int .i64 1, .int .i64 md, .string { data := #[] }]) (by simp [results, Tryd.results28, go_sem, e0, e1, e2, e3]) rfl ?_
    exact ⟨⟨p, 1, md, []⟩, ⟨hp, plain_nil⟩, rfl, RdB.le (hR5.out.below hB6 (Nat.le_refl _)) (by omega), grown_trans hg5.out (gr_of_below hB6 (Nat.le_refl _))⟩
  · clear b0 b1 b2 b3 f0 f1 f2 f3
    go_wp2_with fail
    obtain ⟨W5, hW5⟩ : ∃ W5, (w4.alloc (.cells #[.string (mkB p), .int .i64 2, .int .i64 md, .string { data := #[] }] 30)) = W5 := ⟨_, rfl⟩
    have hx5 : Box4 W5 w4.heap.size 30 (.string (mkB p)) (.int .i64 2) (.int .i64 md) (.string { data := #[] }) := by rw [← hW5]; exact Box4.new _ _ _ _ _ _
    have hB5 : Below w4.heap.size w4 W5 := by rw [← hW5]; exact (Below.refl _ _).alloc (Nat.le_refl _) _
    have hr5 := hr4.below hB5 hBlt
    have hR5 := hR4.below hB5 (Nat.le_refl _)
    have hg5 := grown_trans hg4 (gr_of_below hB5 (Nat.le_refl _))
    rw [hW5]
    clear hW5
    with_reducible refine (l11Text_any rb (b + 1 + 1 + 1) W5 hR5 (by omega)).mono ?_
    rintro e w6 ⟨t, ht, rfl, hR6, hg6⟩
    have hx6 := box_gr hx5 hg6 (by omega)
    have hr6 := box_gr hr5 hg6 (by omega)
    replace hg6 := grown_trans hg5 hg6
    clear hx5 hr5 hR5 hg5 hB5 hr4 hg4 hR4
    have x0 := hx6.cell0
    have x1 := hx6.cell1
    have x2 := hx6.cell2
    have x3 := hx6.cell3
    have fx3 := hx6.frozen 3
    have b0 := hr6.cell0
    have f0 := hr6.frozen 0
    have b1 := hr6.cell1
    have f1 := hr6.frozen 1
    have b2 := hr6.cell2
    have f2 := hr6.frozen 2
    have b3 := hr6.cell3
    have f3 := hr6.frozen 3
    have hne : w.heap.size ≠ w4.heap.size := by omega
    have hlt4 : rb < w4.heap.size := by omega
    replace hg6 := Lib.hid (show w.grownBy (w6.setCell ⟨w4.heap.size, 3, none⟩ (.string (mkB t))) (some rb) from set1_gr hg6 (by omega) _ _)
    replace hR6 := Lib.hid (show RdB (w6.setCell ⟨w4.heap.size, 3, none⟩ (.string (mkB t))) rb _ from hR6.set hlt4)
    have hy := Lib.hid (hr6.apart (g := w4.heap.size) (j := 3) hne (.string (mkB t)))
    go_wp2
    have hfin := (((hy.out.set0 (.string (mkB p))).set1 (.int .i64 2)).set2 (.int .i64 md)).set3 (.string (mkB t))
    have e0 := hfin.cell0
    have e1 := hfin.cell1
    have e2 := hfin.cell2
    have e3 := hfin.cell3
    refine bodyPost_ret (v := .agg #[.string (mkB p), .int .i64 2, .int .i64 md, .string (mkB t)]) (by simp [results, Tryd.results28, go_sem, e0, e1, e2, e3]) rfl ?_
    exact ⟨⟨p, 2, md, t⟩, ⟨hp, ht⟩, rfl, RdB.le (set4_rd hR6.out hlt _ _ _ _) (by omega), set4_gr hg6.out (Nat.le_refl _) _ _ _ _⟩
  · clear b0 b1 b2 b3 f0 f1 f2 f3
    go_wp2_with fail
    obtain ⟨W5, hW5⟩ : ∃ W5, (w4.alloc (.cells #[.string (mkB p), .int .i64 3, .int .i64 0, .string { data := #[] }] 30)) = W5 := ⟨_, rfl⟩
    have hx5 : Box4 W5 w4.heap.size 30 (.string (mkB p)) (.int .i64 3) (.int .i64 0) (.string { data := #[] }) := by rw [← hW5]; exact Box4.new _ _ _ _ _ _
    have hB5 : Below w4.heap.size w4 W5 := by rw [← hW5]; exact (Below.refl _ _).alloc (Nat.le_refl _) _
    have hr5 := hr4.below hB5 hBlt
    have hR5 := hR4.below hB5 (Nat.le_refl _)
    have hg5 := grown_trans hg4 (gr_of_below hB5 (Nat.le_refl _))
    rw [hW5]
    clear hW5
    with_reducible refine (path_b rb (b + 1 + 1 + 1) W5 hR5 (by omega)).mono ?_
    rintro e w6 ⟨t, ht, rfl, hR6, hg6⟩
    have hx6 := box_gr hx5 hg6 (by omega)
    have hr6 := box_gr hr5 hg6 (by omega)
    replace hg6 := grown_trans hg5 hg6
    clear hx5 hr5 hR5 hg5 hB5 hr4 hg4 hR4
    have x0 := hx6.cell0
    have x1 := hx6.cell1
    have x2 := hx6.cell2
    have x3 := hx6.cell3
    have fx3 := hx6.frozen 3
    have b0 := hr6.cell0
    have f0 := hr6.frozen 0
    have b1 := hr6.cell1
    have f1 := hr6.frozen 1
    have b2 := hr6.cell2
    have f2 := hr6.frozen 2
    have b3 := hr6.cell3
    have f3 := hr6.frozen 3
    have hne : w.heap.size ≠ w4.heap.size := by omega
    have hlt4 : rb < w4.heap.size := by omega
    replace hg6 := Lib.hid (show w.grownBy (w6.setCell ⟨w4.heap.size, 3, none⟩ (.string (mkB t))) (some rb) from set1_gr hg6 (by omega) _ _)
    replace hR6 := Lib.hid (show RdB (w6.setCell ⟨w4.heap.size, 3, none⟩ (.string (mkB t))) rb _ from hR6.set hlt4)
    have hy := Lib.hid (hr6.apart (g := w4.heap.size) (j := 3) hne (.string (mkB t)))
    go_wp2
    have hfin := (((hy.out.set0 (.string (mkB p))).set1 (.int .i64 3)).set2 (.int .i64 0)).set3 (.string (mkB t))
    have e0 := hfin.cell0
    have e1 := hfin.cell1
    have e2 := hfin.cell2
    have e3 := hfin.cell3
    refine bodyPost_ret (v := .agg #[.string (mkB p), .int .i64 3, .int .i64 0, .string (mkB t)]) (by simp [results, Tryd.results28, go_sem, e0, e1, e2, e3]) rfl ?_
    exact ⟨⟨p, 3, 0, t⟩, ⟨hp, ht⟩, rfl, RdB.le (set4_rd hR6.out hlt _ _ _ _) (by omega), set4_gr hg6.out (Nat.le_refl _) _ _ _ _⟩

theorem manys_plain : Plain2 (List.replicate 81 117) := by decide
set_option maxRecDepth 1000000 in
set_option maxHeartbeats 8000000 in
theorem l11AnyEntry_any (rb b : Nat) (w : World) (h : RdB w rb b) (hb : b ≤ 800000) :
    Calls Tryd.prog 24 #[.pointer (some ⟨rb, 0, none⟩)] w (EnB rb (b + 7) w) := by
  have hlt := h.lt
  have hh := Lib.hid h
  clear h
  go_enter Tryd.func24, Tryd.ntmps24
  go_wp2_with fail
  obtain ⟨W1, hW1⟩ : ∃ W1, (w.alloc (.cells #[.string { data := #[] }, .int .i64 0, .int .i64 0, .string { data := #[] }] 30)) = W1 := ⟨_, rfl⟩
  have hr1 : Box4 W1 w.heap.size 30 (.string { data := #[] }) (.int .i64 0) (.int .i64 0) (.string { data := #[] }) := by rw [← hW1]; exact (Box4.new _ _ _ _ _ _)
  have hR1 := hh.out.alloc (.cells #[.string { data := #[] }, .int .i64 0, .int .i64 0, .string { data := #[] }] 30)
  have hg1 : w.grownBy W1 (some rb) := by rw [← hW1]; exact gr_of_below ((Below.refl w.heap.size w).alloc (Nat.le_refl _) _) (Nat.le_refl _)
  rw [hW1] at hR1 ⊢
  clear hW1
  with_reducible refine (l11Entry_any rb b _ hR1 (by omega)).mono ?_
  rintro e w2 ⟨⟨p, kd, md, t⟩, hx, rfl, hR2, hg2⟩
  obtain ⟨hp, ht⟩ := hx
  simp only at hp ht
  have hr2 := box_gr hr1 hg2 (by omega)
  replace hg2 := grown_trans hg1 hg2
  have hBlt2 := hr2.lt
  clear hr1 hR1 hg1
  have hst : ∃ W3, w2.alloc (.cells #[.string (mkB p), .int .i64 kd, .int .i64 md, .string (mkB t)] 30) = W3 ∧ Box4 W3 w2.heap.size 30 (.string (mkB p)) (.int .i64 kd) (.int .i64 md) (.string (mkB t)) ∧ Below w2.heap.size w2 W3 := ⟨_, rfl, Box4.new _ _ _ _ _ _, (Below.refl _ _).alloc (Nat.le_refl _) _⟩
  replace hst := Lib.hid hst
  have hlt2 : rb < w2.heap.size := by omega
  go_wp2_with fail
  obtain ⟨W3, hW3, hx3, hB3⟩ := hst.out
  have hr3 := hr2.below hB3 hBlt2
  have hR3 := hR2.below hB3 (Nat.le_refl _)
  have hg3 := grown_trans hg2 (gr_of_below hB3 (Nat.le_refl _))
  rw [hW3]
  clear hW3
  with_reducible refine (pick_b rb (b + 4) 14 W3 hR3 (by omega) (by omega) (by omega)).mono ?_
  rintro e w4 ⟨v, hv, rfl, hR4, hg4⟩
  have hx4 := box_gr hx3 hg4 (by omega)
  have hr4 := box_gr hr3 hg4 (by omega)
  replace hg4 := grown_trans hg3 hg4
  clear hx3 hr3 hR3 hg3 hB3 hr2 hR2 hg2 hst
  obtain ⟨xb, hxb⟩ : ∃ x, w2.heap.size = x := ⟨_, rfl⟩
  rw [hxb] at hx4 hBlt2 hlt2 ⊢
  clear hxb
  have hne : w.heap.size ≠ xb := by omega
  by_cases v0 : v = 0
  · subst v0
    go_wp2_with fail
    with_reducible refine (any_b rb (b + 4 + 1) w4 hR4 (by omega)).mono ?_
    rintro e w5 ⟨q, hq, rfl, hR5, hg5⟩
    have hx5 := box_gr hx4 hg5 (by omega)
    have hr5 := box_gr hr4 hg5 (by omega)
    replace hg5 := grown_trans hg4 hg5
    clear hx4 hr4 hg4 hR4
    have fx := hx5.frozen 0
    have x0 := hx5.cell0
    have x1 := hx5.cell1
    have x2 := hx5.cell2
    have x3 := hx5.cell3
    have b0 := hr5.cell0
    have f0 := hr5.frozen 0
    have b1 := hr5.cell1
    have f1 := hr5.frozen 1
    have b2 := hr5.cell2
    have f2 := hr5.frozen 2
    have b3 := hr5.cell3
    have f3 := hr5.frozen 3
    replace hg5 := Lib.hid (show w.grownBy (w5.setCell ⟨xb, 0, none⟩ (.string (mkB q))) (some rb) from set1_gr hg5 (by omega) _ _)
    replace hR5 := Lib.hid (show RdB (w5.setCell ⟨xb, 0, none⟩ (.string (mkB q))) rb _ from hR5.set hlt2)
    have hy := Lib.hid (hr5.apart (g := xb) (j := 0) hne (.string (mkB q)))
    go_wp2
    have hfin := (((hy.out.set0 (.string (mkB q))).set1 (.int .i64 kd)).set2 (.int .i64 md)).set3 (.string (mkB t))
    have e0 := hfin.cell0
    have e1 := hfin.cell1
    have e2 := hfin.cell2
    have e3 := hfin.cell3
    refine bodyPost_ret (v := .agg #[.string (mkB q), .int .i64 kd, .int .i64 md, .string (mkB t)]) (by simp [results, Tryd.results24, go_sem, e0, e1, e2, e3]) rfl ?_
    exact ⟨⟨q, kd, md, t⟩, ⟨hq, ht⟩, rfl, RdB.le (set4_rd hR5.out hlt _ _ _ _) (by omega), set4_gr hg5.out (Nat.le_refl _) _ _ _ _⟩
  by_cases v1 : v = 1
  · subst v1
    go_wp2_with fail
    with_reducible refine (pick_b rb (b + 4 + 1) 5 w4 hR4 (by omega) (by omega) (by omega)).mono ?_
    rintro e w5 ⟨q, hq, rfl, hR5, hg5⟩
    have hx5 := box_gr hx4 hg5 (by omega)
    have hr5 := box_gr hr4 hg5 (by omega)
    replace hg5 := grown_trans hg4 hg5
    clear hx4 hr4 hg4 hR4
    have fx := hx5.frozen 1
    have x0 := hx5.cell0
    have x1 := hx5.cell1
    have x2 := hx5.cell2
    have x3 := hx5.cell3
    have b0 := hr5.cell0
    have f0 := hr5.frozen 0
    have b1 := hr5.cell1
    have f1 := hr5.frozen 1
    have b2 := hr5.cell2
    have f2 := hr5.frozen 2
    have b3 := hr5.cell3
    have f3 := hr5.frozen 3
    replace hg5 := Lib.hid (show w.grownBy (w5.setCell ⟨xb, 1, none⟩ (.int .i64 q)) (some rb) from set1_gr hg5 (by omega) _ _)
    replace hR5 := Lib.hid (show RdB (w5.setCell ⟨xb, 1, none⟩ (.int .i64 q)) rb _ from hR5.set hlt2)
    have hy := Lib.hid (hr5.apart (g := xb) (j := 1) hne (.int .i64 q))
    go_wp2
    have hfin := (((hy.out.set0 (.string (mkB p))).set1 (.int .i64 q)).set2 (.int .i64 md)).set3 (.string (mkB t))
    have e0 := hfin.cell0
    have e1 := hfin.cell1
    have e2 := hfin.cell2
    have e3 := hfin.cell3
    refine bodyPost_ret (v := .agg #[.string (mkB p), .int .i64 q, .int .i64 md, .string (mkB t)]) (by simp [results, Tryd.results24, go_sem, e0, e1, e2, e3]) rfl ?_
    exact ⟨⟨p, q, md, t⟩, ⟨hp, ht⟩, rfl, RdB.le (set4_rd hR5.out hlt _ _ _ _) (by omega), set4_gr hg5.out (Nat.le_refl _) _ _ _ _⟩
  by_cases v2 : v = 2
  · subst v2
    go_wp2_with fail
    refine (one_b rb (b + 4 + 1) [-1, 8, 0] w4 hR4 (by omega) (by simp) (by simp)).mono ?_
    rintro e w5 ⟨q, hq, rfl, hR5, hg5⟩
    clear hq
    have hx5 := box_gr hx4 hg5 (by omega)
    have hr5 := box_gr hr4 hg5 (by omega)
    replace hg5 := grown_trans hg4 hg5
    clear hx4 hr4 hg4 hR4
    have fx := hx5.frozen 2
    have x0 := hx5.cell0
    have x1 := hx5.cell1
    have x2 := hx5.cell2
    have x3 := hx5.cell3
    have b0 := hr5.cell0
    have f0 := hr5.frozen 0
    have b1 := hr5.cell1
    have f1 := hr5.frozen 1
    have b2 := hr5.cell2
    have f2 := hr5.frozen 2
    have b3 := hr5.cell3
    have f3 := hr5.frozen 3
    replace hg5 := Lib.hid (show w.grownBy (w5.setCell ⟨xb, 2, none⟩ (.int .i64 q)) (some rb) from set1_gr hg5 (by omega) _ _)
    replace hR5 := Lib.hid (show RdB (w5.setCell ⟨xb, 2, none⟩ (.int .i64 q)) rb _ from hR5.set hlt2)
    have hy := Lib.hid (hr5.apart (g := xb) (j := 2) hne (.int .i64 q))
    go_wp2
    have hfin := (((hy.out.set0 (.string (mkB p))).set1 (.int .i64 kd)).set2 (.int .i64 q)).set3 (.string (mkB t))
    have e0 := hfin.cell0
    have e1 := hfin.cell1
    have e2 := hfin.cell2
    have e3 := hfin.cell3
    refine bodyPost_ret (v := .agg #[.string (mkB p), .int .i64 kd, .int .i64 q, .string (mkB t)]) (by simp [results, Tryd.results24, go_sem, e0, e1, e2, e3]) rfl ?_
    exact ⟨⟨p, kd, q, t⟩, ⟨hp, ht⟩, rfl, RdB.le (set4_rd hR5.out hlt _ _ _ _) (by omega), set4_gr hg5.out (Nat.le_refl _) _ _ _ _⟩
  by_cases v3 : v = 3
  · subst v3
    go_wp2_with fail
    refine (l1Many_any 117 81 (by omega) _).mono ?_
    rintro e w4' ⟨rfl, rfl⟩
    have hmy := manys_plain
    obtain ⟨y, hy⟩ : ∃ y, List.replicate 81 (117 : UInt8) = y := ⟨_, rfl⟩
    rw [hy] at hmy ⊢
    clear hy
    go_wp2_with fail
    refine (of_b rb (b + 4 + 1) [[1], y, [120], []] Plain2 w4 hR4 (by omega) (by simp) (by simp) ?_).mono ?_
    · intro s hs
      simp only [List.mem_cons, List.mem_nil_iff, or_false] at hs
      rcases hs with rfl | rfl | rfl | rfl
      · decide
      · exact hmy
      · decide
      · decide
    rintro e w5 ⟨q, hq, rfl, hR5, hg5⟩
    have hx5 := box_gr hx4 hg5 (by omega)
    have hr5 := box_gr hr4 hg5 (by omega)
    replace hg5 := grown_trans hg4 hg5
    clear hx4 hr4 hg4 hR4
    have fx := hx5.frozen 3
    have x0 := hx5.cell0
    have x1 := hx5.cell1
    have x2 := hx5.cell2
    have x3 := hx5.cell3
    have b0 := hr5.cell0
    have f0 := hr5.frozen 0
    have b1 := hr5.cell1
    have f1 := hr5.frozen 1
    have b2 := hr5.cell2
    have f2 := hr5.frozen 2
    have b3 := hr5.cell3
    have f3 := hr5.frozen 3
    replace hg5 := Lib.hid (show w.grownBy (w5.setCell ⟨xb, 3, none⟩ (.string (mkB q))) (some rb) from set1_gr hg5 (by omega) _ _)
    replace hR5 := Lib.hid (show RdB (w5.setCell ⟨xb, 3, none⟩ (.string (mkB q))) rb _ from hR5.set hlt2)
    have hy := Lib.hid (hr5.apart (g := xb) (j := 3) hne (.string (mkB q)))
    go_wp2
    have hfin := (((hy.out.set0 (.string (mkB p))).set1 (.int .i64 kd)).set2 (.int .i64 md)).set3 (.string (mkB q))
    have e0 := hfin.cell0
    have e1 := hfin.cell1
    have e2 := hfin.cell2
    have e3 := hfin.cell3
    refine bodyPost_ret (v := .agg #[.string (mkB p), .int .i64 kd, .int .i64 md, .string (mkB q)]) (by simp [results, Tryd.results24, go_sem, e0, e1, e2, e3]) rfl ?_
    exact ⟨⟨p, kd, md, q⟩, ⟨hp, hq⟩, rfl, RdB.le (set4_rd hR5.out hlt _ _ _ _) (by omega), set4_gr hg5.out (Nat.le_refl _) _ _ _ _⟩
  have h0 : ((v : Int) == 0) = false := by simp; omega
  have h1 : ((v : Int) == 1) = false := by simp; omega
  have h2 : ((v : Int) == 2) = false := by simp; omega
  have h3 : ((v : Int) == 3) = false := by simp; omega
  replace v0 := Lib.hid v0
  replace v1 := Lib.hid v1
  replace v2 := Lib.hid v2
  replace v3 := Lib.hid v3
  have hx5 := hx4
  have hr5 := hr4
  have x0 := hx5.cell0
  have x1 := hx5.cell1
  have x2 := hx5.cell2
  have x3 := hx5.cell3
  have b0 := hr5.cell0
  have f0 := hr5.frozen 0
  have b1 := hr5.cell1
  have f1 := hr5.frozen 1
  have b2 := hr5.cell2
  have f2 := hr5.frozen 2
  have b3 := hr5.cell3
  have f3 := hr5.frozen 3
  clear hx4
  go_wp2
  have hfin := (((hr5.set0 (.string (mkB p))).set1 (.int .i64 kd)).set2 (.int .i64 md)).set3 (.string (mkB t))
  have e0 := hfin.cell0
  have e1 := hfin.cell1
  have e2 := hfin.cell2
  have e3 := hfin.cell3
  refine bodyPost_ret (v := .agg #[.string (mkB p), .int .i64 kd, .int .i64 md, .string (mkB t)]) (by simp [results, Tryd.results24, go_sem, e0, e1, e2, e3]) rfl ?_
  exact ⟨⟨p, kd, md, t⟩, ⟨hp, ht⟩, rfl, RdB.le (set4_rd hR4 hlt _ _ _ _) (by omega), set4_gr hg4 (Nat.le_refl _) _ _ _ _⟩
end Go.Proofs.YtiknkjhdieepbaaDoor

