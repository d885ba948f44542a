/-
  The walks of the functions that draw versions and needs: whatever the code, short texts and small kinds.
-/
import Derived.Test.YtdcfifhmldolhaaDoorPick
import Derived.Test.YtdcfifhmldolhaaDoorNeedF
namespace Go.Proofs.YtdcfifhmldolhaaDoor
open Go.RowKit
set_option linter.unusedVariables false
attribute [local go_sem] mkB_size mkB_extract mkB_get mkB_append mkB_append_raw raw_append_mkB mkB_toList

def versL : List (List UInt8) := [[49], [49, 46, 48], [49, 46, 49], [49, 46, 50], [50], [48, 46, 57, 46, 57], [49, 46, 49, 48], [57, 57, 57, 46, 57, 57, 57, 46, 57, 57, 57, 46, 57, 57, 57]]
def badsL : List (List UInt8) := [[], [46], [49, 46], [48, 49], [49, 48, 48, 48], [49, 46, 50, 46, 51, 46, 52, 46, 53], [97], [49, 46, 45, 49]]
def namesL : List (List UInt8) := [[111, 110, 101], [116, 119, 111], [116, 104, 114, 101, 101], [122, 105, 112]]
def oddL : List (List UInt8) := [[], [57], [79, 110, 101], [101, 108, 101, 118, 101, 110, 108, 101, 116, 116, 101]]
theorem vers_short : ∀ s ∈ versL, s.length ≤ 20 := by decide
theorem bads_short : ∀ s ∈ badsL, s.length ≤ 20 := by decide
theorem names_short : ∀ s ∈ namesL, s.length ≤ 20 := by decide
theorem odd_short : ∀ s ∈ oddL, s.length ≤ 20 := by decide
/-- a short text was drawn, with k picks at most -/
def DrawT (k : Nat) (rb p : Nat) (w : World) (e : Ending) (w' : World) : Prop :=
  ∃ s q, s.length ≤ 20 ∧ q ≤ p + k ∧ e = .returned (.string (mkB s)) ∧ Rd w' rb q ∧ w.grownBy w' (some rb)
/-- a small need was drawn, with k picks at most -/
def DrawNd (k : Nat) (rb p : Nat) (w : World) (e : Ending) (w' : World) : Prop :=
  ∃ (nm vr : List UInt8) (kd : Int) (q : Nat), nm.length ≤ 20 ∧ vr.length ≤ 20 ∧ -1 ≤ kd ∧ kd ≤ 4 ∧ q ≤ p + k ∧ e = .returned (.agg #[.string (mkB nm), .int .i64 kd, .string (mkB vr)]) ∧ Rd w' rb q ∧ w.grownBy w' (some rb)

set_option maxHeartbeats 1000000 in
theorem l11Version_any (rb p : Nat) (w : World) (h : Rd w rb p) (hp : p ≤ 1073741824) :
    Calls Tryd.prog 38 #[.pointer (some ⟨rb, 0, none⟩)] w (DrawT 1 rb p w) := by
  go_enter Tryd.func38, Tryd.ntmps38
  go_wp2_with fail
  refine (of_lit rb p versL w h hp (by decide) (by decide)).mono ?_
  rintro e w1 ⟨s, hs, rfl, hR, hg⟩
  go_wp2
  go_ret
  exact ⟨s, p + 1, vers_short s hs, by omega, rfl, hR, hg⟩

set_option maxHeartbeats 1000000 in
theorem l11AnyVersion_any (rb p : Nat) (w : World) (h : Rd w rb p) (hp : p ≤ 1073741823) :
    Calls Tryd.prog 35 #[.pointer (some ⟨rb, 0, none⟩)] w (DrawT 2 rb p w) := by
  go_enter Tryd.func35, Tryd.ntmps35
  go_wp2_with fail
  refine (pick_any rb p 6 w h (by omega) (by omega) (by omega)).mono ?_
  rintro e w1 ⟨v, hv, rfl, hR, hg⟩
  by_cases hv0 : v = 0
  · subst hv0
    go_wp2_with fail
    refine (of_lit rb (p + 1) badsL w1 hR (by omega) (by decide) (by decide)).mono ?_
    rintro e w2 ⟨s, hs, rfl, hR2, hg2⟩
    go_wp2
    go_ret
    exact ⟨s, p + 1 + 1, bads_short s hs, by omega, rfl, hR2, grown_trans hg hg2⟩
  · have hv1 : ((v : Int) == 0) = false := by simp; omega
    have hv0 := Lib.hid hv0
    go_wp2_with fail
    refine (l11Version_any rb (p + 1) w1 hR (by omega)).mono ?_
    rintro e w2 ⟨s, q, hs, hq, rfl, hR2, hg2⟩
    go_wp2
    go_ret
    exact ⟨s, q, hs, by omega, rfl, hR2, grown_trans hg hg2⟩

/-- a need's box -/
def Box3 (W : World) (B : Nat) (t : TypeId) (a b c : Value) : Prop := W.heap[B]? = some (.cells #[a, b, c] t (0, 0))
theorem Box3.new (w : World) (t : TypeId) (a b c : Value) : Box3 (w.alloc (.cells #[a, b, c] t)) w.heap.size t a b c := World.alloc_heap_new w _
theorem Box3.cell0 {W : World} {B : Nat} {t : TypeId} {a b c : Value} (h : Box3 W B t a b c) : W.cell? ⟨B, 0, none⟩ = some a := by rw [cell_of_row _ _ _ _ _ _ h]; rfl
theorem Box3.cell1 {W : World} {B : Nat} {t : TypeId} {a b c : Value} (h : Box3 W B t a b c) : W.cell? ⟨B, 1, none⟩ = some b := by rw [cell_of_row _ _ _ _ _ _ h]; rfl
theorem Box3.cell2 {W : World} {B : Nat} {t : TypeId} {a b c : Value} (h : Box3 W B t a b c) : W.cell? ⟨B, 2, none⟩ = some c := by rw [cell_of_row _ _ _ _ _ _ h]; rfl
theorem Box3.frozen {W : World} {B : Nat} {t : TypeId} {a b c : Value} (h : Box3 W B t a b c) (j : Nat) : W.frozen? ⟨B, j, none⟩ = false := by
  unfold Box3 at h
  simp [World.frozen?, h]
theorem Box3.lt {W : World} {B : Nat} {t : TypeId} {a b c : Value} (h : Box3 W B t a b c) : B < W.heap.size := (Array.getElem?_eq_some_iff.1 h).1
theorem Box3.kept {W W' : World} {row : Option Nat} {B : Nat} {t : TypeId} {a b c : Value} (h : Box3 W B t a b c) (hg : W.grownBy W' row) (hne : some B ≠ row) : Box3 W' B t a b c := (hg.block B h.lt hne).trans h
theorem Box3.set0 {W : World} {B : Nat} {t : TypeId} {a b c : Value} (h : Box3 W B t a b c) (v : Value) : Box3 (W.setCell ⟨B, 0, none⟩ v) B t v b c := by
  unfold Box3 at h ⊢
  simp [World.setCell, Array.getElem?_modify, h]
theorem Box3.set1 {W : World} {B : Nat} {t : TypeId} {a b c : Value} (h : Box3 W B t a b c) (v : Value) : Box3 (W.setCell ⟨B, 1, none⟩ v) B t a v c := by
  unfold Box3 at h ⊢
  simp [World.setCell, Array.getElem?_modify, h]
theorem Box3.set2 {W : World} {B : Nat} {t : TypeId} {a b c : Value} (h : Box3 W B t a b c) (v : Value) : Box3 (W.setCell ⟨B, 2, none⟩ v) B t a b v := by
  unfold Box3 at h ⊢
  simp [World.setCell, Array.getElem?_modify, h]

theorem grown_past {w W : World} {row : Option Nat} (h : w.grownBy W row) {g : Nat} (hg : w.heap.size ≤ g) (j : Nat) (u : Value) : w.grownBy (W.setCell ⟨g, j, none⟩ u) row :=
  ⟨h.os, h.tape, h.output, Nat.le_trans h.size (KeepsWalks.setCell W _ u).size, fun k hk hne => (Below.heap_setCell _ _ _ k (by simp; omega)).trans (h.block k hk hne)⟩
theorem grown_more {w W : World} {row : Option Nat} (h : w.grownBy W row) (o : Obj) : w.grownBy (W.alloc o) row :=
  ⟨h.os, h.tape, h.output, by have := h.size; simp; omega, fun k hk hne => (Below.heap_alloc W o k (Nat.lt_of_lt_of_le hk h.size)).trans (h.block k hk hne)⟩
theorem grown_row {w W : World} {row : Option Nat} (h : w.grownBy W none) : w.grownBy W row := ⟨h.os, h.tape, h.output, h.size, fun k hk _ => h.block k hk (by simp)⟩
theorem Rd.past {w : World} {rb p : Nat} (h : Rd w rb p) {g : Nat} (hg : rb < g) (j : Nat) (u : Value) : Rd (w.setCell ⟨g, j, none⟩ u) rb p := h.kept (grown_set w g j u) (fun r e => by injection e; omega)
theorem Rd.more {w : World} {rb p : Nat} (h : Rd w rb p) (o : Obj) : Rd (w.alloc o) rb p := h.kept (World.grownBy_alloc w o none) (fun r e => by cases e)

set_option maxHeartbeats 1000000 in
theorem l11Need_any (rb p : Nat) (w : World) (h : Rd w rb p) (hp : p ≤ 1073741820) :
    Calls Tryd.prog 26 #[.pointer (some ⟨rb, 0, none⟩)] w (DrawNd 3 rb p w) := by
  go_enter Tryd.func26, Tryd.ntmps26
  go_wp2_with fail
  obtain ⟨W0, hW0⟩ : ∃ W0, w.alloc (.cells #[.string { data := #[] }, .int .i64 0, .string { data := #[] }] 23) = W0 := ⟨_, rfl⟩
  have hlt := h.lt
  have hb0 : Box3 W0 w.heap.size 23 (.string { data := #[] }) (.int .i64 0) (.string { data := #[] }) := by rw [← hW0]; exact Box3.new _ _ _ _ _
  have h0 : Rd W0 rb p := by rw [← hW0]; exact h.kept (World.grownBy_alloc w _ none) (fun r e => by cases e)
  have hz0 : W0.heap.size = w.heap.size + 1 := by rw [← hW0]; simp
  have hg0 : w.grownBy W0 none := by rw [← hW0]; exact World.grownBy_alloc w _ none
  have hof := of_lit rb p namesL W0 h0 (by omega) (by decide) (by decide)
  rw [hz0] at hof
  rw [hW0]
  refine hof.mono ?_
  clear hof
  rintro e w1 ⟨s, hs, rfl, hR, hg⟩
  have hbx := hb0.kept hg (by intro e; injection e; omega)
  go_wp2_with fail
  refine (pick_any rb (p + 1) 4 w1 hR (by omega) (by omega) (by omega)).mono ?_
  rintro e w2 ⟨v, hv, rfl, hR2, hg2⟩
  have hbx2 := hbx.kept hg2 (by intro e; injection e; omega)
  have b0 := hbx2.cell0
  have b1 := hbx2.cell1
  have b2 := hbx2.cell2
  have f0 := hbx2.frozen 0
  have f1 := hbx2.frozen 1
  have f2 := hbx2.frozen 2
  have hlt2 := hbx2.lt
  by_cases hv0 : v = 0
  · subst hv0
    go_wp2_with fail
    have hfin := (((hbx2.set0 (.string (mkB s))).set1 (.int .i64 0)).set2 (.string { data := #[] })).kept (World.grownBy_alloc _ (.cells #[.string (mkB s), .int .i64 0, .string { data := #[] }] 23) none) (fun e => by cases e)
    have e0 := hfin.cell0
    have e1 := hfin.cell1
    have e2 := hfin.cell2
    refine bodyPost_ret (v := .agg #[.string (mkB s), .int .i64 0, .string { data := #[] }]) (by simp [results, Tryd.results26, go_sem, e0, e1, e2]) rfl ⟨s, [], 0, p + 1 + 1, names_short s hs, by simp, by omega, by omega, by omega, rfl, ?_, ?_⟩
    · exact (((hR2.past hlt _ _).past hlt _ _).past hlt _ _).more _
    · exact grown_more (grown_past (grown_past (grown_past (grown_trans (grown_trans (grown_row hg0) hg) hg2) (Nat.le_refl _) _ _) (Nat.le_refl _) _ _) (Nat.le_refl _) _ _) _
  · have hv1 : ((v : Int) == 0) = false := by simp; omega
    have hv0 := Lib.hid hv0
    go_wp2_with fail
    refine (l11Version_any rb (p + 1 + 1) _ (hR2.more _) (by omega)).mono ?_
    rintro e w4 ⟨t, q, ht, hq, rfl, hR4, hg4⟩
    obtain ⟨W3, hW3⟩ : ∃ W3, w2.alloc (.cells #[.string (mkB s), .int .i64 (v : Int), .string { data := #[] }] 23) = W3 := ⟨_, rfl⟩
    rw [hW3] at hg4
    have hn3 : Box3 W3 w2.heap.size 23 (.string (mkB s)) (.int .i64 (v : Int)) (.string { data := #[] }) := by rw [← hW3]; exact Box3.new _ _ _ _ _
    have hr3 : Box3 W3 w.heap.size 23 (.string { data := #[] }) (.int .i64 0) (.string { data := #[] }) := by rw [← hW3]; exact hbx2.kept (World.grownBy_alloc w2 _ none) (fun e => by cases e)
    have hg3 : w2.grownBy W3 none := by rw [← hW3]; exact World.grownBy_alloc w2 _ none
    have hn4 := hn3.kept hg4 (by intro e; injection e; omega)
    have hr4 := hr3.kept hg4 (by intro e; injection e; omega)
    clear b0 b1 b2 f0 f1 f2
    have b0 := hr4.cell0
    have b1 := hr4.cell1
    have b2 := hr4.cell2
    have f0 := hr4.frozen 0
    have f1 := hr4.frozen 1
    have f2 := hr4.frozen 2
    have n0 := hn4.cell0
    have n1 := hn4.cell1
    have n2 := hn4.cell2
    have m2 := hn4.frozen 2
    have hne : ¬ w.heap.size = w2.heap.size := by omega
    have hne' : ¬ w2.heap.size = w.heap.size := by omega
    go_wp2_with fail
    have hfin := (((hr4.kept (grown_set w4 w2.heap.size 2 (.string (mkB t))) (by intro e; injection e; omega)).set0 (.string (mkB s))).set1 (.int .i64 (v : Int))).set2 (.string (mkB t))
    have e0 := hfin.cell0
    have e1 := hfin.cell1
    have e2 := hfin.cell2
    have hgw : w.grownBy w4 (some rb) := grown_trans (grown_trans (grown_trans (grown_trans (grown_row hg0) hg) hg2) (grown_row hg3)) hg4
    refine bodyPost_ret (v := .agg #[.string (mkB s), .int .i64 (v : Int), .string (mkB t)]) (by simp [results, Tryd.results26, go_sem, e0, e1, e2]) rfl ⟨s, t, v, q, names_short s hs, ht, by omega, by omega, by omega, rfl, ?_, ?_⟩
    · exact (((hR4.past (by omega) _ _).past hlt _ _).past hlt _ _).past hlt _ _
    · exact grown_past (grown_past (grown_past (grown_past hgw (by omega) _ _) (Nat.le_refl _) _ _) (Nat.le_refl _) _ _) (Nat.le_refl _) _ _

set_option maxHeartbeats 1000000 in
theorem l11AnyNeed_any (rb p : Nat) (w : World) (h : Rd w rb p) (hp : p ≤ 1073741800) :
    Calls Tryd.prog 17 #[.pointer (some ⟨rb, 0, none⟩)] w (DrawNd 6 rb p w) := by
  go_enter Tryd.func17, Tryd.ntmps17
  go_wp2_with fail
  have hlt := h.lt
  obtain ⟨W0, hW0⟩ : ∃ W0, w.alloc (.cells #[.string { data := #[] }, .int .i64 0, .string { data := #[] }] 23) = W0 := ⟨_, rfl⟩
  have hb0 : Box3 W0 w.heap.size 23 (.string { data := #[] }) (.int .i64 0) (.string { data := #[] }) := by rw [← hW0]; exact Box3.new _ _ _ _ _
  have h0 : Rd W0 rb p := by rw [← hW0]; exact h.more _
  have hg0 : w.grownBy W0 none := by rw [← hW0]; exact World.grownBy_alloc w _ none
  rw [hW0]
  refine (l11Need_any rb p W0 h0 (by omega)).mono ?_
  rintro e w1 ⟨nm, vr, kd, q, hnm, hvr, hk1, hk2, hq, rfl, hR, hg⟩
  have hb1 := hb0.kept hg (by intro e; injection e; omega)
  have hlt1 := hb1.lt
  go_wp2_with fail
  obtain ⟨W2, hW2⟩ : ∃ W2, w1.alloc (.cells #[.string (mkB nm), .int .i64 kd, .string (mkB vr)] 23) = W2 := ⟨_, rfl⟩
  have hn2 : Box3 W2 w1.heap.size 23 (.string (mkB nm)) (.int .i64 kd) (.string (mkB vr)) := by rw [← hW2]; exact Box3.new _ _ _ _ _
  have hr2 : Box3 W2 w.heap.size 23 (.string { data := #[] }) (.int .i64 0) (.string { data := #[] }) := by rw [← hW2]; exact hb1.kept (World.grownBy_alloc w1 _ none) (fun e => by cases e)
  have hg2 : w1.grownBy W2 none := by rw [← hW2]; exact World.grownBy_alloc w1 _ none
  have hR2 : Rd W2 rb q := by rw [← hW2]; exact hR.more _
  have hgw2 : w.grownBy W2 (some rb) := grown_trans (grown_trans (grown_row hg0) hg) (grown_row hg2)
  rw [hW2]
  clear hW2 hg2 hb1 hg0 hb0 hg hW0 h0
  refine (pick_any rb q 14 W2 hR2 (by omega) (by omega) (by omega)).mono ?_
  rintro e w3 ⟨v, hv, rfl, hR3, hg3⟩
  have hn3 := hn2.kept hg3 (by intro e; injection e; omega)
  have hr3 := hr2.kept hg3 (by intro e; injection e; omega)
  have hgw3 := grown_trans hgw2 hg3
  have hne : ¬ w.heap.size = w1.heap.size := by omega
  have hne' : ¬ w1.heap.size = w.heap.size := by omega
  have hne2 : w.heap.size ≠ w1.heap.size := by omega
  have hwv : v = 0 ∨ v = 1 ∨ v = 2 ∨ (((v : Int) == 0) = false ∧ ((v : Int) == 1) = false ∧ ((v : Int) == 2) = false) := by
    by_cases a : v = 0
    · exact .inl a
    · by_cases b : v = 1
      · exact .inr (.inl b)
      · by_cases c : v = 2
        · exact .inr (.inr (.inl c))
        · exact .inr (.inr (.inr ⟨by simp; omega, by simp; omega, by simp; omega⟩))
  rcases hwv with rfl | rfl | rfl | ⟨hv0, hv1, hv2⟩
  · go_wp2_with fail
    refine (of_lit rb (q + 1) oddL w3 hR3 (by omega) (by decide) (by decide)).mono ?_
    rintro e w4 ⟨s, hs, rfl, hR4, hg4⟩
    have hn4 := hn3.kept hg4 (by intro e; injection e; omega)
    have hr4 := hr3.kept hg4 (by intro e; injection e; omega)
    have hgw4 := grown_trans hgw3 hg4
    have b0 := hr4.cell0
    have b1 := hr4.cell1
    have b2 := hr4.cell2
    have f0 := hr4.frozen 0
    have f1 := hr4.frozen 1
    have f2 := hr4.frozen 2
    have n0 := hn4.cell0
    have n1 := hn4.cell1
    have n2 := hn4.cell2
    have m0 := hn4.frozen 0
    have m1 := hn4.frozen 1
    have m2 := hn4.frozen 2
    go_wp2_with fail
    have hr5 := hr4.kept (grown_set w4 w1.heap.size 0 (.string (mkB s))) (by intro e; injection e; omega)
    have hfin := ((hr5.set0 (.string (mkB s))).set1 (.int .i64 kd)).set2 (.string (mkB vr))
    have e0 := hfin.cell0
    have e1 := hfin.cell1
    have e2 := hfin.cell2
    refine bodyPost_ret (v := .agg #[.string (mkB s), .int .i64 kd, .string (mkB vr)]) (by simp [results, Tryd.results17, go_sem, e0, e1, e2]) rfl ⟨s, vr, kd, q + 1 + 1, odd_short s hs, hvr, by omega, by omega, by omega, rfl, ?_, ?_⟩
    · exact ((((hR4.past (by omega) _ _)).past hlt _ _).past hlt _ _).past hlt _ _
    · exact grown_past (grown_past (grown_past (grown_past hgw4 (by omega) _ _) (Nat.le_refl _) _ _) (Nat.le_refl _) _ _) (Nat.le_refl _) _ _
  · go_wp2_with fail
    refine (pick_any rb (q + 1) 6 w3 hR3 (by omega) (by omega) (by omega)).mono ?_
    rintro e w4 ⟨u, hu, rfl, hR4, hg4⟩
    have hn4 := hn3.kept hg4 (by intro e; injection e; omega)
    have hr4 := hr3.kept hg4 (by intro e; injection e; omega)
    have hgw4 := grown_trans hgw3 hg4
    have b0 := hr4.cell0
    have b1 := hr4.cell1
    have b2 := hr4.cell2
    have f0 := hr4.frozen 0
    have f1 := hr4.frozen 1
    have f2 := hr4.frozen 2
    have n0 := hn4.cell0
    have n1 := hn4.cell1
    have n2 := hn4.cell2
    have m0 := hn4.frozen 0
    have m1 := hn4.frozen 1
    have m2 := hn4.frozen 2
    go_wp2_with fail
    have hr5 := hr4.kept (grown_set w4 w1.heap.size 1 (.int .i64 ((u : Int) - 1))) (by intro e; injection e; omega)
    have hfin := ((hr5.set0 (.string (mkB nm))).set1 (.int .i64 ((u : Int) - 1))).set2 (.string (mkB vr))
    have e0 := hfin.cell0
    have e1 := hfin.cell1
    have e2 := hfin.cell2
    refine bodyPost_ret (v := .agg #[.string (mkB nm), .int .i64 ((u : Int) - 1), .string (mkB vr)]) (by simp [results, Tryd.results17, go_sem, e0, e1, e2]) rfl ⟨nm, vr, ((u : Int) - 1), q + 1 + 1, hnm, hvr, by omega, by omega, by omega, rfl, ?_, ?_⟩
    · exact ((((hR4.past (by omega) _ _)).past hlt _ _).past hlt _ _).past hlt _ _
    · exact grown_past (grown_past (grown_past (grown_past hgw4 (by omega) _ _) (Nat.le_refl _) _ _) (Nat.le_refl _) _ _) (Nat.le_refl _) _ _
  · go_wp2_with fail
    refine (l11AnyVersion_any rb (q + 1) w3 hR3 (by omega)).mono ?_
    rintro e w4 ⟨s, q4, hs, hq4, rfl, hR4, hg4⟩
    have hn4 := hn3.kept hg4 (by intro e; injection e; omega)
    have hr4 := hr3.kept hg4 (by intro e; injection e; omega)
    have hgw4 := grown_trans hgw3 hg4
    have b0 := hr4.cell0
    have b1 := hr4.cell1
    have b2 := hr4.cell2
    have f0 := hr4.frozen 0
    have f1 := hr4.frozen 1
    have f2 := hr4.frozen 2
    have n0 := hn4.cell0
    have n1 := hn4.cell1
    have n2 := hn4.cell2
    have m0 := hn4.frozen 0
    have m1 := hn4.frozen 1
    have m2 := hn4.frozen 2
    go_wp2_with fail
    have hr5 := hr4.kept (grown_set w4 w1.heap.size 2 (.string (mkB s))) (by intro e; injection e; omega)
    have hfin := ((hr5.set0 (.string (mkB nm))).set1 (.int .i64 kd)).set2 (.string (mkB s))
    have e0 := hfin.cell0
    have e1 := hfin.cell1
    have e2 := hfin.cell2
    refine bodyPost_ret (v := .agg #[.string (mkB nm), .int .i64 kd, .string (mkB s)]) (by simp [results, Tryd.results17, go_sem, e0, e1, e2]) rfl ⟨nm, s, kd, q4, hnm, hs, by omega, by omega, by omega, rfl, ?_, ?_⟩
    · exact ((((hR4.past (by omega) _ _)).past hlt _ _).past hlt _ _).past hlt _ _
    · exact grown_past (grown_past (grown_past (grown_past hgw4 (by omega) _ _) (Nat.le_refl _) _ _) (Nat.le_refl _) _ _) (Nat.le_refl _) _ _
  · have b0 := hr3.cell0
    have b1 := hr3.cell1
    have b2 := hr3.cell2
    have f0 := hr3.frozen 0
    have f1 := hr3.frozen 1
    have f2 := hr3.frozen 2
    have n0 := hn3.cell0
    have n1 := hn3.cell1
    have n2 := hn3.cell2
    have m0 := hn3.frozen 0
    have m1 := hn3.frozen 1
    have m2 := hn3.frozen 2
    go_wp2_with fail
    have hr5 := hr3
    have hfin := ((hr5.set0 (.string (mkB nm))).set1 (.int .i64 kd)).set2 (.string (mkB vr))
    have e0 := hfin.cell0
    have e1 := hfin.cell1
    have e2 := hfin.cell2
    refine bodyPost_ret (v := .agg #[.string (mkB nm), .int .i64 kd, .string (mkB vr)]) (by simp [results, Tryd.results17, go_sem, e0, e1, e2]) rfl ⟨nm, vr, kd, q + 1, hnm, hvr, by omega, by omega, by omega, rfl, ?_, ?_⟩
    · exact ((((hR3)).past hlt _ _).past hlt _ _).past hlt _ _
    · exact grown_past (grown_past (grown_past (hgw3) (Nat.le_refl _) _ _) (Nat.le_refl _) _ _) (Nat.le_refl _) _ _

end Go.Proofs.YtdcfifhmldolhaaDoor
