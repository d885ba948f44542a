/-
  Pick, DrawP, Many, DecP0, DecP: merged.
-/
import Derived.Test.YtiknkjhdieepbaaDoorGA
import Derived.Deep.QuietTactic
import Derived.BigQuiet
import Derived.Laws.BitsAllLaws
import Derived.Laws.BitsLemmas
import Derived.Lib.ItoaNum
import Derived.Test.YtiknkjhdieepbaaDoorGD
import Derived.Laws.IdiomStrings
import Derived.Deep.RegionHeld3
import Derived.Deep.RegionWith
import Derived.OrdersHeld
/-
  The walks of the drawing reader: l1Open, pick, of. Whatever the code, pick hands back a number below the given one, and of one of the given texts.
-/
namespace Go.Proofs.YtiknkjhdieepbaaDoor
open Go.RowKit
set_option linter.unusedVariables false

/-- bytes that came in -/
def IsBytes (w : World) (A : Option Addr) (n c : Nat) : Prop :=
  n ≤ c ∧ c ≤ maxLen ∧ (n = 0 ∨ ∃ b off, A = some ⟨b, off, none⟩ ∧ b < w.heap.size ∧ ∀ i, i < n → ∃ x : Nat, x ≤ 255 ∧ w.cell? ⟨b, off + i, none⟩ = some (.int .u8 (x : Int)))
theorem IsBytes.nil (w : World) : IsBytes w none 0 0 := ⟨Nat.le_refl _, Nat.zero_le _, .inl rfl⟩
theorem IsBytes.of_cells {w : World} {x : Addr} {len cap : Nat} {zs : List Int} (hl : len ≤ cap) (hm : cap ≤ maxLen) (hz : zs.length = cap)
    (hcell : ∀ i, i < zs.length → w.cell? (x.add i) = some (.int .u8 (zs.getD i 0))) (hwz : ∀ n ∈ zs, (Lit.int .u8 n).wf = true) : IsBytes w (some x) len cap := by
  refine ⟨hl, hm, ?_⟩
  rcases Nat.eq_zero_or_pos len with h0 | h0
  · exact .inl h0
  · right
    obtain ⟨b, off, spot⟩ := x
    have hc := hcell 0 (by omega)
    obtain rfl : spot = none := by simpa [Addr.add] using World.cell?_spot hc
    have hc0 : w.cell? ⟨b, off, none⟩ = some (.int .u8 (zs.getD 0 0)) := by simpa [Addr.add] using hc
    refine ⟨b, off, rfl, ?_, fun i hi => ?_⟩
    · rcases Nat.lt_or_ge b w.heap.size with h | h
      · exact h
      · simp [World.cell?, Array.getElem?_eq_none h] at hc0
    · have hci := hcell i (by omega)
      have hmem : zs.getD i 0 ∈ zs := by
        rw [List.getD_eq_getElem?_getD, List.getElem?_eq_getElem (by omega)]
        exact List.getElem_mem _
      have hw : 0 ≤ zs.getD i 0 ∧ zs.getD i 0 ≤ 255 := by simpa [Lit.wf, IntKind.min, IntKind.max, IntKind.signed, IntKind.bits] using hwz _ hmem
      obtain ⟨x, hx⟩ := Int.eq_ofNat_of_zero_le hw.1
      refine ⟨x, by omega, ?_⟩
      rw [← hx, ← hci]
      congr 1
      unfold Addr.add
      split
      · rename_i h; subst h; rfl
      · rfl

/-- the reader lies in block rb; so many picks have been made -/
def Rd (w : World) (rb p : Nat) : Prop :=
  ∃ (A : Option Addr) (n c : Nat), w.heap[rb]? = some (.cells #[.slice A n c, .int .i64 (p : Int)] 49 (0, 0)) ∧ n ≤ 2000 ∧ n ≤ c ∧
    (n = 0 ∨ ∃ b off, A = some ⟨b, off, none⟩ ∧ b < rb ∧ ∀ i, i < n → ∃ x : Nat, x ≤ 255 ∧ w.cell? ⟨b, off + i, none⟩ = some (.int .u8 (x : Int)))
theorem cell_of_same {w w' : World} {b : Nat} (h : w'.heap[b]? = w.heap[b]?) (i : Nat) : w'.cell? ⟨b, i, none⟩ = w.cell? ⟨b, i, none⟩ := by simp only [World.cell?, h]
theorem Rd.lt {w : World} {rb p : Nat} (h : Rd w rb p) : rb < w.heap.size := by
  obtain ⟨A, n, c, hb, _⟩ := h
  exact (Array.getElem?_eq_some_iff.1 hb).1
theorem Rd.kept {w w' : World} {rb p : Nat} (h : Rd w rb p) {row : Option Nat} (hg : w.grownBy w' row) (hr : ∀ r, row = some r → rb < r) : Rd w' rb p := by
  have hlt := h.lt
  obtain ⟨A, n, c, hb, h1, h2, h3⟩ := h
  refine ⟨A, n, c, (hg.block rb hlt (fun e => by have := hr rb e.symm; omega)).trans hb, h1, h2, ?_⟩
  rcases h3 with h3 | ⟨b, off, rfl, hlt2, hc⟩
  · exact .inl h3
  · refine .inr ⟨b, off, rfl, hlt2, fun i hi => ?_⟩
    obtain ⟨x, hx, hc'⟩ := hc i hi
    exact ⟨x, hx, (cell_of_same (hg.block b (by omega) (fun e => by have := hr b e.symm; omega)) _).trans hc'⟩
theorem Rd.set {w : World} {rb p : Nat} (h : Rd w rb p) (q : Nat) : Rd (w.setCell ⟨rb, 1, none⟩ (.int .i64 (q : Int))) rb q := by
  have hlt := h.lt
  obtain ⟨A, n, c, hb, h1, h2, h3⟩ := h
  refine ⟨A, n, c, ?_, h1, h2, ?_⟩
  · simp [World.setCell, Array.getElem?_modify, hb]
  rcases h3 with h3 | ⟨b, off, rfl, hlt2, hc⟩
  · exact .inl h3
  · refine .inr ⟨b, off, rfl, hlt2, fun i hi => ?_⟩
    obtain ⟨x, hx, hc'⟩ := hc i hi
    exact ⟨x, hx, (World.cell?_setCell_other w _ _ _ (fun e => by injection e; omega)).trans hc'⟩
theorem Rd.drewN {w : World} {rb p : Nat} (h : Rd w rb p) (k : Nat) : Rd (w.drewN k) rb p := h

def PickPost (m : Int) (rb p : Nat) (w : World) (e : Ending) (w' : World) : Prop :=
  ∃ v : Nat, (v : Int) < m ∧ e = .returned (.int .i64 (v : Int)) ∧ Rd w' rb (p + 1) ∧ w.grownBy w' (some rb)
theorem grown_drewN {a w : World} {row : Option Nat} (h : a.grownBy w row) (n : Nat) : a.grownBy (w.drewN n) row := ⟨h.os, h.tape, h.output, h.size, h.block⟩
theorem grown_set (w : World) (g j : Nat) (u : Value) : w.grownBy (w.setCell ⟨g, j, none⟩ u) (some g) :=
  ⟨rfl, rfl, rfl, (KeepsWalks.setCell w _ u).size, fun k _ hk => Below.heap_setCell _ _ _ k (fun e => hk (by rw [e]))⟩
theorem ofInt_i64 (a : Nat) (ha : a < 9223372036854775808) : (BitVec.ofInt 64 (a : Int)).toNat = a := by
  rw [BitVec.ofInt_natCast, BitVec.toNat_ofNat]; exact Nat.mod_eq_of_lt (by omega)
theorem i64_xor_nat (a b : Nat) (ha : a < 9223372036854775808) (hb : b < 9223372036854775808) : bits .xor .i64 (a : Int) (b : Int) = ((a ^^^ b : Nat) : Int) := by
  have hx : a ^^^ b < 2 ^ 63 := Nat.xor_lt_two_pow (by omega) (by omega)
  show IntKind.i64.wrap ((BitVec.ofInt 64 (a : Int) ^^^ BitVec.ofInt 64 (b : Int)).toNat : Int) = _
  rw [BitVec.toNat_xor, ofInt_i64 a ha, ofInt_i64 b hb, IntKind.wrap_i64]
  omega

set_option maxRecDepth 100000 in
set_option maxHeartbeats 2000000 in
theorem pick_any (rb p : Nat) (m : Int) (w : World) (h : Rd w rb p) (hp : p ≤ 1073741824) (hm : 1 ≤ m) (hm2 : m ≤ 1073741824) :
    Calls Tryd.prog 12 #[.pointer (some ⟨rb, 0, none⟩), .int .i64 m] w (PickPost m rb p w) := by
  have hset := h.set (p + 1)
  have hgr := grown_set w rb 1 (.int .i64 ((p + 1 : Nat) : Int))
  obtain ⟨A, n, c, hb, h1, h2, h3⟩ := h
  have c0 : w.cell? ⟨rb, 0, none⟩ = some (.slice A n c) := by rw [cell_of_row _ _ _ _ _ _ hb]; rfl
  have c1 : w.cell? ⟨rb, 1, none⟩ = some (.int .i64 (p : Int)) := by rw [cell_of_row _ _ _ _ _ _ hb]; rfl
  have f1 : w.frozen? ⟨rb, 1, none⟩ = false := by simp [World.frozen?, hb]
  clear hb
  rcases h3 with h3 | ⟨b, off, rfl, hlt2, hc⟩
  · subst h3
    go_enter Tryd.func12, Tryd.ntmps12
    go_wp2
    go_ret
    exact ⟨0, by omega, rfl, hset, hgr⟩
  · rcases Nat.eq_zero_or_pos n with h0 | h0
    · subst h0
      go_enter Tryd.func12, Tryd.ntmps12
      go_wp2
      go_ret
      exact ⟨0, by omega, rfl, hset, hgr⟩
    · have hn0 : ((n : Int) == 0) = false := by simp; omega
      by_cases hpn : p < n
      · obtain ⟨x, hx, hcx⟩ := hc p hpn
        have hne : (⟨b, off + p, none⟩ : Addr) ≠ ⟨rb, 1, none⟩ := fun e => by injection e; omega
        clear hc
        go_enter Tryd.func12, Tryd.ntmps12
        go_wp2
        go_ret
        refine ⟨x % m.toNat, ?_, ret_int ?_, hset, hgr⟩
        · have := Nat.mod_lt x (show 0 < m.toNat by omega)
          omega
        · rw [Int.natCast_emod, Int.toNat_of_nonneg (by omega)]
      · obtain ⟨q1, hq1, t1⟩ : ∃ q : Nat, q < n ∧ (p : Int).tmod (n : Int) = (q : Int) := ⟨p % n, Nat.mod_lt _ h0, by rw [Int.tmod_eq_emod_of_nonneg (by omega)]; rfl⟩
        obtain ⟨q2, hq2, t2⟩ : ∃ q : Nat, q < n ∧ ((p : Int) * 7 + 3).tmod (n : Int) = (q : Int) := ⟨(p * 7 + 3) % n, Nat.mod_lt _ h0, by rw [Int.tmod_eq_emod_of_nonneg (by omega)]; rfl⟩
        obtain ⟨q3, hq3, t3⟩ : ∃ q : Nat, q ≤ 1073741824 ∧ (p : Int).tdiv (n : Int) = (q : Int) := ⟨p / n, Nat.le_trans (Nat.div_le_self _ _) hp, by rw [Int.tdiv_eq_ediv_of_nonneg (by omega)]; rfl⟩
        obtain ⟨x1, hx1, hc1⟩ := hc q1 hq1
        obtain ⟨x2, hx2, hc2⟩ := hc q2 hq2
        have hne1 : (⟨b, off + q1, none⟩ : Addr) ≠ ⟨rb, 1, none⟩ := fun e => by injection e; omega
        have hne2 : (⟨b, off + q2, none⟩ : Addr) ≠ ⟨rb, 1, none⟩ := fun e => by injection e; omega
        clear hc
        have hn1 : ¬ (n : Int) = 0 := by omega
        have r1 : (q1 : Int) < (n : Int) := by omega
        have r2 : (q2 : Int) < (n : Int) := by omega
        have w0 : IntKind.i64.wrap (q3 : Int) = (q3 : Int) := by rw [IntKind.wrap_i64]; omega
        have w1 : IntKind.i64.wrap ((x1 : Int) * 131) = (x1 : Int) * 131 := by rw [IntKind.wrap_i64]; omega
        have w2 : IntKind.i64.wrap ((p : Int) * 7) = (p : Int) * 7 := by rw [IntKind.wrap_i64]; omega
        have w3 : IntKind.i64.wrap ((p : Int) * 7 + 3) = (p : Int) * 7 + 3 := by rw [IntKind.wrap_i64]; omega
        have w4 : IntKind.i64.wrap ((x2 : Int) * 1117) = (x2 : Int) * 1117 := by rw [IntKind.wrap_i64]; omega
        have w5 : IntKind.i64.wrap ((x1 : Int) * 131 + (x2 : Int) * 1117) = (x1 : Int) * 131 + (x2 : Int) * 1117 := by rw [IntKind.wrap_i64]; omega
        have w6 : IntKind.i64.wrap ((p : Int) * 29) = (p : Int) * 29 := by rw [IntKind.wrap_i64]; omega
        have w7 : IntKind.i64.wrap ((x1 : Int) * 131 + (x2 : Int) * 1117 + (p : Int) * 29) = (x1 : Int) * 131 + (x2 : Int) * 1117 + (p : Int) * 29 := by rw [IntKind.wrap_i64]; omega
        have w8 : IntKind.i64.wrap ((q3 : Int) * 53) = (q3 : Int) * 53 := by rw [IntKind.wrap_i64]; omega
        have w9 : IntKind.i64.wrap ((x1 : Int) * 131 + (x2 : Int) * 1117 + (p : Int) * 29 + (q3 : Int) * 53) = (x1 : Int) * 131 + (x2 : Int) * 1117 + (p : Int) * 29 + (q3 : Int) * 53 := by rw [IntKind.wrap_i64]; omega
        go_enter Tryd.func12, Tryd.ntmps12
        go_wp2
        go_quiet (fail)
        clear t1 t2 t3 w0 w1 w2 w3 w4 w5 w6 w7 w8 w9
        obtain ⟨T, hT, hT2⟩ : ∃ T : Nat, T ≤ 140737488355328 ∧ (x1 : Int) * 131 + (x2 : Int) * 1117 + (p : Int) * 29 + (q3 : Int) * 53 = (T : Int) := ⟨x1 * 131 + x2 * 1117 + p * 29 + q3 * 53, by omega, by simp⟩
        rw [hT2]
        clear hT2
        go_wp2
        go_ret
        refine ⟨(T ^^^ (T / 64)) % m.toNat, ?_, ret_int ?_, hset.drewN _, grown_drewN hgr _⟩
        · have := Nat.mod_lt (T ^^^ (T / 64)) (show 0 < m.toNat by omega)
          omega
        · rw [show (T : Int) / 64 = ((T / 64 : Nat) : Int) by simp, i64_xor_nat T (T / 64) (by omega) (by omega), Int.tmod_eq_emod_of_nonneg (by omega), Int.natCast_emod, Int.toNat_of_nonneg (by omega)]

def OfPost (ss : List (List UInt8)) (rb p : Nat) (w : World) (e : Ending) (w' : World) : Prop :=
  ∃ s, s ∈ ss ∧ e = .returned (.string (mkB s)) ∧ Rd w' rb (p + 1) ∧ w.grownBy w' (some rb)
def strW (l : List UInt8) : Value := .string (mkB l)

set_option maxHeartbeats 1000000 in
theorem of_at (rb p g c : Nat) (ss : List (List UInt8)) (w : World) (h : Rd w rb p) (hp : p ≤ 1073741824) (h1 : 1 ≤ ss.length) (h2 : ss.length ≤ 1000000) (hg : g ≠ rb)
    (hb : w.heap[g]? = some (.cells (ss.map strW).toArray 9 (0, 0))) :
    Calls Tryd.prog 15 #[.pointer (some ⟨rb, 0, none⟩), .slice (some ⟨g, 0, none⟩) ss.length c] w (OfPost ss rb p w) := by
  go_enter Tryd.func15, Tryd.ntmps15
  go_wp2_with fail
  refine (pick_any _ _ _ _ h hp (by omega) (by omega)).mono ?_
  rintro e w1 ⟨v, hv, rfl, hR, hgr⟩
  have hvl : v < ss.length := by omega
  have hb1 : w1.heap[g]? = some (.cells (ss.map strW).toArray 9 (0, 0)) := (hgr.block g (Array.getElem?_eq_some_iff.1 hb).1 (fun e => hg (by injection e))).trans hb
  have hc : w1.cell? ⟨g, v, none⟩ = some (.string (mkB ss[v])) := by
    rw [cell_of_row _ _ _ _ _ _ hb1]
    simp [strW, hvl]
  clear hb1
  go_wp2
  go_ret
  exact ⟨_, List.getElem_mem hvl, rfl, hR, hgr⟩

theorem grownBy_after {a b c : World} {o : Obj} {row : Option Nat} (hb : (a.alloc o) = b) (h : b.grownBy c row) : a.grownBy c row := by
  subst hb
  exact ⟨h.os, h.tape, h.output, by have := h.size; simp at this; omega, fun j hj hne => (h.block j (by simp; omega) hne).trans (Below.heap_alloc a o j hj)⟩
theorem grown_trans {a b c : World} {row : Option Nat} (h : a.grownBy b row) (k : b.grownBy c row) : a.grownBy c row :=
  ⟨k.os.trans h.os, k.tape.trans h.tape, k.output.trans h.output, Nat.le_trans h.size k.size, fun j hj hne => (k.block j (Nat.lt_of_lt_of_le hj h.size) hne).trans (h.block j hj hne)⟩

/-- the list is written out at the call -/
theorem of_lit (rb p : Nat) (ss : List (List UInt8)) (w : World) (h : Rd w rb p) (hp : p ≤ 1073741824) (h1 : 1 ≤ ss.length) (h2 : ss.length ≤ 1000000) :
    Calls Tryd.prog 15 #[.pointer (some ⟨rb, 0, none⟩), .slice (some ⟨w.heap.size, 0, none⟩) ss.length ss.length] (w.alloc (.cells (ss.map strW).toArray 9)) (OfPost ss rb p w) := by
  have hlt := h.lt
  refine (of_at rb p w.heap.size ss.length ss _ (h.kept (World.grownBy_alloc w _ none) (fun r e => by cases e)) hp h1 h2 (by omega) (World.alloc_heap_new w _)).mono ?_
  rintro e w' ⟨s, hs, he, hR, hg⟩
  exact ⟨s, hs, he, hR, grownBy_after rfl hg⟩

def OpenPost (w : World) (e : Ending) (w' : World) : Prop := ∃ rb, w.heap.size ≤ rb ∧ e = .returned (.pointer (some ⟨rb, 0, none⟩)) ∧ Rd w' rb 0 ∧ Below w.heap.size w w'
theorem rd_new (w : World) (A : Option Addr) (n c : Nat) (h1 : n ≤ 2000) (h2 : n ≤ c)
    (h3 : n = 0 ∨ ∃ b off, A = some ⟨b, off, none⟩ ∧ b < w.heap.size ∧ ∀ i, i < n → ∃ x : Nat, x ≤ 255 ∧ w.cell? ⟨b, off + i, none⟩ = some (.int .u8 (x : Int))) :
    Rd (w.alloc (.cells #[.slice A n c, .int .i64 0] 49)) w.heap.size 0 := by
  refine ⟨A, n, c, World.alloc_heap_new w _, h1, h2, ?_⟩
  rcases h3 with h3 | ⟨b, off, rfl, hb, hc⟩
  · exact .inl h3
  · refine .inr ⟨b, off, rfl, hb, fun i hi => ?_⟩
    obtain ⟨x, hx, hcx⟩ := hc i hi
    exact ⟨x, hx, (cell_of_same (Below.heap_alloc w _ b hb) _).trans hcx⟩
set_option maxHeartbeats 1000000 in
theorem l1Open_any (A : Option Addr) (n c : Nat) (w : World) (h : IsBytes w A n c) :
    Calls Tryd.prog 10 #[.slice A n c] w (OpenPost w) := by
  obtain ⟨h1, h2, h3⟩ := h
  unfold maxLen at h2
  by_cases hn : n ≤ 2000
  · go_enter Tryd.func10, Tryd.ntmps10
    go_wp2
    go_ret
    exact ⟨w.heap.size, Nat.le_refl _, rfl, rd_new w A n c hn h1 h3, (Below.refl _ _).alloc (Nat.le_refl _) _⟩
  · rcases h3 with h3 | ⟨b, off, rfl, hb, hc⟩
    · omega
    · go_enter Tryd.func10, Tryd.ntmps10
      go_wp2
      go_ret
      exact ⟨w.heap.size, Nat.le_refl _, rfl, rd_new w _ 2000 c (by omega) (by omega) (.inr ⟨b, off, rfl, hb, fun i hi => hc i (by omega)⟩), (Below.refl _ _).alloc (Nat.le_refl _) _⟩

end Go.Proofs.YtiknkjhdieepbaaDoor

/-
  The walks of the functions that draw paths: whatever the code, one of a few texts.
-/
namespace Go.Proofs.YtiknkjhdieepbaaDoor
open Go.RowKit
set_option linter.unusedVariables false

def pathsL : List (List UInt8) := [[97], [98], [97, 47, 98], [97, 47, 99], [97, 47, 98, 47, 99], [108, 105, 98], [108, 105, 98, 47, 120], [108, 105, 98, 47, 120, 46, 99], [100, 111, 99, 47, 121], [98, 105, 110], [98, 105, 110, 47, 122], [97, 47, 98, 47, 99, 47, 100, 47, 101]]
def anysL : List (List UInt8) := [[], [47], [97, 47], [47, 97], [46], [46, 46], [97, 47, 47, 98], [65], [97, 47, 98, 47, 99, 47, 100, 47, 101, 47, 102], [101, 108, 101, 118, 101, 110, 108, 101, 116, 116, 101], [97, 32, 98], [120, 47, 46, 46, 47, 121]]
def drawnL : List (List UInt8) := anysL ++ pathsL
theorem drawn_short : ∀ s ∈ drawnL, s.length ≤ 20 := by decide
def OfPost2 (ss : List (List UInt8)) (rb p : Nat) (w : World) (e : Ending) (w' : World) : Prop :=
  ∃ s, s ∈ ss ∧ e = .returned (.string (mkB s)) ∧ Rd w' rb p ∧ w.grownBy w' (some rb)

set_option maxHeartbeats 1000000 in
theorem l11Path_any (rb p : Nat) (w : World) (h : Rd w rb p) (hp : p ≤ 1073741824) :
    Calls Tryd.prog 49 #[.pointer (some ⟨rb, 0, none⟩)] w (OfPost2 pathsL rb (p + 1) w) := by
  go_enter Tryd.func49, Tryd.ntmps49
  go_wp2_with fail
  refine (of_lit rb p pathsL w h hp (by decide) (by decide)).mono ?_
  rintro e w1 ⟨s, hs, rfl, hR, hg⟩
  go_wp2
  go_ret
  exact ⟨s, hs, rfl, hR, hg⟩

set_option maxHeartbeats 1000000 in
theorem l11AnyPath_any (rb p : Nat) (w : World) (h : Rd w rb p) (hp : p ≤ 1073741823) :
    Calls Tryd.prog 41 #[.pointer (some ⟨rb, 0, none⟩)] w (OfPost2 drawnL rb (p + 2) w) := by
  go_enter Tryd.func41, Tryd.ntmps41
  go_wp2_with fail
  refine (pick_any rb p 6 w h (by omega) (by omega) (by omega)).mono ?_
  rintro e w1 ⟨v, hv, rfl, hR, hg⟩
  by_cases hv0 : v = 0
  · subst hv0
    go_wp2_with fail
    refine (of_lit rb (p + 1) anysL w1 hR (by omega) (by decide) (by decide)).mono ?_
    rintro e w2 ⟨s, hs, rfl, hR2, hg2⟩
    go_wp2
    go_ret
    exact ⟨s, List.mem_append_left _ hs, rfl, hR2, grown_trans hg hg2⟩
  · have hv1 : ((v : Int) == 0) = false := by simp; omega
    have hv0 := Lib.hid hv0
    go_wp2_with fail
    refine (l11Path_any rb (p + 1) w1 hR (by omega)).mono ?_
    rintro e w2 ⟨s, hs, rfl, hR2, hg2⟩
    go_wp2
    go_ret
    exact ⟨s, List.mem_append_right _ hs, rfl, hR2, grown_trans hg hg2⟩

def Draw1 (P : List UInt8 → Prop) (w : World) (e : Ending) (w' : World) : Prop := ∃ s, P s ∧ e = .returned (.string (mkB s)) ∧ Below w.heap.size w w'
def Draw2 (P Q : List UInt8 → Prop) (w : World) (e : Ending) (w' : World) : Prop := ∃ s t, P s ∧ Q t ∧ e = .returned (.tuple #[.string (mkB s), .string (mkB t)]) ∧ Below w.heap.size w w'
def Draw3 (P Q R : List UInt8 → Prop) (w : World) (e : Ending) (w' : World) : Prop := ∃ s t u, P s ∧ Q t ∧ R u ∧ e = .returned (.tuple #[.string (mkB s), .string (mkB t), .string (mkB u)]) ∧ Below w.heap.size w w'
theorem below_rb {w w1 w2 : World} {rb : Nat} (hB : Below w.heap.size w w1) (hr : w.heap.size ≤ rb) (hg : w1.grownBy w2 (some rb)) : Below w.heap.size w w2 :=
  hB.grown hg hB.size (fun k e => by cases e; exact hr)

end Go.Proofs.YtiknkjhdieepbaaDoor

/-
  The walk of the reference's l1Many.
-/
namespace Go.Proofs.YtiknkjhdieepbaaDoor
open Go.RowKit
set_option linter.unusedVariables false
set_option linter.unusedSimpArgs false
attribute [local go_sem] mkB_size mkB_extract mkB_append mkB_append_raw raw_append_mkB mkB_toList

set_option maxHeartbeats 2000000 in
theorem l1Many_any (c : UInt8) (N : Nat) (hN : N ≤ 1000) (w : World) :
    Calls Tryd.prog 43 #[.string (mkB [c]), .int .i64 N] w fun e w' => e = .returned (.string (mkB (List.replicate N c))) ∧ w = w' := by
  go_enter Tryd.func43, Tryd.ntmps43
  go_wp2
  go_loopw [0, 1, 5] (fun s n out wr => ∃ a b m : Nat, s = .string (mkB (List.replicate b c)) ∧ n = .int .i64 m ∧ out = .string (mkB (List.replicate a c)) ∧ Hid (a + b * m = N) ∧ b ≤ 2 * N + 1 ∧ a ≤ N ∧ m ≤ N ∧ w = wr) (fun _ n _ _ => (intOf n).toNat)
  case atStart => exact ⟨0, 1, N, rfl, rfl, rfl, Lib.hid (by omega), by omega, by omega, Nat.le_refl _, rfl⟩
  case round =>
    obtain ⟨a, b, m, rfl, rfl, rfl, hs, hb, ha, hm, rfl⟩ := hrel
    rcases Nat.eq_zero_or_pos m with h0 | h0
    · subst h0
      have haN : a = N := by have := hs.out; omega
      subst haN
      go_wp2
      go_ret
      exact ⟨rfl, rfl⟩
    · have hmI : (0 : Int) < (m : Int) := by omega
      have hbN : b ≤ N := by have := hs.out; have := Nat.le_mul_of_pos_right b h0; omega
      have h1 : (mkB (List.replicate b c)).size + (mkB (List.replicate b c)).size ≤ 140737488355328 := by simp [mkB_size]; omega
      have h2 : (mkB (List.replicate a c)).size + (mkB (List.replicate b c)).size ≤ 140737488355328 := by simp [mkB_size]; omega
      have hw : IntKind.i64.wrap ((m : Int) / 2) = (m : Int) / 2 := by rw [IntKind.wrap_i64]; omega
      by_cases hodd : m % 2 = 1
      · have hoI : (m : Int) % 2 = 1 := by omega
        have hnx : (a + b) + (b + b) * (m / 2) = N := by
          have h3 : m = 2 * (m / 2) + 1 := by omega
          have h4 := hs.out
          rw [h3] at h4
          rw [← h4]
          simp only [Nat.mul_add, Nat.add_mul, Nat.mul_one, Nat.two_mul]
          omega
        have hab : a + b ≤ N := by omega
        replace hnx := Lib.hid hnx
        replace hodd := Lib.hid hodd
        go_wp2
        go_round
        case rel => exact ⟨a + b, b + b, m / 2, rfl, by go_num, rfl, hnx, by omega, by omega, by omega, by first | rfl | trivial⟩
        case measure => simp [intOf]; omega
      · have hoI : ¬ (m : Int) % 2 = 1 := by omega
        have hnx : a + (b + b) * (m / 2) = N := by
          have h3 : m = 2 * (m / 2) := by omega
          have h4 := hs.out
          rw [h3] at h4
          rw [← h4]
          simp only [Nat.mul_add, Nat.add_mul, Nat.mul_one, Nat.two_mul]
        replace hnx := Lib.hid hnx
        replace hodd := Lib.hid hodd
        go_wp2
        go_round
        case rel => exact ⟨a, b + b, m / 2, rfl, by go_num, rfl, hnx, by omega, by omega, by omega, by first | rfl | trivial⟩
        case measure => simp [intOf]; omega
end Go.Proofs.YtiknkjhdieepbaaDoor

/-
  Trees as texts, plainly; the reference's l1Dec at small numbers.
-/
namespace Go.Proofs.YtiknkjhdieepbaaDoor
open Go.RowKit
set_option linter.unusedVariables false
set_option linter.unusedSimpArgs false
attribute [local go_sem] mkB_size mkB_extract mkB_get mkB_append mkB_append_raw raw_append_mkB mkB_toList

def dd (n : Nat) : List UInt8 := Lib.decDigits n
theorem dd_one (n : Nat) (h : n < 10) : dd n = [UInt8.ofNat (48 + n)] := by unfold dd; rw [Lib.decDigits, dif_pos h]
theorem dd_two (n : Nat) (h : 10 ≤ n) : dd n = dd (n / 10) ++ dd (n % 10) := by
  rw [dd_one (n % 10) (by omega)]
  unfold dd
  conv => lhs; rw [Lib.decDigits, dif_neg (by omega)]
theorem dd_short (n : Nat) (h : n < 100) : (dd n).length ≤ 2 := by
  by_cases h1 : n < 10
  · rw [dd_one n h1]; simp
  · rw [dd_two n (by omega), dd_one (n / 10) (by omega), dd_one (n % 10) (by omega)]; simp
/-- an entry's line -/
def lineE (e : En) : List UInt8 := if e.kind = 1 then [100, 105, 114, 32] ++ (dd e.mode.toNat ++ ([32] ++ (e.path ++ [10])))
  else if e.kind = 3 then [108, 105, 110, 107, 32] ++ (e.path ++ ([32] ++ (e.text ++ [10])))
  else [102, 105, 108, 101, 32] ++ (dd e.mode.toNat ++ ([32] ++ (e.path ++ ([32] ++ (dd e.text.length ++ ([10] ++ (e.text ++ [10])))))))
def linesE (es : List En) : List UInt8 := es.flatMap lineE
noncomputable def treeText (es : List En) : List UInt8 := if treeOk es = true then linesE es else []

set_option maxRecDepth 1000000 in
set_option maxHeartbeats 2000000 in
theorem l1Dec_one (n : Nat) (hn : n < 10) (w : World) :
    Calls Tryd.prog 29 #[.int .i64 n] w fun r w' => r = .returned (.string (mkB (dd n))) ∧ Below w.heap.size w w' := by
  rw [dd_one n hn]
  have hd : ((UInt8.ofNat (48 + n)).toNat : Int) = 48 + (n : Int) := by
    rw [UInt8.toNat_ofNat']
    omega
  obtain ⟨d, hdd⟩ : ∃ d : UInt8, UInt8.ofNat (48 + n) = d := ⟨_, rfl⟩
  rw [hdd] at hd ⊢
  clear hdd
  have hconv : (convert 22 9 (.slice (some ⟨w.heap.size, 0, none⟩) 1 1)).run Tryd.prog (w.alloc (.cells #[.int .u8 (48 + (n : Int))] 5)) = .ok (.string (mkB [d])) (w.alloc (.cells #[.int .u8 (48 + (n : Int))] 5)) := by
    refine run_convert_bytes_back _ _ _ 5 ⟨w.heap.size, 0, none⟩ 1 [d] Tryd.underlying22 Tryd.underlying5 Tryd.underlying9 (fun j hj => ?_)
    obtain rfl : j = 0 := by simpa using hj
    rw [add_of_head, row_cell _ _ _ _ _ _ (World.alloc_heap_new w _)]
    simp only [List.getElem_cons_zero]
    rw [hd]
    rfl
  replace hd := Lib.hid hd
  have hnI : (n : Int) < 10 := by omega
  go_enter Tryd.func29, Tryd.ntmps29
  go_wp2
  go_ret
  exact ⟨rfl, (Below.refl _ _).alloc (Nat.le_refl _) _⟩
end Go.Proofs.YtiknkjhdieepbaaDoor


namespace Go.Proofs.YtiknkjhdieepbaaDoor
open Go.RowKit
set_option linter.unusedVariables false
set_option linter.unusedSimpArgs false
attribute [local go_sem] mkB_size mkB_extract mkB_get mkB_append mkB_append_raw raw_append_mkB mkB_toList
set_option maxRecDepth 1000000 in
set_option maxHeartbeats 400000 in
theorem l1Dec_small (n : Nat) (hn : n < 100) (w : World) :
    Calls Tryd.prog 29 #[.int .i64 n] w fun r w' => r = .returned (.string (mkB (dd n))) ∧ Below w.heap.size w w' := by
  by_cases h10 : n < 10
  · exact l1Dec_one n h10 w
  rw [dd_two n (by omega), dd_one (n % 10) (by omega)]
  have hq : ((n / 10 : Nat) : Int) = (n : Int) / 10 := by omega
  have hc1 : ∀ W, Calls Tryd.prog 29 #[.int .i64 ((n : Int) / 10)] W fun r w' => r = .returned (.string (mkB (dd (n / 10)))) ∧ Below W.heap.size W w' := fun W => by
    rw [← hq]; exact l1Dec_one (n / 10) (by omega) W
  have hl1 := dd_short (n / 10) (by omega)
  replace hc1 := Lib.hid hc1
  clear hq
  have hd : ((UInt8.ofNat (48 + n % 10)).toNat : Int) = 48 + (n : Int) % 10 := by
    rw [UInt8.toNat_ofNat']
    omega
  obtain ⟨d, hdd⟩ : ∃ d : UInt8, UInt8.ofNat (48 + n % 10) = d := ⟨_, rfl⟩
  rw [hdd] at hd ⊢
  clear hdd
  have hcv : ∀ (W : World) (B : Nat), W.cell? ⟨B, 0, none⟩ = some (.int .u8 (48 + (n : Int) % 10)) → (convert 22 9 (.slice (some ⟨B, 0, none⟩) 1 1)).run Tryd.prog W = .ok (.string (mkB [d])) W := fun W B hW => by
    refine run_convert_bytes_back _ _ _ 5 ⟨B, 0, none⟩ 1 [d] Tryd.underlying22 Tryd.underlying5 Tryd.underlying9 (fun j hj => ?_)
    obtain rfl : j = 0 := by simpa using hj
    rw [add_of_head, hW]
    simp only [List.getElem_cons_zero]
    rw [hd]
  replace hd := Lib.hid hd
  have hnI : ¬ (n : Int) < 10 := by omega
  have hw1 : IntKind.i64.wrap ((n : Int) / 10) = (n : Int) / 10 := by rw [IntKind.wrap_i64]; omega
  have hw2 : IntKind.u8.wrap (IntKind.i64.wrap (48 + (n : Int).tmod 10)) = 48 + (n : Int) % 10 := by
    rw [Int.tmod_eq_emod_of_nonneg (by omega)]
    rw [IntKind.wrap_i64]
    simp only [IntKind.wrap, IntKind.bits, IntKind.signed]
    simp
    omega
  go_enter Tryd.func29, Tryd.ntmps29
  go_wp2_with fail
  first | refine wp_region_noPanic ?_ | skip
  refine wp_region_held_drew (S := fun _ => True) (by kernel_rfl) ?_ (fun hHeld => ?_)
  · trivial
  refine wpAnyH_take (i := 0) (v := ?_) rfl (by kernel_rfl) (by kernel_rfl) (by kernel_rfl) (fun _ _ _ h => h) (Or.inl ⟨by rfl, ?_⟩) (by assumption) ?_
  rotate_left
  · (intro w hSw; (try dsimp only at hSw); go_simp; try with_reducible rfl)
  try simp only [Array.reduceGetElem, Act.put, List.setIfInBounds_toArray, List.set_cons_zero, List.set_cons_succ]
  refine wpAnyH_take (i := 1) (v := .int .i64 ((n : Int) / 10)) rfl (by kernel_rfl) (by kernel_rfl) (by kernel_rfl) (fun _ _ _ h => h) (Or.inl ⟨by rfl, ?_⟩) (by assumption) ?_
  · (intro w hSw; (try dsimp only at hSw); go_simp; (try rw [hw1]))
  try simp only [Array.reduceGetElem, Act.put, List.setIfInBounds_toArray, List.set_cons_zero, List.set_cons_succ]
  refine wpAnyH_take (i := 3) (v := ?_) rfl (by kernel_rfl) (by kernel_rfl) (by kernel_rfl) (fun _ _ _ h => h) (Or.inl ⟨by rfl, ?_⟩) (by assumption) ?_
  rotate_left
  · (intro w hSw; (try dsimp only at hSw); go_simp; try with_reducible rfl)
  try simp only [Array.reduceGetElem, Act.put, List.setIfInBounds_toArray, List.set_cons_zero, List.set_cons_succ]
  refine wpAnyH_take (i := 4) (v := ?_) rfl (by kernel_rfl) (by kernel_rfl) (by kernel_rfl) (fun _ _ _ h => h) (Or.inl ⟨by rfl, ?_⟩) (by assumption) ?_
  rotate_left
  · (intro w hSw; (try dsimp only at hSw); go_simp; try with_reducible rfl)
  try simp only [Array.reduceGetElem, Act.put, List.setIfInBounds_toArray, List.set_cons_zero, List.set_cons_succ]
  refine wpAnyH_take (i := 5) (v := ?_) rfl (by kernel_rfl) (by kernel_rfl) (by kernel_rfl) (fun _ _ _ h => h) (Or.inl ⟨by rfl, ?_⟩) (by assumption) ?_
  rotate_left
  · (intro w hSw; (try dsimp only at hSw); go_simp; try with_reducible rfl)
  try simp only [Array.reduceGetElem, Act.put, List.setIfInBounds_toArray, List.set_cons_zero, List.set_cons_succ]
  refine wpAnyH_take (i := 6) (v := .int .u8 (48 + (n : Int) % 10)) rfl (by kernel_rfl) (by kernel_rfl) (by kernel_rfl) (fun _ _ _ h => h) (Or.inl ⟨by rfl, ?_⟩) (by assumption) ?_
  · (intro w hSw; (try dsimp only at hSw); go_simp; (try rw [hw2]))
  try simp only [Array.reduceGetElem, Act.put, List.setIfInBounds_toArray, List.set_cons_zero, List.set_cons_succ]
  refine wpAnyH_ready (rs := [2, 7]) (by kernel_rfl) (by simp) ?_
  refine AllReadyH.cons rfl (fun K hK => ?_) (AllReadyH.cons rfl (fun K hK => ?_) (AllReadyH.nil))
  · go_simp
    go_at_call 29
    refine (hc1.out _).mono ?_
    rintro r w1 ⟨rfl, hB⟩
    have hB0 : Below w.heap.size w w1 := Below.trans (Below.refl _ w).drew (hB.mono (by simp))
    refine hK.out _ _ ?_ (fun hHeld => ?_)
    · first | trivial | (dsimp only; trivial)
    clear hK K
    try simp only [Array.reduceGetElem, Act.put, List.setIfInBounds_toArray, List.set_cons_zero, List.set_cons_succ]
    refine wpAnyH_ready (rs := [7]) (by kernel_rfl) (by simp) ?_
    refine AllReadyH.cons rfl (fun K hK => ?_) (AllReadyH.nil)
    · go_simp
      generalize hW : World.alloc _ _ = W
      have hWc : W.cell? ⟨w1.heap.size, 0, none⟩ = some (.int .u8 (48 + (n : Int) % 10)) := by rw [← hW, row_cell _ _ _ _ _ _ (World.alloc_heap_new _ _)]; rfl
      have hWB : Below w.heap.size w W := by rw [← hW]; exact hB0.alloc hB0.size _
      have hWz : w1.heap.size < W.heap.size := by rw [← hW]; simp
      clear hW
      refine hK.out _ _ ?_ (fun hHeld => ?_)
      · first | trivial | (dsimp only; trivial)
      clear hK K
      try simp only [Array.reduceGetElem, Act.put, List.setIfInBounds_toArray, List.set_cons_zero, List.set_cons_succ]
      have hcx := hcv W w1.heap.size hWc
      refine wpAnyH_ready (rs := [8]) (by kernel_rfl) (by simp) ?_
      refine AllReadyH.cons rfl (fun K hK => ?_) (AllReadyH.nil)
      · go_simp
        refine hK.out _ _ ?_ (fun hHeld => ?_)
        · first | trivial | (dsimp only; trivial)
        clear hK K
        try simp only [Array.reduceGetElem, Act.put, List.setIfInBounds_toArray, List.set_cons_zero, List.set_cons_succ]
        refine wpAnyH_take (i := 9) (v := .string (mkB (dd (n / 10) ++ [d]))) rfl (by kernel_rfl) (by kernel_rfl) (by kernel_rfl) (fun _ _ _ h => h) (Or.inl ⟨by rfl, ?_⟩) (by assumption) ?_
        · (intro w hSw; (try dsimp only at hSw); go_simp; first | omega | (rw [if_neg (by omega)]) | skip)
        try simp only [Array.reduceGetElem, Act.put, List.setIfInBounds_toArray, List.set_cons_zero, List.set_cons_succ]
        refine wpAnyH_take (i := 10) (v := ?_) rfl (by kernel_rfl) (by kernel_rfl) (by kernel_rfl) (fun _ _ _ h => h) (Or.inl ⟨by rfl, ?_⟩) (by assumption) ?_
        rotate_left
        · (intro w hSw; (try dsimp only at hSw); go_simp; try with_reducible rfl)
        try simp only [Array.reduceGetElem, Act.put, List.setIfInBounds_toArray, List.set_cons_zero, List.set_cons_succ]
        refine wpAnyH_done (by kernel_rfl) ?_ _
        try refine NoPanic.normal ?_
        (try dsimp only)
        go_wp2_with fail
        go_ret
        exact ⟨rfl, hWB⟩
  · go_simp
    generalize hW : World.alloc _ _ = W
    have hWc : W.cell? ⟨w.heap.size, 0, none⟩ = some (.int .u8 (48 + (n : Int) % 10)) := by rw [← hW, row_cell _ _ _ _ _ _ (World.alloc_heap_new _ _)]; rfl
    have hWB : Below w.heap.size w W := by rw [← hW]; exact (Below.refl _ w).alloc (Nat.le_refl _) _
    have hWz : w.heap.size < W.heap.size := by rw [← hW]; simp
    clear hW
    refine hK.out _ _ ?_ (fun hHeld => ?_)
    · first | trivial | (dsimp only; trivial)
    clear hK K
    try simp only [Array.reduceGetElem, Act.put, List.setIfInBounds_toArray, List.set_cons_zero, List.set_cons_succ]
    have hcx := hcv W.drew w.heap.size hWc
    refine wpAnyH_ready (rs := [2, 8]) (by kernel_rfl) (by simp) ?_
    refine AllReadyH.cons rfl (fun K hK => ?_) (AllReadyH.cons rfl (fun K hK => ?_) (AllReadyH.nil))
    · go_simp
      go_at_call 29
      refine (hc1.out _).mono ?_
      rintro r w1 ⟨rfl, hB⟩
      have hcx := hcv w1 w.heap.size ((cell_same (hB.block w.heap.size (by first | exact hWz | (simp; done) | (simp; exact hWz))) 0).trans hWc)
      have hB0 : Below w.heap.size w w1 := Below.trans hWB.drew (hB.mono (by first | exact Nat.le_of_lt hWz | (simp; exact Nat.le_of_lt hWz)))
      refine hK.out _ _ ?_ (fun hHeld => ?_)
      · first | trivial | (dsimp only; trivial)
      clear hK K
      try simp only [Array.reduceGetElem, Act.put, List.setIfInBounds_toArray, List.set_cons_zero, List.set_cons_succ]
      refine wpAnyH_ready (rs := [8]) (by kernel_rfl) (by simp) ?_
      refine AllReadyH.cons rfl (fun K hK => ?_) (AllReadyH.nil)
      · go_simp
        refine hK.out _ _ ?_ (fun hHeld => ?_)
        · first | trivial | (dsimp only; trivial)
        clear hK K
        try simp only [Array.reduceGetElem, Act.put, List.setIfInBounds_toArray, List.set_cons_zero, List.set_cons_succ]
        refine wpAnyH_take (i := 9) (v := .string (mkB (dd (n / 10) ++ [d]))) rfl (by kernel_rfl) (by kernel_rfl) (by kernel_rfl) (fun _ _ _ h => h) (Or.inl ⟨by rfl, ?_⟩) (by assumption) ?_
        · (intro w hSw; (try dsimp only at hSw); go_simp; first | omega | (rw [if_neg (by omega)]) | skip)
        try simp only [Array.reduceGetElem, Act.put, List.setIfInBounds_toArray, List.set_cons_zero, List.set_cons_succ]
        refine wpAnyH_take (i := 10) (v := ?_) rfl (by kernel_rfl) (by kernel_rfl) (by kernel_rfl) (fun _ _ _ h => h) (Or.inl ⟨by rfl, ?_⟩) (by assumption) ?_
        rotate_left
        · (intro w hSw; (try dsimp only at hSw); go_simp; try with_reducible rfl)
        try simp only [Array.reduceGetElem, Act.put, List.setIfInBounds_toArray, List.set_cons_zero, List.set_cons_succ]
        refine wpAnyH_done (by kernel_rfl) ?_ _
        try refine NoPanic.normal ?_
        (try dsimp only)
        go_wp2_with fail
        go_ret
        exact ⟨rfl, hB0⟩
    · go_simp
      refine hK.out _ _ ?_ (fun hHeld => ?_)
      · first | trivial | (dsimp only; trivial)
      clear hK K
      try simp only [Array.reduceGetElem, Act.put, List.setIfInBounds_toArray, List.set_cons_zero, List.set_cons_succ]
      clear hcx
      refine wpAnyH_ready (rs := [2]) (by kernel_rfl) (by simp) ?_
      refine AllReadyH.cons rfl (fun K hK => ?_) (AllReadyH.nil)
      · go_simp
        go_at_call 29
        refine (hc1.out _).mono ?_
        rintro r w1 ⟨rfl, hB⟩
        have hB0 : Below w.heap.size w w1 := Below.trans hWB.drew (hB.mono (by first | exact Nat.le_of_lt hWz | (simp; exact Nat.le_of_lt hWz)))
        refine hK.out _ _ ?_ (fun hHeld => ?_)
        · first | trivial | (dsimp only; trivial)
        clear hK K
        try simp only [Array.reduceGetElem, Act.put, List.setIfInBounds_toArray, List.set_cons_zero, List.set_cons_succ]
        refine wpAnyH_take (i := 9) (v := .string (mkB (dd (n / 10) ++ [d]))) rfl (by kernel_rfl) (by kernel_rfl) (by kernel_rfl) (fun _ _ _ h => h) (Or.inl ⟨by rfl, ?_⟩) (by assumption) ?_
        · (intro w hSw; (try dsimp only at hSw); go_simp; first | omega | (rw [if_neg (by omega)]) | skip)
        try simp only [Array.reduceGetElem, Act.put, List.setIfInBounds_toArray, List.set_cons_zero, List.set_cons_succ]
        refine wpAnyH_take (i := 10) (v := ?_) rfl (by kernel_rfl) (by kernel_rfl) (by kernel_rfl) (fun _ _ _ h => h) (Or.inl ⟨by rfl, ?_⟩) (by assumption) ?_
        rotate_left
        · (intro w hSw; (try dsimp only at hSw); go_simp; try with_reducible rfl)
        try simp only [Array.reduceGetElem, Act.put, List.setIfInBounds_toArray, List.set_cons_zero, List.set_cons_succ]
        refine wpAnyH_done (by kernel_rfl) ?_ _
        try refine NoPanic.normal ?_
        (try dsimp only)
        go_wp2_with fail
        go_ret
        exact ⟨rfl, hB0⟩

end Go.Proofs.YtiknkjhdieepbaaDoor

