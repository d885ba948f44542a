/-
  The walks of the drawing reader: l1Open, pick, of. Whatever the code, pick hands back a number below the given one, and of one of the given texts.
-/
import Derived.Test.YtcgnoohllfbmcaaDoorBasic
import Derived.Test.YtcgnoohllfbmcaaDoorPush
import Derived.Deep.QuietTactic
import Derived.BigQuiet
import Derived.Laws.BitsAllLaws
import Derived.Laws.BitsLemmas
namespace Go.Proofs.YtcgnoohllfbmcaaDoor
open Go.RowKit
set_option linter.unusedVariables false

/-- bytes that came in -/
def IsBytes (w : World) (A : Option Addr) (n c : Nat) : Prop :=
  n ≤ c ∧ c ≤ maxLen ∧ (n = 0 ∨ ∃ b off, A = some ⟨b, off, none⟩ ∧ b < w.heap.size ∧ ∀ i, i < n → ∃ x : Nat, x ≤ 255 ∧ w.cell? ⟨b, off + i, none⟩ = some (.int .u8 (x : Int)))
theorem IsBytes.nil (w : World) : IsBytes w none 0 0 := ⟨Nat.le_refl _, Nat.zero_le _, .inl rfl⟩
theorem IsBytes.of_cells {w : World} {x : Addr} {len cap : Nat} {zs : List Int} (hl : len ≤ cap) (hm : cap ≤ maxLen) (hz : zs.length = cap)
    (hcell : ∀ i, i < zs.length → w.cell? (x.add i) = some (.int .u8 (zs.getD i 0))) (hwz : ∀ n ∈ zs, (Lit.int .u8 n).wf = true) : IsBytes w (some x) len cap := by
  refine ⟨hl, hm, ?_⟩
  rcases Nat.eq_zero_or_pos len with h0 | h0
  · exact .inl h0
  · right
    obtain ⟨b, off, spot⟩ := x
    have hc := hcell 0 (by omega)
    obtain rfl : spot = none := by simpa [Addr.add] using World.cell?_spot hc
    have hc0 : w.cell? ⟨b, off, none⟩ = some (.int .u8 (zs.getD 0 0)) := by simpa [Addr.add] using hc
    refine ⟨b, off, rfl, ?_, fun i hi => ?_⟩
    · rcases Nat.lt_or_ge b w.heap.size with h | h
      · exact h
      · simp [World.cell?, Array.getElem?_eq_none h] at hc0
    · have hci := hcell i (by omega)
      have hmem : zs.getD i 0 ∈ zs := by
        rw [List.getD_eq_getElem?_getD, List.getElem?_eq_getElem (by omega)]
        exact List.getElem_mem _
      have hw : 0 ≤ zs.getD i 0 ∧ zs.getD i 0 ≤ 255 := by simpa [Lit.wf, IntKind.min, IntKind.max, IntKind.signed, IntKind.bits] using hwz _ hmem
      obtain ⟨x, hx⟩ := Int.eq_ofNat_of_zero_le hw.1
      refine ⟨x, by omega, ?_⟩
      rw [← hx, ← hci]
      congr 1
      unfold Addr.add
      split
      · rename_i h; subst h; rfl
      · rfl

/-- the reader lies in block rb; so many picks have been made -/
def Rd (w : World) (rb p : Nat) : Prop :=
  ∃ (A : Option Addr) (n c : Nat), w.heap[rb]? = some (.cells #[.slice A n c, .int .i64 (p : Int)] 52 (0, 0)) ∧ n ≤ 2000 ∧ n ≤ c ∧
    (n = 0 ∨ ∃ b off, A = some ⟨b, off, none⟩ ∧ b < rb ∧ ∀ i, i < n → ∃ x : Nat, x ≤ 255 ∧ w.cell? ⟨b, off + i, none⟩ = some (.int .u8 (x : Int)))
theorem cell_of_same {w w' : World} {b : Nat} (h : w'.heap[b]? = w.heap[b]?) (i : Nat) : w'.cell? ⟨b, i, none⟩ = w.cell? ⟨b, i, none⟩ := by simp only [World.cell?, h]
theorem Rd.lt {w : World} {rb p : Nat} (h : Rd w rb p) : rb < w.heap.size := by
  obtain ⟨A, n, c, hb, _⟩ := h
  exact (Array.getElem?_eq_some_iff.1 hb).1
theorem Rd.kept {w w' : World} {rb p : Nat} (h : Rd w rb p) {row : Option Nat} (hg : w.grownBy w' row) (hr : ∀ r, row = some r → rb < r) : Rd w' rb p := by
  have hlt := h.lt
  obtain ⟨A, n, c, hb, h1, h2, h3⟩ := h
  refine ⟨A, n, c, (hg.block rb hlt (fun e => by have := hr rb e.symm; omega)).trans hb, h1, h2, ?_⟩
  rcases h3 with h3 | ⟨b, off, rfl, hlt2, hc⟩
  · exact .inl h3
  · refine .inr ⟨b, off, rfl, hlt2, fun i hi => ?_⟩
    obtain ⟨x, hx, hc'⟩ := hc i hi
    exact ⟨x, hx, (cell_of_same (hg.block b (by omega) (fun e => by have := hr b e.symm; omega)) _).trans hc'⟩
theorem Rd.set {w : World} {rb p : Nat} (h : Rd w rb p) (q : Nat) : Rd (w.setCell ⟨rb, 1, none⟩ (.int .i64 (q : Int))) rb q := by
  have hlt := h.lt
  obtain ⟨A, n, c, hb, h1, h2, h3⟩ := h
  refine ⟨A, n, c, ?_, h1, h2, ?_⟩
  · simp [World.setCell, Array.getElem?_modify, hb]
  rcases h3 with h3 | ⟨b, off, rfl, hlt2, hc⟩
  · exact .inl h3
  · refine .inr ⟨b, off, rfl, hlt2, fun i hi => ?_⟩
    obtain ⟨x, hx, hc'⟩ := hc i hi
    exact ⟨x, hx, (World.cell?_setCell_other w _ _ _ (fun e => by injection e; omega)).trans hc'⟩
theorem Rd.drewN {w : World} {rb p : Nat} (h : Rd w rb p) (k : Nat) : Rd (w.drewN k) rb p := h

def PickPost (m : Int) (rb p : Nat) (w : World) (e : Ending) (w' : World) : Prop :=
  ∃ v : Nat, (v : Int) < m ∧ e = .returned (.int .i64 (v : Int)) ∧ Rd w' rb (p + 1) ∧ w.grownBy w' (some rb)
theorem grown_drewN {a w : World} {row : Option Nat} (h : a.grownBy w row) (n : Nat) : a.grownBy (w.drewN n) row := ⟨h.os, h.tape, h.output, h.size, h.block⟩
theorem grown_set (w : World) (g j : Nat) (u : Value) : w.grownBy (w.setCell ⟨g, j, none⟩ u) (some g) :=
  ⟨rfl, rfl, rfl, (KeepsWalks.setCell w _ u).size, fun k _ hk => Below.heap_setCell _ _ _ k (fun e => hk (by rw [e]))⟩
theorem ofInt_i64 (a : Nat) (ha : a < 9223372036854775808) : (BitVec.ofInt 64 (a : Int)).toNat = a := by
  rw [BitVec.ofInt_natCast, BitVec.toNat_ofNat]; exact Nat.mod_eq_of_lt (by omega)
theorem i64_xor_nat (a b : Nat) (ha : a < 9223372036854775808) (hb : b < 9223372036854775808) : bits .xor .i64 (a : Int) (b : Int) = ((a ^^^ b : Nat) : Int) := by
  have hx : a ^^^ b < 2 ^ 63 := Nat.xor_lt_two_pow (by omega) (by omega)
  show IntKind.i64.wrap ((BitVec.ofInt 64 (a : Int) ^^^ BitVec.ofInt 64 (b : Int)).toNat : Int) = _
  rw [BitVec.toNat_xor, ofInt_i64 a ha, ofInt_i64 b hb, IntKind.wrap_i64]
  omega

set_option maxRecDepth 100000 in
set_option maxHeartbeats 2000000 in
theorem pick_any (rb p : Nat) (m : Int) (w : World) (h : Rd w rb p) (hp : p ≤ 1073741824) (hm : 1 ≤ m) (hm2 : m ≤ 1073741824) :
    Calls Tryd.prog 21 #[.pointer (some ⟨rb, 0, none⟩), .int .i64 m] w (PickPost m rb p w) := by
  have hset := h.set (p + 1)
  have hgr := grown_set w rb 1 (.int .i64 ((p + 1 : Nat) : Int))
  obtain ⟨A, n, c, hb, h1, h2, h3⟩ := h
  have c0 : w.cell? ⟨rb, 0, none⟩ = some (.slice A n c) := by rw [cell_of_row _ _ _ _ _ _ hb]; rfl
  have c1 : w.cell? ⟨rb, 1, none⟩ = some (.int .i64 (p : Int)) := by rw [cell_of_row _ _ _ _ _ _ hb]; rfl
  have f1 : w.frozen? ⟨rb, 1, none⟩ = false := by simp [World.frozen?, hb]
  clear hb
  rcases h3 with h3 | ⟨b, off, rfl, hlt2, hc⟩
  · subst h3
    go_enter Tryd.func21, Tryd.ntmps21
    go_wp2
    go_ret
    exact ⟨0, by omega, rfl, hset, hgr⟩
  · rcases Nat.eq_zero_or_pos n with h0 | h0
    · subst h0
      go_enter Tryd.func21, Tryd.ntmps21
      go_wp2
      go_ret
      exact ⟨0, by omega, rfl, hset, hgr⟩
    · have hn0 : ((n : Int) == 0) = false := by simp; omega
      by_cases hpn : p < n
      · obtain ⟨x, hx, hcx⟩ := hc p hpn
        have hne : (⟨b, off + p, none⟩ : Addr) ≠ ⟨rb, 1, none⟩ := fun e => by injection e; omega
        clear hc
        go_enter Tryd.func21, Tryd.ntmps21
        go_wp2
        go_ret
        refine ⟨x % m.toNat, ?_, ret_int ?_, hset, hgr⟩
        · have := Nat.mod_lt x (show 0 < m.toNat by omega)
          omega
        · rw [Int.natCast_emod, Int.toNat_of_nonneg (by omega)]
      · obtain ⟨q1, hq1, t1⟩ : ∃ q : Nat, q < n ∧ (p : Int).tmod (n : Int) = (q : Int) := ⟨p % n, Nat.mod_lt _ h0, by rw [Int.tmod_eq_emod_of_nonneg (by omega)]; rfl⟩
        obtain ⟨q2, hq2, t2⟩ : ∃ q : Nat, q < n ∧ ((p : Int) * 7 + 3).tmod (n : Int) = (q : Int) := ⟨(p * 7 + 3) % n, Nat.mod_lt _ h0, by rw [Int.tmod_eq_emod_of_nonneg (by omega)]; rfl⟩
        obtain ⟨q3, hq3, t3⟩ : ∃ q : Nat, q ≤ 1073741824 ∧ (p : Int).tdiv (n : Int) = (q : Int) := ⟨p / n, Nat.le_trans (Nat.div_le_self _ _) hp, by rw [Int.tdiv_eq_ediv_of_nonneg (by omega)]; rfl⟩
        obtain ⟨x1, hx1, hc1⟩ := hc q1 hq1
        obtain ⟨x2, hx2, hc2⟩ := hc q2 hq2
        have hne1 : (⟨b, off + q1, none⟩ : Addr) ≠ ⟨rb, 1, none⟩ := fun e => by injection e; omega
        have hne2 : (⟨b, off + q2, none⟩ : Addr) ≠ ⟨rb, 1, none⟩ := fun e => by injection e; omega
        clear hc
        have hn1 : ¬ (n : Int) = 0 := by omega
        have r1 : (q1 : Int) < (n : Int) := by omega
        have r2 : (q2 : Int) < (n : Int) := by omega
        have w0 : IntKind.i64.wrap (q3 : Int) = (q3 : Int) := by rw [IntKind.wrap_i64]; omega
        have w1 : IntKind.i64.wrap ((x1 : Int) * 131) = (x1 : Int) * 131 := by rw [IntKind.wrap_i64]; omega
        have w2 : IntKind.i64.wrap ((p : Int) * 7) = (p : Int) * 7 := by rw [IntKind.wrap_i64]; omega
        have w3 : IntKind.i64.wrap ((p : Int) * 7 + 3) = (p : Int) * 7 + 3 := by rw [IntKind.wrap_i64]; omega
        have w4 : IntKind.i64.wrap ((x2 : Int) * 1117) = (x2 : Int) * 1117 := by rw [IntKind.wrap_i64]; omega
        have w5 : IntKind.i64.wrap ((x1 : Int) * 131 + (x2 : Int) * 1117) = (x1 : Int) * 131 + (x2 : Int) * 1117 := by rw [IntKind.wrap_i64]; omega
        have w6 : IntKind.i64.wrap ((p : Int) * 29) = (p : Int) * 29 := by rw [IntKind.wrap_i64]; omega
        have w7 : IntKind.i64.wrap ((x1 : Int) * 131 + (x2 : Int) * 1117 + (p : Int) * 29) = (x1 : Int) * 131 + (x2 : Int) * 1117 + (p : Int) * 29 := by rw [IntKind.wrap_i64]; omega
        have w8 : IntKind.i64.wrap ((q3 : Int) * 53) = (q3 : Int) * 53 := by rw [IntKind.wrap_i64]; omega
        have w9 : IntKind.i64.wrap ((x1 : Int) * 131 + (x2 : Int) * 1117 + (p : Int) * 29 + (q3 : Int) * 53) = (x1 : Int) * 131 + (x2 : Int) * 1117 + (p : Int) * 29 + (q3 : Int) * 53 := by rw [IntKind.wrap_i64]; omega
        go_enter Tryd.func21, Tryd.ntmps21
        go_wp2
        go_quiet (fail)
        clear t1 t2 t3 w0 w1 w2 w3 w4 w5 w6 w7 w8 w9
        obtain ⟨T, hT, hT2⟩ : ∃ T : Nat, T ≤ 140737488355328 ∧ (x1 : Int) * 131 + (x2 : Int) * 1117 + (p : Int) * 29 + (q3 : Int) * 53 = (T : Int) := ⟨x1 * 131 + x2 * 1117 + p * 29 + q3 * 53, by omega, by simp⟩
        rw [hT2]
        clear hT2
        go_wp2
        go_ret
        refine ⟨(T ^^^ (T / 64)) % m.toNat, ?_, ret_int ?_, hset.drewN _, grown_drewN hgr _⟩
        · have := Nat.mod_lt (T ^^^ (T / 64)) (show 0 < m.toNat by omega)
          omega
        · rw [show (T : Int) / 64 = ((T / 64 : Nat) : Int) by simp, i64_xor_nat T (T / 64) (by omega) (by omega), Int.tmod_eq_emod_of_nonneg (by omega), Int.natCast_emod, Int.toNat_of_nonneg (by omega)]

def OfPost (ss : List (List UInt8)) (rb p : Nat) (w : World) (e : Ending) (w' : World) : Prop :=
  ∃ s, s ∈ ss ∧ e = .returned (.string (mkB s)) ∧ Rd w' rb (p + 1) ∧ w.grownBy w' (some rb)
def strW (l : List UInt8) : Value := .string (mkB l)

set_option maxHeartbeats 1000000 in
theorem of_at (rb p g c : Nat) (ss : List (List UInt8)) (w : World) (h : Rd w rb p) (hp : p ≤ 1073741824) (h1 : 1 ≤ ss.length) (h2 : ss.length ≤ 1000000) (hg : g ≠ rb)
    (hb : w.heap[g]? = some (.cells (ss.map strW).toArray 9 (0, 0))) :
    Calls Tryd.prog 14 #[.pointer (some ⟨rb, 0, none⟩), .slice (some ⟨g, 0, none⟩) ss.length c] w (OfPost ss rb p w) := by
  go_enter Tryd.func14, Tryd.ntmps14
  go_wp2_with fail
  refine (pick_any _ _ _ _ h hp (by omega) (by omega)).mono ?_
  rintro e w1 ⟨v, hv, rfl, hR, hgr⟩
  have hvl : v < ss.length := by omega
  have hb1 : w1.heap[g]? = some (.cells (ss.map strW).toArray 9 (0, 0)) := (hgr.block g (Array.getElem?_eq_some_iff.1 hb).1 (fun e => hg (by injection e))).trans hb
  have hc : w1.cell? ⟨g, v, none⟩ = some (.string (mkB ss[v])) := by
    rw [cell_of_row _ _ _ _ _ _ hb1]
    simp [strW, hvl]
  clear hb1
  go_wp2
  go_ret
  exact ⟨_, List.getElem_mem hvl, rfl, hR, hgr⟩

theorem grownBy_after {a b c : World} {o : Obj} {row : Option Nat} (hb : (a.alloc o) = b) (h : b.grownBy c row) : a.grownBy c row := by
  subst hb
  exact ⟨h.os, h.tape, h.output, by have := h.size; simp at this; omega, fun j hj hne => (h.block j (by simp; omega) hne).trans (Below.heap_alloc a o j hj)⟩
theorem grown_trans {a b c : World} {row : Option Nat} (h : a.grownBy b row) (k : b.grownBy c row) : a.grownBy c row :=
  ⟨k.os.trans h.os, k.tape.trans h.tape, k.output.trans h.output, Nat.le_trans h.size k.size, fun j hj hne => (k.block j (Nat.lt_of_lt_of_le hj h.size) hne).trans (h.block j hj hne)⟩

/-- the list is written out at the call -/
theorem of_lit (rb p : Nat) (ss : List (List UInt8)) (w : World) (h : Rd w rb p) (hp : p ≤ 1073741824) (h1 : 1 ≤ ss.length) (h2 : ss.length ≤ 1000000) :
    Calls Tryd.prog 14 #[.pointer (some ⟨rb, 0, none⟩), .slice (some ⟨w.heap.size, 0, none⟩) ss.length ss.length] (w.alloc (.cells (ss.map strW).toArray 9)) (OfPost ss rb p w) := by
  have hlt := h.lt
  refine (of_at rb p w.heap.size ss.length ss _ (h.kept (World.grownBy_alloc w _ none) (fun r e => by cases e)) hp h1 h2 (by omega) (World.alloc_heap_new w _)).mono ?_
  rintro e w' ⟨s, hs, he, hR, hg⟩
  exact ⟨s, hs, he, hR, grownBy_after rfl hg⟩

def OpenPost (w : World) (e : Ending) (w' : World) : Prop := ∃ rb, w.heap.size ≤ rb ∧ e = .returned (.pointer (some ⟨rb, 0, none⟩)) ∧ Rd w' rb 0 ∧ Below w.heap.size w w'
theorem rd_new (w : World) (A : Option Addr) (n c : Nat) (h1 : n ≤ 2000) (h2 : n ≤ c)
    (h3 : n = 0 ∨ ∃ b off, A = some ⟨b, off, none⟩ ∧ b < w.heap.size ∧ ∀ i, i < n → ∃ x : Nat, x ≤ 255 ∧ w.cell? ⟨b, off + i, none⟩ = some (.int .u8 (x : Int))) :
    Rd (w.alloc (.cells #[.slice A n c, .int .i64 0] 52)) w.heap.size 0 := by
  refine ⟨A, n, c, World.alloc_heap_new w _, h1, h2, ?_⟩
  rcases h3 with h3 | ⟨b, off, rfl, hb, hc⟩
  · exact .inl h3
  · refine .inr ⟨b, off, rfl, hb, fun i hi => ?_⟩
    obtain ⟨x, hx, hcx⟩ := hc i hi
    exact ⟨x, hx, (cell_of_same (Below.heap_alloc w _ b hb) _).trans hcx⟩
set_option maxHeartbeats 1000000 in
theorem l1Open_any (A : Option Addr) (n c : Nat) (w : World) (h : IsBytes w A n c) :
    Calls Tryd.prog 13 #[.slice A n c] w (OpenPost w) := by
  obtain ⟨h1, h2, h3⟩ := h
  unfold maxLen at h2
  by_cases hn : n ≤ 2000
  · go_enter Tryd.func13, Tryd.ntmps13
    go_wp2
    go_ret
    exact ⟨w.heap.size, Nat.le_refl _, rfl, rd_new w A n c hn h1 h3, (Below.refl _ _).alloc (Nat.le_refl _) _⟩
  · rcases h3 with h3 | ⟨b, off, rfl, hb, hc⟩
    · omega
    · go_enter Tryd.func13, Tryd.ntmps13
      go_wp2
      go_ret
      exact ⟨w.heap.size, Nat.le_refl _, rfl, rd_new w _ 2000 c (by omega) (by omega) (.inr ⟨b, off, rfl, hb, fun i hi => hc i (by omega)⟩), (Below.refl _ _).alloc (Nat.le_refl _) _⟩

end Go.Proofs.YtcgnoohllfbmcaaDoor
