/-
  MarkP, Mark, MarkE: merged.
-/
import Derived.Test.YtjihpbioofikcaaDoorGD
import Derived.Deep.RegionHeld3
import Derived.Laws.IdiomStrings
/-
  Marks, plainly; slices of entries that may be empty.
-/
namespace Go.Proofs.YtjihpbioofikcaaDoor
open Go.RowKit
set_option linter.unusedVariables false
set_option linter.unusedSimpArgs false

/-- a number's figures ahead of others -/
def figs : Nat → Nat → List UInt8 → List UInt8
  | 0, _, out => out
  | f + 1, k, out => if k = 0 then out else figs f (k / 10) (UInt8.ofNat (48 + k % 10) :: out)
def markT (k : Nat) : List UInt8 := 109 :: figs (k + 1) k []
theorem figs_zero (f : Nat) (out : List UInt8) : figs f 0 out = out := by cases f <;> simp [figs]
theorem figs_more : ∀ (f g k : Nat) (out : List UInt8), k < f → k < g → figs f k out = figs g k out
  | 0, _, _, _, h, _ => absurd h (Nat.not_lt_zero _)
  | _ + 1, 0, _, _, _, h => absurd h (Nat.not_lt_zero _)
  | f + 1, g + 1, k, out, h1, h2 => by
    unfold figs
    by_cases h : k = 0
    · rw [if_pos h, if_pos h]
    · rw [if_neg h, if_neg h]; exact figs_more f g (k / 10) _ (by omega) (by omega)
theorem figs_step {k : Nat} {out : List UInt8} (h : k ≠ 0) : figs (k + 1) k out = figs (k / 10 + 1) (k / 10) (UInt8.ofNat (48 + k % 10) :: out) := by
  conv => lhs; unfold figs
  rw [if_neg h]
  exact figs_more _ _ _ _ (by omega) (by omega)
def markEn (q : Nat) : En := ⟨markT q, ((q + 1 : Nat) : Int), ((q + 2 : Nat) : Int), markT (q + 3)⟩
def marks (n q : Nat) : List En := (List.range n).map (fun i => markEn (q + 4 * i))
theorem marks_length (n q : Nat) : (marks n q).length = n := by simp [marks]
theorem marks_get {n q i : Nat} (h : i < (marks n q).length) : (marks n q)[i] = markEn (q + 4 * i) := by simp [marks]

/-- entries in a slice that may be empty -/
def SlE (w : World) (A : Option Addr) (es : List En) : Prop := es = [] ∨ ∃ g, A = some ⟨g, 0, none⟩ ∧ Ents w g es
theorem SlE.of {w : World} {g : Nat} {es : List En} (h : Ents w g es) : SlE w (some ⟨g, 0, none⟩) es := .inr ⟨g, rfl, h⟩
/-- the same, and it may be written -/
def OwnE (w : World) (lo : Nat) (A : Option Addr) (es : List En) : Prop := es = [] ∨ ∃ g m, A = some ⟨g, 0, none⟩ ∧ lo ≤ g ∧ es.length ≤ m ∧ RowE w g m es.length es
theorem OwnE.sl {w : World} {lo : Nat} {A : Option Addr} {es : List En} (h : OwnE w lo A es) : SlE w A es := by
  rcases h with h | ⟨g, m, h1, _, _, h2⟩
  · exact .inl h
  · exact .inr ⟨g, h1, h2.ents⟩

/-! ### rows as lists of cells -/
def cellsE (e : En) : List Value := [.string (mkB e.path), .int .i64 e.kind, .int .i64 e.mode, .string (mkB e.text)]
def flatE (es : List En) : List Value := es.flatMap cellsE
theorem flatE_cons (e : En) (r : List En) : flatE (e :: r) = .string (mkB e.path) :: .int .i64 e.kind :: .int .i64 e.mode :: .string (mkB e.text) :: flatE r := rfl
theorem flatE_append (a b : List En) : flatE (a ++ b) = flatE a ++ flatE b := by simp [flatE]
theorem flatE_length : ∀ es : List En, (flatE es).length = es.length * 4
  | [] => rfl
  | e :: r => by rw [flatE_cons]; simp only [List.length_cons, flatE_length r]; omega
theorem flatE_get : ∀ (es : List En) (i : Nat) (h : i < es.length), (flatE es)[i * 4]? = some (.string (mkB es[i].path)) ∧ (flatE es)[i * 4 + 1]? = some (.int .i64 es[i].kind) ∧ (flatE es)[i * 4 + 2]? = some (.int .i64 es[i].mode) ∧ (flatE es)[i * 4 + 3]? = some (.string (mkB es[i].text))
  | [], i, h => by simp at h
  | e :: r, 0, _ => ⟨rfl, rfl, rfl, rfl⟩
  | e :: r, i + 1, h => by
    have hi := flatE_get r i (by simpa using h)
    rw [flatE_cons, show (i + 1) * 4 = i * 4 + 1 + 1 + 1 + 1 by omega]
    refine ⟨by simpa using hi.1, ?_, ?_, ?_⟩
    · rw [show i * 4 + 1 + 1 + 1 + 1 + 1 = i * 4 + 1 + 1 + 1 + 1 + 1 from rfl]; simpa using hi.2.1
    · rw [show i * 4 + 1 + 1 + 1 + 1 + 2 = i * 4 + 2 + 1 + 1 + 1 + 1 by omega]; simpa using hi.2.2.1
    · rw [show i * 4 + 1 + 1 + 1 + 1 + 3 = i * 4 + 3 + 1 + 1 + 1 + 1 by omega]; simpa using hi.2.2.2
theorem flatE_one (es : List En) : ∀ u ∈ flatE es, u.oneCell' = true := by
  intro u hu
  simp only [flatE, cellsE, List.mem_flatMap, List.mem_cons, List.not_mem_nil, or_false] at hu
  obtain ⟨e, _, rfl | rfl | rfl | rfl⟩ := hu <;> rfl
theorem Ents.flat {w : World} {g : Nat} {es : List En} (h : Ents w g es) : ∀ j u, (flatE es)[j]? = some u → w.cell? ((⟨g, 0, none⟩ : Addr).add j) = some u := by
  intro j u hu
  rw [add_of_head]
  have hj : j < es.length * 4 := by
    have := (List.getElem?_eq_some_iff.1 hu).1
    rwa [flatE_length] at this
  have hi : j / 4 < es.length := by omega
  obtain ⟨c0, c1, c2, c3⟩ := h.2 (j / 4) hi
  obtain ⟨d0, d1, d2, d3⟩ := flatE_get es (j / 4) hi
  have hr : j = j / 4 * 4 ∨ j = j / 4 * 4 + 1 ∨ j = j / 4 * 4 + 2 ∨ j = j / 4 * 4 + 3 := by omega
  rcases hr with hr | hr | hr | hr
  · rw [← hr] at c0 d0; rw [d0] at hu; rw [c0]; exact hu
  · rw [← hr] at c1 d1; rw [d1] at hu; rw [c1]; exact hu
  · rw [← hr] at c2 d2; rw [d2] at hu; rw [c2]; exact hu
  · rw [← hr] at c3 d3; rw [d3] at hu; rw [c3]; exact hu
theorem RowE.of_own {w : World} {base g n cap : Nat} {es : List En} (h : w.ownsRow base 31 4 (.slice (some ⟨g, 0, none⟩) n cap) n (flatE es)) : RowE w g cap es.length es := by
  obtain ⟨hl, h | ⟨g', cap', cur, hv, _, hh, hnc, _, hs, ht⟩⟩ := h
  · cases h.1
  · cases hv
    rw [flatE_length] at hl
    have hget : ∀ j, j < n * 4 → cur[j]? = (flatE es)[j]? := fun j hj => by rw [← ht, List.getElem?_take_of_lt hj, Array.getElem?_toList]
    refine ⟨cur, hh, hs, fun i hi _ => ?_⟩
    obtain ⟨d0, d1, d2, d3⟩ := flatE_get es i hi
    exact ⟨(hget _ (by omega)).trans d0, (hget _ (by omega)).trans d1, (hget _ (by omega)).trans d2, (hget _ (by omega)).trans d3⟩
end Go.Proofs.YtjihpbioofikcaaDoor

/-
  The walks of markText, markEntryS, heldEntryS, and of eqEntryS at slices that may be empty.
-/
namespace Go.Proofs.YtjihpbioofikcaaDoor
open Go.RowKit
set_option linter.unusedVariables false
set_option linter.unusedSimpArgs false
attribute [local go_sem] mkB_size mkB_extract mkB_get mkB_append mkB_append_raw raw_append_mkB mkB_toList

set_option maxRecDepth 1000000 in
set_option maxHeartbeats 4000000 in
theorem markText_any (k : Nat) (hk1 : 1 ≤ k) (hk2 : k ≤ 16777216) (w : World) :
    Calls Tryd.prog 59 #[.int .i64 k] w fun r w' => r = .returned (.string (mkB (markT k))) ∧ Below w.heap.size w w' := by
  have hk0 : ¬ (k : Int) ≤ 0 := by omega
  go_enter Tryd.func59, Tryd.ntmps59
  go_wp2
  go_loopw [0, 3] (fun kk out wr => ∃ (q : Nat) (o : List UInt8), q ≤ 16777216 ∧ kk = .int .i64 q ∧ out = .string (mkB o) ∧ o.length + q ≤ k ∧ Hid (figs (q + 1) q o = figs (k + 1) k []) ∧ Below w.heap.size w wr) (fun kk _ _ => (intOf kk).toNat)
  case atStart => exact ⟨k, [], hk2, rfl, rfl, by simp, Lib.hid rfl, Below.refl _ _⟩
  case round =>
    obtain ⟨q, o, hq, rfl, rfl, hlen, hfig, hB1⟩ := hrel
    by_cases hq0 : q = 0
    · subst hq0
      go_wp2
      go_ret
      refine ⟨?_, hB1⟩
      have h := hfig.out
      rw [figs_zero] at h
      unfold markT
      rw [← h]
      first | rfl | exact ret_str rfl
    · have hq1 : (0 : Int) < (q : Int) := by omega
      have hfig2 := figs_step (out := o) hq0
      have hd : ((UInt8.ofNat (48 + q % 10)).toNat : Int) = 48 + (q : Int) % 10 := by
        rw [UInt8.toNat_ofNat']
        omega
      obtain ⟨d, hdd⟩ : ∃ d : UInt8, UInt8.ofNat (48 + q % 10) = d := ⟨_, rfl⟩
      rw [hdd] at hd hfig2
      clear hdd
      replace hfig2 := Lib.hid hfig2
      have hconv : (convert 42 9 (.slice (some ⟨wr.heap.size, 0, none⟩) 1 1)).run Tryd.prog (wr.alloc (.cells #[.int .u8 (48 + (q : Int) % 10)] 5)) = .ok (.string (mkB [d])) (wr.alloc (.cells #[.int .u8 (48 + (q : Int) % 10)] 5)) := by
        refine run_convert_bytes_back _ _ _ 5 ⟨wr.heap.size, 0, none⟩ 1 [d] Tryd.underlying42 Tryd.underlying5 Tryd.underlying9 (fun j hj => ?_)
        obtain rfl : j = 0 := by simpa using hj
        rw [add_of_head, row_cell _ _ _ _ _ _ (World.alloc_heap_new wr _)]
        simp only [List.getElem_cons_zero]
        rw [hd]
        rfl
      replace hd := Lib.hid hd
      go_wp2
      go_round
      case rel => exact ⟨q / 10, d :: o, by omega, int_eq (by omega), rfl, by simp; omega, Lib.hid (hfig2.out.symm.trans hfig.out), hB1.alloc hB1.size _⟩
      case measure => simp [intOf]; omega

/-- entries in a slice that may be empty, and their block -/
def MarkPost (es : List En) (n k : Nat) (A : Option Addr) (w : World) (r : Ending) (w' : World) : Prop :=
  r = .returned (.int .i64 ((k + 4 * n : Nat) : Int)) ∧ (n = 0 ∧ w = w' ∨ ∃ g m, A = some ⟨g, 0, none⟩ ∧ n ≤ m ∧ RowE w' g m n (marks n k) ∧ w.grownBy w' (some g))
end Go.Proofs.YtjihpbioofikcaaDoor

/-
  The walks of markEntryS, heldEntryS, and of eqEntryS at slices that may be empty.
-/
namespace Go.Proofs.YtjihpbioofikcaaDoor
open Go.RowKit
set_option linter.unusedVariables false
set_option linter.unusedSimpArgs false
attribute [local go_sem] mkB_size mkB_extract mkB_get mkB_append mkB_append_raw raw_append_mkB mkB_toList

theorem gr_below {w a b : World} {g : Nat} (h : w.grownBy a (some g)) (hB : Below a.heap.size a b) : w.grownBy b (some g) :=
  ⟨hB.os.trans h.os, hB.tape.trans h.tape, hB.output.trans h.output, Nat.le_trans h.size hB.size, fun k hk hne => (hB.block k (Nat.lt_of_lt_of_le hk h.size)).trans (h.block k hk hne)⟩
theorem gr_set {w a : World} {g : Nat} (h : w.grownBy a (some g)) (j : Nat) (v : Value) : w.grownBy (a.setCell ⟨g, j, none⟩ v) (some g) :=
  ⟨h.os, h.tape, h.output, by have := h.size; simp; omega, fun k hk hne => (Below.heap_setCell _ _ _ k (fun e => hne (by rw [e]))).trans (h.block k hk hne)⟩
theorem RowE.putA {w : World} {g n k : Nat} {es : List En} {cur : Array Value}
    (hh : w.heap[g]? = some (.cells ((((cur.setIfInBounds (k * 4) (.string (mkB (es.getD k ⟨[], 0, 0, []⟩).path))).setIfInBounds (k * 4 + 1) (.int .i64 (es.getD k ⟨[], 0, 0, []⟩).kind)).setIfInBounds (k * 4 + 2) (.int .i64 (es.getD k ⟨[], 0, 0, []⟩).mode)).setIfInBounds (k * 4 + 3) (.string (mkB (es.getD k ⟨[], 0, 0, []⟩).text))) 31 (0, 0)))
    (hs : cur.size = n * 4) (hc : ∀ i (h : i < es.length), i < k → cur[i * 4]? = some (.string (mkB es[i].path)) ∧ cur[i * 4 + 1]? = some (.int .i64 es[i].kind) ∧ cur[i * 4 + 2]? = some (.int .i64 es[i].mode) ∧ cur[i * 4 + 3]? = some (.string (mkB es[i].text)))
    (hk : k < es.length) (hn : es.length ≤ n) : RowE w g n (k + 1) es := by
  refine ⟨_, hh, by simp [hs], fun i hi hik => ?_⟩
  simp only [Array.getElem?_setIfInBounds, Array.size_setIfInBounds, hs]
  rcases Nat.lt_or_ge i k with h1 | h1
  · obtain ⟨c0, c1, c2, c3⟩ := hc i hi h1
    refine ⟨?_, ?_, ?_, ?_⟩
    · rw [if_neg (by omega), if_neg (by omega), if_neg (by omega), if_neg (by omega)]; exact c0
    · rw [if_neg (by omega), if_neg (by omega), if_neg (by omega), if_neg (by omega)]; exact c1
    · rw [if_neg (by omega), if_neg (by omega), if_neg (by omega), if_neg (by omega)]; exact c2
    · rw [if_neg (by omega), if_neg (by omega), if_neg (by omega), if_neg (by omega)]; exact c3
  · obtain rfl : i = k := by omega
    have hg : es.getD i ⟨[], 0, 0, []⟩ = es[i] := by rw [List.getD_eq_getElem?_getD, List.getElem?_eq_getElem hi]; rfl
    rw [hg]
    refine ⟨?_, ?_, ?_, ?_⟩
    · rw [if_neg (by omega), if_neg (by omega), if_neg (by omega), if_pos rfl, if_pos (by omega)]
    · rw [if_neg (by omega), if_neg (by omega), if_pos rfl, if_pos (by omega)]
    · rw [if_neg (by omega), if_pos rfl, if_pos (by omega)]
    · rw [if_pos rfl, if_pos (by omega)]
theorem marks_getD {n k i : Nat} (h : i < n) : (marks n k).getD i ⟨[], 0, 0, []⟩ = markEn (k + 4 * i) := by
  rw [List.getD_eq_getElem?_getD, List.getElem?_eq_getElem (by rw [marks_length]; exact h), marks_get]; rfl

set_option maxRecDepth 1000000 in
set_option maxHeartbeats 8000000 in
theorem markEntryS_any (n g m c k : Nat) (w : World) (hR : RowE w g m 0 (marks n k)) (hnm : n ≤ m) (hn : n ≤ 1048576) (hk1 : 1 ≤ k) (hk2 : k + 4 * n ≤ 16777000) :
    Calls Tryd.prog 26 #[.slice (some ⟨g, 0, none⟩) n c, .int .i64 k] w fun r w' => r = .returned (.int .i64 ((k + 4 * n : Nat) : Int)) ∧ RowE w' g m n (marks n k) ∧ w.grownBy w' (some g) := by
  have hRh := Lib.hid hR
  have hml := Lib.hid (marks_length n k)
  clear hR
  go_enter Tryd.func26, Tryd.ntmps26
  go_wp2
  go_loopw [1, 5] (fun kk ii wr => ∃ i q : Nat, i ≤ n ∧ ii = .int .i64 i ∧ kk = .int .i64 q ∧ Hid (q = k + 4 * i) ∧ q ≤ 16777000 ∧ 1 ≤ q ∧ Hid (RowE wr g m i (marks n k)) ∧ Hid (w.grownBy wr (some g))) (fun _ ii _ => n - (intOf ii).toNat)
  case atStart => exact ⟨0, k, Nat.zero_le _, rfl, rfl, Lib.hid (by omega), by omega, hk1, hRh, Lib.hid (World.grownBy.refl _ _)⟩
  case round =>
    obtain ⟨i, q, hi, rfl, rfl, hq, hq2, hq1, hRr, hgr⟩ := hrel
    by_cases hlt : i < n
    · obtain ⟨cur, hh, hs, hc⟩ := hRr.out
      have hgl := hRr.out.lt
      have hiI : (i : Int) < (n : Int) := by omega
      replace hh := Lib.hid hh
      replace hs := Lib.hid hs
      replace hc := Lib.hid hc
      go_wp2_with fail
      refine (markText_any q hq1 (by omega) _).mono ?_
      rintro e w2 ⟨rfl, hB2⟩
      have hh2 : Hid (w2.heap[g]? = some (.cells cur 31 (0, 0))) := Lib.hid ((hB2.block g hgl).trans hh.out)
      have hfr2 : ∀ j, w2.frozen? ⟨g, j, none⟩ = false := fun j => by have := hh2.out; simp [World.frozen?, this]
      have hce2 : ∀ j, j < m * 4 → ∃ v, w2.cell? ⟨g, j, none⟩ = some v := fun j hj => ⟨cur[j]'(by rw [hs.out]; exact hj), by rw [row_cell _ _ _ _ _ _ hh2.out, Array.getElem?_eq_getElem (by rw [hs.out]; exact hj)]⟩
      obtain ⟨r0, x0⟩ := hce2 (i * 4) (by omega)
      obtain ⟨r1, x1⟩ := hce2 (i * 4 + 1) (by omega)
      obtain ⟨r2, x2⟩ := hce2 (i * 4 + 2) (by omega)
      have f0 := hfr2 (i * 4)
      have f1 := hfr2 (i * 4 + 1)
      have f2 := hfr2 (i * 4 + 2)
      clear hfr2 hce2
      have hgr2 := Lib.hid (gr_below hgr.out hB2)
      go_wp2_with fail
      obtain ⟨W3, hW3⟩ : ∃ X, (((w2.setCell ⟨g, i * 4, none⟩ (.string (mkB (markT q)))).setCell ⟨g, i * 4 + 1, none⟩ (.int .i64 ((q : Int) + 1))).setCell ⟨g, i * 4 + 2, none⟩ (.int .i64 ((q : Int) + 1 + 1))) = X := ⟨_, rfl⟩
      have hh3 := heap_set (j := i * 4 + 2) (v := .int .i64 ((q : Int) + 1 + 1)) (heap_set (j := i * 4 + 1) (v := .int .i64 ((q : Int) + 1)) (heap_set (j := i * 4) (v := .string (mkB (markT q))) hh2.out))
      have hgr3 := gr_set (gr_set (gr_set hgr2.out (i * 4) (.string (mkB (markT q)))) (i * 4 + 1) (.int .i64 ((q : Int) + 1))) (i * 4 + 2) (.int .i64 ((q : Int) + 1 + 1))
      rw [hW3] at hh3 hgr3
      rw [hW3]
      clear hW3 x0 x1 x2 f0 f1 f2
      have hgl3 : g < W3.heap.size := (Array.getElem?_eq_some_iff.1 hh3).1
      replace hh3 := Lib.hid hh3
      replace hgr3 := Lib.hid hgr3
      have hc2 := markText_any (q + 3) (by omega) (by omega) W3
      rw [show ((q + 3 : Nat) : Int) = (q : Int) + 1 + 1 + 1 by omega] at hc2
      refine hc2.mono ?_
      clear hc2
      rintro e w5 ⟨rfl, hB5⟩
      have hh5 : Hid (w5.heap[g]? = some (.cells (((cur.setIfInBounds (i * 4) (.string (mkB (markT q)))).setIfInBounds (i * 4 + 1) (.int .i64 ((q : Int) + 1))).setIfInBounds (i * 4 + 2) (.int .i64 ((q : Int) + 1 + 1))) 31 (0, 0))) := Lib.hid ((hB5.block g hgl3).trans hh3.out)
      have hgr5 := Lib.hid (gr_below hgr3.out hB5)
      have f3 : w5.frozen? ⟨g, i * 4 + 3, none⟩ = false := by have := hh5.out; simp [World.frozen?, this]
      obtain ⟨r3, x3⟩ : ∃ v, w5.cell? ⟨g, i * 4 + 3, none⟩ = some v := ⟨_, by rw [row_cell _ _ _ _ _ _ hh5.out, Array.getElem?_eq_getElem (by simp [hs.out]; omega)]⟩
      go_wp2
      go_round
      case rel =>
        refine ⟨i + 1, q + 4, by omega, by go_num, int_eq (by omega), Lib.hid (by have := hq.out; omega), by have := hq.out; omega, by omega, Lib.hid ?_, Lib.hid (gr_set hgr5.out _ _)⟩
        refine RowE.putA (cur := cur) ?_ hs.out hc.out (by rw [hml.out]; exact hlt) (by rw [hml.out]; exact hnm)
        rw [marks_getD hlt, ← hq.out]
        exact heap_set hh5.out
      case measure => simp [intOf]; omega
    · obtain rfl : i = n := by omega
      go_wp2
      go_ret
      exact ⟨ret_int (by rw [hq.out]), hRr.out, hgr.out⟩

set_option maxRecDepth 1000000 in
set_option maxHeartbeats 8000000 in
theorem heldEntryS_any (n g c k : Nat) (w : World) (hE : Ents w g (marks n k)) (hn : n ≤ 1048576) (hk1 : 1 ≤ k) (hk2 : k + 4 * n ≤ 16777000) :
    Calls Tryd.prog 27 #[.slice (some ⟨g, 0, none⟩) n c, .int .i64 k] w fun r w' => r = .returned (.int .i64 ((k + 4 * n : Nat) : Int)) ∧ Below w.heap.size w w' := by
  have hEh := Lib.hid hE
  have hg := hE.1
  have hml := Lib.hid (marks_length n k)
  clear hE
  go_enter Tryd.func27, Tryd.ntmps27
  go_wp2
  go_loopw [1, 5] (fun kk ii wr => ∃ i q : Nat, i ≤ n ∧ ii = .int .i64 i ∧ kk = .int .i64 q ∧ Hid (q = k + 4 * i) ∧ q ≤ 16777000 ∧ 1 ≤ q ∧ Below w.heap.size w wr) (fun _ ii _ => n - (intOf ii).toNat)
  case atStart => exact ⟨0, k, Nat.zero_le _, rfl, rfl, Lib.hid (by omega), by omega, hk1, Below.refl _ _⟩
  case round =>
    obtain ⟨i, q, hi, rfl, rfl, hq, hq2, hq1, hB1⟩ := hrel
    by_cases hlt : i < n
    · have hiI : (i : Int) < (n : Int) := by omega
      have hi0 : (0 : Int) ≤ (i : Int) := by omega
      have hE1 := Lib.hid (hEh.out.below hB1 hg)
      have hg1 := hE1.out.1
      have key : ∀ W, Ents W g (marks n k) → W.cell? ⟨g, i * 4, none⟩ = some (.string (mkB (markT q))) ∧ W.cell? ⟨g, i * 4 + 1, none⟩ = some (.int .i64 ((q : Int) + 1)) ∧ W.cell? ⟨g, i * 4 + 2, none⟩ = some (.int .i64 ((q : Int) + 1 + 1)) ∧ W.cell? ⟨g, i * 4 + 3, none⟩ = some (.string (mkB (markT (q + 3)))) := fun W hW => by
        have h := hW.2 i (by rw [hml.out]; exact hlt)
        rw [marks_get, ← hq.out] at h
        exact h
      replace key := Lib.hid key
      obtain ⟨c0, c1, c2, c3⟩ := key.out wr hE1.out
      have hzd : wr.drew.heap.size = wr.heap.size := rfl
      have hc3 : ∀ W, Calls Tryd.prog 59 #[.int .i64 ((q : Int) + 1 + 1 + 1)] W fun r w' => r = .returned (.string (mkB (markT (q + 3)))) ∧ Below W.heap.size W w' := fun W => by
        have h := markText_any (q + 3) (by omega) (by omega) W
        rwa [show ((q + 3 : Nat) : Int) = (q : Int) + 1 + 1 + 1 by omega] at h
      replace hc3 := Lib.hid hc3
      have hbs1 := hB1.size
      go_wp2_with fail
      first
        | skip
          go_region_held3 (fun W' => W'.cell? ⟨g, i * 4, none⟩ = some (.string (mkB (markT q)))) (first | exact d0 | exact c0 | go_keep)
            (first | (go_at_call 59; refine (markText_any q hq1 (by omega) _).mono ?_; rintro e w2 ⟨rfl, hB⟩; have hB2 := Below.trans hB1.drew (hB.mono (by omega)); have hE2 := Ents.below (Ents.drew hE1.out) hB hg1; obtain ⟨d0, d1, d2, d3⟩ := key.out w2 hE2))
        | fail
      have hg2 := hE2.1
      have hzd2 : w2.drew.heap.size = w2.heap.size := rfl
      have hbs2 := hB2.size
      go_wp2_with fail
      first
        | skip
          go_region_held3 (fun W' => W'.cell? ⟨g, i * 4 + 3, none⟩ = some (.string (mkB (markT (q + 3))))) (first | exact e3 | exact d3 | go_keep)
            (first | (go_at_call 59; refine (hc3.out _).mono ?_; rintro e w3 ⟨rfl, hB⟩; have hB3 := Below.trans hB2.drew (hB.mono (by omega)); have hE3 := Ents.below (Ents.drew hE2) hB hg2; obtain ⟨e0, e1, e2, e3⟩ := key.out w3 hE3))
        | fail
      go_wp2
      go_round
      case rel => exact ⟨i + 1, q + 4, by omega, by go_num, int_eq (by omega), Lib.hid (by have := hq.out; omega), by have := hq.out; omega, by omega, hB3⟩
      case measure => simp [intOf]; omega
    · obtain rfl : i = n := by omega
      go_wp2
      go_ret
      exact ⟨ret_int (by rw [hq.out]), hB1⟩

/-! ### slices that may be empty -/
set_option maxRecDepth 1000000 in
set_option maxHeartbeats 2000000 in
theorem eqEntryS_nil (A B : Option Addr) (c d : Nat) (w : World) :
    Calls Tryd.prog 25 #[.slice A 0 c, .slice B 0 d] w fun r w' => r = .returned (.bool true) ∧ Below w.heap.size w w' := by
  go_enter Tryd.func25, Tryd.ntmps25
  go_wp2
  go_loopw [5] (fun i wr => i = .int .i64 0 ∧ w = wr) (fun _ _ => 0)
  case atStart => exact ⟨rfl, rfl⟩
  case round =>
    obtain ⟨rfl, rfl⟩ := hrel
    go_wp2
    go_ret
    exact ⟨rfl, Below.refl _ _⟩
theorem eqEntryS_sl (es : List En) (A B : Option Addr) (n1 n2 c d : Nat) (w : World) (hA : SlE w A es) (hB : SlE w B es) (hn1 : n1 = es.length) (hn2 : n2 = es.length) (hlen : es.length ≤ 1048576) :
    Calls Tryd.prog 25 #[.slice A n1 c, .slice B n2 d] w fun r w' => r = .returned (.bool true) ∧ Below w.heap.size w w' := by
  by_cases he : es = []
  · subst he
    subst hn1
    subst hn2
    exact eqEntryS_nil A B c d w
  · rcases hA with h | ⟨g1, rfl, h1⟩
    · exact absurd h he
    rcases hB with h | ⟨g2, rfl, h2⟩
    · exact absurd h he
    exact eqEntryS_any es g1 g2 n1 n2 c d w h1 h2 hn1 hn2 hlen
set_option maxRecDepth 1000000 in
set_option maxHeartbeats 2000000 in
theorem markEntryS_nil (A : Option Addr) (c k : Nat) (w : World) :
    Calls Tryd.prog 26 #[.slice A 0 c, .int .i64 k] w fun r w' => r = .returned (.int .i64 k) ∧ w = w' := by
  go_enter Tryd.func26, Tryd.ntmps26
  go_wp2
  go_loopw [1, 5] (fun kk i wr => kk = .int .i64 k ∧ i = .int .i64 0 ∧ w = wr) (fun _ _ _ => 0)
  case atStart => exact ⟨rfl, rfl, rfl⟩
  case round =>
    obtain ⟨rfl, rfl, rfl⟩ := hrel
    go_wp2
    go_ret
    exact ⟨rfl, rfl⟩
set_option maxRecDepth 1000000 in
set_option maxHeartbeats 2000000 in
theorem heldEntryS_nil (A : Option Addr) (c k : Nat) (w : World) :
    Calls Tryd.prog 27 #[.slice A 0 c, .int .i64 k] w fun r w' => r = .returned (.int .i64 k) ∧ w = w' := by
  go_enter Tryd.func27, Tryd.ntmps27
  go_wp2
  go_loopw [1, 5] (fun kk i wr => kk = .int .i64 k ∧ i = .int .i64 0 ∧ w = wr) (fun _ _ _ => 0)
  case atStart => exact ⟨rfl, rfl, rfl⟩
  case round =>
    obtain ⟨rfl, rfl, rfl⟩ := hrel
    go_wp2
    go_ret
    exact ⟨rfl, rfl⟩
end Go.Proofs.YtjihpbioofikcaaDoor

