/-
  Rows of one-cell values that grow: one law of append for all (also onto what '[]byte(s)' lays).
-/
import Derived.Test.YtcgnoohllfbmcaaDoorSumW
import Derived.ArgAppend
import Derived.Laws.IdiomStrings
import Derived.Deep.RegionHeld
import Derived.OrdersHeld
namespace Go.Proofs.YtcgnoohllfbmcaaDoor
open Go.RowKit
set_option linter.unusedVariables false

theorem wp_here {P : Program} {ops rest : _} {ac : Act} {Q : Exit → Act → World → Prop} {w : World} (h : Hid (wpList P ops Q rest ac w)) : wpList P ops Q rest ac w := h.out
/-- a row of one-cell values at the head of a block -/
def RowV (w : World) (e : TypeId) (lo g cap : Nat) (xs : List Value) : Prop :=
  lo ≤ g ∧ xs.length ≤ cap ∧ cap ≤ maxLen ∧ ∃ (cur : Array Value) (fz : Nat × Nat), w.heap[g]? = some (.cells cur e fz) ∧ (fz = (0, 0) ∨ fz = (cur.size, cur.size + 1)) ∧ cur.size = cap ∧ cur.toList.take xs.length = xs
theorem RowV.lt {w : World} {e : TypeId} {lo g cap : Nat} {xs : List Value} (h : RowV w e lo g cap xs) : g < w.heap.size := by
  obtain ⟨_, _, _, cur, fz, hh, _⟩ := h
  exact (Array.getElem?_eq_some_iff.1 hh).1
theorem RowV.same {w w' : World} {e : TypeId} {lo g cap : Nat} {xs : List Value} (h : RowV w e lo g cap xs) (hb : w'.heap[g]? = w.heap[g]?) : RowV w' e lo g cap xs := by
  obtain ⟨h1, h2, h3, cur, fz, hh, h4⟩ := h
  exact ⟨h1, h2, h3, cur, fz, hb.trans hh, h4⟩
theorem RowV.below {w w' : World} {e : TypeId} {lo g cap n : Nat} {xs : List Value} (h : RowV w e lo g cap xs) (hB : Below n w w') (hn : g < n) : RowV w' e lo g cap xs := h.same (hB.block g hn)
theorem RowV.other {w : World} {e : TypeId} {lo g cap : Nat} {xs : List Value} (h : RowV w e lo g cap xs) {p : Addr} (hp : p.block ≠ g) (v : Value) : RowV (w.setCell p v) e lo g cap xs := h.same (Below.heap_setCell _ _ _ _ (fun e => hp e.symm))
theorem size_setCell (w : World) (p : Addr) (v : Value) : (w.setCell p v).heap.size = w.heap.size := by simp [World.setCell]
theorem RowV.cell {w : World} {e : TypeId} {lo g cap : Nat} {xs : List Value} (h : RowV w e lo g cap xs) {j : Nat} (hj : j < xs.length) : w.cell? ⟨g, j, none⟩ = some xs[j] := by
  obtain ⟨h1, h2, h3, cur, fz, hh, hf, hs, ht⟩ := h
  have : w.cell? ⟨g, j, none⟩ = cur[j]? := by simp [World.cell?, hh]
  rw [this, ← Array.getElem?_toList, ← List.getElem?_take_of_lt hj, ht, List.getElem?_eq_getElem hj]
theorem RowV.isSome {w : World} {e : TypeId} {lo g cap : Nat} {xs : List Value} (h : RowV w e lo g cap xs) {j : Nat} (hj : j < cap) : (w.cell? ⟨g, j, none⟩).isSome = true := by
  obtain ⟨h1, h2, h3, cur, fz, hh, hf, hs, ht⟩ := h
  have : w.cell? ⟨g, j, none⟩ = cur[j]? := by simp [World.cell?, hh]
  rw [this, Array.getElem?_eq_getElem (by omega)]; rfl
theorem RowV.free {w : World} {e : TypeId} {lo g cap : Nat} {xs : List Value} (h : RowV w e lo g cap xs) {j : Nat} (hj : j < cap) : w.frozen? ⟨g, j, none⟩ = false := by
  obtain ⟨h1, h2, h3, cur, fz, hh, hf, hs, ht⟩ := h
  rcases hf with rfl | rfl
  · simp [World.frozen?, hh]
  · simp [World.frozen?, hh]; omega
theorem row_setF {w : World} {b k : Nat} {v : Value} {t : TypeId} {cs : Array Value} {fz : Nat × Nat} (h : w.heap[b]? = some (.cells cs t fz)) : (w.setCell ⟨b, k, none⟩ v).heap[b]? = some (.cells (cs.setIfInBounds k v) t fz) := by
  have hlt := lt_of_block h
  have h' : w.heap[b] = .cells cs t fz := by simpa [Array.getElem?_eq_getElem hlt] using h
  show (w.heap.modify b _)[b]? = _
  rw [Array.getElem?_eq_getElem (by simpa using hlt), Array.getElem_modify_self, h']
  rfl
theorem setCells_row {g : Nat} {t : TypeId} {fz : Nat × Nat} : ∀ (vs : List Value) (o : Nat) (w : World) (cur : Array Value), w.heap[g]? = some (.cells cur t fz) → o + vs.length ≤ cur.size →
    ∃ cur' : Array Value, (w.setCells g o vs).heap[g]? = some (.cells cur' t fz) ∧ cur'.size = cur.size ∧ cur'.toList.take (o + vs.length) = cur.toList.take o ++ vs
  | [], o, w, cur, h, _ => ⟨cur, h, rfl, by simp⟩
  | v :: r, o, w, cur, h, hl => by
    simp only [List.length_cons] at hl
    obtain ⟨cur', h1, h2, h3⟩ := setCells_row r (o + 1) (w.setCell ⟨g, o, none⟩ v) _ (row_setF (k := o) (v := v) h) (by simp; omega)
    refine ⟨cur', h1, by rw [h2]; simp, ?_⟩
    have e : (cur.setIfInBounds o v).toList.take (o + 1) = cur.toList.take o ++ [v] := by
      rw [Array.toList_setIfInBounds, List.take_succ_eq_append_getElem (by simp; omega), List.getElem_set_self, List.take_set_of_le (Nat.le_refl _)]
    rw [e] at h3
    rw [List.length_cons, show o + (r.length + 1) = o + 1 + r.length by omega, h3]; simp
theorem setCells_other {g k : Nat} (hk : k ≠ g) : ∀ (vs : List Value) (o : Nat) (w : World), (w.setCells g o vs).heap[k]? = w.heap[k]?
  | [], o, w => rfl
  | v :: r, o, w => (setCells_other hk r (o + 1) _).trans (Below.heap_setCell _ _ _ _ hk)
theorem setCells_rest {g : Nat} : ∀ (vs : List Value) (o : Nat) (w : World), (w.setCells g o vs).os = w.os ∧ (w.setCells g o vs).tape = w.tape ∧ (w.setCells g o vs).output = w.output ∧ (w.setCells g o vs).heap.size = w.heap.size
  | [], o, w => ⟨rfl, rfl, rfl, rfl⟩
  | v :: r, o, w => by
    obtain ⟨h1, h2, h3, h4⟩ := setCells_rest (g := g) r (o + 1) (w.setCell ⟨g, o, none⟩ v)
    exact ⟨h1, h2, h3, h4.trans (by simp [World.setCell])⟩
/-- what an append leaves -/
def Grew (w : World) (e : TypeId) (lo g : Nat) (xs news : List Value) (v : Value) (w' : World) : Prop :=
  ∃ g' cap', v = .slice (some ⟨g', 0, none⟩) (xs.length + news.length) cap' ∧ RowV w' e lo g' cap' (xs ++ news) ∧ w.grownBy w' (some g) ∧ (g' = g ∨ w.heap.size ≤ g') ∧ ∀ j, j < xs.length → w'.cell? ⟨g, j, none⟩ = w.cell? ⟨g, j, none⟩
theorem append_row {P : Program} (w : World) (t ty e : TypeId) (i : TypeInfo) (z : Value) (bytes : Nat) (ht : P.underlying t = some (.slice e)) (hi : P.info? e = some i) (hz : i.zero = some z)
    (hsize : i.size = 1) (hby : i.bytes = bytes) (hzs : z.cells.size = 1) {lo g cap : Nat} {xs : List Value} (h : RowV w e lo g cap xs)
    (a : Addr) (c : Nat) (news : List Value) (hnews : ∀ j u, news[j]? = some u → w.cell? (a.add j) = some u) (h1 : ∀ u ∈ news, u.oneCell' = true)
    (h63 : xs.length + news.length ≤ maxLen) (hbytes : (xs.length + news.length) * bytes ≤ 140737488355328) (hlo : lo ≤ w.heap.size) :
    ∃ v w', (Builtin.append_ #[t, t] ty #[.slice (some ⟨g, 0, none⟩) xs.length cap, .slice (some a) news.length c]).run P w = .ok v w' ∧ Grew w e lo g xs news v w' := by
  by_cases hr : xs.length + news.length ≤ cap
  · have hrun := run_append_room_cells (P := P) w t ty e i ht hi g 0 xs.length cap a news.length c news (by rw [hsize, Nat.mul_one]) hnews h1 hr
      (fun j hj => by rw [hsize, Nat.mul_one, Nat.zero_add]; exact h.isSome (by omega)) (fun j hj => by rw [hsize, Nat.mul_one, Nat.zero_add]; exact h.free (by omega))
    rw [hsize, Nat.mul_one, Nat.zero_add] at hrun
    have hcell : ∀ j, j < xs.length → (w.setCells g xs.length news).cell? ⟨g, j, none⟩ = w.cell? ⟨g, j, none⟩ := fun j hj => World.cell?_setCells_out g news xs.length w ⟨g, j, none⟩ (fun _ _ => .inl hj)
    obtain ⟨a1, a2, a3, cur, fz, hh, hf, hs, htk⟩ := h
    obtain ⟨cur', k1, k2, k3⟩ := setCells_row news xs.length w cur hh (by omega)
    obtain ⟨r1, r2, r3, r4⟩ := setCells_rest (g := g) news xs.length w
    refine ⟨_, _, hrun, g, cap, rfl, ⟨a1, by rw [List.length_append]; exact hr, a3, cur', fz, k1, by rw [k2]; exact hf, k2.trans hs, by rw [List.length_append, k3, htk]⟩, ⟨r1, r2, r3, by omega, fun k _ hne => setCells_other (fun e => hne (by rw [e])) _ _ _⟩, .inl rfl, hcell⟩
  · obtain ⟨v, w', hrun, hown, hg⟩ := run_append_arg_grows (P := P) w t ty e i z 1 bytes ht hi hz hsize hby hzs (by decide) ⟨g, 0, none⟩ xs.length cap xs (by omega)
      (fun j u hj => by
        obtain ⟨hj1, hj2⟩ := List.getElem?_eq_some_iff.1 hj
        rw [add_of_head, h.cell hj1, hj2]) a news.length c news (by omega) hnews (by omega) h63 hbytes
    obtain ⟨h0, h2 | ⟨g', cap', cur, hv, hb, hh, hn, hm, hs, htk⟩⟩ := hown
    · omega
    · refine ⟨v, w', hrun, g', cap', hv, ⟨by omega, by rw [List.length_append]; exact hn, hm, cur, (0, 0), hh, .inl rfl, by omega, by rw [h0]; exact htk⟩, ⟨hg.os, hg.tape, hg.output, hg.size, fun k hk _ => hg.block k hk (by simp)⟩, .inr (by omega), fun j _ => World.cell?_of_block (hg.block g h.lt (by simp))⟩

/-- append in the walk -/
theorem wpList_app {P : Program} {ops : Array Oper} {rest : List Oper} {o : Oper} {ac : Act} {Q : Exit → Act → World → Prop} (hgd : o.guard = none) (s x : Operand) (t : TypeId)
    (ho : o.op = .call { callee := .builtin .append, args := #[s, x], argTypes := #[t, t] })
    (w : World) (e : TypeId) (i : TypeInfo) (z : Value) (bytes : Nat) (ht : P.underlying t = some (.slice e)) (hi : P.info? e = some i) (hz : i.zero = some z)
    (hsize : i.size = 1) (hby : i.bytes = bytes) (hzs : z.cells.size = 1) (lo g cap : Nat) (xs : List Value) (h : RowV w e lo g cap xs) (n : Nat) (hn : n = xs.length) (hs : ac.eval s = .slice (some ⟨g, 0, none⟩) n cap)
    (a : Addr) (m c : Nat) (news : List Value) (hm : m = news.length) (hx : ac.eval x = .slice (some a) m c) (hnews : ∀ j u, news[j]? = some u → w.cell? (a.add j) = some u) (h1 : ∀ u ∈ news, u.oneCell' = true)
    (h63 : xs.length + news.length ≤ maxLen) (hbytes : (xs.length + news.length) * bytes ≤ 140737488355328) (hlo : lo ≤ w.heap.size)
    (hk : ∀ v w', Grew w e lo g xs news v w' → wpList P ops Q rest (ac.put o.dst v) w') : wpList P ops Q (o :: rest) ac w := by
  subst hn hm
  refine wpList_plain hgd fun _ hK => ?_
  obtain ⟨v, w', hrun, hG⟩ := append_row (P := P) w t o.type e i z bytes ht hi hz hsize hby hzs h a c news hnews h1 h63 hbytes hlo
  unfold Oper.wp execOp
  simp only [ho, resolve, invoke, builtin, Sem.run_bind, Sem.run_pure, Result.andThen_ok, List.map_toArray, List.map_cons, List.map_nil, hs, hx, hrun]
  exact hK _ _ (hk v w' hG)
/-- append as the one operation that may come up in a drawn region -/
theorem wpAnyH_app {P : Program} {md : Region.Mode} {ops : Array Oper} {S : World → Prop} {fuel : Nat} {listed : Array Bool} {o : Oper} {ac : Act} {Q : Exit → Act → World → Prop} (k : Nat)
    (hr : Region.ready md ops listed = [k]) (hik : ops[k]? = some o) (hgd : o.guard = none) (s x : Operand) (t : TypeId)
    (ho : o.op = .call { callee := .builtin .append, args := #[s, x], argTypes := #[t, t] })
    (w : World) (e : TypeId) (i : TypeInfo) (z : Value) (bytes : Nat) (ht : P.underlying t = some (.slice e)) (hi : P.info? e = some i) (hz : i.zero = some z)
    (hsize : i.size = 1) (hby : i.bytes = bytes) (hzs : z.cells.size = 1) (lo g cap : Nat) (xs : List Value) (h : RowV w e lo g cap xs) (n : Nat) (hn : n = xs.length) (hs : ac.eval s = .slice (some ⟨g, 0, none⟩) n cap)
    (a : Addr) (m c : Nat) (news : List Value) (hm : m = news.length) (hx : ac.eval x = .slice (some a) m c) (hnews : ∀ j u, news[j]? = some u → w.cell? (a.add j) = some u) (h1 : ∀ u ∈ news, u.oneCell' = true)
    (h63 : xs.length + news.length ≤ maxLen) (hbytes : (xs.length + news.length) * bytes ≤ 140737488355328) (hlo : lo ≤ w.heap.size)
    (hS : ∀ v w', Grew w e lo g xs news v w' → S w')
    (hk : ∀ v w', Grew w e lo g xs news v w' → wpAnyH P md ops Q S fuel (listed.setIfInBounds k true) (ac.put o.dst v) w') : wpAnyH P md ops Q S (fuel + 1) listed ac w := by
  subst hn hm
  refine wpAnyH_ready (rs := [k]) hr (by simp) (AllReadyH.cons hik (fun K hK => ?_) AllReadyH.nil)
  obtain ⟨v, w', hrun, hG⟩ := append_row (P := P) w t o.type e i z bytes ht hi hz hsize hby hzs h a c news hnews h1 h63 hbytes hlo
  rw [if_pos (by simp only [Region.wanted, hgd])]
  unfold Oper.wp execOp
  simp only [ho, resolve, invoke, builtin, Sem.run_bind, Sem.run_pure, Result.andThen_ok, List.map_toArray, List.map_cons, List.map_nil, hs, hx, hrun]
  exact hK.out _ _ (hS v w' hG) (fun _ => hk v w' hG)
/-- a box of one value, as it was laid -/
theorem box_cells (w : World) (news : List Value) (e : TypeId) : ∀ j u, news[j]? = some u → (w.alloc (.cells news.toArray e)).cell? ((⟨w.heap.size, 0, none⟩ : Addr).add j) = some u := fun j u hu => by
  rw [add_of_head, cell_of_row _ _ _ _ _ _ (World.alloc_heap_new w (.cells news.toArray e))]
  simpa using hu
theorem RowV.alloc {w : World} {e : TypeId} {lo g cap : Nat} {xs : List Value} (h : RowV w e lo g cap xs) (o : Obj) : RowV (w.alloc o) e lo g cap xs := h.same (Below.heap_alloc _ _ _ h.lt)
theorem RowV.drew {w : World} {e : TypeId} {lo g cap : Nat} {xs : List Value} (h : RowV w e lo g cap xs) : RowV w.drew e lo g cap xs := h
def bV (b : UInt8) : Value := .int .u8 (b.toNat : Int)
/-- what '[]byte(s)' lays -/
theorem RowV.bytes (w : World) (l : List UInt8) (cap : Nat) (hl : l.length ≤ cap) (hm : cap ≤ maxLen) (e : TypeId) {C : Array Value} (hC : bytesRow (mkB l) cap = C) :
    RowV (w.alloc (.cells C e (C.size, C.size + 1))) e w.heap.size w.heap.size cap (l.map bV) := by
  subst hC
  have hd : (mkB l).size = l.length := mkB_size l
  have hs : (bytesRow (mkB l) cap).size = cap := by
    simp only [bytesRow, Array.size_append, Array.size_map, Array.size_replicate, hd]
    show l.toArray.size + _ = cap
    simp; omega
  refine ⟨Nat.le_refl _, by simpa using hl, hm, _, _, World.alloc_heap_new w _, .inr rfl, hs, ?_⟩
  simp only [bytesRow, Array.toList_append, Array.toList_map]
  rw [List.take_left' (by simp [mkB])]
  rfl

/-! ### the same, over a box that was just laid; all below the row's floor stays -/
theorem Grew.parts {w w' : World} {e : TypeId} {lo g cap : Nat} {xs news : List Value} {v : Value} {o : Obj} (hr : RowV w e lo g cap xs) (hG : Grew (w.alloc o) e lo g xs news v w') :
    ∃ g' cap', v = .slice (some ⟨g', 0, none⟩) (xs.length + news.length) cap' ∧ RowV w' e lo g' cap' (xs ++ news) ∧ (∀ B, B ≤ lo → B ≤ w.heap.size → Below B w w') ∧ ∀ j, j < xs.length → w'.cell? ⟨g, j, none⟩ = w.cell? ⟨g, j, none⟩ := by
  obtain ⟨g', cap', hv, hrow, hgr, _, hc⟩ := hG
  refine ⟨g', cap', hv, hrow, fun B hB hBw => ?_, fun j hj => (hc j hj).trans (World.cell?_of_block (Below.heap_alloc _ _ _ hr.lt))⟩
  exact ((Below.refl B w).alloc hBw o).grown hgr (by simp; omega) (fun k hk => by cases hk; exact Nat.le_trans hB hr.1)
theorem wpList_push1 {P : Program} {ops : Array Oper} {rest : List Oper} {o : Oper} {ac : Act} {Q : Exit → Act → World → Prop} (hgd : o.guard = none) (s x : Operand) (t : TypeId)
    (ho : o.op = .call { callee := .builtin .append, args := #[s, x], argTypes := #[t, t] })
    (w : World) (e : TypeId) (i : TypeInfo) (z : Value) (bytes : Nat) (ht : P.underlying t = some (.slice e)) (hi : P.info? e = some i) (hz : i.zero = some z)
    (hsize : i.size = 1) (hby : i.bytes = bytes) (hzs : z.cells.size = 1) (lo g cap : Nat) (xs : List Value) (h : RowV w e lo g cap xs) (n : Nat) (hn : n = xs.length) (hs : ac.eval s = .slice (some ⟨g, 0, none⟩) n cap)
    (m c : Nat) (news : List Value) (A : Array Value) (hA : news.toArray = A) (hm : m = news.length) (hx : ac.eval x = .slice (some ⟨w.heap.size, 0, none⟩) m c) (h1 : ∀ u ∈ news, u.oneCell' = true)
    (h63 : xs.length + news.length ≤ 1000000000) (hbytes : bytes ≤ 8) (hlo : lo ≤ w.heap.size)
    (hk : ∀ g' cap' w', RowV w' e lo g' cap' (xs ++ news) → (∀ B, B ≤ lo → B ≤ w.heap.size → Below B w w') → wpList P ops Q rest (ac.put o.dst (.slice (some ⟨g', 0, none⟩) (xs.length + news.length) cap')) w') : wpList P ops Q (o :: rest) ac (w.alloc (.cells A e)) := by
  subst hA
  have hb : (xs.length + news.length) * bytes ≤ 1000000000 * 8 := Nat.mul_le_mul h63 hbytes
  refine wpList_app hgd s x t ho _ e i z bytes ht hi hz hsize hby hzs lo g cap xs (h.alloc _) n hn hs _ m c news hm hx (box_cells w news e) h1 (by unfold maxLen; omega) (by omega) (by simp; omega) (fun v w' hG => ?_)
  obtain ⟨g', cap', rfl, hrow, hB, _⟩ := hG.parts h
  exact hk g' cap' w' hrow hB
theorem wpAnyH_push1 {P : Program} {md : Region.Mode} {ops : Array Oper} {S : World → Prop} {fuel : Nat} {listed : Array Bool} {o : Oper} {ac : Act} {Q : Exit → Act → World → Prop} (k : Nat)
    (hr : Region.ready md ops listed = [k]) (hik : ops[k]? = some o) (hgd : o.guard = none) (s x : Operand) (t : TypeId)
    (ho : o.op = .call { callee := .builtin .append, args := #[s, x], argTypes := #[t, t] })
    (w : World) (e : TypeId) (i : TypeInfo) (z : Value) (bytes : Nat) (ht : P.underlying t = some (.slice e)) (hi : P.info? e = some i) (hz : i.zero = some z)
    (hsize : i.size = 1) (hby : i.bytes = bytes) (hzs : z.cells.size = 1) (lo g cap : Nat) (xs : List Value) (h : RowV w e lo g cap xs) (n : Nat) (hn : n = xs.length) (hs : ac.eval s = .slice (some ⟨g, 0, none⟩) n cap)
    (m c : Nat) (news : List Value) (A : Array Value) (hA : news.toArray = A) (hm : m = news.length) (hx : ac.eval x = .slice (some ⟨w.heap.size, 0, none⟩) m c) (h1 : ∀ u ∈ news, u.oneCell' = true)
    (h63 : xs.length + news.length ≤ 1000000000) (hbytes : bytes ≤ 8) (hlo : lo ≤ w.heap.size)
    (hS : ∀ w', (∀ B, B ≤ lo → B ≤ w.heap.size → Below B w w') → (∀ j, j < xs.length → w'.cell? ⟨g, j, none⟩ = w.cell? ⟨g, j, none⟩) → S w')
    (hk : ∀ g' cap' w', RowV w' e lo g' cap' (xs ++ news) → (∀ B, B ≤ lo → B ≤ w.heap.size → Below B w w') → S w' → wpAnyH P md ops Q S fuel (listed.setIfInBounds k true) (ac.put o.dst (.slice (some ⟨g', 0, none⟩) (xs.length + news.length) cap')) w') :
    wpAnyH P md ops Q S (fuel + 1) listed ac (w.alloc (.cells A e)) := by
  subst hA
  have hb : (xs.length + news.length) * bytes ≤ 1000000000 * 8 := Nat.mul_le_mul h63 hbytes
  refine wpAnyH_app k hr hik hgd s x t ho _ e i z bytes ht hi hz hsize hby hzs lo g cap xs (h.alloc _) n hn hs _ m c news hm hx (box_cells w news e) h1 (by unfold maxLen; omega) (by omega) (by simp; omega) (fun v w' hG => ?_) (fun v w' hG => ?_)
  · obtain ⟨g', cap', rfl, hrow, hB, hc⟩ := hG.parts h
    exact hS w' hB hc
  · obtain ⟨g', cap', rfl, hrow, hB, hc⟩ := hG.parts h
    exact hk g' cap' w' hrow hB (hS w' hB hc)
/-- 'append([]byte(s), c)' -/
theorem wpList_first {P : Program} {ops : Array Oper} {rest : List Oper} {o : Oper} {ac : Act} {Q : Exit → Act → World → Prop} (hgd : o.guard = none) (s x : Operand) (t : TypeId)
    (ho : o.op = .call { callee := .builtin .append, args := #[s, x], argTypes := #[t, t] })
    (W : World) (e : TypeId) (i : TypeInfo) (z : Value) (bytes : Nat) (ht : P.underlying t = some (.slice e)) (hi : P.info? e = some i) (hz : i.zero = some z)
    (hsize : i.size = 1) (hby : i.bytes = bytes) (hzs : z.cells.size = 1) (l : List UInt8) (hl : l.length ≤ 1048576) (C : Array Value) (hC : bytesRow (mkB l) (grownCap W l.length 0 e) = C) (n : Nat) (hn : n = l.length)
    (hs : ac.eval s = .slice (some ⟨W.heap.size, 0, none⟩) n (grownCap W l.length 0 e))
    (m c : Nat) (news : List Value) (A : Array Value) (hA : news.toArray = A) (hm : m = news.length) (hx : ac.eval x = .slice (some ⟨W.heap.size + 1, 0, none⟩) m c) (h1 : ∀ u ∈ news, u.oneCell' = true)
    (h63 : news.length ≤ 1000) (hbytes : bytes ≤ 8)
    (hk : ∀ g' cap' w', RowV w' e W.heap.size g' cap' (l.map bV ++ news) → Below W.heap.size W w' → wpList P ops Q rest (ac.put o.dst (.slice (some ⟨g', 0, none⟩) (l.length + news.length) cap')) w') :
    wpList P ops Q (o :: rest) ac ((W.alloc (.cells C e (C.size, C.size + 1))).alloc (.cells A e)).drew := by
  have hge := grownCap_ge W l.length 0 e
  have hle := grownCap_le_maxLen W l.length 0 e (by unfold maxLen; omega)
  have hrow := RowV.bytes W.drew l (grownCap W l.length 0 e) hge hle e hC
  subst hn
  refine wpList_push1 hgd s x t ho (W.drew.alloc (.cells C e (C.size, C.size + 1))) e i z bytes ht hi hz hsize hby hzs W.heap.size W.heap.size (grownCap W l.length 0 e) (l.map bV) hrow l.length (by simp) hs m c news A hA hm (by rw [hx]; simp) h1 (by simp; omega) hbytes (by simp) (fun g' cap' w' hr hB => ?_)
  have := hk g' cap' w' hr (((Below.refl W.heap.size W).drew.alloc (Nat.le_refl _) _).trans (hB W.heap.size (Nat.le_refl _) (by simp)))
  simpa using this
theorem RowV.of_own {w : World} {e : TypeId} {lo g cap n : Nat} {xs : List Value} (h : w.ownsRow lo e 1 (.slice (some ⟨g, 0, none⟩) n cap) n xs) : RowV w e lo g cap xs := by
  obtain ⟨h0, ⟨h1, _⟩ | ⟨g', cap', cur, hv, hb, hh, hn, hm, hs, ht⟩⟩ := h
  · cases h1
  · cases hv
    exact ⟨hb, by omega, hm, cur, (0, 0), hh, .inl rfl, by omega, by rw [h0]; exact ht⟩
theorem BAt.at2 {w : World} {g off : Nat} {b : List UInt8} (h : BAt w g off b) {j : Nat} (hj : j < b.length) : w.cell? ⟨g, off + j, none⟩ = some (.int .u8 ((b.getD j 0).toNat : Int)) := by
  rw [h.2 _ hj]
  simp [List.getD_eq_getElem?_getD, List.getElem?_eq_getElem hj]
theorem word_or (x0 x1 x2 x3 : UInt8) : ∃ n1 n2 : Nat, bits .or .u32 ((x0.toNat : Int) * 16777216) ((x1.toNat : Int) * 65536) = (n1 : Int) ∧ bits .or .u32 (n1 : Int) ((x2.toNat : Int) * 256) = (n2 : Int) ∧ bits .or .u32 (n2 : Int) (x3.toNat : Int) = ((word4 x0 x1 x2 x3).toNat : Int) := by
  have h0 := x0.toNat_lt
  have h1 := x1.toNat_lt
  have h2 := x2.toNat_lt
  have h3 := x3.toNat_lt
  have a1 := Nat.two_pow_add_eq_or_of_lt (i := 24) (b := x1.toNat * 65536) (by omega) x0.toNat
  have a2 := Nat.two_pow_add_eq_or_of_lt (i := 16) (b := x2.toNat * 256) (by omega) (x0.toNat * 256 + x1.toNat)
  have a3 := Nat.two_pow_add_eq_or_of_lt (i := 8) (b := x3.toNat) (by omega) (x0.toNat * 65536 + x1.toNat * 256 + x2.toNat)
  refine ⟨x0.toNat * 16777216 + x1.toNat * 65536, x0.toNat * 16777216 + x1.toNat * 65536 + x2.toNat * 256, ?_, ?_, ?_⟩
  · have := u32_or_nat (x0.toNat * 16777216) (x1.toNat * 65536) (by omega) (by omega)
    rw [show x0.toNat * 16777216 ||| x1.toNat * 65536 = x0.toNat * 16777216 + x1.toNat * 65536 by rw [show x0.toNat * 16777216 = 2 ^ 24 * x0.toNat by omega]; exact a1.symm] at this
    simpa using this
  · have := u32_or_nat (x0.toNat * 16777216 + x1.toNat * 65536) (x2.toNat * 256) (by omega) (by omega)
    rw [show (x0.toNat * 16777216 + x1.toNat * 65536) ||| x2.toNat * 256 = x0.toNat * 16777216 + x1.toNat * 65536 + x2.toNat * 256 by rw [show x0.toNat * 16777216 + x1.toNat * 65536 = 2 ^ 16 * (x0.toNat * 256 + x1.toNat) by omega]; exact a2.symm] at this
    simpa using this
  · have := u32_or_nat (x0.toNat * 16777216 + x1.toNat * 65536 + x2.toNat * 256) x3.toNat (by omega) (by omega)
    rw [show (x0.toNat * 16777216 + x1.toNat * 65536 + x2.toNat * 256) ||| x3.toNat = x0.toNat * 16777216 + x1.toNat * 65536 + x2.toNat * 256 + x3.toNat by rw [show x0.toNat * 16777216 + x1.toNat * 65536 + x2.toNat * 256 = 2 ^ 8 * (x0.toNat * 65536 + x1.toNat * 256 + x2.toNat) by omega]; exact a3.symm] at this
    rw [this, word4, UInt32.toNat_ofNat', Nat.mod_eq_of_lt (by omega)]
theorem RowV.word {w : World} {e : TypeId} {lo g cap : Nat} {ws : List UInt32} (h : RowV w e lo g cap (ws.map wV)) {j : Nat} (hj : j < ws.length) : w.cell? ⟨g, j, none⟩ = some (.int .u32 ((ws.getD j 0).toNat : Int)) := by
  rw [h.cell (j := j) (by rw [List.length_map]; exact hj), List.getElem_map]
  simp [wV, List.getD_eq_getElem?_getD, List.getElem?_eq_getElem hj]
theorem wrap_add (x y : UInt32) : IntKind.u32.wrap ((x.toNat : Int) + (y.toNat : Int)) = ((addW x y).toNat : Int) := by rw [IntKind.wrap_u32']; exact w_add x y
theorem alloc_cell {w : World} {g : Nat} (hg : g < w.heap.size) (o : Obj) (a : Addr) (ha : a.block = g) : (w.alloc o).cell? a = w.cell? a := World.cell?_of_block (Below.heap_alloc _ _ _ (by rw [ha]; exact hg))
end Go.Proofs.YtcgnoohllfbmcaaDoor
