/-
  The walk of slices.Insert at entries of the call's own: one entry more in its place.
-/
import Derived.Test.YtiknkjhdieepbaaDoorPutP
import Derived.Test.YtiknkjhdieepbaaDoorCopyE
import Derived.Lib.JoinLaws
import Derived.Lib.AppendZerosOnto
import Derived.Lib.Overlaps
import Derived.Laws.NewBlocks
import Derived.Laws.Externs
import Derived.Laws.IdiomCopy
import Derived.Deep.RegionLaw
namespace Go.Proofs.YtiknkjhdieepbaaDoor
open Go.RowKit
set_option linter.unusedVariables false
set_option linter.unusedSimpArgs false
attribute [local go_sem] mkB_size mkB_extract mkB_get mkB_append mkB_append_raw raw_append_mkB mkB_toList

/-- entries of the call's own, from block lo on -/
def OwnR (w : World) (lo g c : Nat) (es : List En) : Prop := w.ownsRow lo 30 4 (.slice (some ⟨g, 0, none⟩) es.length c) es.length (flatE es)
theorem OwnR.parts {w : World} {lo g c : Nat} {es : List En} (h : OwnR w lo g c es) : RowE w g c es.length es ∧ lo ≤ g ∧ es.length ≤ c ∧ c ≤ maxLen := by
  have hr := RowE.of_own h
  obtain ⟨_, h | ⟨g', cap', cur, hv, hb, hh, hnc, hm, hs, ht⟩⟩ := h
  · cases h.1
  · cases hv
    exact ⟨hr, hb, hnc, hm⟩
theorem OwnR.lt {w : World} {lo g c : Nat} {es : List En} (h : OwnR w lo g c es) : g < w.heap.size := h.parts.1.lt
theorem OwnR.of {w : World} {lo g c : Nat} {es : List En} (hr : RowE w g c es.length es) (hlo : lo ≤ g) (hc : es.length ≤ c) (hm : c ≤ maxLen) : OwnR w lo g c es := by
  obtain ⟨cur, hh, hs, hcs⟩ := hr
  refine ⟨flatE_length es, .inr ⟨g, c, cur, rfl, hlo, hh, hc, hm, hs, ?_⟩⟩
  apply List.ext_getElem?
  intro j
  rcases Nat.lt_or_ge j (es.length * 4) with hj | hj
  · rw [List.getElem?_take_of_lt hj, Array.getElem?_toList]
    have hi : j / 4 < es.length := by omega
    obtain ⟨c0, c1, c2, c3⟩ := hcs (j / 4) hi hi
    obtain ⟨d0, d1, d2, d3⟩ := flatE_get es (j / 4) hi
    have hr : j = j / 4 * 4 ∨ j = j / 4 * 4 + 1 ∨ j = j / 4 * 4 + 2 ∨ j = j / 4 * 4 + 3 := by omega
    rcases hr with hr | hr | hr | hr
    · rw [← hr] at c0 d0; rw [c0, d0]
    · rw [← hr] at c1 d1; rw [c1, d1]
    · rw [← hr] at c2 d2; rw [c2, d2]
    · rw [← hr] at c3 d3; rw [c3, d3]
  · rw [List.getElem?_eq_none (by simp; omega), List.getElem?_eq_none (by rw [flatE_length]; omega)]
theorem OwnR.below {w w' : World} {lo g c n : Nat} {es : List En} (h : OwnR w lo g c es) (hB : Below n w w') (hg : g < n) : OwnR w' lo g c es :=
  OwnR.of (h.parts.1.below hB hg) h.parts.2.1 h.parts.2.2.1 h.parts.2.2.2

section
variable {P : Program}
theorem run_copyE (w : World) (dT sT ty elem : TypeId) (b o dLen dCap : Nat) (a : Addr) (sLen sCap n : Nat) (cs : List Value)
    (hu : P.underlying dT = some (.slice elem)) (hs : (P.info? elem).map (·.size) = some 4) (hn : n = Nat.min sLen dLen) (hl : cs.length = n * 4)
    (hsrc : ∀ j v, cs[j]? = some v → w.cell? (a.add j) = some v) (hc : ∀ j, j < cs.length → (w.cell? ⟨b, o + j, none⟩).isSome = true) (hf : ∀ j, j < cs.length → w.frozen? ⟨b, o + j, none⟩ = false) (h1 : ∀ v ∈ cs, v.oneCell' = true) :
    (Builtin.copy_ #[dT, sT] ty #[.slice (some ⟨b, o, none⟩) dLen dCap, .slice (some a) sLen sCap]).run P w = .ok (goInt n) (w.setCells b o cs) := by
  have hl2 := run_loadCells_list (P := P) w a cs hsrc
  rw [hl] at hl2
  have hst := run_storeCells_cells (P := P) b o cs 0 w (by simpa using hc) (by simpa using hf) h1
  cases hq : P.info? elem with
  | none => simp [hq] at hs
  | some i =>
    have hi : i.size = 4 := by simpa [hq] using hs
    simp [Builtin.copy_, run_underlying hu, Builtin.lenOf, Builtin.firstCells, sizeOf, typeInfo, hq, hi, ← hn, hl2, hst]
theorem wpList_copy_runE (w : World) {ops : Array Oper} {rest : List Oper} {o : Oper} {a : Act} {Q : Exit → Act → World → Prop} (hgd : o.guard = none) (d s : Operand) (t t' : TypeId)
    (ho : o.op = .call { callee := .builtin .copy, args := #[d, s], argTypes := #[t, t'] }) (v u : Value) (hd : a.eval d = v) (hs : a.eval s = u) {v' : Value} {w' : World}
    (hr : (Builtin.copy_ #[t, t'] o.type #[v, u]).run P w = .ok v' w') (h : wpList P ops Q rest (a.put o.dst v') w') : wpList P ops Q (o :: rest) a w := by
  refine wpList_plain hgd fun _ hK => ?_
  unfold Oper.wp execOp
  simp only [ho, resolve, invoke, builtin, Sem.run_bind, Sem.run_pure, Result.andThen_ok, List.map_toArray, List.map_cons, List.map_nil, hd, hs, hr]
  exact hK _ _ h
theorem wpList_append_runE (w : World) {ops : Array Oper} {rest : List Oper} {o : Oper} {a : Act} {Q : Exit → Act → World → Prop} (hgd : o.guard = none) (d s : Operand) (t t' : TypeId)
    (ho : o.op = .call { callee := .builtin .append, args := #[d, s], argTypes := #[t, t'] }) (v u : Value) (hd : a.eval d = v) (hs : a.eval s = u) {v' : Value} {w' : World}
    (hr : (Builtin.append_ #[t, t'] o.type #[v, u]).run P w = .ok v' w') (h : wpList P ops Q rest (a.put o.dst v') w') : wpList P ops Q (o :: rest) a w := by
  refine wpList_plain hgd fun _ hK => ?_
  unfold Oper.wp execOp
  simp only [ho, resolve, invoke, builtin, Sem.run_bind, Sem.run_pure, Result.andThen_ok, List.map_toArray, List.map_cons, List.map_nil, hd, hs, hr]
  exact hK _ _ h
theorem step_copy_runE {ops : Array Oper} {o : Oper} {a : Act} {w : World} {K : Act → World → Prop} {Q : Exit → Act → World → Prop} {E : Prop}
    (hg : o.guard = none) (d x : Operand) (dT sT : TypeId) (hop : o.op = Op.call { callee := Callee.builtin Builtin.copy, args := #[d, x], argTypes := #[dT, sT] })
    (v u : Value) (hd : a.eval d = v) (hx : a.eval x = u) {v' : Value} {w' : World} (hr : (Builtin.copy_ #[dT, sT] o.type #[v, u]).run P w = .ok v' w') (hK : K (a.put o.dst v') w') :
    if Region.wanted o (yielded ops a.tmps) = true then Oper.wp P o a w K Q else E := by
  have hw : Region.wanted o (yielded ops a.tmps) = true := by simp [Region.wanted, hg]
  rw [if_pos hw]
  unfold Oper.wp
  simp [execOp, hop, resolve, invoke, builtin, hd, hx, hr, Result.andThen]
  exact hK
theorem wpList_append_at (w : World) {ops : Array Oper} {rest : List Oper} {o : Oper} {a : Act} {Q : Exit → Act → World → Prop} (hgd : o.guard = none) (s x : Operand) (t : TypeId)
    (ho : o.op = .call { callee := .builtin .append, args := #[s, x], argTypes := #[t, t] })
    (base : Nat) (e : TypeId) (i : TypeInfo) (z : Value) (size bytes : Nat) (ht : P.underlying t = some (.slice e)) (hi : P.info? e = some i) (hz : i.zero = some z)
    (hsize : i.size = size) (hby : i.bytes = bytes) (hzs : z.cells.size = size) (hsz : 0 < size)
    (v : Value) (n : Nat) (xs : List Value) (hs : a.eval s = v) (hown : w.ownsRow base e size v n xs)
    (ad : Addr) (m c : Nat) (news : List Value) (hx : a.eval x = .slice (some ad) m c) (hl : news.length = m * size) (hnews : ∀ j u, news[j]? = some u → w.cell? (ad.add j) = some u) (h1 : ∀ u ∈ news, u.oneCell' = true)
    (h63 : n + m ≤ maxLen) (hbytes : (n + m) * bytes ≤ 140737488355328) (hbase : base ≤ w.heap.size)
    (h : ∀ v' w', w'.ownsRow base e size v' (n + m) (xs ++ news) → w.grownBy w' v.ownBlock → (v' = .slice none 0 0 ↔ v = .slice none 0 0 ∧ m = 0) → (v'.ownBlock = v.ownBlock ∨ v'.ownBlock = some w.heap.size) → wpList P ops Q rest (a.put o.dst v') w') : wpList P ops Q (o :: rest) a w := by
  refine wpList_plain hgd fun _ hK => ?_
  obtain ⟨v', w1, hrun, hown', hgrow, hnil, hat⟩ := run_append_own_at (P := P) w base t o.type e i z size bytes ht hi hz hsize hby hzs hsz v n xs hown ad m c news hl hnews h1 h63 hbytes hbase
  unfold Oper.wp execOp
  simp only [ho, resolve, invoke, builtin, Sem.run_bind, Sem.run_pure, Result.andThen_ok, List.map_toArray, List.map_cons, List.map_nil, hs, hx, hrun]
  exact hK _ _ (h _ _ hown' hgrow hnil hat)
theorem cells_in (b : Nat) (vs : List Value) (o : Nat) (w : World) (h : ∀ j, j < vs.length → (w.cell? ⟨b, o + j, none⟩).isSome = true) (j : Nat) (u : Value) (hu : vs[j]? = some u) : (w.setCells b o vs).cell? ⟨b, o + j, none⟩ = some u := by
  have hj := (List.getElem?_eq_some_iff.1 hu).1
  have h2 := World.cell?_setCells_in b vs o w h j hj
  rw [h2]
  rw [List.getElem?_eq_getElem hj] at hu
  first | exact hu | simpa using hu
end
theorem below_setCells {n : Nat} {w : World} {b : Nat} (hb : n ≤ b) : ∀ (vs : List Value) (o : Nat) {W : World}, Below n w W → Below n w (W.setCells b o vs)
  | [], _, _, h => h
  | v :: r, o, W, h => below_setCells hb r (o + 1) (h.setCell (p := ⟨b, o, none⟩) hb v)
theorem drew_setCellsE (b : Nat) : ∀ (vs : List Value) (o : Nat) (w : World), w.drew.setCells b o vs = (w.setCells b o vs).drew
  | [], _, _ => rfl
  | v :: r, o, w => by rw [World.setCells, World.setCells, ← drew_setCellsE b r]; rfl
/-- what Insert leaves -/
def InsPost (es : List En) (i : Nat) (e : En) (lo g : Nat) (w : World) (r : Ending) (w' : World) : Prop :=
  ∃ g' c', r = .returned (.slice (some ⟨g', 0, none⟩) (es.length + 1) c') ∧ OwnR w' lo g' c' (insE es i e) ∧ (g' = g ∨ w.heap.size ≤ g') ∧ w.grownBy w' (some g)
theorem sizeE4 : (Tryd.prog.info? 30).map (·.size) = some 4 := by
  obtain ⟨i0, hi, _, h1, _⟩ := info_parts infoE
  rw [hi]; simp [h1]
/-- the row that is written in two parts -/
theorem insE_cells {es : List En} {e : En} {i : Nat} (hi : i ≤ es.length) {W : World} {g m : Nat} (hr : RoomE W g m)
    (h0 : ∀ j u, (flatE (es.take i))[j]? = some u → W.cell? ⟨g, j, none⟩ = some u) (h1 : ∀ j u, (cellsE e)[j]? = some u → W.cell? ⟨g, i * 4 + j, none⟩ = some u)
    (h2 : ∀ j u, (flatE (es.drop i))[j]? = some u → W.cell? ⟨g, (i + 1) * 4 + j, none⟩ = some u) : RowE W g m (es.length + 1) (insE es i e) := by
  refine hr.row (insE_length e hi).symm fun j u hu => ?_
  rw [flatE_ins] at hu
  have hl0 : (flatE (es.take i)).length = i * 4 := by rw [flatE_length]; simp; omega
  have hl1 : (cellsE e).length = 4 := rfl
  rcases Nat.lt_or_ge j (i * 4) with hj | hj
  · rw [List.getElem?_append_left (by omega)] at hu
    exact h0 j u hu
  · rw [List.getElem?_append_right (by omega), hl0] at hu
    rcases Nat.lt_or_ge (j - i * 4) 4 with hk | hk
    · rw [List.getElem?_append_left (by omega)] at hu
      have := h1 _ u hu
      rwa [show i * 4 + (j - i * 4) = j by omega] at this
    · rw [List.getElem?_append_right (by omega), hl1] at hu
      have := h2 _ u hu
      rwa [show (i + 1) * 4 + (j - i * 4 - 4) = j by omega] at this

set_option maxRecDepth 1000000 in
set_option maxHeartbeats 8000000 in
/-- at the end -/
theorem Insert_end (es : List En) (e : En) (lo g c vb : Nat) (w : World) (hown : OwnR w lo g c es) (hlen : es.length ≤ 1048576) (hlo : lo ≤ w.heap.size)
    (hv : Box4 w vb 30 (.string (mkB e.path)) (.int .i64 e.kind) (.int .i64 e.mode) (.string (mkB e.text))) (hne : vb ≠ g) :
    Calls Tryd.prog 18 #[.slice (some ⟨g, 0, none⟩) es.length c, .int .i64 es.length, .slice (some ⟨vb, 0, none⟩) 1 1] w (InsPost es es.length e lo g w) := by
  have hnews : ∀ j u, (cellsE e)[j]? = some u → w.cell? ((⟨vb, 0, none⟩ : Addr).add j) = some u := fun j u hu => by
    rw [add_of_head, row_cell _ _ _ _ _ _ hv]
    unfold cellsE at hu
    simpa using hu
  replace hnews := Lib.hid hnews
  have hone := Lib.hid (cellsE_one' e)
  obtain ⟨i0, hi, hz0, hz1, hz2⟩ := info_parts infoE
  replace hi := Lib.hid hi
  replace hz0 := Lib.hid hz0
  replace hz1 := Lib.hid hz1
  replace hz2 := Lib.hid hz2
  have hcap := hown.parts.2.2.2
  have hnc := hown.parts.2.2.1
  unfold maxLen at hcap
  have h63 : es.length + 1 ≤ maxLen := by unfold maxLen; omega
  have hby : (es.length + 1) * 48 ≤ 140737488355328 := by omega
  replace hown := Lib.hid hown
  clear hv
  go_enter Tryd.func18, Tryd.ntmps18
  go_wp2_with (at_builtin; go_loud (refine wpList_append_at _ rfl _ _ _ rfl lo 30 i0 _ 4 48 Tryd.underlying23 hi.out hz0.out hz1.out hz2.out rfl (by decide) _ es.length (flatE es) rfl hown.out ⟨vb, 0, none⟩ 1 1 (cellsE e) rfl rfl hnews.out hone.out h63 hby hlo ?_); intro v' w1 hown1 hgr hnil hat)
  all_goals
    have hne' : v' ≠ .slice none 0 0 := fun e => by have := (hnil.1 e).2; omega
    obtain ⟨g', cap, rfl, hg', hc', hm'⟩ := own_form hown1 hne'
    have hins : flatE es ++ cellsE e = flatE (insE es es.length e) := by rw [flatE_ins, List.take_length, List.drop_length]; simp [flatE]
    have hR : OwnR w1 lo g' cap (insE es es.length e) := by
      unfold OwnR
      rw [insE_length e (Nat.le_refl _), ← hins]
      exact hown1
    have hat1 : (Value.slice (some ⟨g', 0, none⟩) (es.length + 1) cap).ownBlock = (Value.slice (some ⟨g, 0, none⟩) es.length c).ownBlock ∨ (Value.slice (some ⟨g', 0, none⟩) (es.length + 1) cap).ownBlock = some w.heap.size := hat
    clear hat
    have hat' : g' = g ∨ w.heap.size ≤ g' := by
      rcases hat1 with h | h
      · left; simpa [Value.ownBlock] using h
      · right; have : g' = w.heap.size := by simpa [Value.ownBlock] using h
        omega
    have hgr' : w.grownBy w1 (some g) := hgr
    clear hown1 hgr hnil hat1 hne' hins
    replace hR := Lib.hid hR
    replace hgr' := Lib.hid hgr'
    try go_wp2
    go_ret
    exact ⟨g', cap, rfl, hR.out, hat', hgr'.out⟩

set_option maxRecDepth 1000000 in
set_option maxHeartbeats 16000000 in
/-- there is room -/
theorem Insert_shift (es : List En) (e : En) (lo g c vb i : Nat) (w : World) (hown : OwnR w lo g c es) (hlen : es.length ≤ 1048576) (hi : i < es.length) (hroom : es.length + 1 ≤ c)
    (hv : Box4 w vb 30 (.string (mkB e.path)) (.int .i64 e.kind) (.int .i64 e.mode) (.string (mkB e.text))) (hne : vb ≠ g) :
    Calls Tryd.prog 18 #[.slice (some ⟨g, 0, none⟩) es.length c, .int .i64 i, .slice (some ⟨vb, 0, none⟩) 1 1] w (InsPost es i e lo g w) := by
  obtain ⟨n, hn⟩ : ∃ n, es.length = n := ⟨_, rfl⟩
  obtain ⟨hrow, hlog, hnc, hcap⟩ := hown.parts
  have hrm := hrow.rooms
  have hE := hrow.ents
  have hgl := hrow.lt
  clear hown hrow
  have hflat := hE.flat
  unfold maxLen at hcap
  have hdl : (flatE (es.drop i)).length = (n - i) * 4 := by rw [flatE_length, List.length_drop, hn]
  have hcl : (cellsE e).length = 1 * 4 := rfl
  have hnews : ∀ j u, (cellsE e)[j]? = some u → w.cell? ((⟨vb, 0, none⟩ : Addr).add j) = some u := fun j u hu => by
    rw [add_of_head, row_cell _ _ _ _ _ _ hv]
    unfold cellsE at hu
    simpa using hu
  have hmv : ∀ j u, (flatE (es.drop i))[j]? = some u → w.cell? ⟨g, i * 4 + j, none⟩ = some u := fun j u hu => by
    have h := hflat (i * 4 + j) u (by rw [← flatE_drop, List.getElem?_drop] at hu; exact hu)
    rwa [add_of_head] at h
  have hsv : w.shape? vb = some (30, 4) := by
    unfold Box4 at hv
    simp [World.shape?, hv]
  have hov : ∀ lb cb, (callFunc 32 #[.slice (some ⟨vb, 0, none⟩) 1 1, .slice (some ⟨g, (i + 1) * 4, none⟩) lb cb]).run Tryd.prog w = .ok (.value (.bool false)) w := fun lb cb => by
    rw [run_callFunc_extern Tryd.func32 (by kernel_rfl) (by kernel_rfl) (by kernel_rfl) (e := Extern.SlicesOverlaps.overlaps #[23, 23] #[4]) (by kernel_rfl),
      Lib.run_overlaps_apart w 23 4 30 Tryd.underlying23 4 Tryd.sizeOf30 ⟨vb, 0, none⟩ ⟨g, (i + 1) * 4, none⟩ 1 1 lb cb hne 30 30 4 (c * 4) hsv hrm.shape (by omega) (hv.frozen 0) (hv.frozen 4)]
    rfl
  have hcp1 : ∀ ty dc sc, (Builtin.copy_ #[23, 23] ty #[.slice (some ⟨g, (i + 1) * 4, none⟩) (n - i) dc, .slice (some ⟨g, i * 4, none⟩) (n + 1 - i) sc]).run Tryd.prog w.drew = .ok (goInt ((n - i : Nat) : Int)) (w.drew.setCells g ((i + 1) * 4) (flatE (es.drop i))) := fun ty dc sc =>
    run_copyE w.drew _ _ ty _ g ((i + 1) * 4) (n - i) dc ⟨g, i * 4, none⟩ (n + 1 - i) sc (n - i) _ Tryd.underlying23 sizeE4 (by simp only [Nat.min_def]; split <;> omega) hdl
      (fun j v hj => by
        have h := hmv j v hj
        rw [← h]
        have : ((⟨g, i * 4, none⟩ : Addr).add j) = ⟨g, i * 4 + j, none⟩ := by unfold Addr.add; split <;> simp_all
        rw [this]; rfl)
      (fun j hj => hrm.is (w := w) (by rw [hdl] at hj; omega)) (fun j hj => hrm.frozen (w := w) _) (flatE_one _)
  obtain ⟨W1, hW1⟩ : ∃ W1, W1 = w.drew.setCells g ((i + 1) * 4) (flatE (es.drop i)) := ⟨_, rfl⟩
  have hrm1 : RoomE W1 g c := by rw [hW1]; exact RoomE.setCells _ _ (w := w.drew) hrm
  have hv1 : ∀ j u, (cellsE e)[j]? = some u → W1.cell? ((⟨vb, 0, none⟩ : Addr).add j) = some u := fun j u hu => by
    rw [hW1, World.cell?_setCells_out g _ _ _ _ (fun h _ => absurd h (by rw [add_of_head]; exact hne))]
    exact hnews j u hu
  have hcp2 : ∀ ty dc, (Builtin.copy_ #[23, 23] ty #[.slice (some ⟨g, i * 4, none⟩) (n + 1 - i) dc, .slice (some ⟨vb, 0, none⟩) 1 1]).run Tryd.prog W1 = .ok (goInt 1) (W1.setCells g (i * 4) (cellsE e)) := fun ty dc =>
    run_copyE W1 _ _ ty _ g (i * 4) (n + 1 - i) dc ⟨vb, 0, none⟩ 1 1 1 _ Tryd.underlying23 sizeE4 (by simp only [Nat.min_def]; split <;> omega) hcl hv1
      (fun j hj => hrm1.is (by rw [hcl] at hj; omega)) (fun j hj => hrm1.frozen _) (cellsE_one' e)
  have hgr : w.grownBy (W1.setCells g (i * 4) (cellsE e)) (some g) := by
    refine gr_cells ?_ _ _
    rw [hW1]
    exact gr_cells (w := w) (a := w.drew) ⟨rfl, rfl, rfl, Nat.le_refl _, fun _ _ _ => rfl⟩ _ _
  have hfin : RowE (W1.setCells g (i * 4) (cellsE e)) g c (es.length + 1) (insE es i e) := by
    have hrm2 := RoomE.setCells (cellsE e) (i * 4) hrm1
    refine insE_cells (by omega) hrm2 (fun j u hu => ?_) (fun j u hu => ?_) (fun j u hu => ?_)
    · have hj : j < i * 4 := by
        have := (List.getElem?_eq_some_iff.1 hu).1
        rw [flatE_length] at this; simp at this; omega
      rw [World.cell?_setCells_out g _ _ _ _ (fun _ _ => .inl hj), hW1, World.cell?_setCells_out g _ _ _ _ (fun _ _ => .inl (by show j < (i + 1) * 4; omega))]
      have h := hflat j u (by
        rw [← flatE_take] at hu
        rwa [List.getElem?_take_of_lt hj] at hu)
      rw [add_of_head] at h
      exact h
    · exact cells_in g (cellsE e) (i * 4) W1 (fun q hq => hrm1.is (by rw [hcl] at hq; omega)) j u hu
    · have hj := (List.getElem?_eq_some_iff.1 hu).1
      rw [World.cell?_setCells_out g _ _ _ _ (fun _ _ => .inr (by show i * 4 + (cellsE e).length ≤ (i + 1) * 4 + j; rw [hcl]; omega)), hW1]
      exact cells_in g (flatE (es.drop i)) ((i + 1) * 4) w.drew (fun q hq => hrm.is (w := w) (by rw [hdl] at hq; omega)) j u hu
  have hO : OwnR (W1.setCells g (i * 4) (cellsE e)) lo g c (insE es i e) := OwnR.of (by rw [insE_length e (by omega)]; exact hfin) hlog (by rw [insE_length e (by omega)]; omega) (by unfold maxLen; omega)
  rw [← hW1] at hcp1
  have hz2 : ((i : Int) == (n : Int)) = false := by simp; omega
  have hw1 : IntKind.i64.wrap ((i : Int) + 1) = (i : Int) + 1 := by rw [IntKind.wrap_i64]; omega
  have hw2 : IntKind.i64.wrap ((n : Int) + 1) = (n : Int) + 1 := by rw [IntKind.wrap_i64]; omega
  have hb1 : (0 : Int) ≤ (i : Int) + 1 := by omega
  have hin : i ≤ n := by omega
  have htn : ((i : Int) + 1).toNat = i + 1 := by omega
  have hb2 : ¬ (c = i + 1) := by omega
  have hb3 : (i : Int) ≤ (n : Int) + 1 := by omega
  have hb4 : ¬ (c = i) := by omega
  rw [hn] at hlen hi hroom hnc ⊢
  have hn1 : InsPost es i e lo g w = InsPost es i e lo g w := rfl
  replace hn := Lib.hid hn
  replace hO := Lib.hid hO
  replace hgr := Lib.hid hgr
  replace hW1 := Lib.hid hW1
  clear hrm hE hflat hdl hcl hnews hmv hsv hrm1 hv1 hfin hv hn1
  go_enter Tryd.func18, Tryd.ntmps18
  go_wp2_with (simp only [hov])
  go_region_law (refine step_copy_runE rfl _ _ 23 23 rfl _ _ (by simp [Act.eval, Act.put]) (by simp [Act.eval, Act.put]) (hcp1 _ _ _) ?_)
  go_wp2_with (at_builtin; refine wpList_copy_runE _ rfl _ _ 23 23 rfl _ _ rfl rfl (hcp2 _ _) ?_)
  go_ret
  exact ⟨g, c, by rw [hn.out]; rfl, hO.out, .inl rfl, hgr.out⟩

set_option maxRecDepth 1000000 in
set_option maxHeartbeats 16000000 in
/-- there is no room -/
theorem Insert_grow (es : List En) (e : En) (lo g c vb i : Nat) (w : World) (hown : OwnR w lo g c es) (hlen : es.length ≤ 1048576) (hlo : lo ≤ w.heap.size) (hi : i < es.length) (hroom : ¬ es.length + 1 ≤ c)
    (hv : Box4 w vb 30 (.string (mkB e.path)) (.int .i64 e.kind) (.int .i64 e.mode) (.string (mkB e.text))) (hne : vb ≠ g) :
    Calls Tryd.prog 18 #[.slice (some ⟨g, 0, none⟩) es.length c, .int .i64 i, .slice (some ⟨vb, 0, none⟩) 1 1] w (InsPost es i e lo g w) := by
  obtain ⟨n, hn⟩ : ∃ n, es.length = n := ⟨_, rfl⟩
  obtain ⟨hrow, hlog, hnc, hcap⟩ := hown.parts
  have hE := hrow.ents
  have hgl := hrow.lt
  clear hown hrow
  have hflat := hE.flat
  unfold maxLen at hcap
  have hcn : c = n := by omega
  subst hcn
  have hdl : (flatE (es.drop i)).length = (c - i) * 4 := by rw [flatE_length, List.length_drop, hn]
  have htl : (flatE (es.take i)).length = i * 4 := by rw [flatE_length, List.length_take, Nat.min_eq_left (by omega)]
  have hcl : (cellsE e).length = 1 * 4 := rfl
  have hvl := hv.lt
  have hnews : ∀ j u, (cellsE e)[j]? = some u → w.cell? ((⟨vb, 0, none⟩ : Addr).add j) = some u := fun j u hu => by
    rw [add_of_head, row_cell _ _ _ _ _ _ hv]
    unfold cellsE at hu
    simpa using hu
  have hmv : ∀ j u, (flatE (es.drop i))[j]? = some u → w.cell? ⟨g, i * 4 + j, none⟩ = some u := fun j u hu => by
    have h := hflat (i * 4 + j) u (by rw [← flatE_drop, List.getElem?_drop] at hu; exact hu)
    rwa [add_of_head] at h
  have hhd : ∀ j u, (flatE (es.take i))[j]? = some u → w.cell? ((⟨g, 0, none⟩ : Addr).add j) = some u := fun j u hu => by
    have hj : j < i * 4 := by have := (List.getElem?_eq_some_iff.1 hu).1; omega
    exact hflat j u (by
      rw [← flatE_take] at hu
      rwa [List.getElem?_take_of_lt hj] at hu)
  obtain ⟨i0, hi0, hz0, hzs, hzb⟩ := info_parts infoE
  have hold : (Builtin.firstCells i0.size i (.slice (some ⟨g, 0, none⟩) i c)).run Tryd.prog w.drew = .ok (flatE (es.take i)).toArray w.drew := by
    rw [hzs]
    exact run_firstCells_some w.drew 4 i ⟨g, 0, none⟩ i c (flatE (es.take i)) htl (fun j v hj => hhd j v hj)
  have hik : i + (c + 1 - i) = c + 1 := by omega
  have hkk : (c : Int) + 1 - (i : Int) = ((c + 1 - i : Nat) : Int) := by omega
  have hrz : ∀ ty, (Builtin.append_ #[23, 3] ty #[.slice (some ⟨g, 0, none⟩) i c, .int .i64 ((c : Int) + 1 - (i : Int))]).run Tryd.prog w =
      .ok (.slice (some ⟨w.heap.size, 0, none⟩) (c + 1) (grownCap w (c + 1) c 30)) (w.drew.alloc (.cells ((flatE (es.take i)).toArray ++ Builtin.zeroCells (Value.cells (.agg #[.string { data := #[] }, .int .i64 0, .int .i64 0, .string { data := #[] }])) (c + 1 - i) ++ Builtin.zeroCells (Value.cells (.agg #[.string { data := #[] }, .int .i64 0, .int .i64 0, .string { data := #[] }])) (grownCap w (c + 1) c 30 - (c + 1))) 30)) := fun ty => by
    have h := Lib.run_append_grow_zeros w 23 3 ty 30 i0 _ .i64 .i64 Tryd.underlying23 Tryd.underlying3 hi0 hz0 (some ⟨g, 0, none⟩) i c _ hold (c + 1 - i) (by omega) (by omega) (by omega) (by omega) (by rw [hzb]; omega) (by rw [hzb, hik]; exact growslice_fits (by omega) (by omega))
    rw [hik] at h
    rw [hkk]
    exact h
  obtain ⟨G, hG⟩ : ∃ G, G = grownCap w (c + 1) c 30 := ⟨_, rfl⟩
  have hGn : c + 1 ≤ G := by rw [hG]; exact grownCap_ge w _ _ _
  have hG63 : G ≤ 9223372036854775807 := by
    have := grownCap_le_maxLen w (c + 1) c 30 (by unfold maxLen; omega)
    rw [← hG] at this
    unfold maxLen at this
    omega
  obtain ⟨ROW, hROW⟩ : ∃ ROW : Array Value, ROW = (flatE (es.take i)).toArray ++ Builtin.zeroCells (Value.cells (.agg #[.string { data := #[] }, .int .i64 0, .int .i64 0, .string { data := #[] }])) (c + 1 - i) ++ Builtin.zeroCells (Value.cells (.agg #[.string { data := #[] }, .int .i64 0, .int .i64 0, .string { data := #[] }])) (G - (c + 1)) := ⟨_, rfl⟩
  rw [← hG] at hrz
  rw [← hROW] at hrz
  have hRl : ROW.size = G * 4 := by
    have h1 := zeros_len (c + 1 - i)
    have h2 := zeros_len (G - (c + 1))
    rw [Array.length_toList] at h1 h2
    rw [hROW, Array.size_append, Array.size_append, h1, h2, List.size_toArray, htl]
    omega
  have hRt : ∀ j u, (flatE (es.take i))[j]? = some u → ROW[j]? = some u := fun j u hu => by
    have hj := (List.getElem?_eq_some_iff.1 hu).1
    rw [hROW, Array.append_assoc, Array.getElem?_append_left (by simpa using hj)]
    simpa using hu
  obtain ⟨W1, hW1⟩ : ∃ W1, W1 = w.drew.alloc (.cells ROW 30) := ⟨_, rfl⟩
  rw [← hW1] at hrz
  have hrm1 : RoomE W1 w.heap.size G := ⟨ROW, by rw [hW1]; exact World.alloc_heap_new w.drew _, hRl⟩
  have hBw : Below w.heap.size w W1 := by rw [hW1]; exact (Below.refl _ _).drew.alloc (Nat.le_refl _) _
  have hold1 : ∀ b o, b < w.heap.size → W1.cell? ⟨b, o, none⟩ = w.cell? ⟨b, o, none⟩ := fun b o hb => cell_same (hBw.block b hb) o
  have hn1 : ∀ j u, (cellsE e)[j]? = some u → W1.cell? ((⟨vb, 0, none⟩ : Addr).add j) = some u := fun j u hu => by
    have h := hnews j u hu
    rw [add_of_head] at h ⊢
    rw [hold1 _ _ hvl]; exact h
  have hcpA : ∀ (W : World), (∀ x, W.cell? x = W1.cell? x) → (∀ x, W.frozen? x = W1.frozen? x) → ∀ ty dc, (Builtin.copy_ #[23, 23] ty #[.slice (some ⟨w.heap.size, i * 4, none⟩) (c + 1 - i) dc, .slice (some ⟨vb, 0, none⟩) 1 1]).run Tryd.prog W = .ok (goInt 1) (W.setCells w.heap.size (i * 4) (cellsE e)) := fun W hWc hWf ty dc =>
    run_copyE W _ _ ty _ w.heap.size (i * 4) (c + 1 - i) dc ⟨vb, 0, none⟩ 1 1 1 _ Tryd.underlying23 sizeE4 (by simp only [Nat.min_def]; split <;> omega) hcl
      (fun j v hj => by rw [hWc]; exact hn1 j v hj)
      (fun j hj => by rw [hWc]; exact hrm1.is (by rw [hcl] at hj; omega)) (fun j hj => by rw [hWf]; exact hrm1.frozen _) (cellsE_one' e)
  obtain ⟨W2, hW2⟩ : ∃ W2, W2 = W1.setCells w.heap.size (i * 4) (cellsE e) := ⟨_, rfl⟩
  have hrm2 : RoomE W2 w.heap.size G := by rw [hW2]; exact RoomE.setCells _ _ hrm1
  have hmv2 : ∀ j u, (flatE (es.drop i))[j]? = some u → W2.cell? ((⟨g, i * 4, none⟩ : Addr).add j) = some u := fun j u hu => by
    have hadd : ((⟨g, i * 4, none⟩ : Addr).add j) = ⟨g, i * 4 + j, none⟩ := by unfold Addr.add; split <;> simp_all
    rw [hadd, hW2, World.cell?_setCells_out _ _ _ _ _ (fun h _ => absurd h (by show g ≠ w.heap.size; omega)), hold1 _ _ hgl]
    exact hmv j u hu
  have hcpB : ∀ (W : World), (∀ x, W.cell? x = W2.cell? x) → (∀ x, W.frozen? x = W2.frozen? x) → ∀ ty dc sc, (Builtin.copy_ #[23, 23] ty #[.slice (some ⟨w.heap.size, (i + 1) * 4, none⟩) (c - i) dc, .slice (some ⟨g, i * 4, none⟩) (c - i) sc]).run Tryd.prog W = .ok (goInt ((c - i : Nat) : Int)) (W.setCells w.heap.size ((i + 1) * 4) (flatE (es.drop i))) := fun W hWc hWf ty dc sc =>
    run_copyE W _ _ ty _ w.heap.size ((i + 1) * 4) (c - i) dc ⟨g, i * 4, none⟩ (c - i) sc (c - i) _ Tryd.underlying23 sizeE4 (by simp only [Nat.min_def]; split <;> omega) hdl
      (fun j v hj => by rw [hWc]; exact hmv2 j v hj)
      (fun j hj => by rw [hWc]; exact hrm2.is (by rw [hdl] at hj; omega)) (fun j hj => by rw [hWf]; exact hrm2.frozen _) (flatE_one _)
  have hfin : ∀ W : World, (∀ x, W.cell? x = (W2.setCells w.heap.size ((i + 1) * 4) (flatE (es.drop i))).cell? x) → RoomE W w.heap.size G → RowE W w.heap.size G (es.length + 1) (insE es i e) := by
    intro W hWc hWr
    refine insE_cells (by omega) hWr (fun j u hu => ?_) (fun j u hu => ?_) (fun j u hu => ?_)
    · have hj : j < i * 4 := by have := (List.getElem?_eq_some_iff.1 hu).1; omega
      rw [hWc, World.cell?_setCells_out _ _ _ _ _ (fun _ _ => .inl (by show j < (i + 1) * 4; omega)), hW2, World.cell?_setCells_out _ _ _ _ _ (fun _ _ => .inl hj), hW1]
      have hh : (w.drew.alloc (.cells ROW 30)).heap[w.heap.size]? = some (.cells ROW 30 (0, 0)) := World.alloc_heap_new w.drew _
      rw [row_cell _ _ _ _ _ _ hh]
      exact hRt j u hu
    · have hj := (List.getElem?_eq_some_iff.1 hu).1
      rw [hcl] at hj
      rw [hWc, World.cell?_setCells_out _ _ _ _ _ (fun _ _ => .inl (by show i * 4 + j < (i + 1) * 4; omega)), hW2]
      exact cells_in w.heap.size (cellsE e) (i * 4) W1 (fun q hq => hrm1.is (by rw [hcl] at hq; omega)) j u hu
    · rw [hWc]
      exact cells_in w.heap.size (flatE (es.drop i)) ((i + 1) * 4) W2 (fun q hq => hrm2.is (by rw [hdl] at hq; omega)) j u hu
  have hO : ∀ W : World, (∀ x, W.cell? x = (W2.setCells w.heap.size ((i + 1) * 4) (flatE (es.drop i))).cell? x) → RoomE W w.heap.size G → OwnR W lo w.heap.size G (insE es i e) := fun W h1 h2 =>
    OwnR.of (by rw [insE_length e (by omega)]; exact hfin W h1 h2) hlo (by rw [insE_length e (by omega)]; omega) (by unfold maxLen; omega)
  have hz2 : ((i : Int) == (c : Int)) = false := by simp; omega
  have hw1 : IntKind.i64.wrap ((i : Int) + 1) = (i : Int) + 1 := by rw [IntKind.wrap_i64]; omega
  have hw2 : IntKind.i64.wrap ((c : Int) + 1) = (c : Int) + 1 := by rw [IntKind.wrap_i64]; omega
  have hb1 : (0 : Int) ≤ (i : Int) + 1 := by omega
  have hin : i ≤ c := by omega
  have htn : ((i : Int) + 1).toNat = i + 1 := by omega
  have hGi : ¬ (G = i) := by omega
  have hGim : ¬ (G = i + 1) := by omega
  have hci : ¬ (c = i) := by omega
  have hb3 : (i : Int) ≤ (c : Int) := by omega
  rw [hn] at hlen hi hroom ⊢
  replace hn := Lib.hid hn
  replace hO := Lib.hid hO
  have hW2h := Lib.hid hW2
  clear hW2
  replace hW1 := Lib.hid hW1
  clear hE hflat hdl htl hcl hnews hmv hhd hold hik hkk hRl hRt hold1 hn1 hmv2 hfin hv hROW hG hi0 hz0 hzs hzb
  go_enter Tryd.func18, Tryd.ntmps18
  go_wp2_with (first
    | (at_builtin; refine wpList_append_runE _ rfl _ _ 23 3 rfl _ _ rfl rfl (hrz _) ?_)
    | (at_builtin; refine wpList_copy_runE _ rfl _ _ 23 23 rfl _ _ rfl rfl (hcpA W1 (fun _ => rfl) (fun _ => rfl) _ _) ?_))
  rw [← hW2h.out]
  go_region_law (refine step_copy_runE rfl _ _ 23 23 rfl (.slice (some ⟨w.heap.size, (i + 1) * 4, none⟩) (c - i) (G - (i + 1))) (.slice (some ⟨g, i * 4, none⟩) (c - i) (c - i)) (by simp [Act.eval, Act.put]) (by simp [Act.eval, Act.put]) (hcpB W2.drew (fun _ => rfl) (fun _ => rfl) _ _ _) ?_)
  go_wp2
  go_ret
  refine ⟨w.heap.size, G, by rw [hn.out]; rfl, hO.out _ (fun x => ?_) ?_, .inr (Nat.le_refl _), ?_⟩
  · rw [drew_setCellsE]; rfl
  · exact RoomE.setCells _ _ (w := W2.drew) hrm2
  · refine gr_below (World.grownBy.refl w (some g)) (below_setCells (Nat.le_refl _) _ _ (Below.drew ?_))
    rw [hW2h.out]
    exact below_setCells (Nat.le_refl _) _ _ hBw
/-- one entry more in its place -/
theorem Insert_any (es : List En) (e : En) (lo g c vb i : Nat) (w : World) (hown : OwnR w lo g c es) (hlen : es.length ≤ 1048576) (hlo : lo ≤ w.heap.size) (hi : i ≤ es.length)
    (hv : Box4 w vb 30 (.string (mkB e.path)) (.int .i64 e.kind) (.int .i64 e.mode) (.string (mkB e.text))) (hne : vb ≠ g) :
    Calls Tryd.prog 18 #[.slice (some ⟨g, 0, none⟩) es.length c, .int .i64 i, .slice (some ⟨vb, 0, none⟩) 1 1] w (InsPost es i e lo g w) := by
  rcases Nat.lt_or_ge i es.length with h | h
  · by_cases hr : es.length + 1 ≤ c
    · exact Insert_shift es e lo g c vb i w hown hlen h hr hv hne
    · exact Insert_grow es e lo g c vb i w hown hlen hlo h hr hv hne
  · obtain rfl : i = es.length := by omega
    exact Insert_end es e lo g c vb w hown hlen hlo hv hne
end Go.Proofs.YtiknkjhdieepbaaDoor
