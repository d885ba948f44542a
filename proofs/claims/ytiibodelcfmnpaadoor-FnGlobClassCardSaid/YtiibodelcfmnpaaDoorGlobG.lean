/-
  What matches a name, in memory; the walk of its closure.
-/
import Derived.Test.YtiibodelcfmnpaaDoorGlobF
import Derived.Test.YtiibodelcfmnpaaDoorIterS
namespace Go.Proofs.YtiibodelcfmnpaaDoor
open Go.RowKit Go.Shelf
set_option linter.unusedVariables false
set_option linter.unusedSimpArgs false

/-- a function value that matches names, over blocks from lo on -/
def HasIs (lo : Nat) (W : World) (f : Value) (ps : List Pt) : Prop := ∃ (B g cap : Nat) (xs : List (Pt × Value)), lo ≤ B ∧ f = .func (.func 35) #[] #[.pointer (some ⟨B, 0, none⟩)] ∧
  Boxed W B 47 (.slice (some ⟨g, 0, none⟩) xs.length cap) ∧ W.ownsRow lo 61 2 (.slice (some ⟨g, 0, none⟩) xs.length cap) xs.length (cellsP xs) ∧ TakesAll lo W xs ∧ stars xs = ps ∧ xs.length ≤ 1048576
/-- what is turned lies apart: below lo, or no cells, or a row of names of a pattern -/
def Aside (lo : Nat) (W : World) (row : Option Nat) : Prop := ∀ r, row = some r → r < lo ∨ ∀ cs t fr, W.heap[r]? = some (.cells cs t fr) → t = 52
theorem Aside.ne {lo : Nat} {W : World} {row : Option Nat} (h : Aside lo W row) {B : Nat} (hB : lo ≤ B) {cs : Array Value} {t : TypeId} {fr : Nat × Nat} (hb : W.heap[B]? = some (.cells cs t fr)) (ht : t ≠ 52) : some B ≠ row := fun e => by
  rcases h B e.symm with h1 | h1
  · omega
  · exact ht (h1 _ _ _ hb)
theorem HasIs.kept {lo : Nat} {W W' : World} {f : Value} {ps : List Pt} {row : Option Nat} (h : HasIs lo W f ps) (hg : W.grownBy W' row) (ha : Aside lo W row) : HasIs lo W' f ps := by
  obtain ⟨B, g, cap, xs, hl, hf, hb, ho, ht, hs, hx⟩ := h
  refine ⟨B, g, cap, xs, hl, hf, hb.kept hg (ha.ne hl hb (by decide)), ho.kept hg ?_, fun x hx => (ht x hx).kept hg (fun B t v hB hb ht => ha.ne hB hb (by rcases ht with rfl | rfl | rfl <;> decide)), hs, hx⟩
  rcases ho.2 with ⟨h1, _⟩ | ⟨g', cap', cur, h1, h2, h3, _⟩
  · cases h1
  · cases h1
    exact .inr (by have := ha.ne h2 h3 (by decide); simpa [Value.ownBlock] using this)
theorem HasIs.below {lo : Nat} {W W' : World} {f : Value} {ps : List Pt} (h : HasIs lo W f ps) (hB : Below W.heap.size W W') : HasIs lo W' f ps := by
  obtain ⟨B, g, cap, xs, hl, hf, hb, ho, ht, hs, hx⟩ := h
  exact ⟨B, g, cap, xs, hl, hf, (hB.block _ hb.lt).trans hb, own_below ho hB, ht.below hB, hs, hx⟩
theorem own_lower {W : World} {n n' : Nat} {e : TypeId} {k m : Nat} {v : Value} {xs : List Value} (hn : n' ≤ n) (h : W.ownsRow n e k v m xs) : W.ownsRow n' e k v m xs := by
  refine ⟨h.1, ?_⟩
  rcases h.2 with h0 | ⟨g, cap, cur, e1, hb, h2⟩
  · exact .inl h0
  · exact .inr ⟨g, cap, cur, e1, Nat.le_trans hn hb, h2⟩
theorem HasIs.mono {lo lo' : Nat} {W : World} {f : Value} {ps : List Pt} (h : HasIs lo W f ps) (hl : lo' ≤ lo) : HasIs lo' W f ps := by
  obtain ⟨B, g, cap, xs, h1, hf, hb, ho, ht, hs⟩ := h
  exact ⟨B, g, cap, xs, by omega, hf, hb, own_lower hl ho, ht.mono hl, hs⟩
/-- as it is called -/
def HasFn (W : World) (f : Value) (ps : List Pt) : Prop := ∃ (gf : Nat) (bs : Array Value), f = .func (.func gf) #[] bs ∧ (∀ args w, (callFunc gf args).run Tryd.prog w = .ok (.enter gf args) w) ∧
  ∀ (s : List UInt8) (W' : World), s.length ≤ 1048576 → Below W.heap.size W W' → Calls Tryd.prog gf (#[.string (mkB s)] ++ bs) W' fun e w' => e = .returned (.bool (fits ps s)) ∧ Below W'.heap.size W' w'
set_option maxHeartbeats 1000000 in
theorem hasCall (B g cap : Nat) (xs : List (Pt × Value)) (s : List UInt8) (w : World) (hb : Boxed w B 47 (.slice (some ⟨g, 0, none⟩) xs.length cap)) (hP : PartsAt w g xs) (hs : s.length ≤ 1048576) (hx : xs.length ≤ 1048576) :
    Calls Tryd.prog 35 #[.string (mkB s), .pointer (some ⟨B, 0, none⟩)] w fun e w' => e = .returned (.bool (fits (stars xs) s)) ∧ Below w.heap.size w w' := by
  have h0 := hb.cell
  clear hb
  replace hP := Lib.hid hP
  go_enter Tryd.func35, Tryd.ntmps35
  go_wp2_with fail
  refine (partsHave_any xs s g cap _ hP.out hs hx).mono ?_
  rintro e w1 ⟨rfl, hB⟩
  go_wp2
  go_ret
  exact ⟨rfl, hB⟩
theorem has_fn {lo : Nat} {W : World} {f : Value} {ps : List Pt} (h : HasIs lo W f ps) : HasFn W f ps := by
  obtain ⟨B, g, cap, xs, _, hf, hb, ho, ht, hs, hx⟩ := h
  refine ⟨_, _, hf, enters_of Tryd.func35 (by kernel_rfl) rfl, fun s W' hsl hB => ?_⟩
  rw [← hs]
  exact hasCall B g cap xs s W' ((hB.block _ hb.lt).trans hb) ((PartsAt.own ho ht).1.below hB) hsl hx

/-! ### rows of names of a pattern -/
def cellsN (ys : List (Gn × Value)) : List Value := ys.flatMap fun y => [.bool y.1.many, y.2]
def HasAll (lo : Nat) (W : World) (ys : List (Gn × Value)) : Prop := ∀ y ∈ ys, HasIs lo W y.2 y.1.ps
theorem cellsN_snoc (ys : List (Gn × Value)) (p : Gn) (f : Value) : cellsN (ys ++ [(p, f)]) = cellsN ys ++ [.bool p.many, f] := by simp [cellsN]
theorem HasAll.kept {lo : Nat} {W W' : World} {ys : List (Gn × Value)} {row : Option Nat} (h : HasAll lo W ys) (hg : W.grownBy W' row) (ha : Aside lo W row) : HasAll lo W' ys := fun y hy => (h y hy).kept hg ha
theorem HasAll.below {lo : Nat} {W W' : World} {ys : List (Gn × Value)} (h : HasAll lo W ys) (hB : Below W.heap.size W W') : HasAll lo W' ys := fun y hy => (h y hy).below hB
theorem HasAll.mono {lo lo' : Nat} {W : World} {ys : List (Gn × Value)} (h : HasAll lo W ys) (hl : lo' ≤ lo) : HasAll lo' W ys := fun y hy => (h y hy).mono hl
theorem info_name : (Tryd.prog.info? 52).map (fun i => (i.zero, i.size, i.bytes)) = some (some (.agg #[.bool false, .nilFunc]), 2, 16) := by kernel_rfl
def names (ys : List (Gn × Value)) : List Gn := ys.map Prod.fst
/-- the names so far, in their box, with what matches -/
def NamesAt (B lo : Nat) (pre : List (List UInt8)) (W : World) : Prop := ∃ (ys : List (Gn × Value)) (v : Value), (globAll pre = some (names ys) ∧ pre.length ≤ 5) ∧ Boxed W B 32 v ∧ W.ownsRow lo 52 2 v ys.length (cellsN ys) ∧ HasAll lo W ys
theorem namesAt_own (B lo : Nat) (hB : B < lo) : Own (NamesAt B lo) := by
  rintro s X Y row ⟨ys, v, hp, hv, hr, hh⟩ hg hrow
  refine ⟨ys, v, hp, hv.kept hg (fun e => ?_), hr.kept hg ?_, hh.kept hg (fun r e => .inr (fun cs t fr hr => ?_))⟩
  · obtain ⟨o, ho, hc⟩ := hrow B e.symm
    rw [show X.heap[B]? = _ from hv] at ho; cases ho; cases hc
  · rcases hr.2 with ⟨rfl, _⟩ | ⟨g, cap, cur, rfl, _, hgb, _⟩
    · exact .inl rfl
    · refine .inr fun e' => ?_
      obtain ⟨o, ho, hc⟩ := hrow g (by rw [← e']; rfl)
      rw [hgb] at ho; cases ho; cases hc
  · obtain ⟨o, ho, hc⟩ := hrow r e
    rw [hr] at ho; cases ho; cases hc
theorem namesAt_box (bs B lo : Nat) (hne : B ≠ bs) (hlo : bs < lo) : AtBox bs (NamesAt B lo) := by
  rintro s W W' ⟨ys, v, hp, hv, hr, hh⟩ hg
  refine ⟨ys, v, hp, hv.kept hg (fun e => hne (by cases e; rfl)), hr.kept hg ?_, hh.kept hg (fun r e => .inl (by cases e; exact hlo))⟩
  rcases hr.2 with ⟨rfl, _⟩ | ⟨g, cap, cur, rfl, hb, _, _⟩
  · exact .inl rfl
  · refine .inr fun e' => ?_
    have : g = bs := by simpa [Value.ownBlock] using e'
    omega
end Go.Proofs.YtiibodelcfmnpaaDoor
