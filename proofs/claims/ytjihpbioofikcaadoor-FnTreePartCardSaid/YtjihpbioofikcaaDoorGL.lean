/-
  GlobG, GlobH, GlobI, GlobJ: merged.
-/
import Derived.Test.YtjihpbioofikcaaDoorGK
import Derived.Test.YtjihpbioofikcaaDoorGA
/-
  What matches a name, in memory; the walk of its closure.
-/
namespace Go.Proofs.YtjihpbioofikcaaDoor
open Go.RowKit Go.Shelf
set_option linter.unusedVariables false
set_option linter.unusedSimpArgs false

/-- a function value that matches names, over blocks from lo on -/
def HasIs (lo : Nat) (W : World) (f : Value) (ps : List Pt) : Prop := ∃ (B g cap : Nat) (xs : List (Pt × Value)), lo ≤ B ∧ f = .func (.func 120) #[] #[.pointer (some ⟨B, 0, none⟩)] ∧
  Boxed W B 107 (.slice (some ⟨g, 0, none⟩) xs.length cap) ∧ W.ownsRow lo 129 2 (.slice (some ⟨g, 0, none⟩) xs.length cap) xs.length (cellsP xs) ∧ TakesAll lo W xs ∧ stars xs = ps ∧ xs.length ≤ 1048576
/-- what is turned lies apart: below lo, or no cells, or a row of names of a pattern -/
def Aside (lo : Nat) (W : World) (row : Option Nat) : Prop := ∀ r, row = some r → r < lo ∨ ∀ cs t fr, W.heap[r]? = some (.cells cs t fr) → t = 112
theorem Aside.ne {lo : Nat} {W : World} {row : Option Nat} (h : Aside lo W row) {B : Nat} (hB : lo ≤ B) {cs : Array Value} {t : TypeId} {fr : Nat × Nat} (hb : W.heap[B]? = some (.cells cs t fr)) (ht : t ≠ 112) : some B ≠ row := fun e => by
  rcases h B e.symm with h1 | h1
  · omega
  · exact ht (h1 _ _ _ hb)
theorem HasIs.kept {lo : Nat} {W W' : World} {f : Value} {ps : List Pt} {row : Option Nat} (h : HasIs lo W f ps) (hg : W.grownBy W' row) (ha : Aside lo W row) : HasIs lo W' f ps := by
  obtain ⟨B, g, cap, xs, hl, hf, hb, ho, ht, hs, hx⟩ := h
  refine ⟨B, g, cap, xs, hl, hf, hb.kept hg (ha.ne hl hb (by decide)), ho.kept hg ?_, fun x hx => (ht x hx).kept hg (fun B t v hB hb ht => ha.ne hB hb (by rcases ht with rfl | rfl | rfl <;> decide)), hs, hx⟩
  rcases ho.2 with ⟨h1, _⟩ | ⟨g', cap', cur, h1, h2, h3, _⟩
  · cases h1
  · cases h1
    exact .inr (by have := ha.ne h2 h3 (by decide); simpa [Value.ownBlock] using this)
theorem HasIs.below {lo : Nat} {W W' : World} {f : Value} {ps : List Pt} (h : HasIs lo W f ps) (hB : Below W.heap.size W W') : HasIs lo W' f ps := by
  obtain ⟨B, g, cap, xs, hl, hf, hb, ho, ht, hs, hx⟩ := h
  exact ⟨B, g, cap, xs, hl, hf, (hB.block _ hb.lt).trans hb, own_below ho hB, ht.below hB, hs, hx⟩
theorem own_lower {W : World} {n n' : Nat} {e : TypeId} {k m : Nat} {v : Value} {xs : List Value} (hn : n' ≤ n) (h : W.ownsRow n e k v m xs) : W.ownsRow n' e k v m xs := by
  refine ⟨h.1, ?_⟩
  rcases h.2 with h0 | ⟨g, cap, cur, e1, hb, h2⟩
  · exact .inl h0
  · exact .inr ⟨g, cap, cur, e1, Nat.le_trans hn hb, h2⟩
theorem HasIs.mono {lo lo' : Nat} {W : World} {f : Value} {ps : List Pt} (h : HasIs lo W f ps) (hl : lo' ≤ lo) : HasIs lo' W f ps := by
  obtain ⟨B, g, cap, xs, h1, hf, hb, ho, ht, hs⟩ := h
  exact ⟨B, g, cap, xs, by omega, hf, hb, own_lower hl ho, ht.mono hl, hs⟩
/-- as it is called -/
def HasFn (W : World) (f : Value) (ps : List Pt) : Prop := ∃ (gf : Nat) (bs : Array Value), f = .func (.func gf) #[] bs ∧ (∀ args w, (callFunc gf args).run Tryd.prog w = .ok (.enter gf args) w) ∧
  ∀ (s : List UInt8) (W' : World), s.length ≤ 1048576 → Below W.heap.size W W' → Calls Tryd.prog gf (#[.string (mkB s)] ++ bs) W' fun e w' => e = .returned (.bool (fits ps s)) ∧ Below W'.heap.size W' w'
set_option maxHeartbeats 1000000 in
theorem hasCall (B g cap : Nat) (xs : List (Pt × Value)) (s : List UInt8) (w : World) (hb : Boxed w B 107 (.slice (some ⟨g, 0, none⟩) xs.length cap)) (hP : PartsAt w g xs) (hs : s.length ≤ 1048576) (hx : xs.length ≤ 1048576) :
    Calls Tryd.prog 120 #[.string (mkB s), .pointer (some ⟨B, 0, none⟩)] w fun e w' => e = .returned (.bool (fits (stars xs) s)) ∧ Below w.heap.size w w' := by
  have h0 := hb.cell
  clear hb
  replace hP := Lib.hid hP
  go_enter Tryd.func120, Tryd.ntmps120
  go_wp2_with fail
  refine (partsHave_any xs s g cap _ hP.out hs hx).mono ?_
  rintro e w1 ⟨rfl, hB⟩
  go_wp2
  go_ret
  exact ⟨rfl, hB⟩
theorem has_fn {lo : Nat} {W : World} {f : Value} {ps : List Pt} (h : HasIs lo W f ps) : HasFn W f ps := by
  obtain ⟨B, g, cap, xs, _, hf, hb, ho, ht, hs, hx⟩ := h
  refine ⟨_, _, hf, enters_of Tryd.func120 (by kernel_rfl) rfl, fun s W' hsl hB => ?_⟩
  rw [← hs]
  exact hasCall B g cap xs s W' ((hB.block _ hb.lt).trans hb) ((PartsAt.own ho ht).1.below hB) hsl hx

/-! ### rows of names of a pattern -/
def cellsN (ys : List (Gn × Value)) : List Value := ys.flatMap fun y => [.bool y.1.many, y.2]
def HasAll (lo : Nat) (W : World) (ys : List (Gn × Value)) : Prop := ∀ y ∈ ys, HasIs lo W y.2 y.1.ps
theorem cellsN_snoc (ys : List (Gn × Value)) (p : Gn) (f : Value) : cellsN (ys ++ [(p, f)]) = cellsN ys ++ [.bool p.many, f] := by simp [cellsN]
theorem HasAll.kept {lo : Nat} {W W' : World} {ys : List (Gn × Value)} {row : Option Nat} (h : HasAll lo W ys) (hg : W.grownBy W' row) (ha : Aside lo W row) : HasAll lo W' ys := fun y hy => (h y hy).kept hg ha
theorem HasAll.below {lo : Nat} {W W' : World} {ys : List (Gn × Value)} (h : HasAll lo W ys) (hB : Below W.heap.size W W') : HasAll lo W' ys := fun y hy => (h y hy).below hB
theorem HasAll.mono {lo lo' : Nat} {W : World} {ys : List (Gn × Value)} (h : HasAll lo W ys) (hl : lo' ≤ lo) : HasAll lo' W ys := fun y hy => (h y hy).mono hl
theorem info_name : (Tryd.prog.info? 112).map (fun i => (i.zero, i.size, i.bytes)) = some (some (.agg #[.bool false, .nilFunc]), 2, 16) := by kernel_rfl
def names (ys : List (Gn × Value)) : List Gn := ys.map Prod.fst
/-- the names so far, in their box, with what matches -/
def NamesAt (B lo : Nat) (pre : List (List UInt8)) (W : World) : Prop := ∃ (ys : List (Gn × Value)) (v : Value), (globAll pre = some (names ys) ∧ pre.length ≤ 5) ∧ Boxed W B 84 v ∧ W.ownsRow lo 112 2 v ys.length (cellsN ys) ∧ HasAll lo W ys
theorem namesAt_own (B lo : Nat) (hB : B < lo) : Own (NamesAt B lo) := by
  rintro s X Y row ⟨ys, v, hp, hv, hr, hh⟩ hg hrow
  refine ⟨ys, v, hp, hv.kept hg (fun e => ?_), hr.kept hg ?_, hh.kept hg (fun r e => .inr (fun cs t fr hr => ?_))⟩
  · obtain ⟨o, ho, hc⟩ := hrow B e.symm
    rw [show X.heap[B]? = _ from hv] at ho; cases ho; cases hc
  · rcases hr.2 with ⟨rfl, _⟩ | ⟨g, cap, cur, rfl, _, hgb, _⟩
    · exact .inl rfl
    · refine .inr fun e' => ?_
      obtain ⟨o, ho, hc⟩ := hrow g (by rw [← e']; rfl)
      rw [hgb] at ho; cases ho; cases hc
  · obtain ⟨o, ho, hc⟩ := hrow r e
    rw [hr] at ho; cases ho; cases hc
theorem namesAt_box (bs B lo : Nat) (hne : B ≠ bs) (hlo : bs < lo) : AtBox bs (NamesAt B lo) := by
  rintro s W W' ⟨ys, v, hp, hv, hr, hh⟩ hg
  refine ⟨ys, v, hp, hv.kept hg (fun e => hne (by cases e; rfl)), hr.kept hg ?_, hh.kept hg (fun r e => .inl (by cases e; exact hlo))⟩
  rcases hr.2 with ⟨rfl, _⟩ | ⟨g, cap, cur, rfl, hb, _, _⟩
  · exact .inl rfl
  · refine .inr fun e' => ?_
    have : g = bs := by simpa [Value.ownBlock] using e'
    omega
end Go.Proofs.YtjihpbioofikcaaDoor

/-
  The walk of the program's globNames.
-/
namespace Go.Proofs.YtjihpbioofikcaaDoor
open Go.RowKit Go.Shelf
set_option linter.unusedVariables false
set_option linter.unusedSimpArgs false
attribute [local go_sem] Oper.semAt_some mkB_size mkB_extract mkB_get mkB_toList

def NamesPost (l : List UInt8) (w : World) (e : Ending) (w' : World) : Prop :=
  Below w.heap.size w w' ∧ ((globs l = none ∧ ∃ v, e = .returned (.tuple #[v, .bool false])) ∨
    (∃ (ys : List (Gn × Value)) (g cap : Nat), globs l = some (names ys) ∧ e = .returned (.tuple #[.slice (some ⟨g, 0, none⟩) ys.length cap, .bool true]) ∧
      w'.ownsRow w.heap.size 112 2 (.slice (some ⟨g, 0, none⟩) ys.length cap) ys.length (cellsN ys) ∧ HasAll w.heap.size w' ys))
theorem ownFrom_size' {β : Type} (B n : Nat) : OwnFrom B (fun (_ : β) W => n ≤ W.heap.size) := fun _ _ _ _ hs hg _ => Nat.le_trans hs hg.size
theorem AtBox.size' {β : Type} (bs n : Nat) : AtBox bs (fun (_ : β) W => n ≤ W.heap.size) := fun _ _ _ hs hg => Nat.le_trans hs hg.size
theorem parts_len : ∀ (n : Nat) (l : List UInt8) (ps : List Pt), l.length ≤ n → parts l = some ps → ps.length ≤ l.length := by
  intro n
  induction n with
  | zero =>
    intro l ps hl h
    obtain rfl : l = [] := List.eq_nil_of_length_eq_zero (by omega)
    cases h; simp
  | succ n ih =>
    intro l ps hl h
    cases l with
    | nil => cases h; simp
    | cons c r =>
      cases hh : head1 (c :: r) with
      | none => rw [parts_bad hh (List.cons_ne_nil _ _)] at h; cases h
      | some y =>
        obtain ⟨p, t⟩ := y
        rw [parts_step hh] at h
        obtain ⟨qs, hq, rfl⟩ := parts_map h
        have h1 := head1_short hh
        simp only [List.length_cons] at h1 hl ⊢
        have h2 := ih t qs (by omega) hq
        omega
theorem own_cells {W : World} {n : Nat} {e : TypeId} {k m : Nat} {v : Value} {xs : List Value} (h : W.ownsRow n e k v m xs) : ∀ j o, v.ownBlock = some j → W.heap[j]? = some o → o.isCells = true := by
  intro j o ej hj
  rcases h.2 with ⟨rfl, _⟩ | ⟨g, cap, cur, rfl, hb, hgb, _⟩
  · simp [Value.ownBlock] at ej
  · obtain rfl : g = j := by simpa [Value.ownBlock] using ej
    rw [hgb] at hj; cases hj; rfl
theorem own_names {w1 : World} {base g1 cap1 : Nat} {ys : List (Gn × Value)} {p : Gn} {f : Value} (h : w1.ownsRow base 112 2 (.slice (some ⟨g1, 0, none⟩) (ys.length + 1) cap1) (ys.length + 1) (cellsN ys ++ [.bool p.many, f])) :
    w1.ownsRow base 112 2 (.slice (some ⟨g1, 0, none⟩) (ys.length + 1) cap1) (ys ++ [(p, f)]).length (cellsN (ys ++ [(p, f)])) := by
  rw [cellsN_snoc, List.length_append]
  exact h
theorem below_alloc' {n : Nat} {w W : World} (h : Below n w W) (hn : n ≤ w.heap.size) (o : Obj) : Below n w (W.alloc o) := h.alloc (Nat.le_trans hn h.size) o
theorem own_aside {lo lo2 k : Nat} {W : World} {v : Value} {cs : List Value} (h : W.ownsRow lo2 112 2 v k cs) : Aside lo W v.ownBlock := fun r hr => by
  right
  intro cs' t fr hc
  rcases h.2 with ⟨rfl, _⟩ | ⟨g, cap, cur, rfl, hb, hh, _⟩
  · simp [Value.ownBlock] at hr
  · obtain rfl : g = r := by simpa [Value.ownBlock] using hr
    rw [hh] at hc
    cases hc
    rfl
theorem globs_bad {l x : List UInt8} {pre : List (List UInt8)} (h : pre ++ [x] <+: cut 47 l) (hx : globName x = none) : globs l = none := by
  unfold globs
  split
  · split
    · obtain ⟨r, hr⟩ := h
      rw [← hr, List.append_assoc]
      exact globAll_bad hx
    · rfl
  · rfl
theorem globs_many {l x : List UInt8} {pre : List (List UInt8)} (h : pre ++ [x] <+: cut 47 l) (hx : 5 ≤ pre.length) : globs l = none := by
  unfold globs
  have := h.length_le
  simp at this
  split
  · rw [if_neg (by omega)]
  · rfl
theorem globs_all' {l : List UInt8} {gs : List Gn} (hl : l.length ≤ 40) (h5 : (cut 47 l).length ≤ 5) (h : globAll (cut 47 l) = some gs) : globs l = some gs := by
  unfold globs; rw [if_pos hl, if_pos h5, h]
theorem globs_long {l : List UInt8} (hl : 40 < l.length) : globs l = none := by unfold globs; rw [if_neg (by omega)]
set_option maxRecDepth 1000000 in
set_option maxHeartbeats 8000000 in
theorem globNames_in (l : List UInt8) (hl : l.length ≤ 40) (w : World) :
    CallsIn Fence.wide 4 Tryd.prog 90 #[.string (mkB l)] w (NamesPost l w) := by
  obtain ⟨i0, hi, hzz, hz1, hz2⟩ := info_parts info_name
  have hlI : (l.length : Int) ≤ 40 := by omega
  refine callsIn_of_wp_marks Tryd.func90 rfl trivial ?_ rfl
  simp only [Tryd.ntmps90, List.size_toArray, List.length_cons, List.length_nil, Nat.reduceAdd, Nat.reduceSub, Array.replicate_succ, Array.replicate_zero, List.push_toArray, List.append_toArray, List.nil_append, List.cons_append]
  gi_wp2_with (refine ⟨trivial, ?_⟩; gi_at_call 93; refine (callsIn_wide.2 (SplitSeq_any _ _ _)).mono ?_; rintro e w' ⟨rfl, rfl⟩)
  obtain ⟨z, hz0⟩ : ∃ z, w.heap.size = z := ⟨_, rfl⟩
  rw [hz0]
  obtain ⟨W0, hW0⟩ : ∃ W0, ((((((w.alloc (.cells #[.slice none 0 0] 84)).alloc (.cells #[.bool false] 4)).alloc (.cells #[.slice none 0 0] 84)).alloc (.cells #[.string (mkB l)] 9)).alloc (.cells #[.string { data := #[47] }] 9)).alloc (.cells #[.int .i64 0] 3)) = W0 := ⟨_, rfl⟩
  have hz : W0.heap.size = z + 6 := by rw [← hW0]; simp [hz0]
  have b0 : Boxed W0 z 84 (.slice none 0 0) := by rw [← hW0, ← hz0]; exact (((((Boxed.new w _ _).alloc _).alloc _).alloc _).alloc _).alloc _
  have b1 : Boxed W0 (z + 1) 4 (.bool false) := by
    rw [← hW0, ← hz0]
    have h := Boxed.new (w.alloc (.cells #[.slice none 0 0] 84)) 4 (.bool false)
    simp only [World.size_alloc] at h
    exact (((h.alloc _).alloc _).alloc _).alloc _
  have b2 : Boxed W0 (z + 1 + 1) 84 (.slice none 0 0) := by
    rw [← hW0, ← hz0]
    have h := Boxed.new ((w.alloc (.cells #[.slice none 0 0] 84)).alloc (.cells #[.bool false] 4)) 84 (.slice none 0 0)
    simp only [World.size_alloc] at h
    exact ((h.alloc _).alloc _).alloc _
  have b3 : Boxed W0 (z + 1 + 1 + 1) 9 (.string (mkB l)) := by
    rw [← hW0, ← hz0]
    have h := Boxed.new (((w.alloc (.cells #[.slice none 0 0] 84)).alloc (.cells #[.bool false] 4)).alloc (.cells #[.slice none 0 0] 84)) 9 (.string (mkB l))
    simp only [World.size_alloc] at h
    exact (h.alloc _).alloc _
  have b4 : Boxed W0 (z + 1 + 1 + 1 + 1) 9 (.string (mkB [47])) := by
    rw [← hW0, ← hz0]
    have h := Boxed.new ((((w.alloc (.cells #[.slice none 0 0] 84)).alloc (.cells #[.bool false] 4)).alloc (.cells #[.slice none 0 0] 84)).alloc (.cells #[.string (mkB l)] 9)) 9 (.string (mkB [47]))
    simp only [World.size_alloc] at h
    exact h.alloc _
  have b5 : Boxed W0 (z + 1 + 1 + 1 + 1 + 1) 3 (.int .i64 0) := by
    rw [← hW0, ← hz0]
    have h := Boxed.new (((((w.alloc (.cells #[.slice none 0 0] 84)).alloc (.cells #[.bool false] 4)).alloc (.cells #[.slice none 0 0] 84)).alloc (.cells #[.string (mkB l)] 9)).alloc (.cells #[.string (mkB [47])] 9)) 3 (.int .i64 0)
    simp only [World.size_alloc] at h
    exact h
  have hB0 : Below z w W0 := by
    rw [← hW0, ← hz0]
    exact ((((((Below.refl _ w).alloc (Nat.le_refl _) _).alloc (by simp) _).alloc (by simp; omega) _).alloc (by simp; omega) _).alloc (by simp; omega) _).alloc (by simp; omega) _
  rw [hW0]
  clear hW0
  refine wpIn_range_box (n := 4) rfl (by omega) (gf := 148) (lb := #[.pointer (some ⟨z + 1 + 1 + 1 + 1, 0, none⟩), .pointer (some ⟨z + 1 + 1 + 1, 0, none⟩), .pointer (some ⟨z + 1 + 1 + 1 + 1 + 1, 0, none⟩)]) rfl trivial (enters_of Tryd.func148 (by kernel_rfl) rfl)
    (iter_box 3 (by omega) l (by omega) 47 (z + 1 + 1 + 1) W0 b3 b4 b5) (by omega) kpB_t (kpB_g (by omega))
    (fun pre W => NamesAt (z + 1 + 1) (z + 6) pre W ∧ Boxed W (z + 1) 4 (.bool false) ∧ Boxed W z 84 (.slice none 0 0) ∧ z + 6 ≤ W.heap.size ∧ Below z w W)
    (fun c _ W => (c = .ret ∧ globs l = none) ∧ Boxed W (z + 1) 4 (.bool false) ∧ Boxed W z 84 (.slice none 0 0) ∧ Below z w W)
    ((Own.from (namesAt_own _ _ (by omega)) _).and ((Own.from (boxed_own _ _ _) _).and ((Own.from (boxed_own _ _ _) _).and ((ownFrom_size' _ _).and (ownFrom_below (by omega) (by omega))))))
    ((namesAt_box _ _ _ (by omega) (by omega)).and ((AtBox.boxed _ _ (by omega)).and ((AtBox.boxed _ _ (by omega)).and ((AtBox.size' _ _).and (AtBox.below (by omega) (by omega))))))
    (fun c => (ownFrom_pure _ _).and ((Own.from (boxed_own _ _ _) _).and ((Own.from (boxed_own _ _ _) _).and (ownFrom_below (by omega) (by omega)))))
    ⟨⟨[], _, ⟨rfl, by simp⟩, b2, ⟨rfl, .inl ⟨rfl, rfl⟩⟩, fun y hy => by simp at hy⟩, b1, b0, by omega, hB0⟩
    (fun x => { tmps := #[.string (mkB l), undef, .pointer (some ⟨z, 0, none⟩), .pointer (some ⟨z + 1, 0, none⟩), .pointer (some ⟨z + 1 + 1, 0, none⟩), .string (mkB x), undef, undef, undef, .string (mkB l), .int .i64 l.length, .bool (decide ((40 : Int) < (l.length : Int))), .string (mkB l),
      .func (.func 148) #[] #[.pointer (some ⟨z + 1 + 1 + 1 + 1, 0, none⟩), .pointer (some ⟨z + 1 + 1 + 1, 0, none⟩), .pointer (some ⟨z + 1 + 1 + 1 + 1 + 1, 0, none⟩)],
      .string (mkB x), undef, undef, undef, undef, undef, undef, undef, undef, undef, undef, undef, undef, undef, undef, undef, undef, undef, undef, undef, undef, undef], defers := [] }) ?assign ?body ?done ?stop
  case assign =>
    intro lp x W K hK
    gi_wp2
    exact hK
  case body =>
    rintro lp pre x W hlp ⟨⟨ys, v, ⟨hns, h4⟩, hv, hrow, hall⟩, hr1, hr0, hzW, hB⟩ hpre
    have hxl : x.length ≤ 40 := by
      have := cut_mem_length (hpre.subset (by simp : x ∈ pre ++ [x]))
      omega
    have hnl : ys.length = pre.length := by
      have := globAll_length hns
      simpa [names] using this
    obtain ⟨pp, cap, rfl⟩ : ∃ pp cap, v = .slice pp ys.length cap := by
      rcases hrow.2 with ⟨rfl, h0⟩ | ⟨g, cap, _, rfl, _⟩
      · exact ⟨none, 0, by rw [h0]⟩
      · exact ⟨_, cap, rfl⟩
    have hns' := Lib.hid hns
    have hnl' := Lib.hid hnl
    clear hns hnl
    gi_wp2_with fail
    refine ⟨trivial, ?_⟩
    refine (CallsIn.inRound lp (callsIn_wide.2 (globParts_any x (by omega) _))).mono ?_
    rintro e wc ⟨hBc, ⟨hbad, A0, n0, k0, rfl⟩ | ⟨xs, g, cp, hgood, rfl, hown1, hT⟩⟩
    · have hgn : globName x = none := by unfold globName; rw [hbad]; rfl
      have hgl := Lib.hid (globs_bad hpre hgn)
      replace hbad := Lib.hid hbad
      replace hgn := Lib.hid hgn
      have r1 : Boxed wc (z + 1) 4 (.bool false) := (hBc.block _ hr1.lt).trans hr1
      have r0 : Boxed wc z 84 (.slice none 0 0) := (hBc.block _ hr0.lt).trans hr0
      have r2 : Boxed wc (z + 1 + 1) 84 (.slice pp ys.length cap) := (hBc.block _ hv.lt).trans hv
      have c1 := r1.cell
      have c0 := r0.cell
      have c2 := r2.cell
      have f1 := r1.frozen
      have f0 := r0.frozen
      have f2 := r2.frozen
      have l1 := r1.lt
      have l0 := r0.lt
      have l2 := r2.lt
      have hBw := hB.trans (hBc.mono (by omega))
      have hkc : KeepsOthers W wc := KeepsOthers.of_grownBy (row := none) ⟨hBc.os, hBc.tape, hBc.output, hBc.size, fun k hk _ => hBc.block k hk⟩ (fun j o e => by cases e)
      replace hv := Lib.hid hv
      replace hrow := Lib.hid hrow
      replace hr1 := Lib.hid hr1
      replace hr0 := Lib.hid hr0
      replace r1 := Lib.hid r1
      replace r0 := Lib.hid r0
      replace r2 := Lib.hid r2
      replace hall := Lib.hid hall
      gi_wp2
      exact ⟨(((hkc.trans (KeepsOthers.setCell _ _ _)).trans (KeepsOthers.setCell _ _ _)).trans (KeepsOthers.alloc _ _)).from _, ⟨rfl, hgl.out⟩, ((r1.out.other (by omega) _).set _).alloc _, ((r0.out.set _).other (by omega) _).alloc _,
        below_alloc' ((hBw.setCell (p := ⟨z, 0, none⟩) (Nat.le_refl _) _).setCell (p := ⟨z + 1, 0, none⟩) (by simp) _) (by omega) _⟩
    · have hgn : globName x = some ⟨x == [42, 42], stars xs⟩ := by unfold globName; rw [hgood]; rfl
      have hgm : pre.length = 5 → globs l = none := fun h => globs_many hpre (by omega)
      replace hgood := Lib.hid hgood
      replace hgn := Lib.hid hgn
      replace hgm := Lib.hid hgm
      have r1 : Boxed wc (z + 1) 4 (.bool false) := (hBc.block _ hr1.lt).trans hr1
      have r0 : Boxed wc z 84 (.slice none 0 0) := (hBc.block _ hr0.lt).trans hr0
      have r2 : Boxed wc (z + 1 + 1) 84 (.slice pp ys.length cap) := (hBc.block _ hv.lt).trans hv
      have c1 := r1.cell
      have c0 := r0.cell
      have c2 := r2.cell
      have f1 := r1.frozen
      have f0 := r0.frozen
      have f2 := r2.frozen
      have l1 := r1.lt
      have l0 := r0.lt
      have l2 := r2.lt
      have hBw := hB.trans (hBc.mono (by omega))
      have hkc : KeepsOthers W wc := KeepsOthers.of_grownBy (row := none) ⟨hBc.os, hBc.tape, hBc.output, hBc.size, fun k hk _ => hBc.block k hk⟩ (fun j o e => by cases e)
      have hxs : xs.length ≤ 1048576 := by
        have := parts_len x.length x _ (Nat.le_refl _) (nameParts_parts hgood.out)
        simp at this; omega
      have row3 := own_below (own_below hrow hBc) ((Below.refl _ _).alloc (Nat.le_refl _) (.cells #[.slice (some ⟨g, 0, none⟩) xs.length cp] 107))
      have hall3 := (hall.below hBc).below ((Below.refl _ _).alloc (Nat.le_refl _) (.cells #[.slice (some ⟨g, 0, none⟩) xs.length cp] 107))
      have hown3 := own_lower (n' := z + 6) hzW (own_below hown1 ((Below.refl _ _).alloc (Nat.le_refl _) (.cells #[.slice (some ⟨g, 0, none⟩) xs.length cp] 107)))
      have hT3 := (hT.below ((Below.refl _ _).alloc (Nat.le_refl _) (.cells #[.slice (some ⟨g, 0, none⟩) xs.length cp] 107))).mono hzW
      have r23 := r2.alloc (.cells #[.slice (some ⟨g, 0, none⟩) xs.length cp] 107)
      have hwcz := hBc.size
      have hHas : HasIs (z + 6) (wc.alloc (.cells #[.slice (some ⟨g, 0, none⟩) xs.length cp] 107)) (.func (.func 120) #[] #[.pointer (some ⟨wc.heap.size, 0, none⟩)]) (stars xs) := ⟨wc.heap.size, g, cp, xs, by omega, rfl, Boxed.new _ _ _, hown3, hT3, rfl, hxs⟩
      replace hHas := Lib.hid hHas
      replace hown3 := Lib.hid hown3
      replace hT3 := Lib.hid hT3
      replace hT := Lib.hid hT
      replace hown1 := Lib.hid hown1
      replace hv := Lib.hid hv
      replace hrow := Lib.hid hrow
      replace hr1 := Lib.hid hr1
      replace hr0 := Lib.hid hr0
      replace r1 := Lib.hid r1
      replace r0 := Lib.hid r0
      replace r2 := Lib.hid r2
      replace r23 := Lib.hid r23
      replace row3 := Lib.hid row3
      replace hall3 := Lib.hid hall3
      replace hall := Lib.hid hall
      by_cases h5 : ys.length = 5
      · have hgl := Lib.hid (hgm.out (by rw [← hnl'.out]; exact h5))
        have h5I : ((ys.length : Int) == 5) = true := by rw [h5]; rfl
        replace h5 := Lib.hid h5
        gi_wp2
        exact ⟨(((hkc.trans (KeepsOthers.setCell _ _ _)).trans (KeepsOthers.setCell _ _ _)).trans (KeepsOthers.alloc _ _)).from _, ⟨rfl, hgl.out⟩, ((r1.out.other (by omega) _).set _).alloc _, ((r0.out.set _).other (by omega) _).alloc _,
          below_alloc' ((hBw.setCell (p := ⟨z, 0, none⟩) (Nat.le_refl _) _).setCell (p := ⟨z + 1, 0, none⟩) (by simp) _) (by omega) _⟩
      · have h5I : ((ys.length : Int) == 5) = false := by simp; omega
        have h5' : ys.length ≤ 5 := by have := hnl'.out; omega
        replace h5 := Lib.hid h5
        gi_wp2_with (gi_at_builtin; go_loud (refine wpListIn_push rfl _ _ 84 rfl (z + 6) 112 i0 (.agg #[.bool false, .nilFunc]) 2 16 Tryd.underlying84 hi hzz hz1 hz2 rfl (by decide) (wc.alloc (.cells #[.slice (some ⟨g, 0, none⟩) xs.length cp] 107)) _ _ _ row3.out rfl [.bool (x == [42, 42]), .func (.func 120) #[] #[.pointer (some ⟨wc.heap.size, 0, none⟩)]] (by simp [Act.eval]) rfl (by simp [Value.oneCell']) (by simp only [maxLen]; omega) (by omega) (by simp; omega) ?_; intro g1 cap1 w1 hown4 hg1 hb1 _; have hv1 : Boxed w1 (z + 1 + 1) 84 _ := (hb1.block _ (by omega)).trans r23.out; have hv1c := hv1.cell; have hv1f := hv1.frozen))
        have hBz := hB.size
        have hbs := hb1.size
        have hsn := Lib.hid (globAll_snoc hns'.out hgn.out)
        have hsa : Aside (z + 6) w1 (some (z + 1 + 1)) := fun r e => .inl (by cases e; omega)
        have hw1z : wc.heap.size + 1 ≤ w1.heap.size := by simpa using hbs
        have hgs := grownBy_setCell' w1 (z + 1 + 1) (.slice (some ⟨g1, 0, none⟩) (ys.length + 1) cap1)
        refine ⟨(((hkc.trans (KeepsOthers.alloc _ _)).trans (KeepsOthers.of_grownBy hg1 (own_cells row3.out))).trans (KeepsOthers.setCell _ _ _)).from _, ?_,
          ⟨ys ++ [(⟨x == [42, 42], stars xs⟩, .func (.func 120) #[] #[.pointer (some ⟨wc.heap.size, 0, none⟩)])], _, ⟨by rw [hsn.out]; simp [names], by have := hnl'.out; have := h5.out; simp; omega⟩, hv1.set _, ?_, ?_⟩, ?_, ?_, ?_, ?_⟩
        · intro k h1 h2
          refine (Below.heap_setCell _ _ _ k (by simp; omega)).trans ((hb1.block k (by omega)).trans ((Below.heap_alloc _ _ k (by omega)).trans (hBc.block k (by omega))))
        · exact own_names (p := ⟨x == [42, 42], stars xs⟩) (hown4.kept hgs (.inr (hv1.not_row (by decide) hown4).symm))
        · intro y hy
          rcases List.mem_append.1 hy with hy | hy
          · exact ((hall3.out y hy).kept hg1 (own_aside row3.out)).kept hgs hsa
          · simp at hy; subst hy
            exact (hHas.out.kept hg1 (own_aside row3.out)).kept hgs hsa
        · exact Boxed.other (show Boxed w1 (z + 1) 4 (.bool false) from (hb1.block _ (by omega)).trans (r1.out.alloc _)) (by omega) _
        · exact Boxed.other (show Boxed w1 z 84 (.slice none 0 0) from (hb1.block _ (by omega)).trans (r0.out.alloc _)) (by omega) _
        · exact Nat.le_trans (by omega) (KeepsOthers.setCell _ _ _).size
        · exact ((below_alloc' hBw (by omega) (.cells #[.slice (some ⟨g, 0, none⟩) xs.length cp] 107)).trans (hb1.mono (by omega))).setCell (p := ⟨z + 1 + 1, 0, none⟩) (by simp; omega) _
  case done =>
    rintro D W hD ⟨⟨ys, v, ⟨hns, h4⟩, hv, hrow, hall⟩, hr1, hr0, hzW, hB⟩ hK
    have hnl : ys.length = (cut 47 l).length := by
      have := globAll_length hns
      simpa [names] using this
    have hpos := List.length_pos_iff.2 (cut_ne_nil 47 l)
    obtain ⟨g, cap, rfl⟩ : ∃ g cap, v = .slice (some ⟨g, 0, none⟩) ys.length cap := by
      rcases hrow.2 with ⟨rfl, h0⟩ | ⟨g, cap, _, rfl, _⟩
      · omega
      · exact ⟨g, cap, rfl⟩
    have hver := globs_all' hl h4 hns
    clear hns h4 hnl hpos
    have hvc := hv.cell
    have hvf := hv.frozen
    have hr1c := hr1.cell
    have hr1f := hr1.frozen
    have hr0c := hr0.cell
    have hr0f := hr0.frozen
    have hvh := Lib.hid hver
    clear hver
    gi_wp2
    have hK' := deferred_set (deferred_set hK ⟨z, 0, none⟩ (.slice (some ⟨g, 0, none⟩) ys.length cap)) ⟨z + 1, 0, none⟩ (.bool true)
    refine ⟨by simp, .inl ⟨_, _, rfl, run_takeDeferred hK', ?_⟩⟩
    have hc0 := (boxed_shut ((hr0.set (.slice (some ⟨g, 0, none⟩) ys.length cap)).other (by omega) (.bool true)) hK').cell
    have hc1 := (boxed_shut ((hr1.other (by omega) _).set (.bool true)) hK').cell
    have hga := grownBy_setCell' W z (.slice (some ⟨g, 0, none⟩) ys.length cap)
    have hgb := grownBy_setCell' (W.setCell ⟨z, 0, none⟩ (.slice (some ⟨g, 0, none⟩) ys.length cap)) (z + 1) (.bool true)
    have h1 := hrow.kept hga (.inr (hr0.not_row (by decide) hrow).symm)
    have h2 := h1.kept hgb (.inr ((hr1.other (B' := z) (by omega) _).not_row (by decide) h1).symm)
    have h3 := (hall.kept hga (fun r e => .inl (by cases e; omega))).kept hgb (fun r e => .inl (by cases e; omega))
    have h4 := h3.kept (grownBy_putObj' _ D (.deferred none)) (fun r e => .inr (fun cs t fr hc => by cases e; rw [hK'] at hc; cases hc))
    refine ⟨.tuple #[.slice (some ⟨g, 0, none⟩) ys.length cap, .bool true], by simp [results, Tryd.f90, go_sem, hc0, hc1], by rw [hz0]; exact below_shut ((hB.setCell (p := ⟨z, 0, none⟩) (Nat.le_refl _) _).setCell (p := ⟨z + 1, 0, none⟩) (by simp) _) (by omega) (by omega), .inr ⟨ys, g, cap, hvh.out, rfl, ?_, ?_⟩⟩
    · rw [hz0]
      exact own_lower (by omega) (ownsRow_putObj h2 _ hK' rfl)
    · rw [hz0]
      exact h4.mono (by omega)
  case stop =>
    rintro D c pre W hD hpre ⟨⟨rfl, hbad⟩, hr1, hr0, hB⟩ hK
    gi_wp2
    refine ⟨by simp, .inl ⟨_, _, rfl, run_takeDeferred hK, ?_⟩⟩
    have hc0 := (boxed_shut hr0 hK).cell
    have hc1 := (boxed_shut hr1 hK).cell
    refine ⟨.tuple #[.slice none 0 0, .bool false], by simp [results, Tryd.f90, go_sem, hc0, hc1], by rw [hz0]; exact below_shut hB (by omega) (by omega), .inl ⟨hbad, _, rfl⟩⟩
theorem globNames_any (l : List UInt8) (hl : l.length ≤ 1048576) (w : World) :
    Calls Tryd.prog 90 #[.string (mkB l)] w (NamesPost l w) := by
  by_cases h : l.length ≤ 40
  · exact callsIn_wide.1 (globNames_in l h w)
  · have hlI : (40 : Int) < (l.length : Int) := by omega
    have hno := Lib.hid (globs_long (l := l) (by omega))
    go_enter Tryd.func90, Tryd.ntmps90
    go_wp2
    exact bodyPost_ret (v := .tuple #[.slice none 0 0, .bool false]) (by simp [results, Tryd.results90, go_sem]) rfl ⟨((Below.refl _ _).alloc (Nat.le_refl _) _).alloc (by simp) _, .inl ⟨hno.out, _, rfl⟩⟩
end Go.Proofs.YtjihpbioofikcaaDoor

/-
  The walk of the program's GlobOk.
-/
namespace Go.Proofs.YtjihpbioofikcaaDoor
open Go.RowKit
set_option linter.unusedVariables false
set_option linter.unusedSimpArgs false
attribute [local go_sem] mkB_size mkB_extract mkB_get mkB_toList
set_option maxHeartbeats 1000000 in
theorem GlobOk_any (l : List UInt8) (hl : l.length ≤ 1048576) (w : World) :
    Calls Tryd.prog 67 #[.string (mkB l)] w fun e w' => e = .returned (.bool (globOk l)) ∧ Below w.heap.size w w' := by
  go_enter Tryd.func67, Tryd.ntmps67
  go_wp2_with fail
  refine (globNames_any l hl _).mono ?_
  rintro e w1 ⟨hB, ⟨hbad, v, rfl⟩ | ⟨ys, g, cap, hgood, rfl, _, _⟩⟩
  · have hk : globOk l = false := by unfold globOk; rw [hbad]; rfl
    replace hbad := Lib.hid hbad
    replace hk := Lib.hid hk
    go_wp2
    go_ret
    exact ⟨ret_bool (by rw [hk.out]), hB⟩
  · have hk : globOk l = true := by unfold globOk; rw [hgood]; rfl
    replace hgood := Lib.hid hgood
    replace hk := Lib.hid hk
    go_wp2
    go_ret
    exact ⟨ret_bool (by rw [hk.out]), hB⟩
end Go.Proofs.YtjihpbioofikcaaDoor

/-
  The walk of slices.Collect over strings.SplitSeq: the pieces of a text, in a row of the call's own.
-/
namespace Go.Proofs.YtjihpbioofikcaaDoor
open Go.RowKit Go.Shelf
set_option linter.unusedVariables false
set_option linter.unusedSimpArgs false
attribute [local go_sem] Oper.semAt_some mkB_size mkB_extract mkB_get mkB_toList

/-- the pieces so far, in their box -/
def PiecesAt (B lo : Nat) (pre : List (List UInt8)) (W : World) : Prop := ∃ v : Value, Boxed W B 83 v ∧ W.ownsRow lo 9 1 v pre.length (pre.map strV)
theorem piecesAt_own (B lo : Nat) : Own (PiecesAt B lo) := by
  rintro s X Y row ⟨v, hv, hr⟩ hg hrow
  refine ⟨v, hv.kept hg (fun e => ?_), hr.kept hg ?_⟩
  · obtain ⟨o, ho, hc⟩ := hrow B e.symm
    rw [show X.heap[B]? = _ from hv] at ho; cases ho; cases hc
  · rcases hr.2 with ⟨rfl, _⟩ | ⟨g, cap, cur, rfl, _, hgb, _⟩
    · exact .inl rfl
    · refine .inr fun e' => ?_
      obtain ⟨o, ho, hc⟩ := hrow g (by rw [← e']; rfl)
      rw [hgb] at ho; cases ho; cases hc
theorem piecesAt_box (bs B lo : Nat) (hne : B ≠ bs) (hlo : bs < lo) : AtBox bs (PiecesAt B lo) := by
  rintro s W W' ⟨v, hv, hr⟩ hg
  refine ⟨v, hv.kept hg (fun e => hne (by cases e; rfl)), hr.kept hg ?_⟩
  rcases hr.2 with ⟨rfl, _⟩ | ⟨g, cap, cur, rfl, hb, _, _⟩
  · exact .inl rfl
  · refine .inr fun e' => ?_
    have : g = bs := by simpa [Value.ownBlock] using e'
    omega
set_option maxRecDepth 1000000 in
set_option maxHeartbeats 8000000 in
theorem AppendSeq_in (l : List UInt8) (hl : l.length ≤ 1048576) (q : Nat) (w : World)
    (b3 : Boxed w q 9 (.string (mkB l))) (b4 : Boxed w (q + 1) 9 (.string (mkB [47]))) (b5 : Boxed w (q + 1 + 1) 3 (.int .i64 0)) :
    CallsIn Fence.wide 4 Tryd.prog 122 #[.slice none 0 0, .func (.func 148) #[] #[.pointer (some ⟨q + 1, 0, none⟩), .pointer (some ⟨q, 0, none⟩), .pointer (some ⟨q + 1 + 1, 0, none⟩)]] w
      fun e w' => (∃ (g cap : Nat), e = .returned (.slice (some ⟨g, 0, none⟩) (cut 47 l).length cap) ∧ w'.ownsRow w.heap.size 9 1 (.slice (some ⟨g, 0, none⟩) (cut 47 l).length cap) (cut 47 l).length ((cut 47 l).map strV)) ∧ Below q w w' := by
  obtain ⟨i0, hi, hzz, hz1, hz2⟩ := info_parts info_str
  refine callsIn_of_wp_marks Tryd.func122 rfl trivial ?_ rfl
  simp only [Tryd.ntmps122, List.size_toArray, List.length_cons, List.length_nil, Nat.reduceAdd, Nat.reduceSub, Array.replicate_succ, Array.replicate_zero, List.push_toArray, List.append_toArray, List.nil_append, List.cons_append]
  gi_wp2
  obtain ⟨z, hz0⟩ : ∃ z, w.heap.size = z := ⟨_, rfl⟩
  rw [hz0]
  have hqz : q + 1 + 1 < z := by rw [← hz0]; exact b5.lt
  obtain ⟨W0, hW0⟩ : ∃ W0, w.alloc (.cells #[.slice none 0 0] 83) = W0 := ⟨_, rfl⟩
  have hz : W0.heap.size = z + 1 := by rw [← hW0]; simp [hz0]
  have b0 : Boxed W0 z 83 (.slice none 0 0) := by rw [← hW0, ← hz0]; exact Boxed.new w _ _
  have a3 : Boxed W0 q 9 (.string (mkB l)) := by rw [← hW0]; exact b3.alloc _
  have a4 : Boxed W0 (q + 1) 9 (.string (mkB [47])) := by rw [← hW0]; exact b4.alloc _
  have a5 : Boxed W0 (q + 1 + 1) 3 (.int .i64 0) := by rw [← hW0]; exact b5.alloc _
  have hB0 : Below q w W0 := by
    rw [← hW0]
    exact (Below.refl _ w).alloc (by omega) _
  rw [hW0]
  clear hW0 b3 b4 b5
  refine wpIn_range_box (n := 4) rfl (by omega) (gf := 148) (lb := #[.pointer (some ⟨q + 1, 0, none⟩), .pointer (some ⟨q, 0, none⟩), .pointer (some ⟨q + 1 + 1, 0, none⟩)]) rfl trivial (enters_of Tryd.func148 (by kernel_rfl) rfl)
    (iter_box 3 (by omega) l (by omega) 47 q W0 a3 a4 a5) (by omega) kpB_t (kpB_g (by omega))
    (fun pre W => PiecesAt z (z + 1) pre W ∧ z + 1 ≤ W.heap.size ∧ Below q w W)
    (fun c _ W => False)
    ((Own.from (piecesAt_own _ _) _).and ((ownFrom_size' _ _).and (ownFrom_below (by omega) (by omega))))
    ((piecesAt_box _ _ _ (by omega) (by omega)).and ((AtBox.size' _ _).and (AtBox.below (Nat.le_refl _) (by omega))))
    (fun c => ownFrom_pure _ _)
    ⟨⟨_, b0, ⟨rfl, .inl ⟨rfl, rfl⟩⟩⟩, by omega, hB0⟩
    (fun x => { tmps := #[.slice none 0 0, .func (.func 148) #[] #[.pointer (some ⟨q + 1, 0, none⟩), .pointer (some ⟨q, 0, none⟩), .pointer (some ⟨q + 1 + 1, 0, none⟩)], .pointer (some ⟨z, 0, none⟩), undef, .slice none 0 0, .string (mkB x),
      .func (.func 148) #[] #[.pointer (some ⟨q + 1, 0, none⟩), .pointer (some ⟨q, 0, none⟩), .pointer (some ⟨q + 1 + 1, 0, none⟩)], .string (mkB x), undef, undef, undef, undef, undef], defers := [] }) ?assign ?body ?done ?stop
  case assign =>
    intro lp x W K hK
    gi_wp2
    exact hK
  case body =>
    rintro lp pre x W hlp ⟨⟨v, hv, hrow⟩, hzW, hB⟩ hpre
    obtain ⟨pp, cap, rfl⟩ : ∃ pp cap, v = .slice pp pre.length cap := by
      rcases hrow.2 with ⟨rfl, h0⟩ | ⟨g, cap, _, rfl, _⟩
      · exact ⟨none, 0, by rw [h0]⟩
      · exact ⟨_, cap, rfl⟩
    have hpl : pre.length + 1 ≤ l.length + 1 := by
      have h1 := hpre.length_le
      have h2 := cut_sum 47 l
      simp at h1; omega
    have hvc := hv.cell
    have hvf := hv.frozen
    gi_wp2_with (gi_at_builtin; go_loud (refine wpListIn_push rfl _ _ 83 rfl (z + 1) 9 i0 (.string .empty) 1 16 Tryd.underlying83 hi hzz hz1 hz2 rfl (by decide) W _ _ _ hrow rfl [.string (mkB x)] rfl rfl (by simp [Value.oneCell']) (by simp only [maxLen]; omega) (by omega) hzW ?_; intro g1 cap1 w1 hown1 hg1 hb1 _; have hv1 : Boxed w1 z 83 _ := (hb1.block _ (by omega)).trans hv; have hv1c := hv1.cell; have hv1f := hv1.frozen))
    refine ⟨((KeepsOthers.of_grownBy hg1 (own_cells hrow)).trans (KeepsOthers.setCell _ _ _)).from _, fun k h1 h2 => (Below.heap_setCell _ _ _ k (by simp; omega)).trans (hb1.block k (by omega)),
      ⟨_, hv1.set _, ?_⟩, Nat.le_trans hzW (Nat.le_trans hg1.size (KeepsOthers.setCell _ _ _).size), (hB.trans (hb1.mono (by omega))).setCell (p := ⟨z, 0, none⟩) (by simp; omega) _⟩
    have h := hown1.kept (grownBy_setCell' w1 z (.slice (some ⟨g1, 0, none⟩) (pre.length + 1) cap1)) (.inr (hv1.not_row (by decide) hown1).symm)
    rw [List.length_append, List.map_append]
    exact h
  case done =>
    rintro D W hD ⟨⟨v, hv, hrow⟩, hzW, hB⟩ hK
    have hpos := List.length_pos_iff.2 (cut_ne_nil 47 l)
    obtain ⟨g, cap, rfl⟩ : ∃ g cap, v = .slice (some ⟨g, 0, none⟩) (cut 47 l).length cap := by
      rcases hrow.2 with ⟨rfl, h0⟩ | ⟨g, cap, _, rfl, _⟩
      · omega
      · exact ⟨g, cap, rfl⟩
    clear hpos
    have hvc := hv.cell
    have hvf := hv.frozen
    gi_wp2
    refine ⟨by simp, .inl ⟨_, _, rfl, run_takeDeferred hK, ?_⟩⟩
    refine ⟨.slice (some ⟨g, 0, none⟩) (cut 47 l).length cap, by simp [results, Tryd.f122, go_sem], ⟨g, cap, rfl, ?_⟩, below_shut hB (by omega) (by omega)⟩
    rw [hz0]
    exact own_lower (by omega) (ownsRow_putObj hrow _ hK rfl)
  case stop =>
    rintro D c pre W hD hpre h hK
    exact h.elim
def CollectPost (l : List UInt8) (q : Nat) (w : World) (e : Ending) (w' : World) : Prop :=
  (∃ (g cap : Nat), e = .returned (.slice (some ⟨g, 0, none⟩) (cut 47 l).length cap) ∧ w'.ownsRow w.heap.size 9 1 (.slice (some ⟨g, 0, none⟩) (cut 47 l).length cap) (cut 47 l).length ((cut 47 l).map strV)) ∧ Below q w w'
set_option maxHeartbeats 1000000 in
theorem Collect_any (l : List UInt8) (hl : l.length ≤ 1048576) (q : Nat) (w : World)
    (b3 : Boxed w q 9 (.string (mkB l))) (b4 : Boxed w (q + 1) 9 (.string (mkB [47]))) (b5 : Boxed w (q + 1 + 1) 3 (.int .i64 0)) :
    Calls Tryd.prog 92 #[.func (.func 148) #[] #[.pointer (some ⟨q + 1, 0, none⟩), .pointer (some ⟨q, 0, none⟩), .pointer (some ⟨q + 1 + 1, 0, none⟩)]] w (CollectPost l q w) := by
  have h := Lib.hid (callsIn_wide.1 (AppendSeq_in l hl q w b3 b4 b5))
  clear b3 b4 b5
  go_enter Tryd.func92, Tryd.ntmps92
  go_wp2_with fail
  refine h.out.mono ?_
  rintro e w1 ⟨⟨g, cap, rfl, hown⟩, hB⟩
  replace hown := Lib.hid hown
  go_wp2
  go_ret
  exact ⟨⟨g, cap, rfl, hown.out⟩, hB⟩
end Go.Proofs.YtjihpbioofikcaaDoor

