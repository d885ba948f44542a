/-
  Plain, Law, Push, Split, Basic, HasP, Leaf, IterS: merged.
-/
import Derived.RangeFuncNested
import Derived.RangeFuncBound
import Derived.RangeFuncCalls
import Derived.RangeFuncLeaves
import Derived.RangeFuncBox
import Derived.Maps.AppendAt
import Derived.Laws.OwnMore
import Derived.Laws.Rows
import Derived.WalkKit
import Derived.OwnWalkIn
import Derived.Test.YtiknkjhdieepbaaDoorProg
import Derived.Shelf.Abstract
import Derived.Shelf.RegionOpen
import Derived.TacticsInMore
import Derived.LoopNIn
import Derived.LoopIn
import Derived.Lib.Hide
import Derived.Lib.Bytealg
import Derived.Lib.IndexLaws
import Derived.Lib.IndexBytes
import Derived.BigCall
import Derived.Laws.Strings3
import Derived.Lib.SmallJoins
/-
  Plain functions on lists of bytes, and their laws: names, paths, cuts at a byte. No program in sight.
-/
namespace Go.Proofs.YtiknkjhdieepbaaDoor

/-! ### cutting at a byte -/
def cutGo (b : UInt8) (acc : List UInt8) : List UInt8 → List (List UInt8)
  | [] => [acc]
  | c :: r => if c = b then acc :: cutGo b [] r else cutGo b (acc ++ [c]) r
def cut (b : UInt8) (l : List UInt8) : List (List UInt8) := cutGo b [] l

theorem cutGo_app (b : UInt8) (f : List UInt8) : ∀ (acc r : List UInt8), b ∉ f → cutGo b acc (f ++ r) = cutGo b (acc ++ f) r := by
  induction f with
  | nil => intro acc r _; simp
  | cons c f ih =>
    intro acc r h
    have hc : ¬ c = b := fun e => h (by simp [e])
    have hf : b ∉ f := fun e => h (by simp [e])
    simp only [List.cons_append, cutGo, if_neg hc]
    rw [ih _ _ hf]; simp
theorem cut_none {b : UInt8} {f : List UInt8} (h : b ∉ f) : cut b f = [f] := by
  have := cutGo_app b f [] [] h
  simpa [cut, cutGo] using this
theorem cut_cons {b : UInt8} {f r : List UInt8} (h : b ∉ f) : cut b (f ++ b :: r) = f :: cut b r := by
  unfold cut
  rw [cutGo_app b f [] _ h]
  simp [cutGo]
theorem cutGo_ne_nil (b : UInt8) : ∀ (l acc : List UInt8), cutGo b acc l ≠ [] := by
  intro l
  induction l with
  | nil => intro acc; simp [cutGo]
  | cons c r ih => intro acc; unfold cutGo; split; · simp
                   · exact ih _
theorem cut_ne_nil (b : UInt8) (l : List UInt8) : cut b l ≠ [] := cutGo_ne_nil b l []
theorem cut_nil (b : UInt8) : cut b [] = [[]] := rfl

/-- a text is its head up to the first b, and what stands behind it -/
theorem split_first (b : UInt8) (l : List UInt8) : b ∉ l ∨ ∃ f r, b ∉ f ∧ l = f ++ b :: r := by
  induction l with
  | nil => left; simp
  | cons c l ih =>
    by_cases hc : c = b
    · right; exact ⟨[], l, by simp, by simp [hc]⟩
    · rcases ih with h | ⟨f, r, hf, rfl⟩
      · left
        intro hm
        rcases List.mem_cons.1 hm with e | e
        · exact hc e.symm
        · exact h e
      · right
        refine ⟨c :: f, r, ?_, by simp⟩
        intro hm
        rcases List.mem_cons.1 hm with e | e
        · exact hc e.symm
        · exact hf e
/-- induction along the cuts -/
theorem cut_induction (b : UInt8) {p : List UInt8 → Prop} (hn : ∀ l, b ∉ l → p l) (hc : ∀ f r, b ∉ f → p r → p (f ++ b :: r)) : ∀ l, p l := by
  intro l
  have key : ∀ (n : Nat) (l : List UInt8), l.length ≤ n → p l := by
    intro n
    induction n with
    | zero =>
      intro l hl
      have : l = [] := List.eq_nil_of_length_eq_zero (by omega)
      subst this; exact hn _ (by simp)
    | succ n ih =>
      intro l hl
      rcases split_first b l with h | ⟨f, r, hf, rfl⟩
      · exact hn _ h
      · exact hc f r hf (ih r (by simp at hl; omega))
  exact key l.length l (Nat.le_refl _)

theorem cut_append (b : UInt8) (l r : List UInt8) : cut b (l ++ b :: r) = cut b l ++ cut b r := by
  revert r
  refine cut_induction b (p := fun l => ∀ r, cut b (l ++ b :: r) = cut b l ++ cut b r) ?_ ?_ l
  · intro l h r
    rw [cut_cons h, cut_none h]; rfl
  · intro f r' hf ih r
    rw [List.append_assoc, List.cons_append, cut_cons hf, ih r, cut_cons hf]; rfl
theorem cut_no_b (b : UInt8) (l : List UInt8) : ∀ x ∈ cut b l, b ∉ x := by
  refine cut_induction b (p := fun l => ∀ x ∈ cut b l, b ∉ x) ?_ ?_ l
  · intro l h x hx
    rw [cut_none h] at hx
    simp at hx; subst hx; exact h
  · intro f r hf ih x hx
    rw [cut_cons hf] at hx
    rcases List.mem_cons.1 hx with e | e
    · subst e; exact hf
    · exact ih x e
theorem cut_length (b : UInt8) (l : List UInt8) : (cut b l).length = l.count b + 1 := by
  refine cut_induction b (p := fun l => (cut b l).length = l.count b + 1) ?_ ?_ l
  · intro l h
    rw [cut_none h, List.count_eq_zero_of_not_mem h]; rfl
  · intro f r hf ih
    rw [cut_cons hf, List.count_append, List.count_eq_zero_of_not_mem hf]
    simp [ih]
/-- the lengths of the pieces, and of the marks between -/
theorem cut_sum (b : UInt8) (l : List UInt8) : ((cut b l).map List.length).sum + (cut b l).length = l.length + 1 := by
  refine cut_induction b (p := fun l => ((cut b l).map List.length).sum + (cut b l).length = l.length + 1) ?_ ?_ l
  · intro l h
    rw [cut_none h]; simp
  · intro f r hf ih
    rw [cut_cons hf]
    simp
    omega
theorem cut_mem_length {b : UInt8} {l x : List UInt8} (h : x ∈ cut b l) : x.length ≤ l.length := by
  revert h
  refine cut_induction b (p := fun l => ∀ x, x ∈ cut b l → x.length ≤ l.length) ?_ ?_ l x
  · intro l h x hx
    rw [cut_none h] at hx; simp at hx; subst hx; exact Nat.le_refl _
  · intro f r hf ih x hx
    rw [cut_cons hf] at hx
    rcases List.mem_cons.1 hx with e | e
    · subst e; simp
    · have := ih x e; simp; omega

/-! ### names and paths -/
def nb (c : UInt8) : Bool := decide (97 ≤ c.toNat ∧ c.toNat ≤ 122 ∨ 48 ≤ c.toNat ∧ c.toNat ≤ 57 ∨ c.toNat = 46 ∨ c.toNat = 95 ∨ c.toNat = 45)
def nbI (c : Int) : Bool := decide (97 ≤ c ∧ c ≤ 122 ∨ 48 ≤ c ∧ c ≤ 57 ∨ c = 46 ∨ c = 95 ∨ c = 45)
theorem nbI_eq (c : UInt8) : nbI (c.toNat : Int) = nb c := by
  unfold nbI nb
  rw [Bool.eq_iff_iff]; simp only [decide_eq_true_eq]; omega
def nameBytes (l : List UInt8) : Bool := l.all nb && !l.isEmpty
def nameOk (l : List UInt8) : Bool := decide (l.length ≤ 10) && l != [46] && l != [46, 46] && nameBytes l
def pathOk (l : List UInt8) : Bool := (cut 47 l).all nameOk && decide ((cut 47 l).length ≤ 5)

theorem nameOk_len {l : List UInt8} (h : nameOk l = true) : 1 ≤ l.length ∧ l.length ≤ 10 := by
  simp only [nameOk, nameBytes, Bool.and_eq_true, decide_eq_true_eq] at h
  obtain ⟨⟨⟨h1, _⟩, _⟩, _, h4⟩ := h
  refine ⟨?_, h1⟩
  cases l with
  | nil => simp at h4
  | cons => simp
theorem sum_le {k : Nat} : ∀ (l : List (List UInt8)), (∀ x ∈ l, x.length ≤ k) → (l.map List.length).sum ≤ l.length * k := by
  intro l
  induction l with
  | nil => simp
  | cons x l ih =>
    intro h
    have h1 := h x (by simp)
    have h2 := ih (fun y hy => h y (by simp [hy]))
    simp only [List.map_cons, List.sum_cons, List.length_cons, Nat.succ_mul]
    omega
theorem pathOk_len {l : List UInt8} (h : pathOk l = true) : 1 ≤ l.length ∧ l.length ≤ 54 := by
  simp only [pathOk, Bool.and_eq_true, decide_eq_true_eq, List.all_eq_true] at h
  have h2 := cut_sum 47 l
  have h3 := sum_le (k := 10) (cut 47 l) (fun x hx => (nameOk_len (h.1 x hx)).2)
  have h4 : (cut 47 l).length * 10 ≤ 50 := by have := h.2; omega
  refine ⟨?_, by omega⟩
  cases l with
  | nil =>
    have := nameOk_len (h.1 [] (by simp [cut_nil]))
    simp at this
  | cons => simp
theorem not_nb_slash : nb 47 = false := by decide

/-! ### the last mark -/
def lastL (l : List UInt8) : List UInt8 := (l.reverse.takeWhile (· != 47)).reverse
def upL (l : List UInt8) : List UInt8 := ((l.reverse.dropWhile (· != 47)).drop 1).reverse

theorem takeWhile_app {p : UInt8 → Bool} : ∀ (f r : List UInt8), (∀ x ∈ f, p x = true) → (f ++ r).takeWhile p = f ++ r.takeWhile p := by
  intro f
  induction f with
  | nil => simp
  | cons c f ih =>
    intro r h
    simp only [List.cons_append, List.takeWhile_cons]
    rw [if_pos (h c (by simp)), ih r (fun x hx => h x (by simp [hx]))]
theorem dropWhile_app {p : UInt8 → Bool} : ∀ (f r : List UInt8), (∀ x ∈ f, p x = true) → (f ++ r).dropWhile p = r.dropWhile p := by
  intro f
  induction f with
  | nil => simp
  | cons c f ih =>
    intro r h
    simp only [List.cons_append, List.dropWhile_cons]
    rw [if_pos (h c (by simp)), ih r (fun x hx => h x (by simp [hx]))]
theorem ne_of_not_mem {f : List UInt8} (h : (47 : UInt8) ∉ f) : ∀ x ∈ f.reverse, (x != 47) = true := fun x hx => by
  simp only [bne_iff_ne]
  rintro rfl
  exact h (by simpa using hx)
theorem lastL_none {l : List UInt8} (h : (47 : UInt8) ∉ l) : lastL l = l := by
  unfold lastL
  have := takeWhile_app (p := (· != 47)) l.reverse [] (ne_of_not_mem h)
  simp only [List.append_nil] at this
  rw [this]; simp
theorem upL_none {l : List UInt8} (h : (47 : UInt8) ∉ l) : upL l = [] := by
  unfold upL
  have := dropWhile_app (p := (· != 47)) l.reverse [] (ne_of_not_mem h)
  simp only [List.append_nil] at this
  rw [this]; simp
theorem lastL_at {a c : List UInt8} (h : (47 : UInt8) ∉ c) : lastL (a ++ 47 :: c) = c := by
  unfold lastL
  rw [List.reverse_append, List.reverse_cons, List.append_assoc, takeWhile_app _ _ (ne_of_not_mem h)]
  simp
theorem upL_at {a c : List UInt8} (h : (47 : UInt8) ∉ c) : upL (a ++ 47 :: c) = a := by
  unfold upL
  rw [List.reverse_append, List.reverse_cons, List.append_assoc, dropWhile_app _ _ (ne_of_not_mem h)]
  simp
theorem split_last (b : UInt8) (l : List UInt8) : b ∉ l ∨ ∃ a c, b ∉ c ∧ l = a ++ b :: c := by
  rcases split_first b l.reverse with h | ⟨f, r, hf, h⟩
  · left; simpa using h
  · right
    refine ⟨r.reverse, f.reverse, by simpa using hf, ?_⟩
    have := congrArg List.reverse h
    simpa using this
theorem cut_up (l : List UInt8) (h : (47 : UInt8) ∈ l) : cut 47 l = cut 47 (upL l) ++ [lastL l] := by
  rcases split_last 47 l with h' | ⟨a, c, hc, rfl⟩
  · exact absurd h h'
  · rw [upL_at hc, lastL_at hc, cut_append, cut_none hc]
theorem last_of_cut (l : List UInt8) : (cut 47 l).getLast? = some (lastL l) := by
  rcases split_last 47 l with h' | ⟨a, c, hc, rfl⟩
  · rw [cut_none h', lastL_none h']; rfl
  · rw [lastL_at hc, cut_append, cut_none hc]; simp

/-! ### places -/
def below (p s : List UInt8) : Bool := s == p || (p ++ [47]).isPrefixOf s
def pathIn (p s : List UInt8) : Bool := pathOk p && pathOk s && below p s
def pathMove (s f t : List UInt8) : List UInt8 := if pathIn f s && pathOk t && pathOk (t ++ s.drop f.length) then t ++ s.drop f.length else []
def pathUp (s : List UInt8) : List UInt8 := if pathOk s then upL s else []
def pathLast (s : List UInt8) : List UInt8 := if pathOk s then lastL s else []

theorem below_iff {p s : List UInt8} : below p s = true ↔ s = p ∨ ∃ r, s = p ++ 47 :: r := by
  unfold below
  simp only [Bool.or_eq_true, beq_iff_eq, List.isPrefixOf_iff_prefix]
  constructor
  · rintro (h | ⟨r, h⟩)
    · exact .inl h
    · exact .inr ⟨r, by rw [← h]; simp⟩
  · rintro (h | ⟨r, h⟩)
    · exact .inl h
    · exact .inr ⟨r, by rw [h]; simp⟩
theorem below_refl (p : List UInt8) : below p p = true := below_iff.2 (.inl rfl)
theorem below_trans {p q s : List UInt8} (h : below p q = true) (k : below q s = true) : below p s = true := by
  rw [below_iff] at *
  rcases h with rfl | ⟨r, rfl⟩
  · exact k
  · rcases k with rfl | ⟨r', rfl⟩
    · exact .inr ⟨r, rfl⟩
    · exact .inr ⟨r ++ 47 :: r', by simp⟩

end Go.Proofs.YtiknkjhdieepbaaDoor

/-
  A law of our own for a loop over an iterator that keeps its state in a variable of its own (the box of block bs): what the loop's invariant must bear besides is a store into that box.
-/
namespace Go.Proofs.YtiknkjhdieepbaaDoor
open Go.RowKit

/-- What is said bears growth and a turn of block bs. -/
def AtBox {β : Type} (bs : Nat) (J : β → World → Prop) : Prop := ∀ s W W', J s W → W.grownBy W' (some bs) → J s W'

theorem AtBox.and {β : Type} {bs : Nat} {I J : β → World → Prop} (h : AtBox bs I) (k : AtBox bs J) : AtBox bs (fun s W => I s W ∧ J s W) := fun s W W' hs hg => ⟨h s W W' hs.1 hg, k s W W' hs.2 hg⟩
theorem AtBox.plain {β : Type} (bs : Nat) (p : β → Prop) : AtBox bs (fun s (_ : World) => p s) := fun _ _ _ hs _ => hs
theorem AtBox.block {β : Type} {bs k : Nat} (o : β → Obj) (hne : k ≠ bs) : AtBox bs (fun s W => W.heap[k]? = some (o s)) := fun s W W' (hs : W.heap[k]? = some (o s)) hg =>
  (hg.block k (Array.getElem?_eq_some_iff.1 hs).1 (fun e => hne (by cases e; rfl))).trans hs

theorem AtBox.boxed {β : Type} {bs k : Nat} (t : TypeId) (f : β → Value) (hne : k ≠ bs) : AtBox bs (fun s W => Boxed W k t (f s)) := fun _ _ _ (hs : Boxed _ k t _) hg =>
  hs.kept hg (fun e => hne (by cases e; rfl))
theorem AtBox.below {β : Type} {bs n₀ : Nat} {w : World} (h : n₀ ≤ bs) (hz : n₀ ≤ w.heap.size) : AtBox bs (fun (_ : β) W => Below n₀ w W) := fun _ _ _ hs hg =>
  hs.grown hg (Nat.le_trans hz hs.size) (fun k e => by cases e; exact h)

/-- The iterator's contract: it hands over the elements of xs in their order, or stops where a round has said so. -/
def SeqBox {α : Type} (F : Fence) (n : Nat) (P : Program) (g : Nat) (lb : Array Value) (enc : α → Value) (bs : Nat) (Kp : World → World → Prop) (xs : List α) (w : World) : Prop :=
  ∀ (l : Nat) (J Jx : List α → World → Prop) (W : World), Kp w W → w.heap.size ≤ W.heap.size → AtBox bs J →
    (∀ pre x W1, J pre W1 → pre ++ [x] <+: xs → YieldAt F (n - 1) P l #[enc x] W1 fun e W' =>
      (e = .returned (.bool true) ∧ J (pre ++ [x]) W' ∧ Kp W1 W') ∨ (e = .returned (.bool false) ∧ Jx (pre ++ [x]) W')) →
    J [] W →
    CallsIn F n P g (#[.func (.yield l) #[] #[]] ++ lb) W fun e W' => (∃ v, e = .returned v) ∧ (J xs W' ∨ (∃ pre, pre <+: xs ∧ Jx pre W'))

/-- at the function's return: the block for the rounds' deferred calls is shut; what the boxes hold stands -/
theorem boxed_shut {W : World} {B D : Nat} {t : TypeId} {v : Value} (h : Boxed W B t v) (hK : W.heap[D]? = some (.deferred (some []))) : Boxed (W.putObj D (.deferred none)) B t v :=
  h.kept (grownBy_putObj' W D _) (fun e => by
    have e' : B = D := by injection e
    subst e'
    rw [show W.heap[B]? = _ from h] at hK; cases hK)
theorem below_shut {n₀ : Nat} {w W : World} (h : Below n₀ w W) (hz : n₀ ≤ w.heap.size) {D : Nat} (hD : n₀ ≤ D) : Below n₀ w (W.putObj D (.deferred none)) :=
  h.grown (grownBy_putObj' W D _) (Nat.le_trans hz h.size) (fun k e => by cases e; exact hD)
theorem deferred_set {W : World} {D : Nat} (hK : W.heap[D]? = some (.deferred (some []))) (a : Addr) (v : Value) : (W.setCell a v).heap[D]? = some (.deferred (some [])) :=
  (KeepsOthers.setCell W a v).same D _ hK rfl

variable {F : Fence} {n : Nat} {P : Program}

theorem wpIn_range_box {α : Type} {g : Operand} {p0 : Tmp} {assign body : Code} {Q : Exit → Act → World → Prop} {a : Act} {w : World}
    (hro : F.round = none) (h1 : 1 ≤ n) {gf : Nat} {lb : Array Value} (hg : a.eval g = .func (.func gf) #[] lb) (hFg : F.fn gf) (eg : ∀ args w, (callFunc gf args).run P w = .ok (.enter gf args) w)
    {enc : α → Value} {bs : Nat} {Kp : World → World → Prop} {xs : List α} (hseq : SeqBox F (n - 1) P gf lb enc bs Kp xs w) (hbs : bs < w.heap.size)
    (hKt : ∀ {A B C : World}, Kp A B → Kp B C → Kp A C) (hKg : ∀ (W W' : World) (row : Option Nat), W.grownBy W' row → w.heap.size ≤ W.heap.size → (∀ r, row = some r → w.heap.size ≤ r) → Kp W W')
    (I : List α → World → Prop) (Ix : Code → List α → World → Prop) (hI : OwnFrom w.heap.size I) (hIb : AtBox bs I) (hIx : ∀ c, OwnFrom w.heap.size (Ix c)) (h0 : I [] w) (a₁ : α → Act)
    (hassign : ∀ (l : Nat) (x : α) (W : World) (K : Act → World → Prop), K (a₁ x) W →
      assign.wpIn (F.inRound l) (n - 1 - 1) P (Exit.then K (fun _ _ _ => False)) { tmps := a.tmps.setIfInBounds p0 (enc x), defers := [] } W)
    (hbody : ∀ (l : Nat) (pre : List α) (x : α) (W : World), w.heap.size ≤ l → I pre W → pre ++ [x] <+: xs → body.wpIn (F.inRound l) (n - 1 - 1) P (ownPostG w.heap.size Kp I Ix (pre ++ [x]) W) (a₁ x) W)
    (hdone : ∀ (D : Nat) (W : World), w.heap.size ≤ D → I xs W → W.heap[D]? = some (.deferred (some [])) → Q .normal { a with defers := { target := .collected D, args := #[] } :: a.defers } W)
    (hstop : ∀ (D : Nat) (c : Code) (pre : List α) (W : World), w.heap.size ≤ D → pre <+: xs → Ix c pre W → W.heap[D]? = some (.deferred (some [])) → c.wpIn F n P Q { a with defers := { target := .collected D, args := #[] } :: a.defers } W) :
    (Code.rangeFunc g #[p0] assign body).wpIn F n P Q a w := by
  refine wpIn_rangeFunc fun fn hfn => ?_
  rw [hro]
  obtain ⟨rc, hrc⟩ : ∃ rc : LoopState → Option Code → Loop, rc = fun st pe => { state := st, pending := pe, fn, tmps := a.tmps, params := #[p0], assign, body, defers := w.heap.size } := ⟨_, rfl⟩
  obtain ⟨V, hV⟩ : ∃ V, (w.alloc (.deferred (some []))).alloc (.loop (rc .ready none)) = V := ⟨_, rfl⟩
  obtain ⟨L, hL⟩ : ∃ L, L = w.heap.size + 1 := ⟨_, rfl⟩
  have vL : V.heap[L]? = some (.loop (rc .ready none)) := by
    rw [← hV, hL]; have := World.alloc_heap_new (w.alloc (.deferred (some []))) (.loop (rc .ready none)); rwa [World.size_alloc] at this
  have vD : V.heap[w.heap.size]? = some (.deferred (some [])) := by
    rw [← hV]; exact (Below.heap_alloc _ _ _ (by simp)).trans (World.alloc_heap_new w _)
  have vI : I [] V := by rw [← hV]; exact hI.alloc _ (hI.alloc _ h0)
  have vz : V.heap.size = w.heap.size + 2 := by rw [← hV]; simp
  have vK : Kp w V := by
    rw [← hV]
    exact hKt (hKg _ _ none (World.grownBy_alloc _ _ _) (Nat.le_refl _) (fun r e => by cases e)) (hKg _ _ none (World.grownBy_alloc _ _ _) (by simp) (fun r e => by cases e))
  have hput : ∀ (W : World) (o : Obj), w.heap.size ≤ W.heap.size → Kp W (W.putObj L o) := fun W o hz => hKg _ _ (some L) (grownBy_putObj' W L o) hz (fun r e => by cases e; omega)
  refine ⟨L, [{ target := .collected w.heap.size, args := #[] }], V, { target := .fn (.func gf) lb, args := #[.func (.yield L) #[] #[]] }, V, gf,
    #[.func (.yield L) #[] #[]] ++ lb, V, ?_, ?_, ?_, ?_, fun _ => h1, ?_⟩
  · rw [← hV, hrc, hL]; exact run_enterLoop_outer _ _ _ _ _
  · simp only [resolve, hg]
    simp [go_sem]
  · intro f' hf'; simp [Target.leads] at hf'; subst hf'; exact hFg
  · simp [invoke, go_sem, eg]
  refine (hseq L (fun pre W => I pre W ∧ W.heap[L]? = some (.loop (rc .ready none)) ∧ W.heap[w.heap.size]? = some (.deferred (some [])))
    (fun pre W => ∃ c, Ix c pre W ∧ W.heap[L]? = some (.loop (rc .done (some c))) ∧ W.heap[w.heap.size]? = some (.deferred (some [])))
    V vK (by omega) (hIb.and ((AtBox.block _ (by omega)).and (AtBox.block _ (by omega)))) ?_ ⟨vI, vL, vD⟩).mono ?_
  · rintro pre x W ⟨hi, hl, hd⟩ hpre
    have hlt : L < W.heap.size := (Array.getElem?_eq_some_iff.1 hl).1
    have hy : (Instr.yield L #[enc x]).run P W = .ok (.round L fn (a.tmps.setIfInBounds p0 (enc x)) assign body) W := by
      have h := run_yield (P := P) (args := #[enc x]) hl (by rw [hrc]; rfl)
      rw [hrc] at h
      simpa using h
    refine ⟨fn, _, assign, body, hy, roundIn_of_wpIn hfn (hassign _ x W _ ⟨_, run_beginRound hl (by rw [hrc]), ?_⟩)⟩
    have hl2 : (W.putObj L (.loop { rc .ready none with state := .busy })).heap[L]? = some (.loop { rc .ready none with state := .busy }) := World.putObj_heap_same hlt
    have hd2 : (W.putObj L (.loop { rc .ready none with state := .busy })).heap[w.heap.size]? = some (.deferred (some [])) := (World.putObj_heap_other (by omega)).trans hd
    refine wpIn_mono (hbody _ pre x _ (by omega) (hI.putObj _ hi (by omega) hl rfl) hpre) ?_
    have fin : ∀ (jump : Option Code) (Z : World), KeepsFrom w.heap.size (W.putObj L (.loop { rc .ready none with state := .busy })) Z →
        (Instr.endRound L jump).run P Z = .ok (.bool jump.isNone) (Z.putObj L (.loop (rc (if jump.isNone then .ready else .done) jump))) ∧
        Z.heap[L]? = some (.loop { rc .ready none with state := .busy }) ∧
        (Z.putObj L (.loop (rc (if jump.isNone then .ready else .done) jump))).heap[L]? = some (.loop (rc (if jump.isNone then .ready else .done) jump)) ∧
        (Z.putObj L (.loop (rc (if jump.isNone then .ready else .done) jump))).heap[w.heap.size]? = some (.deferred (some [])) := fun jump Z hz => by
      have hl3 := hz.same _ _ (by omega) hl2 rfl
      have hr := run_endRound (P := P) jump hl3
      rw [hrc] at hr ⊢
      exact ⟨hr, by rw [hrc] at hl3; exact hl3, World.putObj_heap_same (Array.getElem?_eq_some_iff.1 hl3).1, (World.putObj_heap_other (by omega)).trans (hz.same _ _ (Nat.le_refl _) hd2 rfl)⟩
    have hz0 : w.heap.size ≤ W.heap.size := by omega
    rintro e b Z hp
    cases e with
    | normal =>
      obtain ⟨hk, hkp, hi3⟩ := hp
      obtain ⟨hr, hl3, hl4, hd4⟩ := fin none Z hk
      have hz1 : w.heap.size ≤ Z.heap.size := by have := hk.size; simp at this; omega
      exact ⟨_, _, hr, .inl ⟨rfl, ⟨hI.putObj _ hi3 (by omega) hl3 rfl, hl4, hd4⟩, hKt (hKt (hput W _ hz0) hkp) (hput Z _ hz1)⟩⟩
    | ret =>
      obtain ⟨hk, hi3⟩ := hp
      obtain ⟨hr, hl3, hl4, hd4⟩ := fin (some .ret) Z hk
      exact ⟨_, _, hr, .inr ⟨rfl, .ret, (hIx _).putObj _ hi3 (by omega) hl3 rfl, hl4, hd4⟩⟩
    | exit id =>
      obtain ⟨hk, hi3⟩ := hp
      obtain ⟨hr, hl3, hl4, hd4⟩ := fin (some (.exit id)) Z hk
      exact ⟨_, _, hr, .inr ⟨rfl, .exit id, (hIx _).putObj _ hi3 (by omega) hl3 rfl, hl4, hd4⟩⟩
    | goto t =>
      obtain ⟨hk, hi3⟩ := hp
      obtain ⟨hr, hl3, hl4, hd4⟩ := fin (some (.goto t)) Z hk
      exact ⟨_, _, hr, .inr ⟨rfl, .goto t, (hIx _).putObj _ hi3 (by omega) hl3 rfl, hl4, hd4⟩⟩
    | panic ch => exact hp.elim
    | outgrown => exact hp.elim
  · rintro e Z ⟨⟨v, rfl⟩, (⟨hi, hl, hd⟩ | ⟨pre, hp, c, hi, hl, hd⟩)⟩
    · exact ⟨none, _, by have h := run_endLoop (P := P) hl (by rw [hrc]; simp); rw [hrc] at h; exact h, hdone _ _ (Nat.le_refl _) (hI.putObj _ hi (by omega) hl rfl) ((World.putObj_heap_other (by omega)).trans hd)⟩
    · exact ⟨some c, _, by have h := run_endLoop (P := P) hl (by rw [hrc]; simp); rw [hrc] at h; exact h, hstop _ c pre _ (Nat.le_refl _) hp ((hIx c).putObj _ hi (by omega) hl rfl) ((World.putObj_heap_other (by omega)).trans hd)⟩

end Go.Proofs.YtiknkjhdieepbaaDoor

/-
  An append of one element to a row of the call's own, as one law of the walk.
-/
namespace Go.Proofs.YtiknkjhdieepbaaDoor
open Go.RowKit
variable {P : Program}

theorem add_of_head (g j : Nat) : (⟨g, 0, none⟩ : Addr).add j = ⟨g, j, none⟩ := by
  unfold Addr.add
  split
  · rename_i h; subst h; rfl
  · simp

/-- 'out = append(out, x)': one element more on a row of the call's own. -/
theorem wpList_push {ops : Array Oper} {rest : List Oper} {o : Oper} {a : Act} {Q : Exit → Act → World → Prop} (hgd : o.guard = none) (s x : Operand) (t : TypeId)
    (ho : o.op = .call { callee := .builtin .append, args := #[s, x], argTypes := #[t, t] })
    (base : Nat) (e : TypeId) (i : TypeInfo) (z : Value) (size bytes : Nat) (ht : P.underlying t = some (.slice e)) (hi : P.info? e = some i) (hz : i.zero = some z)
    (hsize : i.size = size) (hby : i.bytes = bytes) (hzs : z.cells.size = size) (hsz : 0 < size)
    (w : World) (v : Value) (k : Nat) (xs : List Value) (hown : w.ownsRow base e size v k xs) (hs : a.eval s = v)
    (news : List Value) (hx : a.eval x = .slice (some ⟨w.heap.size, 0, none⟩) 1 1) (hl : news.length = size) (h1 : ∀ u ∈ news, u.oneCell' = true)
    (h63 : k + 1 ≤ maxLen) (hbytes : (k + 1) * bytes ≤ 140737488355328) (hbase : base ≤ w.heap.size)
    (h : ∀ g cap w1, w1.ownsRow base e size (.slice (some ⟨g, 0, none⟩) (k + 1) cap) (k + 1) (xs ++ news) → w.grownBy w1 v.ownBlock → Below base w w1 →
      (v.ownBlock = some g ∨ w.heap.size ≤ g) → wpList P ops Q rest (a.put o.dst (.slice (some ⟨g, 0, none⟩) (k + 1) cap)) w1) :
    wpList P ops Q (o :: rest) a (w.alloc (.cells news.toArray e)) := by
  have hcells : ∀ j u, news[j]? = some u → (w.alloc (.cells news.toArray e)).cell? ((⟨w.heap.size, 0, none⟩ : Addr).add j) = some u := fun j u hu => by
    rw [add_of_head, cell_of_row _ _ _ _ _ _ (World.alloc_heap_new w (.cells news.toArray e))]
    simpa using hu
  refine wpList_plain hgd fun _ hK => ?_
  obtain ⟨v', w1, hrun, hown', hgrow, hnil, hat⟩ := run_append_own_at (P := P) (w.alloc (.cells news.toArray e)) base t o.type e i z size bytes ht hi hz hsize hby hzs hsz v k xs (hown.alloc _) ⟨w.heap.size, 0, none⟩ 1 1 news (by omega) hcells h1 h63 hbytes (by simp; omega)
  obtain ⟨g, cap, rfl⟩ := ownsRow_succ hown'
  unfold Oper.wp execOp
  simp only [ho, resolve, invoke, builtin, Sem.run_bind, Sem.run_pure, Result.andThen_ok, List.map_toArray, List.map_cons, List.map_nil, hs, hx, hrun]
  have hg : w.grownBy w1 v.ownBlock := ⟨hgrow.os.trans rfl, hgrow.tape.trans rfl, hgrow.output.trans rfl, by have := hgrow.size; simp at this; omega, fun j hj hne => (hgrow.block j (by simp; omega) hne).trans (Below.heap_alloc w _ j hj)⟩
  refine hK _ _ (h g cap w1 hown' hg ((Below.refl base w).grown hg hbase (fun j e => (hown.lt j e).1)) ?_)
  rcases hat with ea | ea
  · exact .inl (by rw [← ea]; rfl)
  · right
    have : g = (w.alloc (.cells news.toArray e)).heap.size := by simpa [Value.ownBlock] using ea
    rw [this]; simp

/-- the same in a fence -/
theorem wpListIn_push {F : Fence} {n : Nat} {ops : Array Oper} {rest : List Oper} {o : Oper} {a : Act} {Q : Exit → Act → World → Prop} (hgd : o.guard = none) (s x : Operand) (t : TypeId)
    (ho : o.op = .call { callee := .builtin .append, args := #[s, x], argTypes := #[t, t] })
    (base : Nat) (e : TypeId) (i : TypeInfo) (z : Value) (size bytes : Nat) (ht : P.underlying t = some (.slice e)) (hi : P.info? e = some i) (hz : i.zero = some z)
    (hsize : i.size = size) (hby : i.bytes = bytes) (hzs : z.cells.size = size) (hsz : 0 < size)
    (w : World) (v : Value) (k : Nat) (xs : List Value) (hown : w.ownsRow base e size v k xs) (hs : a.eval s = v)
    (news : List Value) (hx : a.eval x = .slice (some ⟨w.heap.size, 0, none⟩) 1 1) (hl : news.length = size) (h1 : ∀ u ∈ news, u.oneCell' = true)
    (h63 : k + 1 ≤ maxLen) (hbytes : (k + 1) * bytes ≤ 140737488355328) (hbase : base ≤ w.heap.size)
    (h : ∀ g cap w1, w1.ownsRow base e size (.slice (some ⟨g, 0, none⟩) (k + 1) cap) (k + 1) (xs ++ news) → w.grownBy w1 v.ownBlock → Below base w w1 →
      (v.ownBlock = some g ∨ w.heap.size ≤ g) → wpListIn F n P ops Q rest (a.put o.dst (.slice (some ⟨g, 0, none⟩) (k + 1) cap)) w1) :
    wpListIn F n P ops Q (o :: rest) a (w.alloc (.cells news.toArray e)) := by
  have hcells : ∀ j u, news[j]? = some u → (w.alloc (.cells news.toArray e)).cell? ((⟨w.heap.size, 0, none⟩ : Addr).add j) = some u := fun j u hu => by
    rw [add_of_head, cell_of_row _ _ _ _ _ _ (World.alloc_heap_new w (.cells news.toArray e))]
    simpa using hu
  refine wpListIn_plain hgd fun _ hK => ?_
  obtain ⟨v', w1, hrun, hown', hgrow, hnil, hat⟩ := run_append_own_at (P := P) (w.alloc (.cells news.toArray e)) base t o.type e i z size bytes ht hi hz hsize hby hzs hsz v k xs (hown.alloc _) ⟨w.heap.size, 0, none⟩ 1 1 news (by omega) hcells h1 h63 hbytes (by simp; omega)
  obtain ⟨g, cap, rfl⟩ := ownsRow_succ hown'
  unfold Oper.wpIn
  refine ⟨by simp [Oper.about, ho, resolve, Target.leads, Sem.run_pure], ?_⟩
  rw [Oper.semAt_plain F _ _ (by rw [ho]; intro c hc'; cases hc')]
  unfold execOp
  simp only [ho, resolve, invoke, builtin, Sem.run_bind, Sem.run_pure, Result.andThen_ok, List.map_toArray, List.map_cons, List.map_nil, hs, hx, hrun]
  have hg : w.grownBy w1 v.ownBlock := ⟨hgrow.os.trans rfl, hgrow.tape.trans rfl, hgrow.output.trans rfl, by have := hgrow.size; simp at this; omega, fun j hj hne => (hgrow.block j (by simp; omega) hne).trans (Below.heap_alloc w _ j hj)⟩
  refine hK _ _ (h g cap w1 hown' hg ((Below.refl base w).grown hg hbase (fun j e => (hown.lt j e).1)) ?_)
  rcases hat with ea | ea
  · exact .inl (by rw [← ea]; rfl)
  · right
    have : g = (w.alloc (.cells news.toArray e)).heap.size := by simpa [Value.ownBlock] using ea
    rw [this]; simp

end Go.Proofs.YtiknkjhdieepbaaDoor

/-
  The walk of strings.Index at a text of one byte, and of the iterator of strings.SplitSeq at a separator of one byte: it hands over the pieces of the text, in their order.
-/
namespace Go.Proofs.YtiknkjhdieepbaaDoor
open Go.RowKit Go.Shelf
attribute [local go_sem] Oper.semAt_some

/-! ### endings -/
theorem ret_bool {a b : Bool} (h : a = b) : Ending.returned (.bool a) = .returned (.bool b) := by rw [h]
theorem ret_int {k : IntKind} {a b : Int} (h : a = b) : Ending.returned (.int k a) = .returned (.int k b) := by rw [h]
theorem ret_str {a b : ByteArray} (h : a = b) : Ending.returned (.string a) = .returned (.string b) := by rw [h]

/-! ### texts -/
def mkB (l : List UInt8) : ByteArray := ⟨l.toArray⟩
theorem mkB_size (l : List UInt8) : (mkB l).size = l.length := by simp [mkB, ByteArray.size]
theorem mkB_data (l : List UInt8) : (mkB l).data.toList = l := by simp [mkB]
theorem mkB_toList (l : List UInt8) : (mkB l).toList = l := by rw [Lib.toList_data, mkB_data]
theorem mkB_self (s : ByteArray) : mkB s.data.toList = s := by cases s; simp [mkB]
theorem mkB_extract (l : List UInt8) (a b : Nat) : (mkB l).extract a b = mkB ((l.drop a).take (b - a)) := by
  rw [← mkB_self ((mkB l).extract a b), Lib.extract_data, mkB_data]
theorem mkB_one : (mkB [47]) = { data := #[47] } := rfl
theorem take_left_len (f r : List UInt8) : (f ++ r).take f.length = f := List.take_left
theorem drop_left_len (f r : List UInt8) (c : UInt8) : (f ++ c :: r).drop (f.length + 1) = r := by
  rw [show f ++ c :: r = (f ++ [c]) ++ r by simp]
  rw [show f.length + 1 = (f ++ [c]).length by simp]
  exact List.drop_left

theorem indexByte_of_none {l : List UInt8} {c : UInt8} (h : c ∉ l) : Lib.indexByte l c = -1 := by
  have hg := Lib.indexByte_ge l c
  rcases Int.lt_or_le (Lib.indexByte l c) 0 with hlt | hge
  · omega
  · obtain ⟨o, ho⟩ := Int.eq_ofNat_of_zero_le hge
    have := (Lib.indexByte_some ho).1
    exact absurd (List.mem_of_getElem? this) h
theorem indexByte_at {f r : List UInt8} {c : UInt8} (h : c ∉ f) : Lib.indexByte (f ++ c :: r) c = f.length := by
  induction f with
  | nil => simp [Lib.indexByte]
  | cons x f ih =>
    have hx : (x == c) = false := by
      rw [beq_eq_false_iff_ne]; rintro rfl; exact h (by simp)
    have hf := ih (fun e => h (by simp [e]))
    simp only [List.cons_append, Lib.indexByte, hx, hf]
    rw [if_neg (by decide), if_neg]
    · simp
    · simp only [beq_iff_eq]; omega

/-! ### strings.Index at one byte -/
set_option maxRecDepth 1000000 in
theorem stringslite_IndexByte (s : ByteArray) (c : Int) (w : World) :
    Calls Tryd.prog 76 #[.string s, .int .u8 c] w fun e w' => e = .returned (.int .i64 (Lib.indexByte s.data.toList c.toNat.toUInt8)) ∧ w = w' := by
  go_enter Tryd.func76, Tryd.ntmps76
  go_wp2
  rw [run_callFunc_extern Tryd.func80 (by kernel_rfl) (by kernel_rfl) (by kernel_rfl) (e := Extern.BytealgIndexByte.indexByte) (by kernel_rfl), Lib.run_indexByteString]
  simp only [Result.andThen]
  rw [Oper.upon_value]
  go_wp2
  go_ret
  exact ⟨rfl, rfl⟩

theorem stringslite_Index_one (s : ByteArray) (c : UInt8) (w : World) :
    Calls Tryd.prog 75 #[.string s, .string (mkB [c])] w fun e w' => e = .returned (.int .i64 (Lib.indexByte s.data.toList c)) ∧ w = w' := by
  unfold mkB
  go_enter Tryd.func75, Tryd.ntmps75
  go_wp2_with (go_at_call 76; refine (stringslite_IndexByte _ _ _).mono ?_; rintro e w' ⟨rfl, rfl⟩)
  · have h : ([c] == s.toList) = true := by assumption
    go_ret
    refine ⟨ret_int ?_, rfl⟩
    rw [← Lib.toList_data, ← eq_of_beq h]
    simp [Lib.indexByte]
  · go_ret
    refine ⟨ret_int ?_, rfl⟩
    rfl

theorem strings_Index_one (s : ByteArray) (c : UInt8) (w : World) :
    Calls Tryd.prog 72 #[.string s, .string (mkB [c])] w fun e w' => e = .returned (.int .i64 (Lib.indexByte s.data.toList c)) ∧ w = w' := by
  go_enter Tryd.func72, Tryd.ntmps72
  go_wp2_with (go_at_call 75; refine (stringslite_Index_one _ _ _).mono ?_; rintro e w' ⟨rfl, rfl⟩)
  go_ret
  exact ⟨rfl, rfl⟩
theorem index_none (l : List UInt8) (c : UInt8) (h : c ∉ l) (w : World) :
    Calls Tryd.prog 72 #[.string (mkB l), .string (mkB [c])] w fun e w' => e = .returned (.int .i64 (-1)) ∧ w = w' := by
  refine (strings_Index_one _ _ _).mono ?_
  rintro e w' ⟨rfl, rfl⟩
  rw [mkB_data, indexByte_of_none h]
  exact ⟨rfl, rfl⟩
theorem index_at (f r : List UInt8) (c : UInt8) (h : c ∉ f) (w : World) :
    Calls Tryd.prog 72 #[.string (mkB (f ++ c :: r)), .string (mkB [c])] w fun e w' => e = .returned (.int .i64 f.length) ∧ w = w' := by
  refine (strings_Index_one _ _ _).mono ?_
  rintro e w' ⟨rfl, rfl⟩
  rw [mkB_data, indexByte_at h]
  exact ⟨rfl, rfl⟩


/-! ### the iterator -/
attribute [local go_sem] mkB_size mkB_extract take_left_len drop_left_len
def KpB (bs : Nat) (W W' : World) : Prop := ∀ k, bs ≤ k → k ≤ bs + 2 → W'.heap[k]? = W.heap[k]?
theorem kpB_t {bs : Nat} {A B C : World} (h : KpB bs A B) (k : KpB bs B C) : KpB bs A C := fun i h1 h2 => (k i h1 h2).trans (h i h1 h2)
theorem kpB_g {bs : Nat} {w : World} (hz : bs + 2 < w.heap.size) (W W' : World) (row : Option Nat) (hg : W.grownBy W' row) (hW : w.heap.size ≤ W.heap.size) (hr : ∀ r, row = some r → w.heap.size ≤ r) : KpB bs W W' :=
  fun i _ h2 => hg.block i (by omega) (fun e => by have := hr i e.symm; omega)
theorem KpB.boxed {bs : Nat} {W W' : World} (h : KpB bs W W') {k : Nat} {t : TypeId} {v : Value} (h1 : bs ≤ k) (h2 : k ≤ bs + 2) (hb : Boxed W k t v) : Boxed W' k t v := (h k h1 h2).trans hb
/-- how much of the text is left -/
def leftOf (bs : Nat) (w : World) : Nat := match w.cell? ⟨bs, 0, none⟩ with
  | some (.string s) => s.size
  | _ => 0
theorem leftOf_eq {bs : Nat} {w : World} {t : TypeId} {l : List UInt8} (h : Boxed w bs t (.string (mkB l))) : leftOf bs w = l.length := by
  unfold leftOf; rw [h.cell]; simp [mkB_size]

set_option maxRecDepth 1000000 in
set_option maxHeartbeats 1000000 in
theorem iter_box (n : Nat) (hn : 1 ≤ n) (l : List UInt8) (hl : l.length ≤ 140737488355328) (c : UInt8) (bs : Nat) (w : World)
    (hs : Boxed w bs 9 (.string (mkB l))) (hp : Boxed w (bs + 1) 9 (.string (mkB [c]))) (hz : Boxed w (bs + 1 + 1) 3 (.int .i64 0)) :
    SeqBox Fence.wide n Tryd.prog 70 #[.pointer (some ⟨bs + 1, 0, none⟩), .pointer (some ⟨bs, 0, none⟩), .pointer (some ⟨bs + 1 + 1, 0, none⟩)] (fun x => .string (mkB x)) bs (KpB bs) (cut c l) w := by
  intro lp J Jx W hW hzW hJ hY h0
  dsimp only at hY
  have hl0 := Lib.hid hl
  clear hl
  replace hs : Boxed W bs 9 (.string (mkB l)) := hW.boxed (Nat.le_refl _) (by omega) hs
  replace hp : Boxed W (bs + 1) 9 (.string (mkB [c])) := hW.boxed (by omega) (by omega) hp
  replace hz : Boxed W (bs + 1 + 1) 3 (.int .i64 0) := hW.boxed (by omega) (by omega) hz
  clear hW hzW
  have hpc := hp.cell
  have hsc := hs.cell
  refine callsIn_of_wp Tryd.func70 rfl trivial ?_ rfl
  simp only [Tryd.ntmps70, List.size_toArray, List.length_cons, List.length_nil, Nat.reduceAdd, Nat.reduceSub, Array.replicate_succ, Array.replicate_zero, List.push_toArray, List.append_toArray, List.nil_append, List.cons_append]
  gi_wp2
  gi_loopw [7] (fun _ wr => ∃ (pre : List (List UInt8)) (rest : List UInt8), cut c l = pre ++ cut c rest ∧ rest.length ≤ l.length ∧ Boxed wr bs 9 (.string (mkB rest)) ∧ Boxed wr (bs + 1) 9 (.string (mkB [c])) ∧ Boxed wr (bs + 1 + 1) 3 (.int .i64 0) ∧ J pre wr)
    (fun _ wr => leftOf bs wr)
  case atStart => exact ⟨[], l, rfl, Nat.le_refl _, hs, hp, hz, h0⟩
  case round =>
    clear hpc hsc hs hp hz h0
    obtain ⟨pre, rest, hcut, hlen, hs, hp, hz, hJs⟩ := hrel
    have hcut' := Lib.hid hcut
    clear hcut
    have hsc := hs.cell
    have hpc := hp.cell
    have hzc := hz.cell
    have hsf := hs.frozen
    rcases split_first c rest with hno | ⟨f, r, hf, rfl⟩
    · obtain ⟨fn, tmps, assign, body, hy, hR⟩ := hY pre rest wr hJs (by rw [hcut'.out, cut_none hno]; exact List.prefix_refl _)
      clear hY
      gi_wp2_with (refine ⟨trivial, ?_⟩; gi_at_call 72; refine (callsIn_wide.2 (index_none _ _ hno _)).mono ?_; rintro e w' ⟨rfl, rfl⟩)
      refine hR.mono ?_
      rintro e W' (⟨rfl, hJ', hk⟩ | ⟨rfl, hJx'⟩)
      all_goals gi_wp2
      all_goals go_end0
      · exact ⟨⟨_, rfl⟩, .inl (by rw [hcut'.out, cut_none hno]; exact hJ')⟩
      · exact ⟨⟨_, rfl⟩, .inr ⟨_, by rw [hcut'.out, cut_none hno]; exact List.prefix_refl _, hJx'⟩⟩
    · have hcc : cut c (f ++ c :: r) = f :: cut c r := cut_cons hf
      obtain ⟨fn, tmps, assign, body, hy, hR⟩ := hY pre f wr hJs (by rw [hcut'.out, hcc]; exact ⟨cut c r, by simp⟩)
      clear hY
      have hcc' := Lib.hid hcc
      clear hcc
      have hb : f.length + r.length + 1 ≤ l.length := by simp at hlen; omega
      have hb2 := hl0.out
      clear hlen
      gi_wp2_with (refine ⟨trivial, ?_⟩; gi_at_call 72; refine (callsIn_wide.2 (index_at _ _ _ hf _)).mono ?_; rintro e w' ⟨rfl, rfl⟩)
      refine hR.mono ?_
      rintro e W' (⟨rfl, hJ', hk⟩ | ⟨rfl, hJx'⟩)
      · have hleft := Lib.hid (leftOf_eq hs)
        replace hs := hk.boxed (Nat.le_refl _) (by omega) hs
        replace hp := hk.boxed (by omega) (by omega) hp
        replace hz := hk.boxed (by omega) (by omega) hz
        have hsc := hs.cell
        have hpc := hp.cell
        have hsf := hs.frozen
        gi_wp2
        have htk : List.take (f.length + (r.length + 1) - (f.length + 1)) r = r := List.take_of_length_le (by omega)
        rw [htk]
        clear htk
        go_roundw
        case rel =>
          refine ⟨pre ++ [f], r, by rw [hcut'.out, hcc'.out]; simp, by omega, hs.set _, hp.other (by omega) _, hz.other (by omega) _, hJ _ _ _ hJ' (grownBy_setCell' _ _ _)⟩
        case measure =>
          rw [leftOf_eq (hs.set _), hleft.out]
          simp
          omega
      · gi_wp2
        refine bodyPost_ret (results_none rfl _ _ _) rfl ?_
        exact ⟨⟨_, rfl⟩, .inr ⟨_, by rw [hcut'.out, hcc'.out]; exact ⟨cut c r, by simp⟩, hJx'⟩⟩

end Go.Proofs.YtiknkjhdieepbaaDoor

/-
  Small lemmas of every walk; the walk of the reference's l1In.
-/
namespace Go.Proofs.YtiknkjhdieepbaaDoor
open Go.RowKit

theorem mkB_append (a b : List UInt8) : mkB a ++ mkB b = mkB (a ++ b) := by
  rw [← mkB_self (mkB a ++ mkB b), Joins.data_append, mkB_data, mkB_data]
theorem mkB_append_raw (a b : List UInt8) : mkB a ++ (ByteArray.mk b.toArray) = mkB (a ++ b) := mkB_append a b
theorem raw_append_mkB (a b : List UInt8) : (ByteArray.mk a.toArray) ++ mkB b = mkB (a ++ b) := mkB_append a b
theorem int_eq {k : IntKind} {a b : Int} (h : a = b) : Value.int k a = Value.int k b := by rw [h]
theorem u8_ne {a b : UInt8} (h : ¬ a = b) : ((a.toNat : Int) == (b.toNat : Int)) = false := by
  rw [beq_eq_false_iff_ne]; intro e; exact h (UInt8.toNat_inj.1 (by omega))
theorem u8_is {a b : UInt8} (h : a = b) : ((a.toNat : Int) == (b.toNat : Int)) = true := by rw [h]; simp
theorem boolOf (b : Bool) : Hid (b = false) ∨ Hid (b = true) := by
  cases b
  · exact .inl rfl
  · exact .inr rfl
theorem take_snoc (s : ByteArray) (k : Nat) (h : k < s.size) : s.data.toList.take (k + 1) = s.data.toList.take k ++ [s[k]] := by
  rw [List.take_succ_eq_append_getElem (by simpa using h)]; rfl
theorem all_snoc (p : UInt8 → Bool) (s : ByteArray) (k : Nat) (h : k < s.size) (ha : (s.data.toList.take k).all p = true) (hc : p s[k] = true) : (s.data.toList.take (k + 1)).all p = true := by
  rw [take_snoc s k h, List.all_append, ha]; simp [hc]
theorem all_not (p : UInt8 → Bool) (s : ByteArray) (k : Nat) (h : k < s.size) (hc : p s[k] = false) : s.data.toList.all p = false := by
  rw [← List.take_append_drop (k + 1) s.data.toList, take_snoc s k h]; simp [hc]
theorem take_all (s : ByteArray) (k : Nat) (h : s.size ≤ k) : s.data.toList.take k = s.data.toList := List.take_of_length_le (by rw [← Lib.size_eq]; exact h)

def inI (n lo hi : Int) : Bool := decide (lo ≤ n) && decide (n ≤ hi)
theorem l1In_any (n lo hi : Int) (w : World) :
    Calls Tryd.prog 53 #[.int .i64 n, .int .i64 lo, .int .i64 hi] w fun e w' => e = .returned (.bool (inI n lo hi)) ∧ w = w' := by
  go_enter Tryd.func53, Tryd.ntmps53
  go_wp2
  all_goals go_ret
  all_goals refine ⟨ret_bool ?_, rfl⟩
  all_goals (unfold inI; rw [Bool.eq_iff_iff]; first | (simp; done) | (simp; omega))

end Go.Proofs.YtiknkjhdieepbaaDoor

/-
  The walk of strings.HasPrefix.
-/
namespace Go.Proofs.YtiknkjhdieepbaaDoor
open Go.RowKit
set_option linter.unusedVariables false
theorem hp_get (l : List UInt8) (k : Nat) (h : k < (mkB l).size) : (mkB l)[k] = l[k]'(by rwa [mkB_size] at h) := rfl
attribute [local go_sem] mkB_size mkB_extract hp_get mkB_append mkB_append_raw raw_append_mkB mkB_toList

theorem isPrefixOf_take (p s : List UInt8) : (s.take p.length == p) = p.isPrefixOf s := by
  rw [Bool.eq_iff_iff, beq_iff_eq, List.isPrefixOf_iff_prefix]
  constructor
  · intro e; rw [← e]; exact List.take_prefix _ _
  · intro e; exact (List.prefix_iff_eq_take.1 e).symm
theorem isPrefixOf_long {p s : List UInt8} (h : s.length < p.length) : p.isPrefixOf s = false := by
  rw [Bool.eq_false_iff]; intro e
  have := (List.isPrefixOf_iff_prefix.1 e).length_le
  omega

end Go.Proofs.YtiknkjhdieepbaaDoor

/-
  The walks of the small functions on names: nameByte, nameBytes, nameOk; l1Small, l1Name.
-/
namespace Go.Proofs.YtiknkjhdieepbaaDoor
open Go.RowKit

theorem nameOk_short {l : List UInt8} (h : l.length ≤ 10) : nameOk l = (!l == [46] && !l == [46, 46] && nameBytes l) := by
  unfold nameOk; rw [decide_eq_true h]; rfl
theorem nameOk_long {l : List UInt8} (h : 10 < l.length) : nameOk l = false := by
  unfold nameOk; rw [decide_eq_false (by omega)]; rfl
theorem nameOk_out {l : List UInt8} (h : l.length = 0 ∨ 10 < l.length) : nameOk l = false := by
  rcases h with h | h
  · rw [List.eq_nil_of_length_eq_zero h]; rfl
  · exact nameOk_long h
theorem nameBytes_of {l : List UInt8} (h : l.all nb = true) (h1 : 1 ≤ l.length) : nameBytes l = true := by
  unfold nameBytes; rw [h]
  cases l with
  | nil => simp at h1
  | cons => rfl
theorem nameByte_int (c : Int) (h0 : 0 ≤ c) (h1 : c ≤ 255) (w : World) :
    Calls Tryd.prog 73 #[.int .u8 c] w fun e w' => e = .returned (.bool (nbI c)) ∧ w = w' := by
  go_enter Tryd.func73, Tryd.ntmps73
  go_wp2
  all_goals go_ret
  all_goals refine ⟨ret_bool ?_, rfl⟩
  all_goals (unfold nbI; rw [Bool.eq_iff_iff]; first | (simp; done) | (simp; omega))
theorem nameByte_any (c : UInt8) (w : World) :
    Calls Tryd.prog 73 #[.int .u8 (c.toNat : Int)] w fun e w' => e = .returned (.bool (nb c)) ∧ w = w' := by
  have h := nameByte_int (c.toNat : Int) (by omega) (by have := c.toNat_lt; omega) w
  rwa [nbI_eq] at h
theorem l1Small_int (c : Int) (h0 : 0 ≤ c) (h1 : c ≤ 255) (w : World) :
    Calls Tryd.prog 68 #[.int .u8 c] w fun e w' => e = .returned (.bool (nbI c)) ∧ w = w' := by
  go_enter Tryd.func68, Tryd.ntmps68
  go_wp2
  all_goals go_ret
  all_goals refine ⟨ret_bool ?_, rfl⟩
  all_goals (unfold nbI; rw [Bool.eq_iff_iff]; first | (simp; done) | (simp; omega))
theorem l1Small_any (c : UInt8) (w : World) :
    Calls Tryd.prog 68 #[.int .u8 (c.toNat : Int)] w fun e w' => e = .returned (.bool (nb c)) ∧ w = w' := by
  have h := l1Small_int (c.toNat : Int) (by omega) (by have := c.toNat_lt; omega) w
  rwa [nbI_eq] at h

set_option maxHeartbeats 1000000 in
theorem nameBytes_any (s : ByteArray) (hs : s.size ≤ 9223372036854775807) (w : World) :
    Calls Tryd.prog 65 #[.string s] w fun e w' => e = .returned (.bool (nameBytes s.data.toList)) ∧ w = w' := by
  go_enter Tryd.func65, Tryd.ntmps65
  go_wp2
  go_loop [6] (fun i => ∃ k : Nat, k ≤ s.size ∧ i = .int .i64 k ∧ Hid ((s.data.toList.take k).all nb = true)) (fun i => s.size - (intOf i).toNat)
  case atStart => exact ⟨0, Nat.zero_le _, rfl, rfl⟩
  case round =>
    obtain ⟨k, hk, rfl, hall⟩ := hrel
    by_cases hlt : k < s.size
    · rcases boolOf (nb s[k]) with hb | hb
      · go_wp2_with (go_at_call 73; refine (nameByte_any _ _).mono ?_; rintro e w' ⟨rfl, rfl⟩; rw [hb.out])
        go_ret
        refine ⟨ret_bool ?_, rfl⟩
        unfold nameBytes
        rw [all_not nb s k hlt hb.out]; rfl
      · go_wp2_with (go_at_call 73; refine (nameByte_any _ _).mono ?_; rintro e w' ⟨rfl, rfl⟩; rw [hb.out])
        go_round
        case rel => exact ⟨k + 1, by omega, by go_num, all_snoc nb s k hlt hall.out hb.out⟩
        case measure => simp [intOf]; omega
    · go_wp2
      go_ret
      refine ⟨ret_bool ?_, rfl⟩
      have h := hall.out
      rw [take_all s k (by omega)] at h
      unfold nameBytes
      rw [h]
      rw [Lib.toList_data]; rfl

set_option maxHeartbeats 1000000 in
theorem nameOk_any (s : ByteArray) (hs : s.size ≤ 9223372036854775807) (w : World) :
    Calls Tryd.prog 56 #[.string s] w fun e w' => e = .returned (.bool (nameOk s.data.toList)) ∧ w = w' := by
  go_enter Tryd.func56, Tryd.ntmps56
  go_wp2_with (go_at_call 65; refine (nameBytes_any _ hs _).mono ?_; rintro e w' ⟨rfl, rfl⟩)
  all_goals go_ret
  all_goals refine ⟨ret_bool ?_, rfl⟩
  all_goals rw [← Lib.toList_data]
  · have h : s.toList = [46] := by assumption
    rw [h]; rfl
  · have h : s.toList = [46, 46] := by assumption
    rw [h]; rfl
  · have h : (s.size : Int) ≤ 10 := by assumption
    exact (nameOk_short (by rw [Lib.toList_data, ← Lib.size_eq]; omega)).symm
  · have h : 10 < (s.size : Int) := by assumption
    exact (nameOk_long (by rw [Lib.toList_data, ← Lib.size_eq]; omega)).symm

set_option maxHeartbeats 1000000 in
theorem l1Name_any (s : ByteArray) (hs : s.size ≤ 9223372036854775807) (w : World) :
    Calls Tryd.prog 60 #[.string s] w fun e w' => e = .returned (.bool (nameOk s.data.toList)) ∧ w = w' := by
  go_enter Tryd.func60, Tryd.ntmps60
  go_wp2
  go_loop [3] (fun i => ∃ k : Nat, k ≤ s.size ∧ i = .int .i64 k ∧ Hid ((s.data.toList.take k).all nb = true)) (fun i => s.size - (intOf i).toNat)
  case atStart => exact ⟨0, Nat.zero_le _, rfl, rfl⟩
  case round =>
    obtain ⟨k, hk, rfl, hall⟩ := hrel
    by_cases hlt : k < s.size
    · rcases boolOf (nb s[k]) with hb | hb
      · go_wp2_with (go_at_call 68; refine (l1Small_any _ _).mono ?_; rintro e w' ⟨rfl, rfl⟩; rw [hb.out])
        go_ret
        refine ⟨ret_bool ?_, rfl⟩
        unfold nameOk nameBytes
        rw [all_not nb s k hlt hb.out]; simp
      · go_wp2_with (go_at_call 68; refine (l1Small_any _ _).mono ?_; rintro e w' ⟨rfl, rfl⟩; rw [hb.out])
        go_round
        case rel => exact ⟨k + 1, by omega, by go_num, all_snoc nb s k hlt hall.out hb.out⟩
        case measure => simp [intOf]; omega
    · go_wp2_with (go_at_call 53; refine (l1In_any _ _ _ _).mono ?_; rintro e w' ⟨rfl, rfl⟩)
      all_goals go_ret
      all_goals refine ⟨ret_bool ?_, rfl⟩
      all_goals rw [← Lib.toList_data]
      all_goals have hall' := hall.out
      all_goals rw [take_all s k (by omega)] at hall'
      · have h : s.toList = [46] := by assumption
        rw [h]; rfl
      · have h : inI (s.size : Int) 1 10 = true := by assumption
        simp [inI] at h
        have hz := Lib.size_eq s
        rw [nameOk_short (by rw [Lib.toList_data, ← Lib.size_eq]; omega), nameBytes_of (by rw [Lib.toList_data]; exact hall') (by rw [Lib.toList_data]; omega)]
        simp
      · have h : ¬ inI (s.size : Int) 1 10 = true := by assumption
        simp [inI] at h
        have hz := Lib.size_eq s
        refine (nameOk_out ?_).symm
        rw [Lib.toList_data]; omega
end Go.Proofs.YtiknkjhdieepbaaDoor

/-
  The walk of strings.SplitSeq: it lays three boxes.
-/
namespace Go.Proofs.YtiknkjhdieepbaaDoor
open Go.RowKit Go.Shelf
attribute [local go_sem] Oper.semAt_some

theorem splitSeq_any (s p : ByteArray) (z : Int) (w : World) :
    Calls Tryd.prog 64 #[.string s, .string p, .int .i64 z] w fun e w' =>
      e = .returned (.func (.func 70) #[] #[.pointer (some ⟨w.heap.size + 1, 0, none⟩), .pointer (some ⟨w.heap.size, 0, none⟩), .pointer (some ⟨w.heap.size + 1 + 1, 0, none⟩)]) ∧
      ((w.alloc (.cells #[.string s] 9)).alloc (.cells #[.string p] 9)).alloc (.cells #[.int .i64 z] 3) = w' := by
  go_enter Tryd.func64, Tryd.ntmps64
  go_wp2
  go_ret
  exact ⟨rfl, rfl⟩
theorem SplitSeq_any (s p : ByteArray) (w : World) :
    Calls Tryd.prog 55 #[.string s, .string p] w fun e w' =>
      e = .returned (.func (.func 70) #[] #[.pointer (some ⟨w.heap.size + 1, 0, none⟩), .pointer (some ⟨w.heap.size, 0, none⟩), .pointer (some ⟨w.heap.size + 1 + 1, 0, none⟩)]) ∧
      ((w.alloc (.cells #[.string s] 9)).alloc (.cells #[.string p] 9)).alloc (.cells #[.int .i64 0] 3) = w' := by
  go_enter Tryd.func55, Tryd.ntmps55
  go_wp2_with (go_at_call 64; refine (splitSeq_any _ _ _ _).mono ?_; rintro e w' ⟨rfl, rfl⟩)
  go_ret
  exact ⟨rfl, rfl⟩

end Go.Proofs.YtiknkjhdieepbaaDoor

