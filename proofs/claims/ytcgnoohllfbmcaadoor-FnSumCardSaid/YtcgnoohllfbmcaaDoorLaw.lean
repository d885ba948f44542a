/-
  A law of our own for a loop over an iterator that keeps its state in a variable of its own (the box of block bs): what the loop's invariant must bear besides is a store into that box.
-/
import Derived.RangeFuncNested
import Derived.RangeFuncBound
import Derived.RangeFuncCalls
import Derived.RangeFuncLeaves
import Derived.RangeFuncBox
namespace Go.Proofs.YtcgnoohllfbmcaaDoor
open Go.RowKit

/-- What is said bears growth and a turn of block bs. -/
def AtBox {β : Type} (bs : Nat) (J : β → World → Prop) : Prop := ∀ s W W', J s W → W.grownBy W' (some bs) → J s W'

theorem AtBox.and {β : Type} {bs : Nat} {I J : β → World → Prop} (h : AtBox bs I) (k : AtBox bs J) : AtBox bs (fun s W => I s W ∧ J s W) := fun s W W' hs hg => ⟨h s W W' hs.1 hg, k s W W' hs.2 hg⟩
theorem AtBox.plain {β : Type} (bs : Nat) (p : β → Prop) : AtBox bs (fun s (_ : World) => p s) := fun _ _ _ hs _ => hs
theorem AtBox.block {β : Type} {bs k : Nat} (o : β → Obj) (hne : k ≠ bs) : AtBox bs (fun s W => W.heap[k]? = some (o s)) := fun s W W' (hs : W.heap[k]? = some (o s)) hg =>
  (hg.block k (Array.getElem?_eq_some_iff.1 hs).1 (fun e => hne (by cases e; rfl))).trans hs

theorem AtBox.boxed {β : Type} {bs k : Nat} (t : TypeId) (f : β → Value) (hne : k ≠ bs) : AtBox bs (fun s W => Boxed W k t (f s)) := fun _ _ _ (hs : Boxed _ k t _) hg =>
  hs.kept hg (fun e => hne (by cases e; rfl))
theorem AtBox.below {β : Type} {bs n₀ : Nat} {w : World} (h : n₀ ≤ bs) (hz : n₀ ≤ w.heap.size) : AtBox bs (fun (_ : β) W => Below n₀ w W) := fun _ _ _ hs hg =>
  hs.grown hg (Nat.le_trans hz hs.size) (fun k e => by cases e; exact h)

/-- The iterator's contract: it hands over the elements of xs in their order, or stops where a round has said so. -/
def SeqBox {α : Type} (F : Fence) (n : Nat) (P : Program) (g : Nat) (lb : Array Value) (enc : α → Value) (bs : Nat) (Kp : World → World → Prop) (xs : List α) (w : World) : Prop :=
  ∀ (l : Nat) (J Jx : List α → World → Prop) (W : World), Kp w W → w.heap.size ≤ W.heap.size → AtBox bs J →
    (∀ pre x W1, J pre W1 → pre ++ [x] <+: xs → YieldAt F (n - 1) P l #[enc x] W1 fun e W' =>
      (e = .returned (.bool true) ∧ J (pre ++ [x]) W' ∧ Kp W1 W') ∨ (e = .returned (.bool false) ∧ Jx (pre ++ [x]) W')) →
    J [] W →
    CallsIn F n P g (#[.func (.yield l) #[] #[]] ++ lb) W fun e W' => (∃ v, e = .returned v) ∧ (J xs W' ∨ (∃ pre, pre <+: xs ∧ Jx pre W'))

/-- at the function's return: the block for the rounds' deferred calls is shut; what the boxes hold stands -/
theorem boxed_shut {W : World} {B D : Nat} {t : TypeId} {v : Value} (h : Boxed W B t v) (hK : W.heap[D]? = some (.deferred (some []))) : Boxed (W.putObj D (.deferred none)) B t v :=
  h.kept (grownBy_putObj' W D _) (fun e => by
    have e' : B = D := by injection e
    subst e'
    rw [show W.heap[B]? = _ from h] at hK; cases hK)
theorem below_shut {n₀ : Nat} {w W : World} (h : Below n₀ w W) (hz : n₀ ≤ w.heap.size) {D : Nat} (hD : n₀ ≤ D) : Below n₀ w (W.putObj D (.deferred none)) :=
  h.grown (grownBy_putObj' W D _) (Nat.le_trans hz h.size) (fun k e => by cases e; exact hD)
theorem deferred_set {W : World} {D : Nat} (hK : W.heap[D]? = some (.deferred (some []))) (a : Addr) (v : Value) : (W.setCell a v).heap[D]? = some (.deferred (some [])) :=
  (KeepsOthers.setCell W a v).same D _ hK rfl

variable {F : Fence} {n : Nat} {P : Program}

theorem wpIn_range_box {α : Type} {g : Operand} {p0 : Tmp} {assign body : Code} {Q : Exit → Act → World → Prop} {a : Act} {w : World}
    (hro : F.round = none) (h1 : 1 ≤ n) {gf : Nat} {lb : Array Value} (hg : a.eval g = .func (.func gf) #[] lb) (hFg : F.fn gf) (eg : ∀ args w, (callFunc gf args).run P w = .ok (.enter gf args) w)
    {enc : α → Value} {bs : Nat} {Kp : World → World → Prop} {xs : List α} (hseq : SeqBox F (n - 1) P gf lb enc bs Kp xs w) (hbs : bs < w.heap.size)
    (hKt : ∀ {A B C : World}, Kp A B → Kp B C → Kp A C) (hKg : ∀ (W W' : World) (row : Option Nat), W.grownBy W' row → w.heap.size ≤ W.heap.size → (∀ r, row = some r → w.heap.size ≤ r) → Kp W W')
    (I : List α → World → Prop) (Ix : Code → List α → World → Prop) (hI : OwnFrom w.heap.size I) (hIb : AtBox bs I) (hIx : ∀ c, OwnFrom w.heap.size (Ix c)) (h0 : I [] w) (a₁ : α → Act)
    (hassign : ∀ (l : Nat) (x : α) (W : World) (K : Act → World → Prop), K (a₁ x) W →
      assign.wpIn (F.inRound l) (n - 1 - 1) P (Exit.then K (fun _ _ _ => False)) { tmps := a.tmps.setIfInBounds p0 (enc x), defers := [] } W)
    (hbody : ∀ (l : Nat) (pre : List α) (x : α) (W : World), w.heap.size ≤ l → I pre W → pre ++ [x] <+: xs → body.wpIn (F.inRound l) (n - 1 - 1) P (ownPostG w.heap.size Kp I Ix (pre ++ [x]) W) (a₁ x) W)
    (hdone : ∀ (D : Nat) (W : World), w.heap.size ≤ D → I xs W → W.heap[D]? = some (.deferred (some [])) → Q .normal { a with defers := { target := .collected D, args := #[] } :: a.defers } W)
    (hstop : ∀ (D : Nat) (c : Code) (pre : List α) (W : World), w.heap.size ≤ D → pre <+: xs → Ix c pre W → W.heap[D]? = some (.deferred (some [])) → c.wpIn F n P Q { a with defers := { target := .collected D, args := #[] } :: a.defers } W) :
    (Code.rangeFunc g #[p0] assign body).wpIn F n P Q a w := by
  refine wpIn_rangeFunc fun fn hfn => ?_
  rw [hro]
  obtain ⟨rc, hrc⟩ : ∃ rc : LoopState → Option Code → Loop, rc = fun st pe => { state := st, pending := pe, fn, tmps := a.tmps, params := #[p0], assign, body, defers := w.heap.size } := ⟨_, rfl⟩
  obtain ⟨V, hV⟩ : ∃ V, (w.alloc (.deferred (some []))).alloc (.loop (rc .ready none)) = V := ⟨_, rfl⟩
  obtain ⟨L, hL⟩ : ∃ L, L = w.heap.size + 1 := ⟨_, rfl⟩
  have vL : V.heap[L]? = some (.loop (rc .ready none)) := by
    rw [← hV, hL]; have := World.alloc_heap_new (w.alloc (.deferred (some []))) (.loop (rc .ready none)); rwa [World.size_alloc] at this
  have vD : V.heap[w.heap.size]? = some (.deferred (some [])) := by
    rw [← hV]; exact (Below.heap_alloc _ _ _ (by simp)).trans (World.alloc_heap_new w _)
  have vI : I [] V := by rw [← hV]; exact hI.alloc _ (hI.alloc _ h0)
  have vz : V.heap.size = w.heap.size + 2 := by rw [← hV]; simp
  have vK : Kp w V := by
    rw [← hV]
    exact hKt (hKg _ _ none (World.grownBy_alloc _ _ _) (Nat.le_refl _) (fun r e => by cases e)) (hKg _ _ none (World.grownBy_alloc _ _ _) (by simp) (fun r e => by cases e))
  have hput : ∀ (W : World) (o : Obj), w.heap.size ≤ W.heap.size → Kp W (W.putObj L o) := fun W o hz => hKg _ _ (some L) (grownBy_putObj' W L o) hz (fun r e => by cases e; omega)
  refine ⟨L, [{ target := .collected w.heap.size, args := #[] }], V, { target := .fn (.func gf) lb, args := #[.func (.yield L) #[] #[]] }, V, gf,
    #[.func (.yield L) #[] #[]] ++ lb, V, ?_, ?_, ?_, ?_, fun _ => h1, ?_⟩
  · rw [← hV, hrc, hL]; exact run_enterLoop_outer _ _ _ _ _
  · simp only [resolve, hg]
    simp [go_sem]
  · intro f' hf'; simp [Target.leads] at hf'; subst hf'; exact hFg
  · simp [invoke, go_sem, eg]
  refine (hseq L (fun pre W => I pre W ∧ W.heap[L]? = some (.loop (rc .ready none)) ∧ W.heap[w.heap.size]? = some (.deferred (some [])))
    (fun pre W => ∃ c, Ix c pre W ∧ W.heap[L]? = some (.loop (rc .done (some c))) ∧ W.heap[w.heap.size]? = some (.deferred (some [])))
    V vK (by omega) (hIb.and ((AtBox.block _ (by omega)).and (AtBox.block _ (by omega)))) ?_ ⟨vI, vL, vD⟩).mono ?_
  · rintro pre x W ⟨hi, hl, hd⟩ hpre
    have hlt : L < W.heap.size := (Array.getElem?_eq_some_iff.1 hl).1
    have hy : (Instr.yield L #[enc x]).run P W = .ok (.round L fn (a.tmps.setIfInBounds p0 (enc x)) assign body) W := by
      have h := run_yield (P := P) (args := #[enc x]) hl (by rw [hrc]; rfl)
      rw [hrc] at h
      simpa using h
    refine ⟨fn, _, assign, body, hy, roundIn_of_wpIn hfn (hassign _ x W _ ⟨_, run_beginRound hl (by rw [hrc]), ?_⟩)⟩
    have hl2 : (W.putObj L (.loop { rc .ready none with state := .busy })).heap[L]? = some (.loop { rc .ready none with state := .busy }) := World.putObj_heap_same hlt
    have hd2 : (W.putObj L (.loop { rc .ready none with state := .busy })).heap[w.heap.size]? = some (.deferred (some [])) := (World.putObj_heap_other (by omega)).trans hd
    refine wpIn_mono (hbody _ pre x _ (by omega) (hI.putObj _ hi (by omega) hl rfl) hpre) ?_
    have fin : ∀ (jump : Option Code) (Z : World), KeepsFrom w.heap.size (W.putObj L (.loop { rc .ready none with state := .busy })) Z →
        (Instr.endRound L jump).run P Z = .ok (.bool jump.isNone) (Z.putObj L (.loop (rc (if jump.isNone then .ready else .done) jump))) ∧
        Z.heap[L]? = some (.loop { rc .ready none with state := .busy }) ∧
        (Z.putObj L (.loop (rc (if jump.isNone then .ready else .done) jump))).heap[L]? = some (.loop (rc (if jump.isNone then .ready else .done) jump)) ∧
        (Z.putObj L (.loop (rc (if jump.isNone then .ready else .done) jump))).heap[w.heap.size]? = some (.deferred (some [])) := fun jump Z hz => by
      have hl3 := hz.same _ _ (by omega) hl2 rfl
      have hr := run_endRound (P := P) jump hl3
      rw [hrc] at hr ⊢
      exact ⟨hr, by rw [hrc] at hl3; exact hl3, World.putObj_heap_same (Array.getElem?_eq_some_iff.1 hl3).1, (World.putObj_heap_other (by omega)).trans (hz.same _ _ (Nat.le_refl _) hd2 rfl)⟩
    have hz0 : w.heap.size ≤ W.heap.size := by omega
    rintro e b Z hp
    cases e with
    | normal =>
      obtain ⟨hk, hkp, hi3⟩ := hp
      obtain ⟨hr, hl3, hl4, hd4⟩ := fin none Z hk
      have hz1 : w.heap.size ≤ Z.heap.size := by have := hk.size; simp at this; omega
      exact ⟨_, _, hr, .inl ⟨rfl, ⟨hI.putObj _ hi3 (by omega) hl3 rfl, hl4, hd4⟩, hKt (hKt (hput W _ hz0) hkp) (hput Z _ hz1)⟩⟩
    | ret =>
      obtain ⟨hk, hi3⟩ := hp
      obtain ⟨hr, hl3, hl4, hd4⟩ := fin (some .ret) Z hk
      exact ⟨_, _, hr, .inr ⟨rfl, .ret, (hIx _).putObj _ hi3 (by omega) hl3 rfl, hl4, hd4⟩⟩
    | exit id =>
      obtain ⟨hk, hi3⟩ := hp
      obtain ⟨hr, hl3, hl4, hd4⟩ := fin (some (.exit id)) Z hk
      exact ⟨_, _, hr, .inr ⟨rfl, .exit id, (hIx _).putObj _ hi3 (by omega) hl3 rfl, hl4, hd4⟩⟩
    | goto t =>
      obtain ⟨hk, hi3⟩ := hp
      obtain ⟨hr, hl3, hl4, hd4⟩ := fin (some (.goto t)) Z hk
      exact ⟨_, _, hr, .inr ⟨rfl, .goto t, (hIx _).putObj _ hi3 (by omega) hl3 rfl, hl4, hd4⟩⟩
    | panic ch => exact hp.elim
    | outgrown => exact hp.elim
  · rintro e Z ⟨⟨v, rfl⟩, (⟨hi, hl, hd⟩ | ⟨pre, hp, c, hi, hl, hd⟩)⟩
    · exact ⟨none, _, by have h := run_endLoop (P := P) hl (by rw [hrc]; simp); rw [hrc] at h; exact h, hdone _ _ (Nat.le_refl _) (hI.putObj _ hi (by omega) hl rfl) ((World.putObj_heap_other (by omega)).trans hd)⟩
    · exact ⟨some c, _, by have h := run_endLoop (P := P) hl (by rw [hrc]; simp); rw [hrc] at h; exact h, hstop _ c pre _ (Nat.le_refl _) hp ((hIx c).putObj _ hi (by omega) hl rfl) ((World.putObj_heap_other (by omega)).trans hd)⟩

end Go.Proofs.YtcgnoohllfbmcaaDoor
