/-
  An append of one element to a row of the call's own, as one law of the walk.
-/
import Derived.RangeFuncBox
import Derived.Maps.AppendAt
import Derived.Laws.OwnMore
import Derived.Laws.Rows
import Derived.WalkKit
import Derived.OwnWalkIn
namespace Go.Proofs.YtcgnoohllfbmcaaDoor
open Go.RowKit
variable {P : Program}

theorem add_of_head (g j : Nat) : (⟨g, 0, none⟩ : Addr).add j = ⟨g, j, none⟩ := by
  unfold Addr.add
  split
  · rename_i h; subst h; rfl
  · simp

/-- 'out = append(out, x)': one element more on a row of the call's own. -/
theorem wpList_push {ops : Array Oper} {rest : List Oper} {o : Oper} {a : Act} {Q : Exit → Act → World → Prop} (hgd : o.guard = none) (s x : Operand) (t : TypeId)
    (ho : o.op = .call { callee := .builtin .append, args := #[s, x], argTypes := #[t, t] })
    (base : Nat) (e : TypeId) (i : TypeInfo) (z : Value) (size bytes : Nat) (ht : P.underlying t = some (.slice e)) (hi : P.info? e = some i) (hz : i.zero = some z)
    (hsize : i.size = size) (hby : i.bytes = bytes) (hzs : z.cells.size = size) (hsz : 0 < size)
    (w : World) (v : Value) (k : Nat) (xs : List Value) (hown : w.ownsRow base e size v k xs) (hs : a.eval s = v)
    (news : List Value) (hx : a.eval x = .slice (some ⟨w.heap.size, 0, none⟩) 1 1) (hl : news.length = size) (h1 : ∀ u ∈ news, u.oneCell' = true)
    (h63 : k + 1 ≤ maxLen) (hbytes : (k + 1) * bytes ≤ 140737488355328) (hbase : base ≤ w.heap.size)
    (h : ∀ g cap w1, w1.ownsRow base e size (.slice (some ⟨g, 0, none⟩) (k + 1) cap) (k + 1) (xs ++ news) → w.grownBy w1 v.ownBlock → Below base w w1 →
      (v.ownBlock = some g ∨ w.heap.size ≤ g) → wpList P ops Q rest (a.put o.dst (.slice (some ⟨g, 0, none⟩) (k + 1) cap)) w1) :
    wpList P ops Q (o :: rest) a (w.alloc (.cells news.toArray e)) := by
  have hcells : ∀ j u, news[j]? = some u → (w.alloc (.cells news.toArray e)).cell? ((⟨w.heap.size, 0, none⟩ : Addr).add j) = some u := fun j u hu => by
    rw [add_of_head, cell_of_row _ _ _ _ _ _ (World.alloc_heap_new w (.cells news.toArray e))]
    simpa using hu
  refine wpList_plain hgd fun _ hK => ?_
  obtain ⟨v', w1, hrun, hown', hgrow, hnil, hat⟩ := run_append_own_at (P := P) (w.alloc (.cells news.toArray e)) base t o.type e i z size bytes ht hi hz hsize hby hzs hsz v k xs (hown.alloc _) ⟨w.heap.size, 0, none⟩ 1 1 news (by omega) hcells h1 h63 hbytes (by simp; omega)
  obtain ⟨g, cap, rfl⟩ := ownsRow_succ hown'
  unfold Oper.wp execOp
  simp only [ho, resolve, invoke, builtin, Sem.run_bind, Sem.run_pure, Result.andThen_ok, List.map_toArray, List.map_cons, List.map_nil, hs, hx, hrun]
  have hg : w.grownBy w1 v.ownBlock := ⟨hgrow.os.trans rfl, hgrow.tape.trans rfl, hgrow.output.trans rfl, by have := hgrow.size; simp at this; omega, fun j hj hne => (hgrow.block j (by simp; omega) hne).trans (Below.heap_alloc w _ j hj)⟩
  refine hK _ _ (h g cap w1 hown' hg ((Below.refl base w).grown hg hbase (fun j e => (hown.lt j e).1)) ?_)
  rcases hat with ea | ea
  · exact .inl (by rw [← ea]; rfl)
  · right
    have : g = (w.alloc (.cells news.toArray e)).heap.size := by simpa [Value.ownBlock] using ea
    rw [this]; simp

/-- the same in a fence -/
theorem wpListIn_push {F : Fence} {n : Nat} {ops : Array Oper} {rest : List Oper} {o : Oper} {a : Act} {Q : Exit → Act → World → Prop} (hgd : o.guard = none) (s x : Operand) (t : TypeId)
    (ho : o.op = .call { callee := .builtin .append, args := #[s, x], argTypes := #[t, t] })
    (base : Nat) (e : TypeId) (i : TypeInfo) (z : Value) (size bytes : Nat) (ht : P.underlying t = some (.slice e)) (hi : P.info? e = some i) (hz : i.zero = some z)
    (hsize : i.size = size) (hby : i.bytes = bytes) (hzs : z.cells.size = size) (hsz : 0 < size)
    (w : World) (v : Value) (k : Nat) (xs : List Value) (hown : w.ownsRow base e size v k xs) (hs : a.eval s = v)
    (news : List Value) (hx : a.eval x = .slice (some ⟨w.heap.size, 0, none⟩) 1 1) (hl : news.length = size) (h1 : ∀ u ∈ news, u.oneCell' = true)
    (h63 : k + 1 ≤ maxLen) (hbytes : (k + 1) * bytes ≤ 140737488355328) (hbase : base ≤ w.heap.size)
    (h : ∀ g cap w1, w1.ownsRow base e size (.slice (some ⟨g, 0, none⟩) (k + 1) cap) (k + 1) (xs ++ news) → w.grownBy w1 v.ownBlock → Below base w w1 →
      (v.ownBlock = some g ∨ w.heap.size ≤ g) → wpListIn F n P ops Q rest (a.put o.dst (.slice (some ⟨g, 0, none⟩) (k + 1) cap)) w1) :
    wpListIn F n P ops Q (o :: rest) a (w.alloc (.cells news.toArray e)) := by
  have hcells : ∀ j u, news[j]? = some u → (w.alloc (.cells news.toArray e)).cell? ((⟨w.heap.size, 0, none⟩ : Addr).add j) = some u := fun j u hu => by
    rw [add_of_head, cell_of_row _ _ _ _ _ _ (World.alloc_heap_new w (.cells news.toArray e))]
    simpa using hu
  refine wpListIn_plain hgd fun _ hK => ?_
  obtain ⟨v', w1, hrun, hown', hgrow, hnil, hat⟩ := run_append_own_at (P := P) (w.alloc (.cells news.toArray e)) base t o.type e i z size bytes ht hi hz hsize hby hzs hsz v k xs (hown.alloc _) ⟨w.heap.size, 0, none⟩ 1 1 news (by omega) hcells h1 h63 hbytes (by simp; omega)
  obtain ⟨g, cap, rfl⟩ := ownsRow_succ hown'
  unfold Oper.wpIn
  refine ⟨by simp [Oper.about, ho, resolve, Target.leads, Sem.run_pure], ?_⟩
  rw [Oper.semAt_plain F _ _ (by rw [ho]; intro c hc'; cases hc')]
  unfold execOp
  simp only [ho, resolve, invoke, builtin, Sem.run_bind, Sem.run_pure, Result.andThen_ok, List.map_toArray, List.map_cons, List.map_nil, hs, hx, hrun]
  have hg : w.grownBy w1 v.ownBlock := ⟨hgrow.os.trans rfl, hgrow.tape.trans rfl, hgrow.output.trans rfl, by have := hgrow.size; simp at this; omega, fun j hj hne => (hgrow.block j (by simp; omega) hne).trans (Below.heap_alloc w _ j hj)⟩
  refine hK _ _ (h g cap w1 hown' hg ((Below.refl base w).grown hg hbase (fun j e => (hown.lt j e).1)) ?_)
  rcases hat with ea | ea
  · exact .inl (by rw [← ea]; rfl)
  · right
    have : g = (w.alloc (.cells news.toArray e)).heap.size := by simpa [Value.ownBlock] using ea
    rw [this]; simp

end Go.Proofs.YtcgnoohllfbmcaaDoor
