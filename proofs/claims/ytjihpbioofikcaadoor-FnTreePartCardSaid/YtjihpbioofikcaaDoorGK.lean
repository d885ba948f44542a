/-
  GlobC, GlobD, GlobE, GlobF: merged.
-/
import Derived.Test.YtjihpbioofikcaaDoorGJ
import Derived.Test.YtjihpbioofikcaaDoorGA
import Derived.Laws.EntriesVeiled
import Derived.Test.YtjihpbioofikcaaDoorGC
import Derived.Deep.Cut
import Derived.OrdersHeld
import Derived.Deep.RegionHeld3
/-
  The walks of the program's globClass, and of the closures that take one byte.
-/
namespace Go.Proofs.YtjihpbioofikcaaDoor
open Go.RowKit
set_option linter.unusedVariables false
set_option linter.unusedSimpArgs false
attribute [local go_sem] mkB_size mkB_extract mkB_get mkB_toList

/-! ### what takes a byte, in memory -/
/-- a function value that takes the bytes of an element -/
def TakeIs (lo : Nat) (W : World) (f : Value) : Pt → Prop
  | .star => f = .nilFunc
  | .any => f = .func (.func 143) #[] #[]
  | .lit c => ∃ B, lo ≤ B ∧ f = .func (.func 147) #[] #[.pointer (some ⟨B, 0, none⟩)] ∧ Boxed W B 5 (.int .u8 (c.toNat : Int))
  | .cls nt ms => ∃ B C, lo ≤ B ∧ lo ≤ C ∧ f = .func (.func 163) #[] #[.pointer (some ⟨B, 0, none⟩), .pointer (some ⟨C, 0, none⟩)] ∧ Boxed W B 9 (.string (mkB ms)) ∧ Boxed W C 4 (.bool nt)
theorem TakeIs.kept {lo : Nat} {W W' : World} {f : Value} {p : Pt} {row : Option Nat} (h : TakeIs lo W f p) (hg : W.grownBy W' row) (hne : ∀ B t v, lo ≤ B → Boxed W B t v → (t = 5 ∨ t = 9 ∨ t = 4) → some B ≠ row) : TakeIs lo W' f p := by
  cases p with
  | star => exact h
  | any => exact h
  | lit c =>
    obtain ⟨B, hl, hf, hb⟩ := h
    exact ⟨B, hl, hf, hb.kept hg (hne B _ _ hl hb (.inl rfl))⟩
  | cls nt ms =>
    obtain ⟨B, C, hl, hl2, hf, hb, hc⟩ := h
    exact ⟨B, C, hl, hl2, hf, hb.kept hg (hne B _ _ hl hb (.inr (.inl rfl))), hc.kept hg (hne C _ _ hl2 hc (.inr (.inr rfl)))⟩
theorem TakeIs.below {lo : Nat} {W W' : World} {f : Value} {p : Pt} (h : TakeIs lo W f p) (hB : Below W.heap.size W W') : TakeIs lo W' f p := by
  have hk : ∀ {B t v}, Boxed W B t v → Boxed W' B t v := fun hb => (hB.block _ hb.lt).trans hb
  cases p with
  | star => exact h
  | any => exact h
  | lit c =>
    obtain ⟨B, hl, hf, hb⟩ := h
    exact ⟨B, hl, hf, hk hb⟩
  | cls nt ms =>
    obtain ⟨B, C, hl, hl2, hf, hb, hc⟩ := h
    exact ⟨B, C, hl, hl2, hf, hk hb, hk hc⟩
theorem TakeIs.mono {lo lo' : Nat} {W : World} {f : Value} {p : Pt} (h : TakeIs lo W f p) (hlo : lo' ≤ lo) : TakeIs lo' W f p := by
  cases p with
  | star => exact h
  | any => exact h
  | lit c =>
    obtain ⟨B, hl, h⟩ := h
    exact ⟨B, by omega, h⟩
  | cls nt ms =>
    obtain ⟨B, C, hl, hl2, h⟩ := h
    exact ⟨B, C, by omega, by omega, h⟩

/-- a box of two cells -/
def Box2 (W : World) (B : Nat) (t : TypeId) (a b : Value) : Prop := W.heap[B]? = some (.cells #[a, b] t (0, 0))
section
variable {W W' : World} {B : Nat} {t : TypeId} {a b : Value}
theorem Box2.new (w : World) (t : TypeId) (a b : Value) : Box2 (w.alloc (.cells #[a, b] t)) w.heap.size t a b := World.alloc_heap_new w _
theorem Box2.cell0 (h : Box2 W B t a b) : W.cell? ⟨B, 0, none⟩ = some a := by rw [cell_of_row _ _ _ _ _ _ h]; rfl
theorem Box2.cell1 (h : Box2 W B t a b) : W.cell? ⟨B, 1, none⟩ = some b := by rw [cell_of_row _ _ _ _ _ _ h]; rfl
theorem Box2.frozen (h : Box2 W B t a b) (j : Nat) : W.frozen? ⟨B, j, none⟩ = false := by
  unfold Box2 at h
  simp [World.frozen?, h]
theorem Box2.lt (h : Box2 W B t a b) : B < W.heap.size := (Array.getElem?_eq_some_iff.1 h).1
theorem Box2.kept {row : Option Nat} (h : Box2 W B t a b) (hg : W.grownBy W' row) (hne : some B ≠ row) : Box2 W' B t a b := (hg.block B h.lt hne).trans h
theorem Box2.alloc (h : Box2 W B t a b) (o : Obj) : Box2 (W.alloc o) B t a b := h.kept (World.grownBy_alloc W o none) (by simp)
theorem Box2.below {n : Nat} (h : Box2 W B t a b) (hB : Below n W W') (hlt : B < n) : Box2 W' B t a b := (hB.block B hlt).trans h
theorem Box2.set0 (h : Box2 W B t a b) (v : Value) : Box2 (W.setCell ⟨B, 0, none⟩ v) B t v b := by
  unfold Box2 at h ⊢
  simp [World.setCell, Array.getElem?_modify, h]
theorem Box2.set1 (h : Box2 W B t a b) (v : Value) : Box2 (W.setCell ⟨B, 1, none⟩ v) B t a v := by
  unfold Box2 at h ⊢
  simp [World.setCell, Array.getElem?_modify, h]
end

/-! ### small library functions -/
theorem strings_IndexByte_any (l : List UInt8) (c : UInt8) (w : World) :
    Calls Tryd.prog 144 #[.string (mkB l), .int .u8 (c.toNat : Int)] w fun e w' => e = .returned (.int .i64 (Lib.indexByte l c)) ∧ w = w' := by
  go_enter Tryd.func144, Tryd.ntmps144
  go_wp2_with fail
  refine (stringslite_IndexByte _ _ _).mono ?_
  rintro e w1 ⟨rfl, rfl⟩
  rw [mkB_data, show ((c.toNat : Int)).toNat.toUInt8 = c from UInt8.toNat_inj.1 (by rw [Int.toNat_natCast]; exact Nat.mod_eq_of_lt c.toNat_lt)]
  go_wp2
  go_ret
  exact ⟨rfl, rfl⟩
theorem slCutPrefix_bang (l : List UInt8) (hl : l.length ≤ 1048576) (w : World) :
    Calls Tryd.prog 168 #[.string (mkB l), .string (mkB [33])] w fun e w' => e = .returned (.tuple #[.string (mkB (members l)), .bool (marked l)]) ∧ w = w' := by
  cases l with
  | nil =>
    go_enter Tryd.func168, Tryd.ntmps168
    go_wp2_with fail
    refine (slHasPrefix_any [] [33] (by simp) _).mono ?_
    rintro e w1 ⟨rfl, rfl⟩
    rw [show List.isPrefixOf [33] ([] : List UInt8) = false from rfl]
    go_wp2
    go_ret2
    exact ⟨rfl, rfl⟩
  | cons c r =>
    simp only [List.length_cons] at hl
    by_cases h : c = 33
    · subst h
      go_enter Tryd.func168, Tryd.ntmps168
      go_wp2_with fail
      refine (slHasPrefix_any (33 :: r) [33] (by simp; omega) _).mono ?_
      rintro e w1 ⟨rfl, rfl⟩
      rw [show List.isPrefixOf [33] (33 :: r) = true by simp [List.isPrefixOf]]
      go_wp2
      go_ret2
      exact ⟨rfl, rfl⟩
    · have hm : marked (c :: r) = false := by
        have := marked_drop (g := 0 :: c :: r) (by simp)
        have h2 : (c == 33) = false := by simpa using h
        rw [← h2]
        simpa using this
      have hmm : members (c :: r) = c :: r := by rw [members_is, hm]; rfl
      rw [hm, hmm]
      clear hm hmm
      have hp : List.isPrefixOf [33] (c :: r) = false := by simp [List.isPrefixOf]; exact fun e => h e.symm
      replace hp := Lib.hid hp
      replace h := Lib.hid h
      go_enter Tryd.func168, Tryd.ntmps168
      go_wp2_with fail
      refine (slHasPrefix_any (c :: r) [33] (by simp; omega) _).mono ?_
      rintro e w1 ⟨rfl, rfl⟩
      rw [hp.out]
      go_wp2
      go_ret2
      exact ⟨rfl, rfl⟩
theorem CutPrefix_bang (l : List UInt8) (hl : l.length ≤ 1048576) (w : World) :
    Calls Tryd.prog 162 #[.string (mkB l), .string (mkB [33])] w fun e w' => e = .returned (.tuple #[.string (mkB (members l)), .bool (marked l)]) ∧ w = w' := by
  go_enter Tryd.func162, Tryd.ntmps162
  go_wp2_with fail
  refine (slCutPrefix_bang l hl _).mono ?_
  rintro e w1 ⟨rfl, rfl⟩
  go_wp2
  go_ret2
  exact ⟨rfl, rfl⟩

/-! ### the closures -/
theorem indexByte_mem (l : List UInt8) (c : UInt8) : decide (0 ≤ Lib.indexByte l c) = l.contains c := by
  rcases split_first c l with h | ⟨f, r, hf, rfl⟩
  · rw [indexByte_of_none h]
    symm
    simpa using h
  · rw [indexByte_at hf]
    simp
theorem takeAny (c : UInt8) (w : World) :
    Calls Tryd.prog 143 #[.int .u8 (c.toNat : Int)] w (Quiet true w) := by
  go_enter Tryd.func143, Tryd.ntmps143
  go_wp2
  go_ret
  exact Quiet.same _ _
theorem takeLit (d c : UInt8) (B : Nat) (w : World) (hb : Boxed w B 5 (.int .u8 (d.toNat : Int))) :
    Calls Tryd.prog 147 #[.int .u8 (c.toNat : Int), .pointer (some ⟨B, 0, none⟩)] w (Quiet (c == d) w) := by
  have h0 := hb.cell
  have hcd : ((c.toNat : Int) == (d.toNat : Int)) = (c == d) := by
    by_cases h : c = d
    · rw [u8_is h]; simp [h]
    · rw [u8_ne h]; simp [h]
  clear hb
  go_enter Tryd.func147, Tryd.ntmps147
  go_wp2
  go_ret
  exact Quiet.same _ _
theorem takeCls (nt : Bool) (ms : List UInt8) (c : UInt8) (B C : Nat) (w : World) (hb : Boxed w B 9 (.string (mkB ms))) (hc : Boxed w C 4 (.bool nt)) :
    Calls Tryd.prog 163 #[.int .u8 (c.toNat : Int), .pointer (some ⟨B, 0, none⟩), .pointer (some ⟨C, 0, none⟩)] w (Quiet (ms.contains c != nt) w) := by
  have h0 := hb.cell
  have h1 := hc.cell
  have hib := Lib.hid (fun w => strings_IndexByte_any ms c w)
  obtain ⟨x, hx⟩ : ∃ x, Lib.indexByte ms c = x := ⟨_, rfl⟩
  have hm := indexByte_mem ms c
  rw [hx] at hib hm
  rw [← hm]
  clear hb hc hx hm
  go_enter Tryd.func163, Tryd.ntmps163
  go_wp2_with fail
  go_quiet ((go_at_call 144; exact quiet_eqG (hib.out _)))
  go_wp2
  go_ret
  exact ⟨rfl, _, rfl⟩
theorem Boxed.drewN {W : World} {B : Nat} {t : TypeId} {v : Value} (h : Boxed W B t v) (n : Nat) : Boxed (W.drewN n) B t v := h

/-! ### globClass -/
def ClassPost (b : List UInt8) (w : World) (e : Ending) (w' : World) : Prop :=
  Below w.heap.size w w' ∧ ((nameBytes (members b) = false ∧ ∃ v, e = .returned (.tuple #[v, .bool false]) ∧ v = .agg #[.bool false, .nilFunc]) ∨
    (nameBytes (members b) = true ∧ ∃ f, e = .returned (.tuple #[.agg #[.bool false, f], .bool true]) ∧ TakeIs w.heap.size w' f (.cls (marked b) (members b))))
set_option maxRecDepth 1000000 in
set_option maxHeartbeats 2000000 in
theorem globClass_any (b : List UInt8) (hl : b.length ≤ 1048576) (w : World) :
    Calls Tryd.prog 145 #[.string (mkB b)] w (ClassPost b w) := by
  have hml : (mkB (members b)).size ≤ 9223372036854775807 := by
    rw [mkB_size, members_is]
    split
    · simp; omega
    · omega
  go_enter Tryd.func145, Tryd.ntmps145
  go_wp2_with fail
  refine (CutPrefix_bang b hl _).mono ?_
  rintro e w1 ⟨rfl, rfl⟩
  go_wp2_with fail
  obtain ⟨z, hz⟩ : ∃ z, w.heap.size = z := ⟨_, rfl⟩
  rw [hz]
  obtain ⟨W0, hW0⟩ : ∃ W0, ((w.alloc (.cells #[.bool false, .nilFunc] 129)).alloc (.cells #[.string (mkB (members b))] 9)).alloc (.cells #[.bool (marked b)] 4) = W0 := ⟨_, rfl⟩
  have b0 : Box2 W0 z 129 (.bool false) .nilFunc := by
    rw [← hW0, ← hz]
    exact ((Box2.new w _ _ _).alloc _).alloc _
  have b1 : Boxed W0 (z + 1) 9 (.string (mkB (members b))) := by
    rw [← hW0, ← hz]
    have h := Boxed.new (w.alloc (.cells #[.bool false, .nilFunc] 129)) 9 (.string (mkB (members b)))
    simp only [World.size_alloc] at h
    exact h.alloc _
  have b2 : Boxed W0 (z + 1 + 1) 4 (.bool (marked b)) := by
    rw [← hW0, ← hz]
    have h := Boxed.new ((w.alloc (.cells #[.bool false, .nilFunc] 129)).alloc (.cells #[.string (mkB (members b))] 9)) 4 (.bool (marked b))
    simp only [World.size_alloc] at h
    exact h
  have hB0 : Below z w W0 := by
    rw [← hW0, ← hz]
    exact (((Below.refl _ w).alloc (Nat.le_refl _) _).alloc (by simp) _).alloc (by simp; omega) _
  rw [hW0]
  clear hW0
  refine (nameBytes_any _ hml _).mono ?_
  rintro e w1 ⟨rfl, rfl⟩
  rw [mkB_data]
  have c0 := b0.cell0
  have c1 := b0.cell1
  have f0 := b0.frozen 0
  have f1 := b0.frozen 1
  have hP : ∀ u v, Box2 ((W0.setCell ⟨z, 0, none⟩ u).setCell ⟨z, 1, none⟩ v) z 129 u v := fun u v => (b0.set0 u).set1 v
  have hBP : ∀ u v, Below z w ((W0.setCell ⟨z, 0, none⟩ u).setCell ⟨z, 1, none⟩ v) := fun u v => (hB0.setCell (p := ⟨z, 0, none⟩) (Nat.le_refl _) _).setCell (p := ⟨z, 1, none⟩) (Nat.le_refl _) _
  replace hP := Lib.hid hP
  replace hBP := Lib.hid hBP
  replace b0 := Lib.hid b0
  replace b1 := Lib.hid b1
  replace b2 := Lib.hid b2
  replace hz := Lib.hid hz
  rcases boolOf (nameBytes (members b)) with hb | hb
  · rw [hb.out]
    go_wp2
    have p0 := (hP.out (.bool false) .nilFunc).cell0
    have p1 := (hP.out (.bool false) .nilFunc).cell1
    refine bodyPost_ret (v := .tuple #[.agg #[.bool false, .nilFunc], .bool false]) (by simp [results, Tryd.results145, go_sem, p0, p1]) rfl ⟨by rw [hz.out]; exact hBP.out _ _, .inl ⟨hb.out, _, rfl, rfl⟩⟩
  · rw [hb.out]
    go_wp2
    have p0 := (hP.out (.bool false) (.func (.func 163) #[] #[.pointer (some ⟨z + 1, 0, none⟩), .pointer (some ⟨z + 1 + 1, 0, none⟩)])).cell0
    have p1 := (hP.out (.bool false) (.func (.func 163) #[] #[.pointer (some ⟨z + 1, 0, none⟩), .pointer (some ⟨z + 1 + 1, 0, none⟩)])).cell1
    refine bodyPost_ret (v := .tuple #[.agg #[.bool false, .func (.func 163) #[] #[.pointer (some ⟨z + 1, 0, none⟩), .pointer (some ⟨z + 1 + 1, 0, none⟩)]], .bool true]) (by simp [results, Tryd.results145, go_sem, p0, p1]) rfl ⟨by rw [hz.out]; exact hBP.out _ _, .inr ⟨hb.out, _, rfl, z + 1, z + 1 + 1, by rw [hz.out]; omega, by rw [hz.out]; omega, rfl, ?_, ?_⟩⟩
    · exact (b1.out.kept (grown_set _ z 0 _) (by simp)).kept (grown_set _ z 1 _) (by simp)
    · exact (b2.out.kept (grown_set _ z 0 _) (by simp; omega)).kept (grown_set _ z 1 _) (by simp; omega)
end Go.Proofs.YtjihpbioofikcaaDoor

/-
  The walk of the program's globParts.
-/
namespace Go.Proofs.YtjihpbioofikcaaDoor
open Go.RowKit
set_option linter.unusedVariables false
set_option linter.unusedSimpArgs false
attribute [local go_sem] mkB_size mkB_extract mkB_get mkB_toList

/-- elements as cells: a star's mark, and what takes a byte -/
def cellsP (xs : List (Pt × Value)) : List Value := xs.flatMap fun x => [.bool x.1.isStar, x.2]
def TakesAll (lo : Nat) (W : World) (xs : List (Pt × Value)) : Prop := ∀ x ∈ xs, TakeIs lo W x.2 x.1
theorem TakesAll.below {lo : Nat} {W W' : World} {xs : List (Pt × Value)} (h : TakesAll lo W xs) (hB : Below W.heap.size W W') : TakesAll lo W' xs := fun x hx => (h x hx).below hB
theorem TakesAll.mono {lo lo' : Nat} {W : World} {xs : List (Pt × Value)} (h : TakesAll lo W xs) (hl : lo' ≤ lo) : TakesAll lo' W xs := fun x hx => (h x hx).mono hl
theorem TakesAll.kept {lo : Nat} {W W' : World} {xs : List (Pt × Value)} {row : Option Nat} (h : TakesAll lo W xs) (hg : W.grownBy W' row) (hne : ∀ B t v, lo ≤ B → Boxed W B t v → (t = 5 ∨ t = 9 ∨ t = 4) → some B ≠ row) : TakesAll lo W' xs := fun x hx => (h x hx).kept hg hne
theorem cellsP_snoc (xs : List (Pt × Value)) (p : Pt) (f : Value) : cellsP (xs ++ [(p, f)]) = cellsP xs ++ [.bool p.isStar, f] := by simp [cellsP]
theorem cellsP_length (xs : List (Pt × Value)) : (cellsP xs).length = xs.length * 2 := by
  induction xs with
  | nil => rfl
  | cons x xs ih =>
    unfold cellsP at ih ⊢
    rw [List.flatMap_cons, List.length_append, ih]
    simp; omega
theorem info_part : (Tryd.prog.info? 129).map (fun i => (i.zero, i.size, i.bytes)) = some (some (.agg #[.bool false, .nilFunc]), 2, 16) := by kernel_rfl
def onP (xs : List (Pt × Value)) (o : Option (List Pt)) : Option (List Pt) := o.map (xs.map Prod.fst ++ ·)
theorem onP_next {xs : List (Pt × Value)} {l r : List UInt8} {p : Pt} (h : head1 l = some (p, r)) (f : Value) : onP xs (parts l) = onP (xs ++ [(p, f)]) (parts r) := by
  rw [parts_step h]
  unfold onP
  cases parts r <;> simp
theorem onP_bad {xs : List (Pt × Value)} {l : List UInt8} (h : head1 l = none) (hn : l ≠ []) : onP xs (parts l) = none := by
  rw [parts_bad h hn]; rfl
def PartsPost (l : List UInt8) (w : World) (e : Ending) (w' : World) : Prop :=
  Below w.heap.size w w' ∧ ((nameParts l = none ∧ ∃ A n c, e = .returned (.tuple #[.slice A n c, .bool false])) ∨
    (∃ (xs : List (Pt × Value)) (g cap : Nat), nameParts l = some (xs.map Prod.fst) ∧ e = .returned (.tuple #[.slice (some ⟨g, 0, none⟩) xs.length cap, .bool true]) ∧
      w'.ownsRow w.heap.size 129 2 (.slice (some ⟨g, 0, none⟩) xs.length cap) xs.length (cellsP xs) ∧ TakesAll w.heap.size w' xs))
def szOf (v : Value) : Nat := match v with
  | .string s => s.size
  | _ => 0
theorem szOf_str (l : List UInt8) : szOf (.string (mkB l)) = l.length := mkB_size l
theorem name_bad {l : List UInt8} (h : parts l = none) : nameParts l = none := by
  unfold nameParts
  split
  · rfl
  · exact h
theorem own_below {W W' : World} {base : Nat} {e : TypeId} {k m : Nat} {v : Value} {xs : List Value} (h : W.ownsRow base e k v m xs) (hB : Below W.heap.size W W') : W'.ownsRow base e k v m xs := by
  have hg : W.grownBy W' none := ⟨hB.os, hB.tape, hB.output, hB.size, fun k hk _ => hB.block k hk⟩
  refine h.kept hg ?_
  rcases h.2 with ⟨rfl, _⟩ | ⟨g, cap, cur, rfl, _⟩
  · exact .inl rfl
  · exact .inr (by simp [Value.ownBlock])
theorem takes_push {lo : Nat} {wr W2 w1 : World} {xs : List (Pt × Value)} {p : Pt} {f v : Value} {base k : Nat} {cs : List Value} (hT : TakesAll lo wr xs) (hB : Below wr.heap.size wr W2) (hnew : TakeIs lo W2 f p)
    (hown : W2.ownsRow base 129 2 v k cs) (hg : W2.grownBy w1 v.ownBlock) : TakesAll lo w1 (xs ++ [(p, f)]) := by
  have hne : ∀ B t u, lo ≤ B → Boxed W2 B t u → (t = 5 ∨ t = 9 ∨ t = 4) → some B ≠ v.ownBlock := fun B t u _ hb ht => by
    refine hb.not_row ?_ hown
    rcases ht with rfl | rfl | rfl <;> decide
  intro x hx
  rcases List.mem_append.1 hx with hx | hx
  · exact ((hT x hx).below hB).kept hg hne
  · simp at hx; subst hx
    exact hnew.kept hg hne
theorem own_push {w1 : World} {base g1 cap1 : Nat} {xs : List (Pt × Value)} {p : Pt} {f : Value} (h : w1.ownsRow base 129 2 (.slice (some ⟨g1, 0, none⟩) (xs.length + 1) cap1) (xs.length + 1) (cellsP xs ++ [.bool p.isStar, f])) :
    w1.ownsRow base 129 2 (.slice (some ⟨g1, 0, none⟩) (xs.length + 1) cap1) (xs ++ [(p, f)]).length (cellsP (xs ++ [(p, f)])) := by
  rw [cellsP_snoc, List.length_append]
  exact h
set_option maxRecDepth 1000000 in
set_option maxHeartbeats 8000000 in
theorem globParts_any (l : List UInt8) (hl : l.length ≤ 1048576) (w : World) :
    Calls Tryd.prog 119 #[.string (mkB l)] w (PartsPost l w) := by
  obtain ⟨i0, hi, hz0, hz1, hz2⟩ := info_parts info_part
  go_enter Tryd.func119, Tryd.ntmps119
  go_wp2
  go_loopw [0, 4] (fun nm v wr => ∃ (rest : List UInt8) (xs : List (Pt × Value)), nm = .string (mkB rest) ∧ (∃ A cap, v = .slice A xs.length cap) ∧ rest.length + xs.length ≤ l.length ∧ Hid (parts l = onP xs (parts rest)) ∧ Hid (wr.ownsRow w.heap.size 129 2 v xs.length (cellsP xs)) ∧ Hid (TakesAll w.heap.size wr xs) ∧ Below w.heap.size w wr)
    (fun nm _ _ => szOf nm)
  case atStart =>
    exact ⟨l, [], rfl, ⟨none, 0, rfl⟩, by simp, Lib.hid (by unfold onP; cases parts l <;> rfl), Lib.hid ⟨rfl, .inl ⟨rfl, rfl⟩⟩, Lib.hid (fun x hx => by simp at hx), Below.refl _ _⟩
  case round =>
    obtain ⟨rest, xs, rfl, ⟨A, cap, rfl⟩, hlen, hp, hown, hT, hB⟩ := hrel
    have hBz := hB.size
    cases rest with
    | nil =>
      have hps : parts l = some (xs.map Prod.fst) := by rw [hp.out]; simp [onP, parts_nil]
      cases xs with
      | nil =>
        have hnl : nameParts l = none := by
          unfold nameParts
          split
          · rfl
          · rename_i hne
            exfalso
            cases hh : head1 l with
            | none => rw [parts_bad hh hne] at hps; cases hps
            | some x => rw [parts_step (p := x.1) (r := x.2) hh] at hps; cases hq : parts x.2 <;> rw [hq] at hps <;> cases hps
        replace hnl := Lib.hid hnl
        replace hps := Lib.hid hps
        go_wp2
        go_ret2
        exact ⟨hB, .inl ⟨hnl.out, _, _, _, rfl⟩⟩
      | cons x xs =>
        have hnl : nameParts l = some ((x :: xs).map Prod.fst) := by
          unfold nameParts
          rw [if_neg]
          · exact hps
          · rintro rfl; cases hps
        obtain ⟨g, cp, hv⟩ : ∃ g cp, Value.slice A (x :: xs).length cap = .slice (some ⟨g, 0, none⟩) (x :: xs).length cp := by
          rcases hown.out.2 with ⟨h, _⟩ | ⟨g, cp, cur, h, _⟩
          · cases h
          · exact ⟨g, cp, h⟩
        cases hv
        have hlI : (0 : Int) < ((x :: xs).length : Int) := by simp
        have hlI2 : decide ((0 : Int) < ((x :: xs).length : Int)) = true := by simp
        have hlI3 : decide ((0 : Int) < (xs.length : Int) + 1) = true := by simp
        replace hnl := Lib.hid hnl
        replace hps := Lib.hid hps
        go_wp2
        go_ret2
        exact ⟨hB, .inr ⟨x :: xs, g, cap, hnl.out, rfl, hown.out, hT.out⟩⟩
    | cons c r =>
      simp only [List.length_cons] at hlen
      have hpost : ∀ W A n k, Below w.heap.size w W → head1 (c :: r) = none → PartsPost l w (.returned (.tuple #[.slice A n k, .bool false])) W := fun W A n k hW hh =>
        ⟨hW, .inl ⟨name_bad (by rw [hp.out, onP_bad hh (List.cons_ne_nil _ _)]), A, n, k, rfl⟩⟩
      replace hpost := Lib.hid hpost
      have hnext : ∀ p r' f, head1 (c :: r) = some (p, r') → parts l = onP (xs ++ [(p, f)]) (parts r') := fun p r' f hh => by rw [hp.out, onP_next hh f]
      replace hnext := Lib.hid hnext
      by_cases h42 : c = 42
      · subst h42
        have hown2 := Lib.hid ((hown.out.alloc (.cells #[.int .u8 42] 5)).alloc (.cells #[.bool true, .nilFunc] 129))
        have hB2 : Below wr.heap.size wr ((wr.alloc (.cells #[.int .u8 42] 5)).alloc (.cells #[.bool true, .nilFunc] 129)) := ((Below.refl _ _).alloc (Nat.le_refl _) _).alloc (by simp) _
        have hB2' : Below w.heap.size wr ((wr.alloc (.cells #[.int .u8 42] 5)).alloc (.cells #[.bool true, .nilFunc] 129)) := hB2.mono hBz
        have hnew : TakeIs w.heap.size ((wr.alloc (.cells #[.int .u8 42] 5)).alloc (.cells #[.bool true, .nilFunc] 129)) (.nilFunc) (.star) := rfl
        replace hnew := Lib.hid hnew
        go_wp2_with (at_builtin; go_loud (refine wpList_push rfl _ _ 107 rfl w.heap.size 129 i0 (.agg #[.bool false, .nilFunc]) 2 16 Tryd.underlying107 hi hz0 hz1 hz2 rfl (by decide) ((wr.alloc (.cells #[.int .u8 42] 5)).alloc (.cells #[.bool true, .nilFunc] 129)) _ _ _ hown2.out rfl [.bool true, .nilFunc] (by simp [Act.eval]) rfl (by simp [Value.oneCell']) (by simp only [maxLen]; omega) (by omega) (by simp; omega) ?_; intro g1 cap1 w1 hown1 hg1 hb1 _))
        have ho := own_push (p := .star) (f := .nilFunc) hown1
        have ht := takes_push (p := .star) hT.out hB2 hnew.out hown2.out hg1
        replace ho := Lib.hid ho
        replace ht := Lib.hid ht
        clear hown1 hg1 hnew
        have hnx := Lib.hid (hnext.out (.star) r (.nilFunc) (head1_star r))
        go_roundw
        case rel => exact ⟨r, xs ++ [(.star, .nilFunc)], rfl, ⟨_, _, by rw [List.length_append]; rfl⟩, by simp; omega, hnx, ho, ht, (hB.trans hB2').trans hb1⟩
        case measure => simp [szOf_str]
      have h42b : ((c.toNat : Int) == 42) = false := u8_no 42 (by omega) h42
      by_cases h63 : c = 63
      · subst h63
        clear h42
        have hown2 := Lib.hid ((hown.out.alloc (.cells #[.int .u8 63] 5)).alloc (.cells #[.bool false, .func (.func 143) #[] #[]] 129))
        have hB2 : Below wr.heap.size wr ((wr.alloc (.cells #[.int .u8 63] 5)).alloc (.cells #[.bool false, .func (.func 143) #[] #[]] 129)) := ((Below.refl _ _).alloc (Nat.le_refl _) _).alloc (by simp) _
        have hB2' : Below w.heap.size wr ((wr.alloc (.cells #[.int .u8 63] 5)).alloc (.cells #[.bool false, .func (.func 143) #[] #[]] 129)) := hB2.mono hBz
        have hnew : TakeIs w.heap.size ((wr.alloc (.cells #[.int .u8 63] 5)).alloc (.cells #[.bool false, .func (.func 143) #[] #[]] 129)) (.func (.func 143) #[] #[]) (.any) := rfl
        replace hnew := Lib.hid hnew
        go_wp2_with (at_builtin; go_loud (refine wpList_push rfl _ _ 107 rfl w.heap.size 129 i0 (.agg #[.bool false, .nilFunc]) 2 16 Tryd.underlying107 hi hz0 hz1 hz2 rfl (by decide) ((wr.alloc (.cells #[.int .u8 63] 5)).alloc (.cells #[.bool false, .func (.func 143) #[] #[]] 129)) _ _ _ hown2.out rfl [.bool false, .func (.func 143) #[] #[]] (by simp [Act.eval]) rfl (by simp [Value.oneCell']) (by simp only [maxLen]; omega) (by omega) (by simp; omega) ?_; intro g1 cap1 w1 hown1 hg1 hb1 _))
        have ho := own_push (p := .any) (f := .func (.func 143) #[] #[]) hown1
        have ht := takes_push (p := .any) hT.out hB2 hnew.out hown2.out hg1
        replace ho := Lib.hid ho
        replace ht := Lib.hid ht
        clear hown1 hg1 hnew
        have hnx := Lib.hid (hnext.out (.any) r (.func (.func 143) #[] #[]) (head1_any r))
        go_roundw
        case rel => exact ⟨r, xs ++ [(.any, .func (.func 143) #[] #[])], rfl, ⟨_, _, by rw [List.length_append]; rfl⟩, by simp; omega, hnx, ho, ht, (hB.trans hB2').trans hb1⟩
        case measure => simp [szOf_str]
      have h63b : ((c.toNat : Int) == 63) = false := u8_no 63 (by omega) h63
      by_cases h91 : c = 91
      case neg =>
        have h91b : ((c.toNat : Int) == 91) = false := u8_no 91 (by omega) h91
        rcases boolOf (nb c) with hb | hb
        · have hbad := Lib.hid (head1_bad (r := r) hb.out h42 h63 h91)
          replace h42 := Lib.hid h42
          replace h63 := Lib.hid h63
          replace h91 := Lib.hid h91
          go_wp2_with fail
          refine (nameByte_any _ _).mono ?_
          rintro e w1 ⟨rfl, rfl⟩
          rw [hb.out]
          go_wp2
          go_ret2
          exact hpost.out _ _ _ _ (hB.trans ((((Below.refl _ _).alloc (Nat.le_refl _) _).alloc (by simp) _).mono hBz)) hbad.out
        · have hlit := Lib.hid (head1_lit (r := r) hb.out)
          replace h42 := Lib.hid h42
          replace h63 := Lib.hid h63
          replace h91 := Lib.hid h91
          have hown2 := Lib.hid ((hown.out.alloc (.cells #[.int .u8 (c.toNat : Int)] 5)).alloc (.cells #[.bool false, .func (.func 147) #[] #[.pointer (some ⟨wr.heap.size, 0, none⟩)]] 129))
          have hB2 : Below wr.heap.size wr ((wr.alloc (.cells #[.int .u8 (c.toNat : Int)] 5)).alloc (.cells #[.bool false, .func (.func 147) #[] #[.pointer (some ⟨wr.heap.size, 0, none⟩)]] 129)) := ((Below.refl _ _).alloc (Nat.le_refl _) _).alloc (by simp) _
          have hB2' : Below w.heap.size wr ((wr.alloc (.cells #[.int .u8 (c.toNat : Int)] 5)).alloc (.cells #[.bool false, .func (.func 147) #[] #[.pointer (some ⟨wr.heap.size, 0, none⟩)]] 129)) := hB2.mono hBz
          have hnew : TakeIs w.heap.size ((wr.alloc (.cells #[.int .u8 (c.toNat : Int)] 5)).alloc (.cells #[.bool false, .func (.func 147) #[] #[.pointer (some ⟨wr.heap.size, 0, none⟩)]] 129)) (.func (.func 147) #[] #[.pointer (some ⟨wr.heap.size, 0, none⟩)]) ((.lit c)) := ⟨wr.heap.size, hBz, rfl, (Boxed.new wr _ _).alloc _⟩
          replace hnew := Lib.hid hnew
          go_wp2_with (first | (go_at_call 146; refine (nameByte_any _ _).mono ?_; rintro e w1 ⟨rfl, rfl⟩; rw [hb.out]) | (at_builtin; go_loud (refine wpList_push rfl _ _ 107 rfl w.heap.size 129 i0 (.agg #[.bool false, .nilFunc]) 2 16 Tryd.underlying107 hi hz0 hz1 hz2 rfl (by decide) ((wr.alloc (.cells #[.int .u8 (c.toNat : Int)] 5)).alloc (.cells #[.bool false, .func (.func 147) #[] #[.pointer (some ⟨wr.heap.size, 0, none⟩)]] 129)) _ _ _ hown2.out rfl [.bool false, .func (.func 147) #[] #[.pointer (some ⟨wr.heap.size, 0, none⟩)]] (by simp [Act.eval]) rfl (by simp [Value.oneCell']) (by simp only [maxLen]; omega) (by omega) (by simp; omega) ?_; intro g1 cap1 w1 hown1 hg1 hb1 _)))
          have ho := own_push (p := (.lit c)) (f := .func (.func 147) #[] #[.pointer (some ⟨wr.heap.size, 0, none⟩)]) hown1
          have ht := takes_push (p := (.lit c)) hT.out hB2 hnew.out hown2.out hg1
          replace ho := Lib.hid ho
          replace ht := Lib.hid ht
          clear hown1 hg1 hnew
          have hnx := Lib.hid (hnext.out ((.lit c)) r (.func (.func 147) #[] #[.pointer (some ⟨wr.heap.size, 0, none⟩)]) hlit.out)
          go_roundw
          case rel => exact ⟨r, xs ++ [((.lit c), .func (.func 147) #[] #[.pointer (some ⟨wr.heap.size, 0, none⟩)])], rfl, ⟨_, _, by rw [List.length_append]; rfl⟩, by simp; omega, hnx, ho, ht, (hB.trans hB2').trans hb1⟩
          case measure => simp [szOf_str]
      subst h91
      clear h42 h63
      rcases split_first 93 r with hno | ⟨b, t, hb93, hr⟩
      · have hix : Lib.indexByte (91 :: r) 93 = -1 := indexByte_of_none (by intro h; rcases List.mem_cons.1 h with h | h; cases h; exact hno h)
        have hbad := Lib.hid (head1_nocls (classOf_none hno))
        replace hix := Lib.hid hix
        replace hno := Lib.hid hno
        go_wp2_with fail
        refine (strings_IndexByte_any (91 :: r) 93 _).mono ?_
        rintro e w1 ⟨rfl, rfl⟩
        rw [hix.out]
        go_wp2
        go_ret2
        exact hpost.out _ _ _ _ (hB.trans ((((Below.refl _ _).alloc (Nat.le_refl _) _).alloc (by simp) _).mono hBz)) hbad.out
      obtain ⟨n, hn⟩ : ∃ n : Nat, b.length + 1 = n := ⟨_, rfl⟩
      have hix : Lib.indexByte (91 :: r) 93 = (n : Int) := by
        rw [hr]
        have := indexByte_at (f := 91 :: b) (r := t) (c := 93) (by intro h; rcases List.mem_cons.1 h with h | h; cases h; exact hb93 h)
        rw [← hn]
        simpa using this
      have hrl : r.length = n + t.length := by rw [hr, ← hn]; simp; omega
      have htk : List.take (n - 1) r = b := by rw [hr, ← hn, Nat.add_sub_cancel, List.take_left]
      have hdk : List.drop n r = t := by rw [hr, ← hn, show b ++ 93 :: t = (b ++ [93]) ++ t by simp, show b.length + 1 = (b ++ [93]).length by simp, List.drop_left]
      have hdt : List.take (r.length - n) (List.drop n r) = t := by rw [hdk]; exact List.take_of_length_le (by omega)
      replace hdt := Lib.hid hdt
      have hcls := classOf_at (t := t) hb93
      rw [← hr] at hcls
      have hbl : b.length ≤ 1048576 := by omega
      have hn1 : (1 : Int) ≤ (n : Int) := by omega
      have hn1' : 1 ≤ n := by omega
      have hnr : n ≤ r.length := by omega
      have hnI : (n : Int) ≤ (r.length : Int) + 1 := by omega
      have hnI2 : (n : Int) ≤ (r.length : Int) := by omega
      have hrm : r.length ≤ 1048576 := by omega
      replace hn := Lib.hid hn
      replace hix := Lib.hid hix
      replace hr := Lib.hid hr
      replace htk := Lib.hid htk
      replace hdk := Lib.hid hdk
      replace hcls := Lib.hid hcls
      replace hb93 := Lib.hid hb93
      have hrh := Lib.hid hrl
      clear hrl
      go_wp2_with fail
      refine (strings_IndexByte_any (91 :: r) 93 _).mono ?_
      rintro e w1 ⟨rfl, rfl⟩
      rw [hix.out]
      go_wp2_with fail
      rw [htk.out]
      refine (globClass_any b hbl _).mono ?_
      rintro e wc ⟨hBc, ⟨hnb, v, rfl, rfl⟩ | ⟨hnb, f, rfl, htf⟩⟩
      · have hbad := Lib.hid (head1_nocls (r := r) (by rw [hcls.out, hnb]; rfl))
        have hW1 : Below w.heap.size w wc := hB.trans (((((Below.refl wr.heap.size wr).alloc (Nat.le_refl _) _).alloc (by simp) _).trans (hBc.mono (by simp; omega))).mono hBz)
        clear hBc
        replace hnb := Lib.hid hnb
        go_wp2
        go_ret2
        exact hpost.out _ _ _ _ (hW1.alloc hW1.size _) hbad.out
      have htf0 := htf
      obtain ⟨B, C, -, -, rfl, -, -⟩ := htf0
      have hhd := Lib.hid (head1_cls (r := r) (b := b) (t := t) (by rw [hcls.out, hnb]; rfl))
      have hW1 : Below wr.heap.size wr wc := (((Below.refl wr.heap.size wr).alloc (Nat.le_refl _) _).alloc (by simp) _).trans (hBc.mono (by simp; omega))
      have pb : Box2 wc (wr.heap.size + 1) 129 (.bool false) .nilFunc := by
        have h := Box2.new (wr.alloc (.cells #[.int .u8 91] 5)) 129 (.bool false) .nilFunc
        simp only [World.size_alloc] at h
        exact h.below hBc (by simp)
      clear hBc
      replace hnb := Lib.hid hnb
      have hlt1 := pb.lt
      have e0 := pb.cell0
      have e1 := pb.cell1
      have e2 := pb.frozen 0
      have e3 := pb.frozen 1
      have pa := pb.alloc (.cells #[.bool false, .func (.func 163) #[] #[.pointer (some ⟨B, 0, none⟩), .pointer (some ⟨C, 0, none⟩)]] 129)
      have pc := (pb.set0 (.bool false)).set1 (.func (.func 163) #[] #[.pointer (some ⟨B, 0, none⟩), .pointer (some ⟨C, 0, none⟩)])
      have d0 := pc.cell0
      have d1 := pc.cell1
      have pd := pc.alloc (.cells #[.bool false, .func (.func 163) #[] #[.pointer (some ⟨B, 0, none⟩), .pointer (some ⟨C, 0, none⟩)]] 129)
      have d2 := pd.cell0
      have d3 := pd.cell1
      clear pc pd
      have c0 := pa.cell0
      have c1 := pa.cell1
      have f0 := pa.frozen 0
      have f1 := pa.frozen 1
      have hB2 : Below wr.heap.size wr (((wc.setCell ⟨wr.heap.size + 1, 0, none⟩ (.bool false)).setCell ⟨wr.heap.size + 1, 1, none⟩ (.func (.func 163) #[] #[.pointer (some ⟨B, 0, none⟩), .pointer (some ⟨C, 0, none⟩)])).alloc (.cells #[.bool false, .func (.func 163) #[] #[.pointer (some ⟨B, 0, none⟩), .pointer (some ⟨C, 0, none⟩)]] 129)) := ((hW1.setCell (p := ⟨wr.heap.size + 1, 0, none⟩) (by simp) _).setCell (p := ⟨wr.heap.size + 1, 1, none⟩) (by simp) _).alloc (by simp only [World.size_setCell]; exact hW1.size) _
      have hB2' : Below w.heap.size wr (((wc.setCell ⟨wr.heap.size + 1, 0, none⟩ (.bool false)).setCell ⟨wr.heap.size + 1, 1, none⟩ (.func (.func 163) #[] #[.pointer (some ⟨B, 0, none⟩), .pointer (some ⟨C, 0, none⟩)])).alloc (.cells #[.bool false, .func (.func 163) #[] #[.pointer (some ⟨B, 0, none⟩), .pointer (some ⟨C, 0, none⟩)]] 129)) := hB2.mono hBz
      have hown2 := Lib.hid (own_below hown.out hB2)
      have hne : ∀ {j u B t v} {W : World}, Box2 W (wr.heap.size + 1) 129 j u → Boxed W B t v → some B ≠ some (wr.heap.size + 1) := fun h1 h2 e => by
        injection e with e
        subst e
        unfold Box2 at h1
        unfold Boxed at h2
        rw [h1] at h2
        cases h2
      have hnew : TakeIs w.heap.size (((wc.setCell ⟨wr.heap.size + 1, 0, none⟩ (.bool false)).setCell ⟨wr.heap.size + 1, 1, none⟩ (.func (.func 163) #[] #[.pointer (some ⟨B, 0, none⟩), .pointer (some ⟨C, 0, none⟩)])).alloc (.cells #[.bool false, .func (.func 163) #[] #[.pointer (some ⟨B, 0, none⟩), .pointer (some ⟨C, 0, none⟩)]] 129)) (.func (.func 163) #[] #[.pointer (some ⟨B, 0, none⟩), .pointer (some ⟨C, 0, none⟩)]) (.cls (marked b) (members b)) := (((htf.mono (by simp; omega)).kept (grown_set _ (wr.heap.size + 1) 0 (.bool false)) (fun B t v _ hb _ => hne pb hb)).kept (grown_set _ (wr.heap.size + 1) 1 _) (fun B t v _ hb _ => hne (pb.set0 _) hb)).below ((Below.refl _ _).alloc (Nat.le_refl _) _)
      replace hnew := Lib.hid hnew
      replace htf := Lib.hid htf
      clear hne
      replace pa := Lib.hid pa
      replace pb := Lib.hid pb
      go_wp2_with (at_builtin; go_loud (refine wpList_push rfl _ _ 107 rfl w.heap.size 129 i0 (.agg #[.bool false, .nilFunc]) 2 16 Tryd.underlying107 hi hz0 hz1 hz2 rfl (by decide) (((wc.setCell ⟨wr.heap.size + 1, 0, none⟩ (.bool false)).setCell ⟨wr.heap.size + 1, 1, none⟩ (.func (.func 163) #[] #[.pointer (some ⟨B, 0, none⟩), .pointer (some ⟨C, 0, none⟩)])).alloc (.cells #[.bool false, .func (.func 163) #[] #[.pointer (some ⟨B, 0, none⟩), .pointer (some ⟨C, 0, none⟩)]] 129)) _ _ _ hown2.out rfl [.bool false, .func (.func 163) #[] #[.pointer (some ⟨B, 0, none⟩), .pointer (some ⟨C, 0, none⟩)]] (by simp [Act.eval]) rfl (by simp [Value.oneCell']) (by simp only [maxLen]; omega) (by omega) (Nat.le_trans hBz (Nat.le_trans hW1.size (by simp [World.setCell]))) ?_; intro g1 cap1 w1 hown1 hg1 hb1 _))
      rw [hdt.out]
      have ho := own_push (p := (.cls (marked b) (members b))) (f := .func (.func 163) #[] #[.pointer (some ⟨B, 0, none⟩), .pointer (some ⟨C, 0, none⟩)]) hown1
      have ht := takes_push (p := (.cls (marked b) (members b))) hT.out hB2 hnew.out hown2.out hg1
      replace ho := Lib.hid ho
      replace ht := Lib.hid ht
      clear hown1 hg1 hnew
      have hnx := Lib.hid (hnext.out ((.cls (marked b) (members b))) t (.func (.func 163) #[] #[.pointer (some ⟨B, 0, none⟩), .pointer (some ⟨C, 0, none⟩)]) hhd.out)
      go_roundw
      case rel => exact ⟨t, xs ++ [((.cls (marked b) (members b)), .func (.func 163) #[] #[.pointer (some ⟨B, 0, none⟩), .pointer (some ⟨C, 0, none⟩)])], rfl, ⟨_, _, by rw [List.length_append]; rfl⟩, by have := hrh.out; simp; omega, hnx, ho, ht, (hB.trans hB2').trans hb1⟩
      case measure => have := hrh.out; simp [szOf_str]; omega
end Go.Proofs.YtjihpbioofikcaaDoor

/-
  Rows of bools; elements in memory; what is reached of a name, row by row.
-/
namespace Go.Proofs.YtjihpbioofikcaaDoor
open Go.RowKit
set_option linter.unusedVariables false
set_option linter.unusedSimpArgs false

/-! ### rows of bools, known whole -/
def BRow (W : World) (g N : Nat) (f : Nat → Bool) : Prop := ∃ cur : Array Value, W.heap[g]? = some (.cells cur 4 (0, 0)) ∧ cur.size = N ∧ ∀ j, j < N → cur[j]? = some (.bool (f j))
section
variable {W W' : World} {g N : Nat} {f : Nat → Bool}
theorem BRow.cell (h : BRow W g N f) {j : Nat} (hj : j < N) : W.cell? ⟨g, j, none⟩ = some (.bool (f j)) := by
  obtain ⟨cur, hh, hs, hc⟩ := h
  rw [cell_of_row _ _ _ _ _ _ hh]
  exact hc j hj
theorem BRow.frozen (h : BRow W g N f) (j : Nat) : W.frozen? ⟨g, j, none⟩ = false := by
  obtain ⟨cur, hh, hs, hc⟩ := h
  simp [World.frozen?, hh]
theorem BRow.lt (h : BRow W g N f) : g < W.heap.size := by
  obtain ⟨cur, hh, hs, hc⟩ := h
  exact (Array.getElem?_eq_some_iff.1 hh).1
theorem BRow.same (h : BRow W g N f) (he : W'.heap[g]? = W.heap[g]?) : BRow W' g N f := by
  obtain ⟨cur, hh, hs, hc⟩ := h
  exact ⟨cur, he.trans hh, hs, hc⟩
theorem BRow.below {n : Nat} (h : BRow W g N f) (hB : Below n W W') (hg : g < n) : BRow W' g N f := h.same (hB.block g hg)
theorem BRow.drewN (h : BRow W g N f) (n : Nat) : BRow (W.drewN n) g N f := h
theorem BRow.drew (h : BRow W g N f) : BRow W.drew g N f := h
theorem BRow.other (h : BRow W g N f) {B j : Nat} (hne : g ≠ B) (v : Value) : BRow (W.setCell ⟨B, j, none⟩ v) g N f := h.same (Below.heap_setCell _ _ _ g hne)
theorem BRow.alloc (h : BRow W g N f) (o : Obj) : BRow (W.alloc o) g N f := h.same (Below.heap_alloc W o g h.lt)
theorem BRow.congr (h : BRow W g N f) {f' : Nat → Bool} (he : ∀ j, j < N → f j = f' j) : BRow W g N f' := by
  obtain ⟨cur, hh, hs, hc⟩ := h
  exact ⟨cur, hh, hs, fun j hj => by rw [← he j hj]; exact hc j hj⟩
theorem BRow.set (h : BRow W g N f) {i : Nat} (hi : i < N) (b : Bool) : BRow (W.setCell ⟨g, i, none⟩ (.bool b)) g N (fun j => if j = i then b else f j) := by
  obtain ⟨cur, hh, hs, hc⟩ := h
  refine ⟨cur.setIfInBounds i (.bool b), ?_, by simp [hs], fun j hj => ?_⟩
  · simp [World.setCell, Array.getElem?_modify, hh, Array.setIfInBounds]
  · rw [Array.getElem?_setIfInBounds]
    by_cases e : i = j
    · subst e; simp [hs, hi]
    · rw [if_neg e]
      show _ = some (Value.bool (if j = i then b else f j))
      rw [if_neg (fun h' : j = i => e h'.symm)]; exact hc j hj
end
theorem BRow.made {W : World} {lo g N : Nat} (h : W.ownsRow lo 4 1 (.slice (some ⟨g, 0, none⟩) N N) N (madeCells (Value.bool false).cells (N * 1)).toList) : BRow W g N (fun _ => false) ∧ lo ≤ g := by
  obtain ⟨_, h | ⟨g', cap, cur, hv, hb, hh, hn, hm, hs, ht⟩⟩ := h
  · cases h.1
  · cases hv
    rw [Nat.mul_one] at hs ht
    have hcl : cur.toList = (madeCells (Value.bool false).cells N).toList := by
      rw [← ht, List.take_of_length_le (by rw [Array.length_toList]; omega)]
    refine ⟨⟨cur, hh, hs, fun j hj => ?_⟩, hb⟩
    rw [← Array.getElem?_toList, hcl, Array.getElem?_toList]
    simp [madeCells, hj, Value.cells]
    rw [Nat.mod_one]; rfl
/-! ### elements in memory, as they are read -/
/-- a function that takes a byte: whatever lies in memory behind it -/
def TakeFn (W : World) (f : Value) (p : Pt) : Prop := ∃ (gf : Nat) (bs : Array Value), f = .func (.func gf) #[] bs ∧ (∀ args w, (callFunc gf args).run Tryd.prog w = .ok (.enter gf args) w) ∧
  ∀ (c : UInt8) (W' : World), Below W.heap.size W W' → Calls Tryd.prog gf (#[.int .u8 (c.toNat : Int)] ++ bs) W' (Quiet (p.has c) W')
theorem take_fn {lo : Nat} {W : World} {f : Value} {p : Pt} (h : TakeIs lo W f p) (hp : p.isStar = false) : TakeFn W f p := by
  cases p with
  | star => cases hp
  | any => exact ⟨_, _, h, enters_of Tryd.func143 (by kernel_rfl) rfl, fun c W' _ => takeAny c W'⟩
  | lit d =>
    obtain ⟨B, _, hf, hb⟩ := h
    exact ⟨_, _, hf, enters_of Tryd.func147 (by kernel_rfl) rfl, fun c W' hB => takeLit d c B W' ((hB.block _ hb.lt).trans hb)⟩
  | cls nt ms =>
    obtain ⟨B, C, _, _, hf, hb, hc⟩ := h
    exact ⟨_, _, hf, enters_of Tryd.func163 (by kernel_rfl) rfl, fun c W' hB => takeCls nt ms c B C W' ((hB.block _ hb.lt).trans hb) ((hB.block _ hc.lt).trans hc)⟩
def PartsAt (W : World) (g : Nat) (xs : List (Pt × Value)) : Prop := g < W.heap.size ∧ (∀ i (h : i < xs.length), W.cell? ⟨g, i * 2, none⟩ = some (.bool xs[i].1.isStar) ∧ W.cell? ⟨g, i * 2 + 1, none⟩ = some xs[i].2) ∧ TakesAll 0 W xs
theorem PartsAt.below {W W' : World} {g : Nat} {xs : List (Pt × Value)} (h : PartsAt W g xs) (hB : Below W.heap.size W W') : PartsAt W' g xs := by
  obtain ⟨h1, h2, h3⟩ := h
  exact ⟨Nat.lt_of_lt_of_le h1 hB.size, fun i hi => ⟨(hB.cell (p := ⟨g, i * 2, none⟩) h1).trans (h2 i hi).1, (hB.cell (p := ⟨g, i * 2 + 1, none⟩) h1).trans (h2 i hi).2⟩, h3.below hB⟩
theorem cellsP_at : ∀ (xs : List (Pt × Value)) (i : Nat) (h : i < xs.length), (cellsP xs)[i * 2]? = some (.bool xs[i].1.isStar) ∧ (cellsP xs)[i * 2 + 1]? = some xs[i].2
  | x :: xs, 0, _ => by simp [cellsP]
  | x :: xs, i + 1, h => by
    have ih := cellsP_at xs i (by simpa using h)
    have e : cellsP (x :: xs) = .bool x.1.isStar :: x.2 :: cellsP xs := by simp [cellsP]
    rw [e, show (i + 1) * 2 = i * 2 + 1 + 1 by omega, show i * 2 + 1 + 1 + 1 = (i * 2 + 1) + 1 + 1 by omega]
    simpa using ih
theorem PartsAt.own {W : World} {lo lo2 g cap : Nat} {xs : List (Pt × Value)} (h : W.ownsRow lo 129 2 (.slice (some ⟨g, 0, none⟩) xs.length cap) xs.length (cellsP xs)) (hT : TakesAll lo2 W xs) : PartsAt W g xs ∧ xs.length ≤ cap := by
  obtain ⟨hl, h | ⟨g', cap', cur, hv, hb, hh, hn, hm, hs, ht⟩⟩ := h
  · cases h.1
  · cases hv
    refine ⟨⟨(Array.getElem?_eq_some_iff.1 hh).1, fun i hi => ?_, hT.mono (Nat.zero_le _)⟩, hn⟩
    obtain ⟨c0, c1⟩ := cellsP_at xs i hi
    rw [cell_of_row _ _ _ _ _ _ hh, cell_of_row _ _ _ _ _ _ hh]
    rw [← ht, List.getElem?_take_of_lt (by omega)] at c0 c1
    rw [← Array.getElem?_toList, ← Array.getElem?_toList]
    exact ⟨c0, c1⟩

/-! ### what is reached -/
def reach (ps : List Pt) (s : List UInt8) (i : Nat) : Bool := fits ps (s.take i)
theorem reach_nil (s : List UInt8) (i : Nat) (hi : i ≤ s.length) : reach [] s i = (i == 0) := by
  unfold reach
  rw [fits_nil]
  cases i with
  | zero => rfl
  | succ i => cases s with
    | nil => simp at hi
    | cons => rfl
theorem reach_star0 (ps : List Pt) (s : List UInt8) : reach (ps ++ [.star]) s 0 = reach ps s 0 := by unfold reach; exact fits_snoc_star_nil ps
theorem reach_star (ps : List Pt) {s : List UInt8} {i : Nat} (hi : i < s.length) : reach (ps ++ [.star]) s (i + 1) = (reach ps s (i + 1) || reach (ps ++ [.star]) s i) := by
  unfold reach
  rw [List.take_succ_eq_append_getElem hi, fits_snoc_star]
theorem reach_one0 (ps : List Pt) {p : Pt} (h : p.isStar = false) (s : List UInt8) : reach (ps ++ [p]) s 0 = false := by unfold reach; exact fits_snoc_one_nil ps h
theorem reach_one (ps : List Pt) {p : Pt} (h : p.isStar = false) {s : List UInt8} {i : Nat} (hi : i < s.length) : reach (ps ++ [p]) s (i + 1) = (reach ps s i && p.has s[i]) := by
  unfold reach
  rw [List.take_succ_eq_append_getElem hi, fits_snoc_one ps h]
theorem reach_all (ps : List Pt) (s : List UInt8) : reach ps s s.length = fits ps s := by unfold reach; rw [List.take_length]
/-- a row that is filled up to i -/
def upTo (f : Nat → Bool) (i j : Nat) : Bool := decide (j < i) && f j
theorem upTo_next (f : Nat → Bool) (i : Nat) {b : Bool} (hb : b = f i) (j : Nat) : (if j = i then b else upTo f i j) = upTo f (i + 1) j := by
  unfold upTo
  by_cases h : j = i
  · subst h; simp [hb]
  · rw [if_neg h]
    have : decide (j < i) = decide (j < i + 1) := by rw [decide_eq_decide]; omega
    rw [this]
theorem upTo_lt (f : Nat → Bool) {i j : Nat} (h : j < i) : upTo f i j = f j := by unfold upTo; simp [h]
end Go.Proofs.YtjihpbioofikcaaDoor

/-
  The walk of the program's partsHave.
-/
namespace Go.Proofs.YtjihpbioofikcaaDoor
open Go.RowKit
set_option linter.unusedVariables false
set_option linter.unusedSimpArgs false
attribute [local go_sem] mkB_size mkB_extract mkB_get mkB_toList

theorem info_bool : (Tryd.prog.info? 4).map (fun i => (i.zero, i.size, i.bytes)) = some (some (.bool false), 1, 1) := by kernel_rfl
def stars (xs : List (Pt × Value)) : List Pt := xs.map Prod.fst
theorem stars_take {xs : List (Pt × Value)} {k : Nat} (h : k < xs.length) : stars (xs.take (k + 1)) = stars (xs.take k) ++ [xs[k].1] := by
  unfold stars
  rw [List.take_succ_eq_append_getElem h, List.map_append]; rfl
set_option maxRecDepth 1000000 in
set_option maxHeartbeats 16000000 in
theorem partsHave_any (xs : List (Pt × Value)) (s : List UInt8) (g cap : Nat) (w : World) (hP : PartsAt w g xs) (hs : s.length ≤ 1048576) (hx : xs.length ≤ 1048576) :
    Calls Tryd.prog 121 #[.slice (some ⟨g, 0, none⟩) xs.length cap, .string (mkB s)] w fun e w' => e = .returned (.bool (fits (stars xs) s)) ∧ Below w.heap.size w w' := by
  obtain ⟨i0, hi, hz0, hz1, hz2⟩ := info_parts info_bool
  have hib : i0.bytes * (s.length + 1) ≤ 281474976710656 := by rw [hz2]; omega
  have hml : s.length + 1 ≤ maxLen := by unfold maxLen; omega
  have hPh := Lib.hid hP
  have hgl := hP.1
  clear hP
  replace hi := Lib.hid hi
  replace hz0 := Lib.hid hz0
  replace hz1 := Lib.hid hz1
  replace hz2 := Lib.hid hz2
  go_enter Tryd.func121, Tryd.ntmps121
  go_wp2_with (at_make; refine wpList_make_full _ rfl _ _ _ rfl w.heap.size 4 i0 _ 1 Tryd.underlying132 hi.out hz0.out hz1.out _ _ _ _ (s.length + 1) rfl rfl (by simp) (by simp) hib hml (Nat.le_refl _) ?_; intro W0 hown hgr; have hR0 := (BRow.made hown).1; have hB0 : Below w.heap.size w W0 := (Below.refl _ _).grown hgr (Nat.le_refl _) (fun k e => by cases e); clear hown hgr; have c0 := hR0.cell (j := 0) (by omega); have f0 := hR0.frozen 0)
  have hR1 : BRow (W0.setCell ⟨w.heap.size, 0, none⟩ (.bool true)) w.heap.size (s.length + 1) (reach [] s) := (hR0.set (i := 0) (by omega) true).congr (fun j hj => by
    rw [reach_nil s j (by omega)]
    cases j with
    | zero => rfl
    | succ j => rfl)
  have hB1 : Below w.heap.size w (W0.setCell ⟨w.heap.size, 0, none⟩ (.bool true)) := hB0.setCell (p := ⟨w.heap.size, 0, none⟩) (Nat.le_refl _) _
  replace hR1 := Lib.hid hR1
  clear hR0 hB0 c0 f0
  go_loopw [5, 18] (fun v5 ii wr => ∃ (k g5 : Nat), k ≤ xs.length ∧ ii = .int .i64 k ∧ v5 = .slice (some ⟨g5, 0, none⟩) (s.length + 1) (s.length + 1) ∧ w.heap.size ≤ g5 ∧ Hid (BRow wr g5 (s.length + 1) (reach (stars (xs.take k)) s)) ∧ Below w.heap.size w wr) (fun _ ii _ => xs.length - (intOf ii).toNat)
  case atStart => exact ⟨0, w.heap.size, Nat.zero_le _, rfl, rfl, Nat.le_refl _, hR1, hB1⟩
  case round =>
    clear hR1 hB1
    obtain ⟨k, g5, hk, rfl, rfl, hg5, hR, hB⟩ := hrel
    have hBz := hB.size
    by_cases hlt : k < xs.length
    · have hkI : (k : Int) < (xs.length : Int) := by omega
      have hP1 := hPh.out.below hB
      obtain ⟨q0, q1⟩ := hP1.2.1 k hlt
      have htk := hP1.2.2 _ (List.getElem_mem hlt)
      have hst := stars_take hlt
      obtain ⟨⟨pt, f⟩, hxe⟩ : ∃ x, xs[k] = x := ⟨_, rfl⟩
      rw [hxe] at q0 q1 htk hst
      simp only at q0 q1 htk hst
      clear hxe
      obtain ⟨ps, hps⟩ : ∃ x, stars (xs.take k) = x := ⟨_, rfl⟩
      rw [hps] at hR hst
      have hg5l := hR.out.lt
      replace hst := Lib.hid hst
      replace hP1 := Lib.hid hP1
      clear hps
      obtain ⟨wo, hwo⟩ : ∃ x, x = wr := ⟨_, rfl⟩
      subst hwo
      by_cases hpt : pt.isStar = true
      · obtain rfl : pt = .star := by cases pt <;> first | rfl | (cases hpt)
        obtain rfl : f = .nilFunc := htk
        simp only [Pt.isStar] at q0
        clear hpt
        obtain ⟨W1, hW1⟩ : ∃ X, wo.alloc (.cells #[.bool true, .nilFunc] 129) = X := ⟨_, rfl⟩
        obtain ⟨pb, hpb⟩ : ∃ x, wo.heap.size = x := ⟨_, rfl⟩
        have hbx : Box2 W1 pb 129 (.bool true) (.nilFunc) := by rw [← hW1, ← hpb]; exact Box2.new _ _ _ _
        have hz1x : W1.heap.size = pb + 1 := by rw [← hW1, ← hpb]; simp
        have hR1 : BRow W1 g5 (s.length + 1) (reach ps s) := by rw [← hW1]; exact hR.out.alloc _
        have hBW1 : Below w.heap.size w W1 := by rw [← hW1]; exact hB.alloc hBz _
        have hBr1 : Below wo.heap.size wo W1 := by rw [← hW1]; exact (Below.refl _ _).alloc (Nat.le_refl _) _
        have hpl : w.heap.size ≤ pb := by omega
        have hgp : g5 < pb := by omega
        have hW1' := Lib.hid hW1
        clear hW1
        have hpb' := Lib.hid hpb
        rw [hpb] at hBr1
        clear hpb
        go_wp2_with (at_make; rw [hW1'.out, hpb'.out]; refine wpList_make_full _ rfl _ _ _ rfl (pb + 1) 4 i0 _ 1 Tryd.underlying132 hi.out hz0.out hz1.out _ _ _ _ (s.length + 1) rfl rfl (by simp) (by simp) hib hml (by omega) ?_; intro W2 hown hgr; rw [hz1x] at hown ⊢; have hN := (BRow.made hown).1; have hB2 : Below (pb + 1) W1 W2 := (Below.refl _ _).grown hgr (by omega) (fun k e => by cases e); clear hown hgr)
        have hRn := Lib.hid ((hN.congr (f' := upTo (reach (ps ++ [.star]) s) 0) (fun j hj => by simp [upTo])))
        have hR2 := Lib.hid (hR1.below hB2 (by omega))
        have hb2 := Lib.hid (hbx.below hB2 (by omega))
        have hBW2 := hBW1.trans (hB2.mono (by omega))
        have hBr2 := hBr1.trans (hB2.mono (by omega))
        clear hN hB2 hR1 hbx hBW1 hBr1 hz1x q0 q1 hB hR
        go_loopw [28] (fun ii wx => ∃ i : Nat, i ≤ s.length + 1 ∧ ii = .int .i64 i ∧ Hid (BRow wx (pb + 1) (s.length + 1) (upTo (reach (ps ++ [.star]) s) i)) ∧ Hid (BRow wx g5 (s.length + 1) (reach ps s)) ∧ Hid (Box2 wx pb 129 (.bool true) (.nilFunc)) ∧ Below w.heap.size w wx ∧ Below pb wo wx) (fun ii _ => s.length + 1 - (intOf ii).toNat)
        case atStart => exact ⟨0, Nat.zero_le _, rfl, hRn, hR2, hb2, hBW2, hBr2⟩
        case round =>
          clear hRn hR2 hb2 hBW2 hBr2
          obtain ⟨i, hi1, rfl, hRn, hR2, hb2, hBx, hBy⟩ := hrel
          by_cases hlt2 : i < s.length + 1
          · skip
            have hiI : (i : Int) < (s.length : Int) + 1 := by omega
            have e0 := hb2.out.cell0
            have e1 := hb2.out.cell1
            have d0 := hR2.out.cell hlt2
            have n0 := hRn.out.cell hlt2
            have m0 := hRn.out.frozen i
            rcases boolOf (reach ps s i) with hb | hb
            case inr =>
              rw [hb.out] at d0
              have hval : true = reach (ps ++ [.star]) s i := by
                have hb := hb.out
                cases i with
                | zero => rw [reach_star0, hb]
                | succ j => rw [reach_star ps (by omega), hb]; rfl
              replace hval := Lib.hid hval
              have hset := Lib.hid ((hRn.out.set hlt2 true).congr (fun j _ => upTo_next (reach (ps ++ [.star]) s) i hval.out j))
              have hR2' := Lib.hid (hR2.out.other (B := pb + 1) (j := i) (by omega) (.bool true))
              have hb2' : Box2 (wr.setCell ⟨pb + 1, i, none⟩ (.bool true)) pb 129 (.bool true) (.nilFunc) := hb2.out.kept (grown_set _ (pb + 1) i _) (by simp)
              replace hb2' := Lib.hid hb2'
              have hBx' : Below w.heap.size w (wr.setCell ⟨pb + 1, i, none⟩ (.bool true)) := hBx.setCell (p := ⟨pb + 1, i, none⟩) (by simp; omega) _
              have hBy' : Below pb wo (wr.setCell ⟨pb + 1, i, none⟩ (.bool true)) := hBy.setCell (p := ⟨pb + 1, i, none⟩) (by simp) _
              go_wp2
              go_roundw
              case rel => exact ⟨i + 1, by omega, by go_num, hset, hR2', hb2', hBx', hBy'⟩
              case measure => first | (simp [intOf]; done) | (simp [intOf]; omega)
            rw [hb.out] at d0
            cases i with
            | zero =>
              have hval : false = reach (ps ++ [.star]) s 0 := by rw [reach_star0, hb.out]
              replace hval := Lib.hid hval
              have hset := Lib.hid ((hRn.out.set hlt2 false).congr (fun j _ => upTo_next (reach (ps ++ [.star]) s) 0 hval.out j))
              have hR2' := Lib.hid (hR2.out.other (B := pb + 1) (j := 0) (by omega) (.bool false))
              have hb2' : Box2 (wr.setCell ⟨pb + 1, 0, none⟩ (.bool false)) pb 129 (.bool true) (.nilFunc) := hb2.out.kept (grown_set _ (pb + 1) 0 _) (by simp)
              replace hb2' := Lib.hid hb2'
              have hBx' : Below w.heap.size w (wr.setCell ⟨pb + 1, 0, none⟩ (.bool false)) := hBx.setCell (p := ⟨pb + 1, 0, none⟩) (by simp; omega) _
              have hBy' : Below pb wo (wr.setCell ⟨pb + 1, 0, none⟩ (.bool false)) := hBy.setCell (p := ⟨pb + 1, 0, none⟩) (by simp) _
              go_wp2
              go_roundw
              case rel => exact ⟨0 + 1, by omega, by go_num, hset, hR2', hb2', hBx', hBy'⟩
              case measure => first | (simp [intOf]; done) | (simp [intOf]; omega)
            | succ j =>
              have hjl : j < s.length + 1 := by omega
              have p0 := hRn.out.cell hjl
              rw [upTo_lt _ (by omega)] at p0
              have hjI : (0 : Int) < (j : Int) + 1 := by omega
              have hjm : (j : Int) ≤ 1048576 := by omega
              have hvj : ∀ b, reach (ps ++ [.star]) s j = b → b = reach (ps ++ [.star]) s (j + 1) := fun b h => by rw [reach_star ps (by omega), hb.out, h]; rfl
              rcases boolOf (reach (ps ++ [.star]) s j) with hc | hc
              · rw [hc.out] at p0
                have hval := Lib.hid (hvj _ hc.out)
                clear hvj
                have hset := Lib.hid ((hRn.out.set hlt2 false).congr (fun j' _ => upTo_next (reach (ps ++ [.star]) s) (j + 1) hval.out j'))
                have hR2' := Lib.hid (hR2.out.other (B := pb + 1) (j := j + 1) (by omega) (.bool false))
                have hb2' : Box2 (wr.setCell ⟨pb + 1, j + 1, none⟩ (.bool false)) pb 129 (.bool true) (.nilFunc) := hb2.out.kept (grown_set _ (pb + 1) (j + 1) _) (by simp)
                replace hb2' := Lib.hid hb2'
                have hBx' : Below w.heap.size w (wr.setCell ⟨pb + 1, j + 1, none⟩ (.bool false)) := hBx.setCell (p := ⟨pb + 1, j + 1, none⟩) (by simp; omega) _
                have hBy' : Below pb wo (wr.setCell ⟨pb + 1, j + 1, none⟩ (.bool false)) := hBy.setCell (p := ⟨pb + 1, j + 1, none⟩) (by simp) _
                go_wp2
                go_roundw
                case rel => exact ⟨j + 1 + 1, by omega, by first | go_num | (congr 1; omega), hset, hR2', hb2', hBx', hBy'⟩
                case measure => first | (simp [intOf]; done) | (simp [intOf]; omega)
              · rw [hc.out] at p0
                have hval := Lib.hid (hvj _ hc.out)
                clear hvj
                have hset := Lib.hid ((hRn.out.set hlt2 true).congr (fun j' _ => upTo_next (reach (ps ++ [.star]) s) (j + 1) hval.out j'))
                have hR2' := Lib.hid (hR2.out.other (B := pb + 1) (j := j + 1) (by omega) (.bool true))
                have hb2' : Box2 (wr.setCell ⟨pb + 1, j + 1, none⟩ (.bool true)) pb 129 (.bool true) (.nilFunc) := hb2.out.kept (grown_set _ (pb + 1) (j + 1) _) (by simp)
                replace hb2' := Lib.hid hb2'
                have hBx' : Below w.heap.size w (wr.setCell ⟨pb + 1, j + 1, none⟩ (.bool true)) := hBx.setCell (p := ⟨pb + 1, j + 1, none⟩) (by simp; omega) _
                have hBy' : Below pb wo (wr.setCell ⟨pb + 1, j + 1, none⟩ (.bool true)) := hBy.setCell (p := ⟨pb + 1, j + 1, none⟩) (by simp) _
                go_wp2
                go_roundw
                case rel => exact ⟨j + 1 + 1, by omega, by first | go_num | (congr 1; omega), hset, hR2', hb2', hBx', hBy'⟩
                case measure => first | (simp [intOf]; done) | (simp [intOf]; omega)
          · obtain rfl : i = s.length + 1 := by omega
            have hfin := Lib.hid (hRn.out.congr (f' := reach (ps ++ [.star]) s) (fun j hj => upTo_lt _ hj))
            have hBz2 := hBx.size
            go_wp2
            go_roundw
            case rel => exact ⟨k + 1, pb + 1, by omega, by go_num, rfl, by omega, by rw [hst.out]; exact hfin, hBx⟩
            case measure => simp [intOf]; omega
      · have hpt : pt.isStar = false := by simpa using hpt
        rw [hpt] at q0
        obtain ⟨gf, bs, rfl, eg, hcall⟩ := take_fn htk hpt
        replace hcall := Lib.hid hcall
        replace hpt := Lib.hid hpt
        clear htk
        obtain ⟨W1, hW1⟩ : ∃ X, wo.alloc (.cells #[.bool false, .func (.func gf) #[] bs] 129) = X := ⟨_, rfl⟩
        obtain ⟨pb, hpb⟩ : ∃ x, wo.heap.size = x := ⟨_, rfl⟩
        have hbx : Box2 W1 pb 129 (.bool false) (.func (.func gf) #[] bs) := by rw [← hW1, ← hpb]; exact Box2.new _ _ _ _
        have hz1x : W1.heap.size = pb + 1 := by rw [← hW1, ← hpb]; simp
        have hR1 : BRow W1 g5 (s.length + 1) (reach ps s) := by rw [← hW1]; exact hR.out.alloc _
        have hBW1 : Below w.heap.size w W1 := by rw [← hW1]; exact hB.alloc hBz _
        have hBr1 : Below wo.heap.size wo W1 := by rw [← hW1]; exact (Below.refl _ _).alloc (Nat.le_refl _) _
        have hpl : w.heap.size ≤ pb := by omega
        have hgp : g5 < pb := by omega
        have hW1' := Lib.hid hW1
        clear hW1
        have hpb' := Lib.hid hpb
        rw [hpb] at hBr1
        clear hpb
        go_wp2_with (at_make; rw [hW1'.out, hpb'.out]; refine wpList_make_full _ rfl _ _ _ rfl (pb + 1) 4 i0 _ 1 Tryd.underlying132 hi.out hz0.out hz1.out _ _ _ _ (s.length + 1) rfl rfl (by simp) (by simp) hib hml (by omega) ?_; intro W2 hown hgr; rw [hz1x] at hown ⊢; have hN := (BRow.made hown).1; have hB2 : Below (pb + 1) W1 W2 := (Below.refl _ _).grown hgr (by omega) (fun k e => by cases e); clear hown hgr)
        have hRn := Lib.hid ((hN.congr (f' := upTo (reach (ps ++ [pt]) s) 0) (fun j hj => by simp [upTo])))
        have hR2 := Lib.hid (hR1.below hB2 (by omega))
        have hb2 := Lib.hid (hbx.below hB2 (by omega))
        have hBW2 := hBW1.trans (hB2.mono (by omega))
        have hBr2 := hBr1.trans (hB2.mono (by omega))
        clear hN hB2 hR1 hbx hBW1 hBr1 hz1x q0 q1 hB hR
        go_loopw [28] (fun ii wx => ∃ i : Nat, i ≤ s.length + 1 ∧ ii = .int .i64 i ∧ Hid (BRow wx (pb + 1) (s.length + 1) (upTo (reach (ps ++ [pt]) s) i)) ∧ Hid (BRow wx g5 (s.length + 1) (reach ps s)) ∧ Hid (Box2 wx pb 129 (.bool false) (.func (.func gf) #[] bs)) ∧ Below w.heap.size w wx ∧ Below pb wo wx) (fun ii _ => s.length + 1 - (intOf ii).toNat)
        case atStart => exact ⟨0, Nat.zero_le _, rfl, hRn, hR2, hb2, hBW2, hBr2⟩
        case round =>
          clear hRn hR2 hb2 hBW2 hBr2
          obtain ⟨i, hi1, rfl, hRn, hR2, hb2, hBx, hBy⟩ := hrel
          by_cases hlt2 : i < s.length + 1
          · skip
            have hiI : (i : Int) < (s.length : Int) + 1 := by omega
            have e0 := hb2.out.cell0
            have e1 := hb2.out.cell1
            have d0 := hR2.out.cell hlt2
            have n0 := hRn.out.cell hlt2
            have m0 := hRn.out.frozen i
            cases i with
            | zero =>
              have hval : false = reach (ps ++ [pt]) s 0 := (reach_one0 ps hpt.out s).symm
              replace hval := Lib.hid hval
              have hset := Lib.hid ((hRn.out.set hlt2 false).congr (fun j' _ => upTo_next (reach (ps ++ [pt]) s) (0) hval.out j'))
              have hR2' := Lib.hid (hR2.out.other (B := pb + 1) (j := 0) (by omega) (.bool false))
              have hb2' : Box2 (wr.setCell ⟨pb + 1, 0, none⟩ (.bool false)) pb 129 (.bool false) (.func (.func gf) #[] bs) := hb2.out.kept (grown_set _ (pb + 1) (0) _) (by simp)
              replace hb2' := Lib.hid hb2'
              have hBx' : Below w.heap.size w (wr.setCell ⟨pb + 1, 0, none⟩ (.bool false)) := hBx.setCell (p := ⟨pb + 1, 0, none⟩) (by simp; omega) _
              have hBy' : Below pb wo (wr.setCell ⟨pb + 1, 0, none⟩ (.bool false)) := hBy.setCell (p := ⟨pb + 1, 0, none⟩) (by simp) _
              have hR3 := hb2'.out.cell0
              go_wp2_with fail
              first | refine wp_region_noPanic ?_ | skip
              refine wp_region_held_drew (S := (fun W' => W'.cell? ⟨pb, 0, none⟩ = some (.bool false))) (by kernel_rfl) ?_ (fun hHeld => ?_)
              · exact e0
              refine wpAnyH_take (i := 0) (v := ?_) rfl (by kernel_rfl) (by kernel_rfl) (by kernel_rfl) (fun _ _ _ h => h) (Or.inl ⟨by rfl, ?_⟩) (by assumption) ?_
              rotate_left
              · (intro w hSw; (try dsimp only at hSw); go_simp; try with_reducible rfl)
              try simp only [Array.reduceGetElem, Act.put, List.setIfInBounds_toArray, List.set_cons_zero, List.set_cons_succ]
              refine wpAnyH_take (i := 1) (v := ?_) rfl (by kernel_rfl) (by kernel_rfl) (by kernel_rfl) (fun _ _ _ h => h) (Or.inl ⟨by rfl, ?_⟩) (by assumption) ?_
              rotate_left
              · (intro w hSw; (try dsimp only at hSw); go_simp; try with_reducible rfl)
              try simp only [Array.reduceGetElem, Act.put, List.setIfInBounds_toArray, List.set_cons_zero, List.set_cons_succ]
              refine wpAnyH_take (i := 2) (v := ?_) rfl (by kernel_rfl) (by kernel_rfl) (by kernel_rfl) (fun _ _ _ h => h) (Or.inl ⟨by rfl, ?_⟩) (by assumption) ?_
              rotate_left
              · (intro w hSw; (try dsimp only at hSw); go_simp; try with_reducible rfl)
              try simp only [Array.reduceGetElem, Act.put, List.setIfInBounds_toArray, List.set_cons_zero, List.set_cons_succ]
              refine wpAnyH_take (i := 3) (v := ?_) rfl (by kernel_rfl) (by kernel_rfl) (by kernel_rfl) (fun _ _ _ h => h) (Or.inl ⟨by rfl, ?_⟩) (by assumption) ?_
              rotate_left
              · (intro w hSw; (try dsimp only at hSw); go_simp; try with_reducible rfl)
              try simp only [Array.reduceGetElem, Act.put, List.setIfInBounds_toArray, List.set_cons_zero, List.set_cons_succ]
              refine wpAnyH_take (i := 4) (v := ?_) rfl (by kernel_rfl) (by kernel_rfl) (by kernel_rfl) (fun _ _ _ h => h) (Or.inl ⟨by rfl, ?_⟩) (by assumption) ?_
              rotate_left
              · (intro w hSw; (try dsimp only at hSw); go_simp; try with_reducible rfl)
              try simp only [Array.reduceGetElem, Act.put, List.setIfInBounds_toArray, List.set_cons_zero, List.set_cons_succ]
              refine wpAnyH_take (i := 5) (v := undef) rfl (by kernel_rfl) (by kernel_rfl) (by kernel_rfl) (fun _ _ _ h => h) (Or.inr ⟨by rfl, rfl⟩) (by assumption) ?_
              try simp only [Array.reduceGetElem, Act.put, List.setIfInBounds_toArray, List.set_cons_zero, List.set_cons_succ]
              refine wpAnyH_take (i := 6) (v := undef) rfl (by kernel_rfl) (by kernel_rfl) (by kernel_rfl) (fun _ _ _ h => h) (Or.inr ⟨by rfl, rfl⟩) (by assumption) ?_
              try simp only [Array.reduceGetElem, Act.put, List.setIfInBounds_toArray, List.set_cons_zero, List.set_cons_succ]
              refine wpAnyH_take (i := 7) (v := undef) rfl (by kernel_rfl) (by kernel_rfl) (by kernel_rfl) (fun _ _ _ h => h) (Or.inr ⟨by rfl, rfl⟩) (by assumption) ?_
              try simp only [Array.reduceGetElem, Act.put, List.setIfInBounds_toArray, List.set_cons_zero, List.set_cons_succ]
              refine wpAnyH_take (i := 8) (v := undef) rfl (by kernel_rfl) (by kernel_rfl) (by kernel_rfl) (fun _ _ _ h => h) (Or.inr ⟨by rfl, rfl⟩) (by assumption) ?_
              try simp only [Array.reduceGetElem, Act.put, List.setIfInBounds_toArray, List.set_cons_zero, List.set_cons_succ]
              refine wpAnyH_take (i := 9) (v := undef) rfl (by kernel_rfl) (by kernel_rfl) (by kernel_rfl) (fun _ _ _ h => h) (Or.inr ⟨by rfl, rfl⟩) (by assumption) ?_
              try simp only [Array.reduceGetElem, Act.put, List.setIfInBounds_toArray, List.set_cons_zero, List.set_cons_succ]
              refine wpAnyH_take (i := 10) (v := ?_) rfl (by kernel_rfl) (by kernel_rfl) (by kernel_rfl) (fun _ _ _ h => h) (Or.inl ⟨by rfl, ?_⟩) (by assumption) ?_
              rotate_left
              · (intro w hSw; (try dsimp only at hSw); go_simp; try with_reducible rfl)
              try simp only [Array.reduceGetElem, Act.put, List.setIfInBounds_toArray, List.set_cons_zero, List.set_cons_succ]
              refine wpAnyH_take (i := 11) (v := ?_) rfl (by kernel_rfl) (by kernel_rfl) (by kernel_rfl) (fun _ _ _ h => h) (Or.inl ⟨by rfl, ?_⟩) (by assumption) ?_
              rotate_left
              · (intro w hSw; (try dsimp only at hSw); go_simp; try with_reducible rfl)
              try simp only [Array.reduceGetElem, Act.put, List.setIfInBounds_toArray, List.set_cons_zero, List.set_cons_succ]
              refine wpAnyH_take (i := 12) (v := undef) rfl (by kernel_rfl) (by kernel_rfl) (by kernel_rfl) (fun _ _ _ h => h) (Or.inr ⟨by rfl, rfl⟩) (by assumption) ?_
              try simp only [Array.reduceGetElem, Act.put, List.setIfInBounds_toArray, List.set_cons_zero, List.set_cons_succ]
              refine wpAnyH_take (i := 13) (v := undef) rfl (by kernel_rfl) (by kernel_rfl) (by kernel_rfl) (fun _ _ _ h => h) (Or.inr ⟨by rfl, rfl⟩) (by assumption) ?_
              try simp only [Array.reduceGetElem, Act.put, List.setIfInBounds_toArray, List.set_cons_zero, List.set_cons_succ]
              refine wpAnyH_take (i := 14) (v := undef) rfl (by kernel_rfl) (by kernel_rfl) (by kernel_rfl) (fun _ _ _ h => h) (Or.inr ⟨by rfl, rfl⟩) (by assumption) ?_
              try simp only [Array.reduceGetElem, Act.put, List.setIfInBounds_toArray, List.set_cons_zero, List.set_cons_succ]
              refine wpAnyH_take (i := 15) (v := undef) rfl (by kernel_rfl) (by kernel_rfl) (by kernel_rfl) (fun _ _ _ h => h) (Or.inr ⟨by rfl, rfl⟩) (by assumption) ?_
              try simp only [Array.reduceGetElem, Act.put, List.setIfInBounds_toArray, List.set_cons_zero, List.set_cons_succ]
              refine wpAnyH_take (i := 16) (v := undef) rfl (by kernel_rfl) (by kernel_rfl) (by kernel_rfl) (fun _ _ _ h => h) (Or.inr ⟨by rfl, rfl⟩) (by assumption) ?_
              try simp only [Array.reduceGetElem, Act.put, List.setIfInBounds_toArray, List.set_cons_zero, List.set_cons_succ]
              refine wpAnyH_take (i := 17) (v := undef) rfl (by kernel_rfl) (by kernel_rfl) (by kernel_rfl) (fun _ _ _ h => h) (Or.inr ⟨by rfl, rfl⟩) (by assumption) ?_
              try simp only [Array.reduceGetElem, Act.put, List.setIfInBounds_toArray, List.set_cons_zero, List.set_cons_succ]
              refine wpAnyH_take (i := 18) (v := undef) rfl (by kernel_rfl) (by kernel_rfl) (by kernel_rfl) (fun _ _ _ h => h) (Or.inr ⟨by rfl, rfl⟩) (by assumption) ?_
              try simp only [Array.reduceGetElem, Act.put, List.setIfInBounds_toArray, List.set_cons_zero, List.set_cons_succ]
              refine wpAnyH_take (i := 19) (v := ?_) rfl (by kernel_rfl) (by kernel_rfl) (by kernel_rfl) (fun _ _ _ h => h) (Or.inl ⟨by rfl, ?_⟩) (by assumption) ?_
              rotate_left
              · (intro w hSw; (try dsimp only at hSw); go_simp; try with_reducible rfl)
              try simp only [Array.reduceGetElem, Act.put, List.setIfInBounds_toArray, List.set_cons_zero, List.set_cons_succ]
              refine wpAnyH_take (i := 20) (v := ?_) rfl (by kernel_rfl) (by kernel_rfl) (by kernel_rfl) (fun _ _ _ h => h) (Or.inl ⟨by rfl, ?_⟩) (by assumption) ?_
              rotate_left
              · (intro w hSw; (try dsimp only at hSw); go_simp; try with_reducible rfl)
              try simp only [Array.reduceGetElem, Act.put, List.setIfInBounds_toArray, List.set_cons_zero, List.set_cons_succ]
              refine wpAnyH_ready (rs := [21]) (by kernel_rfl) (by simp) ?_
              refine AllReadyH.cons rfl (fun K hK => ?_) AllReadyH.nil
              go_simp
              skip
              refine hK.out _ _ ?_ (fun hHeld => ?_)
              · (try dsimp only); first | exact e0 | exact hR3
              clear hK K
              try simp only [Array.reduceGetElem, Act.put, List.setIfInBounds_toArray, List.set_cons_zero, List.set_cons_succ]
              refine wpAnyH_done (by kernel_rfl) ?_ _
              try refine NoPanic.normal ?_
              (try dsimp only)
              go_wp2
              go_roundw
              case rel => exact ⟨0 + 1, by omega, by first | go_num | (congr 1; omega), Lib.hid (hset.out.same rfl), Lib.hid (hR2'.out.same rfl), Lib.hid hb2'.out, hBx'.trans ⟨rfl, rfl, rfl, by simp [World.setCell], fun _ _ => rfl⟩, hBy'.trans ⟨rfl, rfl, rfl, by simp [World.setCell], fun _ _ => rfl⟩⟩
              case measure => first | (simp [intOf]; done) | (simp [intOf]; omega)
            | succ j =>
              have hjl : j < s.length + 1 := by omega
              have p0 := hR2.out.cell hjl
              have hjs : j < s.length := by omega
              have hjI : (0 : Int) < (j : Int) + 1 := by omega
              have hjI3 : (j : Int) < (s.length : Int) := by omega
              have hjI2 : (j : Int) < (s.length : Int) + 1 := by omega
              have hjm : (j : Int) ≤ 1048576 := by omega
              have hsub : IntKind.i64.wrap ((j : Int) + 1 - 1) = (j : Int) := by rw [Int.add_sub_cancel, IntKind.wrap_i64]; omega
              have hsub2 : IntKind.i64.wrap (j : Int) = (j : Int) := by rw [IntKind.wrap_i64]; omega
              have hj0 : (0 : Int) ≤ (j : Int) := by omega
              have hj1 : (0 : Int) ≤ (j : Int) + 1 := by omega
              have hj2 : (j : Int) + 1 < (s.length : Int) + 1 := by omega
              have hvj : ∀ b, (reach ps s j && pt.has s[j]) = b → b = reach (ps ++ [pt]) s (j + 1) := fun b h => by rw [reach_one ps hpt.out hjs, h]
              rcases boolOf (reach ps s j) with hc | hc
              · rw [hc.out] at p0
                have hval := Lib.hid (hvj false (by rw [hc.out]; rfl))
                clear hvj
                have hset := Lib.hid ((hRn.out.set hlt2 false).congr (fun j' _ => upTo_next (reach (ps ++ [pt]) s) (j + 1) hval.out j'))
                have hR2' := Lib.hid (hR2.out.other (B := pb + 1) (j := j + 1) (by omega) (.bool false))
                have hb2' : Box2 (wr.setCell ⟨pb + 1, j + 1, none⟩ (.bool false)) pb 129 (.bool false) (.func (.func gf) #[] bs) := hb2.out.kept (grown_set _ (pb + 1) (j + 1) _) (by simp)
                replace hb2' := Lib.hid hb2'
                have hBx' : Below w.heap.size w (wr.setCell ⟨pb + 1, j + 1, none⟩ (.bool false)) := hBx.setCell (p := ⟨pb + 1, j + 1, none⟩) (by simp; omega) _
                have hBy' : Below pb wo (wr.setCell ⟨pb + 1, j + 1, none⟩ (.bool false)) := hBy.setCell (p := ⟨pb + 1, j + 1, none⟩) (by simp) _
                have hR3 : (wr.setCell ⟨pb + 1, j + 1, none⟩ (.bool false)).cell? ⟨g5, j, none⟩ = some (.bool false) := by have := hR2'.out.cell hjl; rwa [hc.out] at this
                go_wp2_with fail
                first | refine wp_region_noPanic ?_ | skip
                refine wp_region_held_drew (S := (fun W' => W'.cell? ⟨g5, j, none⟩ = some (.bool false))) (by kernel_rfl) ?_ (fun hHeld => ?_)
                · exact p0
                refine wpAnyH_take (i := 0) (v := ?_) rfl (by kernel_rfl) (by kernel_rfl) (by kernel_rfl) (fun _ _ _ h => h) (Or.inl ⟨by rfl, ?_⟩) (by assumption) ?_
                rotate_left
                · (intro w hSw; (try dsimp only at hSw); go_simp; try with_reducible rfl)
                try simp only [Array.reduceGetElem, Act.put, List.setIfInBounds_toArray, List.set_cons_zero, List.set_cons_succ]
                refine wpAnyH_take (i := 1) (v := ?_) rfl (by kernel_rfl) (by kernel_rfl) (by kernel_rfl) (fun _ _ _ h => h) (Or.inl ⟨by rfl, ?_⟩) (by assumption) ?_
                rotate_left
                · (intro w hSw; (try dsimp only at hSw); go_simp; try with_reducible rfl)
                try simp only [Array.reduceGetElem, Act.put, List.setIfInBounds_toArray, List.set_cons_zero, List.set_cons_succ]
                refine wpAnyH_take (i := 2) (v := ?_) rfl (by kernel_rfl) (by kernel_rfl) (by kernel_rfl) (fun _ _ _ h => h) (Or.inl ⟨by rfl, ?_⟩) (by assumption) ?_
                rotate_left
                · (intro w hSw; (try dsimp only at hSw); go_simp; try with_reducible rfl)
                try simp only [Array.reduceGetElem, Act.put, List.setIfInBounds_toArray, List.set_cons_zero, List.set_cons_succ]
                refine wpAnyH_take (i := 3) (v := ?_) rfl (by kernel_rfl) (by kernel_rfl) (by kernel_rfl) (fun _ _ _ h => h) (Or.inl ⟨by rfl, ?_⟩) (by assumption) ?_
                rotate_left
                · (intro w hSw; (try dsimp only at hSw); go_simp; try with_reducible rfl)
                try simp only [Array.reduceGetElem, Act.put, List.setIfInBounds_toArray, List.set_cons_zero, List.set_cons_succ]
                refine wpAnyH_take (i := 4) (v := ?_) rfl (by kernel_rfl) (by kernel_rfl) (by kernel_rfl) (fun _ _ _ h => h) (Or.inl ⟨by rfl, ?_⟩) (by assumption) ?_
                rotate_left
                · (intro w hSw; (try dsimp only at hSw); go_simp; try with_reducible rfl)
                try simp only [Array.reduceGetElem, Act.put, List.setIfInBounds_toArray, List.set_cons_zero, List.set_cons_succ]
                refine wpAnyH_take (i := 5) (v := ?_) rfl (by kernel_rfl) (by kernel_rfl) (by kernel_rfl) (fun _ _ _ h => h) (Or.inl ⟨by rfl, ?_⟩) (by assumption) ?_
                rotate_left
                · (intro w hSw; (try dsimp only at hSw); go_simp; try with_reducible rfl)
                try simp only [Array.reduceGetElem, Act.put, List.setIfInBounds_toArray, List.set_cons_zero, List.set_cons_succ]
                refine wpAnyH_take (i := 6) (v := ?_) rfl (by kernel_rfl) (by kernel_rfl) (by kernel_rfl) (fun _ _ _ h => h) (Or.inl ⟨by rfl, ?_⟩) (by assumption) ?_
                rotate_left
                · (intro w hSw; (try dsimp only at hSw); go_simp; try with_reducible rfl)
                try simp only [Array.reduceGetElem, Act.put, List.setIfInBounds_toArray, List.set_cons_zero, List.set_cons_succ]
                refine wpAnyH_take (i := 7) (v := ?_) rfl (by kernel_rfl) (by kernel_rfl) (by kernel_rfl) (fun _ _ _ h => h) (Or.inl ⟨by rfl, ?_⟩) (by assumption) ?_
                rotate_left
                · (intro w hSw; (try dsimp only at hSw); go_simp; try with_reducible rfl)
                try simp only [Array.reduceGetElem, Act.put, List.setIfInBounds_toArray, List.set_cons_zero, List.set_cons_succ]
                refine wpAnyH_take (i := 8) (v := ?_) rfl (by kernel_rfl) (by kernel_rfl) (by kernel_rfl) (fun _ _ _ h => h) (Or.inl ⟨by rfl, ?_⟩) (by assumption) ?_
                rotate_left
                · (intro w hSw; (try dsimp only at hSw); go_simp; try with_reducible rfl)
                try simp only [Array.reduceGetElem, Act.put, List.setIfInBounds_toArray, List.set_cons_zero, List.set_cons_succ]
                refine wpAnyH_take (i := 9) (v := ?_) rfl (by kernel_rfl) (by kernel_rfl) (by kernel_rfl) (fun _ _ _ h => h) (Or.inl ⟨by rfl, ?_⟩) (by assumption) ?_
                rotate_left
                · (intro w hSw; (try dsimp only at hSw); go_simp; try with_reducible rfl)
                try simp only [Array.reduceGetElem, Act.put, List.setIfInBounds_toArray, List.set_cons_zero, List.set_cons_succ]
                refine wpAnyH_take (i := 10) (v := ?_) rfl (by kernel_rfl) (by kernel_rfl) (by kernel_rfl) (fun _ _ _ h => h) (Or.inl ⟨by rfl, ?_⟩) (by assumption) ?_
                rotate_left
                · (intro w hSw; (try dsimp only at hSw); go_simp; try with_reducible rfl)
                try simp only [Array.reduceGetElem, Act.put, List.setIfInBounds_toArray, List.set_cons_zero, List.set_cons_succ]
                refine wpAnyH_take (i := 11) (v := ?_) rfl (by kernel_rfl) (by kernel_rfl) (by kernel_rfl) (fun _ _ _ h => h) (Or.inl ⟨by rfl, ?_⟩) (by assumption) ?_
                rotate_left
                · (intro w hSw; (try dsimp only at hSw); go_simp; try with_reducible rfl)
                try simp only [Array.reduceGetElem, Act.put, List.setIfInBounds_toArray, List.set_cons_zero, List.set_cons_succ]
                refine wpAnyH_take (i := 12) (v := undef) rfl (by kernel_rfl) (by kernel_rfl) (by kernel_rfl) (fun _ _ _ h => h) (Or.inr ⟨by rfl, rfl⟩) (by assumption) ?_
                try simp only [Array.reduceGetElem, Act.put, List.setIfInBounds_toArray, List.set_cons_zero, List.set_cons_succ]
                refine wpAnyH_take (i := 13) (v := undef) rfl (by kernel_rfl) (by kernel_rfl) (by kernel_rfl) (fun _ _ _ h => h) (Or.inr ⟨by rfl, rfl⟩) (by assumption) ?_
                try simp only [Array.reduceGetElem, Act.put, List.setIfInBounds_toArray, List.set_cons_zero, List.set_cons_succ]
                refine wpAnyH_take (i := 14) (v := undef) rfl (by kernel_rfl) (by kernel_rfl) (by kernel_rfl) (fun _ _ _ h => h) (Or.inr ⟨by rfl, rfl⟩) (by assumption) ?_
                try simp only [Array.reduceGetElem, Act.put, List.setIfInBounds_toArray, List.set_cons_zero, List.set_cons_succ]
                refine wpAnyH_take (i := 15) (v := undef) rfl (by kernel_rfl) (by kernel_rfl) (by kernel_rfl) (fun _ _ _ h => h) (Or.inr ⟨by rfl, rfl⟩) (by assumption) ?_
                try simp only [Array.reduceGetElem, Act.put, List.setIfInBounds_toArray, List.set_cons_zero, List.set_cons_succ]
                refine wpAnyH_take (i := 16) (v := undef) rfl (by kernel_rfl) (by kernel_rfl) (by kernel_rfl) (fun _ _ _ h => h) (Or.inr ⟨by rfl, rfl⟩) (by assumption) ?_
                try simp only [Array.reduceGetElem, Act.put, List.setIfInBounds_toArray, List.set_cons_zero, List.set_cons_succ]
                refine wpAnyH_take (i := 17) (v := undef) rfl (by kernel_rfl) (by kernel_rfl) (by kernel_rfl) (fun _ _ _ h => h) (Or.inr ⟨by rfl, rfl⟩) (by assumption) ?_
                try simp only [Array.reduceGetElem, Act.put, List.setIfInBounds_toArray, List.set_cons_zero, List.set_cons_succ]
                refine wpAnyH_take (i := 18) (v := undef) rfl (by kernel_rfl) (by kernel_rfl) (by kernel_rfl) (fun _ _ _ h => h) (Or.inr ⟨by rfl, rfl⟩) (by assumption) ?_
                try simp only [Array.reduceGetElem, Act.put, List.setIfInBounds_toArray, List.set_cons_zero, List.set_cons_succ]
                refine wpAnyH_take (i := 19) (v := ?_) rfl (by kernel_rfl) (by kernel_rfl) (by kernel_rfl) (fun _ _ _ h => h) (Or.inl ⟨by rfl, ?_⟩) (by assumption) ?_
                rotate_left
                · (intro w hSw; (try dsimp only at hSw); go_simp; try with_reducible rfl)
                try simp only [Array.reduceGetElem, Act.put, List.setIfInBounds_toArray, List.set_cons_zero, List.set_cons_succ]
                refine wpAnyH_take (i := 20) (v := ?_) rfl (by kernel_rfl) (by kernel_rfl) (by kernel_rfl) (fun _ _ _ h => h) (Or.inl ⟨by rfl, ?_⟩) (by assumption) ?_
                rotate_left
                · (intro w hSw; (try dsimp only at hSw); go_simp; try with_reducible rfl)
                try simp only [Array.reduceGetElem, Act.put, List.setIfInBounds_toArray, List.set_cons_zero, List.set_cons_succ]
                refine wpAnyH_ready (rs := [21]) (by kernel_rfl) (by simp) ?_
                refine AllReadyH.cons rfl (fun K hK => ?_) AllReadyH.nil
                go_simp
                skip
                refine hK.out _ _ ?_ (fun hHeld => ?_)
                · (try dsimp only); first | exact p0 | exact hR3
                clear hK K
                try simp only [Array.reduceGetElem, Act.put, List.setIfInBounds_toArray, List.set_cons_zero, List.set_cons_succ]
                refine wpAnyH_done (by kernel_rfl) ?_ _
                try refine NoPanic.normal ?_
                (try dsimp only)
                go_wp2
                go_roundw
                case rel => exact ⟨j + 1 + 1, by omega, by first | go_num | (congr 1; omega), Lib.hid (hset.out.same rfl), Lib.hid (hR2'.out.same rfl), Lib.hid hb2'.out, hBx'.trans ⟨rfl, rfl, rfl, by simp [World.setCell], fun _ _ => rfl⟩, hBy'.trans ⟨rfl, rfl, rfl, by simp [World.setCell], fun _ _ => rfl⟩⟩
                case measure => first | (simp [intOf]; done) | (simp [intOf]; omega)
              · rw [hc.out] at p0
                rcases boolOf (pt.has s[j]) with hd | hd
                · have hval := Lib.hid (hvj false (by rw [hc.out, hd.out]; rfl))
                  clear hvj
                  have hcl := Lib.hid (fun W' h => hcall.out s[j] W' h)
                  rw [hd.out] at hcl
                  have hset := Lib.hid ((hRn.out.set hlt2 false).congr (fun j' _ => upTo_next (reach (ps ++ [pt]) s) (j + 1) hval.out j'))
                  have hR2' := Lib.hid (hR2.out.other (B := pb + 1) (j := j + 1) (by omega) (.bool false))
                  have hb2' : Box2 (wr.setCell ⟨pb + 1, j + 1, none⟩ (.bool false)) pb 129 (.bool false) (.func (.func gf) #[] bs) := hb2.out.kept (grown_set _ (pb + 1) (j + 1) _) (by simp)
                  replace hb2' := Lib.hid hb2'
                  have hBx' : Below w.heap.size w (wr.setCell ⟨pb + 1, j + 1, none⟩ (.bool false)) := hBx.setCell (p := ⟨pb + 1, j + 1, none⟩) (by simp; omega) _
                  have hBy' : Below pb wo (wr.setCell ⟨pb + 1, j + 1, none⟩ (.bool false)) := hBy.setCell (p := ⟨pb + 1, j + 1, none⟩) (by simp) _
                  have hR3 : (wr.setCell ⟨pb + 1, j + 1, none⟩ (.bool false)).cell? ⟨g5, j, none⟩ = some (.bool true) := by have := hR2'.out.cell hjl; rwa [hc.out] at this
                  have hR4 := hb2'.out.cell1
                  go_wp2_with fail
                  first | refine wp_region_noPanic ?_ | skip
                  refine wp_region_held_drew (S := (fun W' => W'.cell? ⟨g5, j, none⟩ = some (.bool true) ∧ W'.cell? ⟨pb, 1, none⟩ = some (.func (.func gf) #[] bs))) (by kernel_rfl) ?_ (fun hHeld => ?_)
                  · exact ⟨p0, e1⟩
                  refine wpAnyH_take (i := 0) (v := ?_) rfl (by kernel_rfl) (by kernel_rfl) (by kernel_rfl) (fun _ _ _ h => h) (Or.inl ⟨by rfl, ?_⟩) (by assumption) ?_
                  rotate_left
                  · (intro w hSw; (try dsimp only at hSw); go_simp; try with_reducible rfl)
                  try simp only [Array.reduceGetElem, Act.put, List.setIfInBounds_toArray, List.set_cons_zero, List.set_cons_succ]
                  refine wpAnyH_take (i := 1) (v := ?_) rfl (by kernel_rfl) (by kernel_rfl) (by kernel_rfl) (fun _ _ _ h => h) (Or.inl ⟨by rfl, ?_⟩) (by assumption) ?_
                  rotate_left
                  · (intro w hSw; (try dsimp only at hSw); go_simp; try with_reducible rfl)
                  try simp only [Array.reduceGetElem, Act.put, List.setIfInBounds_toArray, List.set_cons_zero, List.set_cons_succ]
                  refine wpAnyH_take (i := 2) (v := ?_) rfl (by kernel_rfl) (by kernel_rfl) (by kernel_rfl) (fun _ _ _ h => h) (Or.inl ⟨by rfl, ?_⟩) (by assumption) ?_
                  rotate_left
                  · (intro w hSw; (try dsimp only at hSw); go_simp; try with_reducible rfl)
                  try simp only [Array.reduceGetElem, Act.put, List.setIfInBounds_toArray, List.set_cons_zero, List.set_cons_succ]
                  refine wpAnyH_take (i := 3) (v := ?_) rfl (by kernel_rfl) (by kernel_rfl) (by kernel_rfl) (fun _ _ _ h => h) (Or.inl ⟨by rfl, ?_⟩) (by assumption) ?_
                  rotate_left
                  · (intro w hSw; (try dsimp only at hSw); go_simp; try with_reducible rfl)
                  try simp only [Array.reduceGetElem, Act.put, List.setIfInBounds_toArray, List.set_cons_zero, List.set_cons_succ]
                  refine wpAnyH_take (i := 4) (v := ?_) rfl (by kernel_rfl) (by kernel_rfl) (by kernel_rfl) (fun _ _ _ h => h) (Or.inl ⟨by rfl, ?_⟩) (by assumption) ?_
                  rotate_left
                  · (intro w hSw; (try dsimp only at hSw); go_simp; try with_reducible rfl)
                  try simp only [Array.reduceGetElem, Act.put, List.setIfInBounds_toArray, List.set_cons_zero, List.set_cons_succ]
                  refine wpAnyH_take (i := 5) (v := ?_) rfl (by kernel_rfl) (by kernel_rfl) (by kernel_rfl) (fun _ _ _ h => h) (Or.inl ⟨by rfl, ?_⟩) (by assumption) ?_
                  rotate_left
                  · (intro w hSw; (try dsimp only at hSw); go_simp; try with_reducible rfl)
                  try simp only [Array.reduceGetElem, Act.put, List.setIfInBounds_toArray, List.set_cons_zero, List.set_cons_succ]
                  refine wpAnyH_take (i := 6) (v := ?_) rfl (by kernel_rfl) (by kernel_rfl) (by kernel_rfl) (fun _ _ _ h => h) (Or.inl ⟨by rfl, ?_⟩) (by assumption) ?_
                  rotate_left
                  · (intro w hSw; (try dsimp only at hSw); go_simp; try with_reducible rfl)
                  try simp only [Array.reduceGetElem, Act.put, List.setIfInBounds_toArray, List.set_cons_zero, List.set_cons_succ]
                  refine wpAnyH_take (i := 7) (v := ?_) rfl (by kernel_rfl) (by kernel_rfl) (by kernel_rfl) (fun _ _ _ h => h) (Or.inl ⟨by rfl, ?_⟩) (by assumption) ?_
                  rotate_left
                  · (intro w hSw; (try dsimp only at hSw); go_simp; try with_reducible rfl)
                  try simp only [Array.reduceGetElem, Act.put, List.setIfInBounds_toArray, List.set_cons_zero, List.set_cons_succ]
                  refine wpAnyH_take (i := 8) (v := ?_) rfl (by kernel_rfl) (by kernel_rfl) (by kernel_rfl) (fun _ _ _ h => h) (Or.inl ⟨by rfl, ?_⟩) (by assumption) ?_
                  rotate_left
                  · (intro w hSw; (try dsimp only at hSw); go_simp; try with_reducible rfl)
                  try simp only [Array.reduceGetElem, Act.put, List.setIfInBounds_toArray, List.set_cons_zero, List.set_cons_succ]
                  refine wpAnyH_take (i := 9) (v := ?_) rfl (by kernel_rfl) (by kernel_rfl) (by kernel_rfl) (fun _ _ _ h => h) (Or.inl ⟨by rfl, ?_⟩) (by assumption) ?_
                  rotate_left
                  · (intro w hSw; (try dsimp only at hSw); go_simp; try with_reducible rfl)
                  try simp only [Array.reduceGetElem, Act.put, List.setIfInBounds_toArray, List.set_cons_zero, List.set_cons_succ]
                  refine wpAnyH_take (i := 10) (v := ?_) rfl (by kernel_rfl) (by kernel_rfl) (by kernel_rfl) (fun _ _ _ h => h) (Or.inl ⟨by rfl, ?_⟩) (by assumption) ?_
                  rotate_left
                  · (intro w hSw; (try dsimp only at hSw); go_simp; try with_reducible rfl)
                  try simp only [Array.reduceGetElem, Act.put, List.setIfInBounds_toArray, List.set_cons_zero, List.set_cons_succ]
                  refine wpAnyH_take (i := 11) (v := ?_) rfl (by kernel_rfl) (by kernel_rfl) (by kernel_rfl) (fun _ _ _ h => h) (Or.inl ⟨by rfl, ?_⟩) (by assumption) ?_
                  rotate_left
                  · (intro w hSw; (try dsimp only at hSw); go_simp; try with_reducible rfl)
                  try simp only [Array.reduceGetElem, Act.put, List.setIfInBounds_toArray, List.set_cons_zero, List.set_cons_succ]
                  refine wpAnyH_take (i := 12) (v := ?_) rfl (by kernel_rfl) (by kernel_rfl) (by kernel_rfl) (fun _ _ _ h => h) (Or.inl ⟨by rfl, ?_⟩) (by assumption) ?_
                  rotate_left
                  · (intro w hSw; (try dsimp only at hSw); go_simp; try with_reducible rfl)
                  try simp only [Array.reduceGetElem, Act.put, List.setIfInBounds_toArray, List.set_cons_zero, List.set_cons_succ]
                  refine wpAnyH_take (i := 13) (v := ?_) rfl (by kernel_rfl) (by kernel_rfl) (by kernel_rfl) (fun _ _ _ h => h) (Or.inl ⟨by rfl, ?_⟩) (by assumption) ?_
                  rotate_left
                  · (intro w hSw; (try dsimp only at hSw); go_simp; try with_reducible rfl)
                  try simp only [Array.reduceGetElem, Act.put, List.setIfInBounds_toArray, List.set_cons_zero, List.set_cons_succ]
                  refine wpAnyH_take (i := 14) (v := ?_) rfl (by kernel_rfl) (by kernel_rfl) (by kernel_rfl) (fun _ _ _ h => h) (Or.inl ⟨by rfl, ?_⟩) (by assumption) ?_
                  rotate_left
                  · (intro w hSw; (try dsimp only at hSw); go_simp; try with_reducible rfl)
                  try simp only [Array.reduceGetElem, Act.put, List.setIfInBounds_toArray, List.set_cons_zero, List.set_cons_succ]
                  refine wpAnyH_take (i := 15) (v := ?_) rfl (by kernel_rfl) (by kernel_rfl) (by kernel_rfl) (fun _ _ _ h => h) (Or.inl ⟨by rfl, ?_⟩) (by assumption) ?_
                  rotate_left
                  · (intro w hSw; (try dsimp only at hSw); go_simp; try with_reducible rfl)
                  try simp only [Array.reduceGetElem, Act.put, List.setIfInBounds_toArray, List.set_cons_zero, List.set_cons_succ]
                  refine wpAnyH_take (i := 16) (v := ?_) rfl (by kernel_rfl) (by kernel_rfl) (by kernel_rfl) (fun _ _ _ h => h) (Or.inl ⟨by rfl, ?_⟩) (by assumption) ?_
                  rotate_left
                  · (intro w hSw; (try dsimp only at hSw); go_simp; try with_reducible rfl)
                  try simp only [Array.reduceGetElem, Act.put, List.setIfInBounds_toArray, List.set_cons_zero, List.set_cons_succ]
                  refine wpAnyH_take (i := 17) (v := ?_) rfl (by kernel_rfl) (by kernel_rfl) (by kernel_rfl) (fun _ _ _ h => h) (Or.inl ⟨by rfl, ?_⟩) (by assumption) ?_
                  rotate_left
                  · (intro w hSw; (try dsimp only at hSw); go_simp; try with_reducible rfl)
                  try simp only [Array.reduceGetElem, Act.put, List.setIfInBounds_toArray, List.set_cons_zero, List.set_cons_succ]
                  refine wpAnyH_ready (rs := [18]) (by kernel_rfl) (by simp) ?_
                  refine AllReadyH.cons rfl (fun K hK => ?_) AllReadyH.nil
                  go_simp
                  refine (hcl.out _ ?_).mono ?_
                  · rw [hpb'.out]; exact hBy.trans ⟨rfl, rfl, rfl, Nat.le_refl _, fun _ _ => rfl⟩
                  rintro e W3 ⟨rfl, n3, rfl⟩
                  refine hK.out _ _ ?_ (fun hHeld => ?_)
                  · (try dsimp only); first | exact ⟨p0, e1⟩ | exact ⟨hR3, hR4⟩
                  clear hK K
                  try simp only [Array.reduceGetElem, Act.put, List.setIfInBounds_toArray, List.set_cons_zero, List.set_cons_succ]
                  refine wpAnyH_take (i := 19) (v := ?_) rfl (by kernel_rfl) (by kernel_rfl) (by kernel_rfl) (fun _ _ _ h => h) (Or.inl ⟨by rfl, ?_⟩) (by assumption) ?_
                  rotate_left
                  · (intro w hSw; (try dsimp only at hSw); go_simp; try with_reducible rfl)
                  try simp only [Array.reduceGetElem, Act.put, List.setIfInBounds_toArray, List.set_cons_zero, List.set_cons_succ]
                  refine wpAnyH_take (i := 20) (v := ?_) rfl (by kernel_rfl) (by kernel_rfl) (by kernel_rfl) (fun _ _ _ h => h) (Or.inl ⟨by rfl, ?_⟩) (by assumption) ?_
                  rotate_left
                  · (intro w hSw; (try dsimp only at hSw); go_simp; try with_reducible rfl)
                  try simp only [Array.reduceGetElem, Act.put, List.setIfInBounds_toArray, List.set_cons_zero, List.set_cons_succ]
                  refine wpAnyH_ready (rs := [21]) (by kernel_rfl) (by simp) ?_
                  refine AllReadyH.cons rfl (fun K hK => ?_) AllReadyH.nil
                  go_simp
                  skip
                  refine hK.out _ _ ?_ (fun hHeld => ?_)
                  · (try dsimp only); first | exact ⟨p0, e1⟩ | exact ⟨hR3, hR4⟩
                  clear hK K
                  try simp only [Array.reduceGetElem, Act.put, List.setIfInBounds_toArray, List.set_cons_zero, List.set_cons_succ]
                  refine wpAnyH_done (by kernel_rfl) ?_ _
                  try refine NoPanic.normal ?_
                  (try dsimp only)
                  go_wp2
                  go_roundw
                  case rel => exact ⟨j + 1 + 1, by omega, by first | go_num | (congr 1; omega), Lib.hid (hset.out.same rfl), Lib.hid (hR2'.out.same rfl), Lib.hid hb2'.out, hBx'.trans ⟨rfl, rfl, rfl, by simp [World.setCell], fun _ _ => rfl⟩, hBy'.trans ⟨rfl, rfl, rfl, by simp [World.setCell], fun _ _ => rfl⟩⟩
                  case measure => first | (simp [intOf]; done) | (simp [intOf]; omega)
                · have hval := Lib.hid (hvj true (by rw [hc.out, hd.out]; rfl))
                  clear hvj
                  have hcl := Lib.hid (fun W' h => hcall.out s[j] W' h)
                  rw [hd.out] at hcl
                  have hset := Lib.hid ((hRn.out.set hlt2 true).congr (fun j' _ => upTo_next (reach (ps ++ [pt]) s) (j + 1) hval.out j'))
                  have hR2' := Lib.hid (hR2.out.other (B := pb + 1) (j := j + 1) (by omega) (.bool true))
                  have hb2' : Box2 (wr.setCell ⟨pb + 1, j + 1, none⟩ (.bool true)) pb 129 (.bool false) (.func (.func gf) #[] bs) := hb2.out.kept (grown_set _ (pb + 1) (j + 1) _) (by simp)
                  replace hb2' := Lib.hid hb2'
                  have hBx' : Below w.heap.size w (wr.setCell ⟨pb + 1, j + 1, none⟩ (.bool true)) := hBx.setCell (p := ⟨pb + 1, j + 1, none⟩) (by simp; omega) _
                  have hBy' : Below pb wo (wr.setCell ⟨pb + 1, j + 1, none⟩ (.bool true)) := hBy.setCell (p := ⟨pb + 1, j + 1, none⟩) (by simp) _
                  have hR3 : (wr.setCell ⟨pb + 1, j + 1, none⟩ (.bool true)).cell? ⟨g5, j, none⟩ = some (.bool true) := by have := hR2'.out.cell hjl; rwa [hc.out] at this
                  have hR4 := hb2'.out.cell1
                  go_wp2_with fail
                  first | refine wp_region_noPanic ?_ | skip
                  refine wp_region_held_drew (S := (fun W' => W'.cell? ⟨g5, j, none⟩ = some (.bool true) ∧ W'.cell? ⟨pb, 1, none⟩ = some (.func (.func gf) #[] bs))) (by kernel_rfl) ?_ (fun hHeld => ?_)
                  · exact ⟨p0, e1⟩
                  refine wpAnyH_take (i := 0) (v := ?_) rfl (by kernel_rfl) (by kernel_rfl) (by kernel_rfl) (fun _ _ _ h => h) (Or.inl ⟨by rfl, ?_⟩) (by assumption) ?_
                  rotate_left
                  · (intro w hSw; (try dsimp only at hSw); go_simp; try with_reducible rfl)
                  try simp only [Array.reduceGetElem, Act.put, List.setIfInBounds_toArray, List.set_cons_zero, List.set_cons_succ]
                  refine wpAnyH_take (i := 1) (v := ?_) rfl (by kernel_rfl) (by kernel_rfl) (by kernel_rfl) (fun _ _ _ h => h) (Or.inl ⟨by rfl, ?_⟩) (by assumption) ?_
                  rotate_left
                  · (intro w hSw; (try dsimp only at hSw); go_simp; try with_reducible rfl)
                  try simp only [Array.reduceGetElem, Act.put, List.setIfInBounds_toArray, List.set_cons_zero, List.set_cons_succ]
                  refine wpAnyH_take (i := 2) (v := ?_) rfl (by kernel_rfl) (by kernel_rfl) (by kernel_rfl) (fun _ _ _ h => h) (Or.inl ⟨by rfl, ?_⟩) (by assumption) ?_
                  rotate_left
                  · (intro w hSw; (try dsimp only at hSw); go_simp; try with_reducible rfl)
                  try simp only [Array.reduceGetElem, Act.put, List.setIfInBounds_toArray, List.set_cons_zero, List.set_cons_succ]
                  refine wpAnyH_take (i := 3) (v := ?_) rfl (by kernel_rfl) (by kernel_rfl) (by kernel_rfl) (fun _ _ _ h => h) (Or.inl ⟨by rfl, ?_⟩) (by assumption) ?_
                  rotate_left
                  · (intro w hSw; (try dsimp only at hSw); go_simp; try with_reducible rfl)
                  try simp only [Array.reduceGetElem, Act.put, List.setIfInBounds_toArray, List.set_cons_zero, List.set_cons_succ]
                  refine wpAnyH_take (i := 4) (v := ?_) rfl (by kernel_rfl) (by kernel_rfl) (by kernel_rfl) (fun _ _ _ h => h) (Or.inl ⟨by rfl, ?_⟩) (by assumption) ?_
                  rotate_left
                  · (intro w hSw; (try dsimp only at hSw); go_simp; try with_reducible rfl)
                  try simp only [Array.reduceGetElem, Act.put, List.setIfInBounds_toArray, List.set_cons_zero, List.set_cons_succ]
                  refine wpAnyH_take (i := 5) (v := ?_) rfl (by kernel_rfl) (by kernel_rfl) (by kernel_rfl) (fun _ _ _ h => h) (Or.inl ⟨by rfl, ?_⟩) (by assumption) ?_
                  rotate_left
                  · (intro w hSw; (try dsimp only at hSw); go_simp; try with_reducible rfl)
                  try simp only [Array.reduceGetElem, Act.put, List.setIfInBounds_toArray, List.set_cons_zero, List.set_cons_succ]
                  refine wpAnyH_take (i := 6) (v := ?_) rfl (by kernel_rfl) (by kernel_rfl) (by kernel_rfl) (fun _ _ _ h => h) (Or.inl ⟨by rfl, ?_⟩) (by assumption) ?_
                  rotate_left
                  · (intro w hSw; (try dsimp only at hSw); go_simp; try with_reducible rfl)
                  try simp only [Array.reduceGetElem, Act.put, List.setIfInBounds_toArray, List.set_cons_zero, List.set_cons_succ]
                  refine wpAnyH_take (i := 7) (v := ?_) rfl (by kernel_rfl) (by kernel_rfl) (by kernel_rfl) (fun _ _ _ h => h) (Or.inl ⟨by rfl, ?_⟩) (by assumption) ?_
                  rotate_left
                  · (intro w hSw; (try dsimp only at hSw); go_simp; try with_reducible rfl)
                  try simp only [Array.reduceGetElem, Act.put, List.setIfInBounds_toArray, List.set_cons_zero, List.set_cons_succ]
                  refine wpAnyH_take (i := 8) (v := ?_) rfl (by kernel_rfl) (by kernel_rfl) (by kernel_rfl) (fun _ _ _ h => h) (Or.inl ⟨by rfl, ?_⟩) (by assumption) ?_
                  rotate_left
                  · (intro w hSw; (try dsimp only at hSw); go_simp; try with_reducible rfl)
                  try simp only [Array.reduceGetElem, Act.put, List.setIfInBounds_toArray, List.set_cons_zero, List.set_cons_succ]
                  refine wpAnyH_take (i := 9) (v := ?_) rfl (by kernel_rfl) (by kernel_rfl) (by kernel_rfl) (fun _ _ _ h => h) (Or.inl ⟨by rfl, ?_⟩) (by assumption) ?_
                  rotate_left
                  · (intro w hSw; (try dsimp only at hSw); go_simp; try with_reducible rfl)
                  try simp only [Array.reduceGetElem, Act.put, List.setIfInBounds_toArray, List.set_cons_zero, List.set_cons_succ]
                  refine wpAnyH_take (i := 10) (v := ?_) rfl (by kernel_rfl) (by kernel_rfl) (by kernel_rfl) (fun _ _ _ h => h) (Or.inl ⟨by rfl, ?_⟩) (by assumption) ?_
                  rotate_left
                  · (intro w hSw; (try dsimp only at hSw); go_simp; try with_reducible rfl)
                  try simp only [Array.reduceGetElem, Act.put, List.setIfInBounds_toArray, List.set_cons_zero, List.set_cons_succ]
                  refine wpAnyH_take (i := 11) (v := ?_) rfl (by kernel_rfl) (by kernel_rfl) (by kernel_rfl) (fun _ _ _ h => h) (Or.inl ⟨by rfl, ?_⟩) (by assumption) ?_
                  rotate_left
                  · (intro w hSw; (try dsimp only at hSw); go_simp; try with_reducible rfl)
                  try simp only [Array.reduceGetElem, Act.put, List.setIfInBounds_toArray, List.set_cons_zero, List.set_cons_succ]
                  refine wpAnyH_take (i := 12) (v := ?_) rfl (by kernel_rfl) (by kernel_rfl) (by kernel_rfl) (fun _ _ _ h => h) (Or.inl ⟨by rfl, ?_⟩) (by assumption) ?_
                  rotate_left
                  · (intro w hSw; (try dsimp only at hSw); go_simp; try with_reducible rfl)
                  try simp only [Array.reduceGetElem, Act.put, List.setIfInBounds_toArray, List.set_cons_zero, List.set_cons_succ]
                  refine wpAnyH_take (i := 13) (v := ?_) rfl (by kernel_rfl) (by kernel_rfl) (by kernel_rfl) (fun _ _ _ h => h) (Or.inl ⟨by rfl, ?_⟩) (by assumption) ?_
                  rotate_left
                  · (intro w hSw; (try dsimp only at hSw); go_simp; try with_reducible rfl)
                  try simp only [Array.reduceGetElem, Act.put, List.setIfInBounds_toArray, List.set_cons_zero, List.set_cons_succ]
                  refine wpAnyH_take (i := 14) (v := ?_) rfl (by kernel_rfl) (by kernel_rfl) (by kernel_rfl) (fun _ _ _ h => h) (Or.inl ⟨by rfl, ?_⟩) (by assumption) ?_
                  rotate_left
                  · (intro w hSw; (try dsimp only at hSw); go_simp; try with_reducible rfl)
                  try simp only [Array.reduceGetElem, Act.put, List.setIfInBounds_toArray, List.set_cons_zero, List.set_cons_succ]
                  refine wpAnyH_take (i := 15) (v := ?_) rfl (by kernel_rfl) (by kernel_rfl) (by kernel_rfl) (fun _ _ _ h => h) (Or.inl ⟨by rfl, ?_⟩) (by assumption) ?_
                  rotate_left
                  · (intro w hSw; (try dsimp only at hSw); go_simp; try with_reducible rfl)
                  try simp only [Array.reduceGetElem, Act.put, List.setIfInBounds_toArray, List.set_cons_zero, List.set_cons_succ]
                  refine wpAnyH_take (i := 16) (v := ?_) rfl (by kernel_rfl) (by kernel_rfl) (by kernel_rfl) (fun _ _ _ h => h) (Or.inl ⟨by rfl, ?_⟩) (by assumption) ?_
                  rotate_left
                  · (intro w hSw; (try dsimp only at hSw); go_simp; try with_reducible rfl)
                  try simp only [Array.reduceGetElem, Act.put, List.setIfInBounds_toArray, List.set_cons_zero, List.set_cons_succ]
                  refine wpAnyH_take (i := 17) (v := ?_) rfl (by kernel_rfl) (by kernel_rfl) (by kernel_rfl) (fun _ _ _ h => h) (Or.inl ⟨by rfl, ?_⟩) (by assumption) ?_
                  rotate_left
                  · (intro w hSw; (try dsimp only at hSw); go_simp; try with_reducible rfl)
                  try simp only [Array.reduceGetElem, Act.put, List.setIfInBounds_toArray, List.set_cons_zero, List.set_cons_succ]
                  refine wpAnyH_ready (rs := [18]) (by kernel_rfl) (by simp) ?_
                  refine AllReadyH.cons rfl (fun K hK => ?_) AllReadyH.nil
                  go_simp
                  refine (hcl.out _ ?_).mono ?_
                  · rw [hpb'.out]; exact hBy.trans ⟨rfl, rfl, rfl, Nat.le_refl _, fun _ _ => rfl⟩
                  rintro e W3 ⟨rfl, n3, rfl⟩
                  refine hK.out _ _ ?_ (fun hHeld => ?_)
                  · (try dsimp only); first | exact ⟨p0, e1⟩ | exact ⟨hR3, hR4⟩
                  clear hK K
                  try simp only [Array.reduceGetElem, Act.put, List.setIfInBounds_toArray, List.set_cons_zero, List.set_cons_succ]
                  refine wpAnyH_take (i := 19) (v := ?_) rfl (by kernel_rfl) (by kernel_rfl) (by kernel_rfl) (fun _ _ _ h => h) (Or.inl ⟨by rfl, ?_⟩) (by assumption) ?_
                  rotate_left
                  · (intro w hSw; (try dsimp only at hSw); go_simp; try with_reducible rfl)
                  try simp only [Array.reduceGetElem, Act.put, List.setIfInBounds_toArray, List.set_cons_zero, List.set_cons_succ]
                  refine wpAnyH_take (i := 20) (v := ?_) rfl (by kernel_rfl) (by kernel_rfl) (by kernel_rfl) (fun _ _ _ h => h) (Or.inl ⟨by rfl, ?_⟩) (by assumption) ?_
                  rotate_left
                  · (intro w hSw; (try dsimp only at hSw); go_simp; try with_reducible rfl)
                  try simp only [Array.reduceGetElem, Act.put, List.setIfInBounds_toArray, List.set_cons_zero, List.set_cons_succ]
                  refine wpAnyH_ready (rs := [21]) (by kernel_rfl) (by simp) ?_
                  refine AllReadyH.cons rfl (fun K hK => ?_) AllReadyH.nil
                  go_simp
                  skip
                  refine hK.out _ _ ?_ (fun hHeld => ?_)
                  · (try dsimp only); first | exact ⟨p0, e1⟩ | exact ⟨hR3, hR4⟩
                  clear hK K
                  try simp only [Array.reduceGetElem, Act.put, List.setIfInBounds_toArray, List.set_cons_zero, List.set_cons_succ]
                  refine wpAnyH_done (by kernel_rfl) ?_ _
                  try refine NoPanic.normal ?_
                  (try dsimp only)
                  go_wp2
                  go_roundw
                  case rel => exact ⟨j + 1 + 1, by omega, by first | go_num | (congr 1; omega), Lib.hid (hset.out.same rfl), Lib.hid (hR2'.out.same rfl), Lib.hid hb2'.out, hBx'.trans ⟨rfl, rfl, rfl, by simp [World.setCell], fun _ _ => rfl⟩, hBy'.trans ⟨rfl, rfl, rfl, by simp [World.setCell], fun _ _ => rfl⟩⟩
                  case measure => first | (simp [intOf]; done) | (simp [intOf]; omega)
          · obtain rfl : i = s.length + 1 := by omega
            have hfin := Lib.hid (hRn.out.congr (f' := reach (ps ++ [pt]) s) (fun j hj => upTo_lt _ hj))
            have hBz2 := hBx.size
            go_wp2
            go_roundw
            case rel => exact ⟨k + 1, pb + 1, by omega, by go_num, rfl, by omega, by rw [hst.out]; exact hfin, hBx⟩
            case measure => simp [intOf]; omega
    · obtain rfl : k = xs.length := by omega
      have hfin := hR.out.cell (j := s.length) (by omega)
      rw [List.take_length, reach_all] at hfin
      clear hR
      go_wp2
      go_ret
      exact ⟨rfl, hB⟩
end Go.Proofs.YtjihpbioofikcaaDoor

