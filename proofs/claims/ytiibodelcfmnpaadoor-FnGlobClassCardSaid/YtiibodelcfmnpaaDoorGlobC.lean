/-
  The walks of the program's globClass, and of the closures that take one byte.
-/
import Derived.Test.YtiibodelcfmnpaaDoorGlobX
import Derived.Test.YtiibodelcfmnpaaDoorHasP
import Derived.Laws.EntriesVeiled
import Derived.Test.YtiibodelcfmnpaaDoorPick
namespace Go.Proofs.YtiibodelcfmnpaaDoor
open Go.RowKit
set_option linter.unusedVariables false
set_option linter.unusedSimpArgs false
attribute [local go_sem] mkB_size mkB_extract mkB_get mkB_toList

/-! ### what takes a byte, in memory -/
/-- a function value that takes the bytes of an element -/
def TakeIs (lo : Nat) (W : World) (f : Value) : Pt → Prop
  | .star => f = .nilFunc
  | .any => f = .func (.func 48) #[] #[]
  | .lit c => ∃ B, lo ≤ B ∧ f = .func (.func 52) #[] #[.pointer (some ⟨B, 0, none⟩)] ∧ Boxed W B 5 (.int .u8 (c.toNat : Int))
  | .cls nt ms => ∃ B C, lo ≤ B ∧ lo ≤ C ∧ f = .func (.func 60) #[] #[.pointer (some ⟨B, 0, none⟩), .pointer (some ⟨C, 0, none⟩)] ∧ Boxed W B 9 (.string (mkB ms)) ∧ Boxed W C 4 (.bool nt)
theorem TakeIs.kept {lo : Nat} {W W' : World} {f : Value} {p : Pt} {row : Option Nat} (h : TakeIs lo W f p) (hg : W.grownBy W' row) (hne : ∀ B t v, lo ≤ B → Boxed W B t v → (t = 5 ∨ t = 9 ∨ t = 4) → some B ≠ row) : TakeIs lo W' f p := by
  cases p with
  | star => exact h
  | any => exact h
  | lit c =>
    obtain ⟨B, hl, hf, hb⟩ := h
    exact ⟨B, hl, hf, hb.kept hg (hne B _ _ hl hb (.inl rfl))⟩
  | cls nt ms =>
    obtain ⟨B, C, hl, hl2, hf, hb, hc⟩ := h
    exact ⟨B, C, hl, hl2, hf, hb.kept hg (hne B _ _ hl hb (.inr (.inl rfl))), hc.kept hg (hne C _ _ hl2 hc (.inr (.inr rfl)))⟩
theorem TakeIs.below {lo : Nat} {W W' : World} {f : Value} {p : Pt} (h : TakeIs lo W f p) (hB : Below W.heap.size W W') : TakeIs lo W' f p := by
  have hk : ∀ {B t v}, Boxed W B t v → Boxed W' B t v := fun hb => (hB.block _ hb.lt).trans hb
  cases p with
  | star => exact h
  | any => exact h
  | lit c =>
    obtain ⟨B, hl, hf, hb⟩ := h
    exact ⟨B, hl, hf, hk hb⟩
  | cls nt ms =>
    obtain ⟨B, C, hl, hl2, hf, hb, hc⟩ := h
    exact ⟨B, C, hl, hl2, hf, hk hb, hk hc⟩
theorem TakeIs.mono {lo lo' : Nat} {W : World} {f : Value} {p : Pt} (h : TakeIs lo W f p) (hlo : lo' ≤ lo) : TakeIs lo' W f p := by
  cases p with
  | star => exact h
  | any => exact h
  | lit c =>
    obtain ⟨B, hl, h⟩ := h
    exact ⟨B, by omega, h⟩
  | cls nt ms =>
    obtain ⟨B, C, hl, hl2, h⟩ := h
    exact ⟨B, C, by omega, by omega, h⟩

/-- a box of two cells -/
def Box2 (W : World) (B : Nat) (t : TypeId) (a b : Value) : Prop := W.heap[B]? = some (.cells #[a, b] t (0, 0))
section
variable {W W' : World} {B : Nat} {t : TypeId} {a b : Value}
theorem Box2.new (w : World) (t : TypeId) (a b : Value) : Box2 (w.alloc (.cells #[a, b] t)) w.heap.size t a b := World.alloc_heap_new w _
theorem Box2.cell0 (h : Box2 W B t a b) : W.cell? ⟨B, 0, none⟩ = some a := by rw [cell_of_row _ _ _ _ _ _ h]; rfl
theorem Box2.cell1 (h : Box2 W B t a b) : W.cell? ⟨B, 1, none⟩ = some b := by rw [cell_of_row _ _ _ _ _ _ h]; rfl
theorem Box2.frozen (h : Box2 W B t a b) (j : Nat) : W.frozen? ⟨B, j, none⟩ = false := by
  unfold Box2 at h
  simp [World.frozen?, h]
theorem Box2.lt (h : Box2 W B t a b) : B < W.heap.size := (Array.getElem?_eq_some_iff.1 h).1
theorem Box2.kept {row : Option Nat} (h : Box2 W B t a b) (hg : W.grownBy W' row) (hne : some B ≠ row) : Box2 W' B t a b := (hg.block B h.lt hne).trans h
theorem Box2.alloc (h : Box2 W B t a b) (o : Obj) : Box2 (W.alloc o) B t a b := h.kept (World.grownBy_alloc W o none) (by simp)
theorem Box2.below {n : Nat} (h : Box2 W B t a b) (hB : Below n W W') (hlt : B < n) : Box2 W' B t a b := (hB.block B hlt).trans h
theorem Box2.set0 (h : Box2 W B t a b) (v : Value) : Box2 (W.setCell ⟨B, 0, none⟩ v) B t v b := by
  unfold Box2 at h ⊢
  simp [World.setCell, Array.getElem?_modify, h]
theorem Box2.set1 (h : Box2 W B t a b) (v : Value) : Box2 (W.setCell ⟨B, 1, none⟩ v) B t a v := by
  unfold Box2 at h ⊢
  simp [World.setCell, Array.getElem?_modify, h]
end

/-! ### small library functions -/
theorem strings_IndexByte_any (l : List UInt8) (c : UInt8) (w : World) :
    Calls Tryd.prog 49 #[.string (mkB l), .int .u8 (c.toNat : Int)] w fun e w' => e = .returned (.int .i64 (Lib.indexByte l c)) ∧ w = w' := by
  go_enter Tryd.func49, Tryd.ntmps49
  go_wp2_with fail
  refine (stringslite_IndexByte _ _ _).mono ?_
  rintro e w1 ⟨rfl, rfl⟩
  rw [mkB_data, show ((c.toNat : Int)).toNat.toUInt8 = c from UInt8.toNat_inj.1 (by rw [Int.toNat_natCast]; exact Nat.mod_eq_of_lt c.toNat_lt)]
  go_wp2
  go_ret
  exact ⟨rfl, rfl⟩
theorem slCutPrefix_bang (l : List UInt8) (hl : l.length ≤ 1048576) (w : World) :
    Calls Tryd.prog 64 #[.string (mkB l), .string (mkB [33])] w fun e w' => e = .returned (.tuple #[.string (mkB (members l)), .bool (marked l)]) ∧ w = w' := by
  cases l with
  | nil =>
    go_enter Tryd.func64, Tryd.ntmps64
    go_wp2_with fail
    refine (slHasPrefix_any [] [33] (by simp) _).mono ?_
    rintro e w1 ⟨rfl, rfl⟩
    rw [show List.isPrefixOf [33] ([] : List UInt8) = false from rfl]
    go_wp2
    go_ret2
    exact ⟨rfl, rfl⟩
  | cons c r =>
    simp only [List.length_cons] at hl
    by_cases h : c = 33
    · subst h
      go_enter Tryd.func64, Tryd.ntmps64
      go_wp2_with fail
      refine (slHasPrefix_any (33 :: r) [33] (by simp; omega) _).mono ?_
      rintro e w1 ⟨rfl, rfl⟩
      rw [show List.isPrefixOf [33] (33 :: r) = true by simp [List.isPrefixOf]]
      go_wp2
      go_ret2
      exact ⟨rfl, rfl⟩
    · have hm : marked (c :: r) = false := by
        have := marked_drop (g := 0 :: c :: r) (by simp)
        have h2 : (c == 33) = false := by simpa using h
        rw [← h2]
        simpa using this
      have hmm : members (c :: r) = c :: r := by rw [members_is, hm]; rfl
      rw [hm, hmm]
      clear hm hmm
      have hp : List.isPrefixOf [33] (c :: r) = false := by simp [List.isPrefixOf]; exact fun e => h e.symm
      replace hp := Lib.hid hp
      replace h := Lib.hid h
      go_enter Tryd.func64, Tryd.ntmps64
      go_wp2_with fail
      refine (slHasPrefix_any (c :: r) [33] (by simp; omega) _).mono ?_
      rintro e w1 ⟨rfl, rfl⟩
      rw [hp.out]
      go_wp2
      go_ret2
      exact ⟨rfl, rfl⟩
theorem CutPrefix_bang (l : List UInt8) (hl : l.length ≤ 1048576) (w : World) :
    Calls Tryd.prog 59 #[.string (mkB l), .string (mkB [33])] w fun e w' => e = .returned (.tuple #[.string (mkB (members l)), .bool (marked l)]) ∧ w = w' := by
  go_enter Tryd.func59, Tryd.ntmps59
  go_wp2_with fail
  refine (slCutPrefix_bang l hl _).mono ?_
  rintro e w1 ⟨rfl, rfl⟩
  go_wp2
  go_ret2
  exact ⟨rfl, rfl⟩

/-! ### the closures -/
theorem indexByte_mem (l : List UInt8) (c : UInt8) : decide (0 ≤ Lib.indexByte l c) = l.contains c := by
  rcases split_first c l with h | ⟨f, r, hf, rfl⟩
  · rw [indexByte_of_none h]
    symm
    simpa using h
  · rw [indexByte_at hf]
    simp
theorem takeAny (c : UInt8) (w : World) :
    Calls Tryd.prog 48 #[.int .u8 (c.toNat : Int)] w (Quiet true w) := by
  go_enter Tryd.func48, Tryd.ntmps48
  go_wp2
  go_ret
  exact Quiet.same _ _
theorem takeLit (d c : UInt8) (B : Nat) (w : World) (hb : Boxed w B 5 (.int .u8 (d.toNat : Int))) :
    Calls Tryd.prog 52 #[.int .u8 (c.toNat : Int), .pointer (some ⟨B, 0, none⟩)] w (Quiet (c == d) w) := by
  have h0 := hb.cell
  have hcd : ((c.toNat : Int) == (d.toNat : Int)) = (c == d) := by
    by_cases h : c = d
    · rw [u8_is h]; simp [h]
    · rw [u8_ne h]; simp [h]
  clear hb
  go_enter Tryd.func52, Tryd.ntmps52
  go_wp2
  go_ret
  exact Quiet.same _ _
theorem takeCls (nt : Bool) (ms : List UInt8) (c : UInt8) (B C : Nat) (w : World) (hb : Boxed w B 9 (.string (mkB ms))) (hc : Boxed w C 4 (.bool nt)) :
    Calls Tryd.prog 60 #[.int .u8 (c.toNat : Int), .pointer (some ⟨B, 0, none⟩), .pointer (some ⟨C, 0, none⟩)] w (Quiet (ms.contains c != nt) w) := by
  have h0 := hb.cell
  have h1 := hc.cell
  have hib := Lib.hid (fun w => strings_IndexByte_any ms c w)
  obtain ⟨x, hx⟩ : ∃ x, Lib.indexByte ms c = x := ⟨_, rfl⟩
  have hm := indexByte_mem ms c
  rw [hx] at hib hm
  rw [← hm]
  clear hb hc hx hm
  go_enter Tryd.func60, Tryd.ntmps60
  go_wp2_with fail
  go_quiet ((go_at_call 49; exact quiet_eqG (hib.out _)))
  go_wp2
  go_ret
  exact ⟨rfl, _, rfl⟩
theorem Boxed.drewN {W : World} {B : Nat} {t : TypeId} {v : Value} (h : Boxed W B t v) (n : Nat) : Boxed (W.drewN n) B t v := h

/-! ### globClass -/
def ClassPost (b : List UInt8) (w : World) (e : Ending) (w' : World) : Prop :=
  Below w.heap.size w w' ∧ ((nameBytes (members b) = false ∧ ∃ v, e = .returned (.tuple #[v, .bool false]) ∧ v = .agg #[.bool false, .nilFunc]) ∨
    (nameBytes (members b) = true ∧ ∃ f, e = .returned (.tuple #[.agg #[.bool false, f], .bool true]) ∧ TakeIs w.heap.size w' f (.cls (marked b) (members b))))
set_option maxRecDepth 1000000 in
set_option maxHeartbeats 2000000 in
theorem globClass_any (b : List UInt8) (hl : b.length ≤ 1048576) (w : World) :
    Calls Tryd.prog 50 #[.string (mkB b)] w (ClassPost b w) := by
  have hml : (mkB (members b)).size ≤ 9223372036854775807 := by
    rw [mkB_size, members_is]
    split
    · simp; omega
    · omega
  go_enter Tryd.func50, Tryd.ntmps50
  go_wp2_with fail
  refine (CutPrefix_bang b hl _).mono ?_
  rintro e w1 ⟨rfl, rfl⟩
  go_wp2_with fail
  obtain ⟨z, hz⟩ : ∃ z, w.heap.size = z := ⟨_, rfl⟩
  rw [hz]
  obtain ⟨W0, hW0⟩ : ∃ W0, ((w.alloc (.cells #[.bool false, .nilFunc] 61)).alloc (.cells #[.string (mkB (members b))] 9)).alloc (.cells #[.bool (marked b)] 4) = W0 := ⟨_, rfl⟩
  have b0 : Box2 W0 z 61 (.bool false) .nilFunc := by
    rw [← hW0, ← hz]
    exact ((Box2.new w _ _ _).alloc _).alloc _
  have b1 : Boxed W0 (z + 1) 9 (.string (mkB (members b))) := by
    rw [← hW0, ← hz]
    have h := Boxed.new (w.alloc (.cells #[.bool false, .nilFunc] 61)) 9 (.string (mkB (members b)))
    simp only [World.size_alloc] at h
    exact h.alloc _
  have b2 : Boxed W0 (z + 1 + 1) 4 (.bool (marked b)) := by
    rw [← hW0, ← hz]
    have h := Boxed.new ((w.alloc (.cells #[.bool false, .nilFunc] 61)).alloc (.cells #[.string (mkB (members b))] 9)) 4 (.bool (marked b))
    simp only [World.size_alloc] at h
    exact h
  have hB0 : Below z w W0 := by
    rw [← hW0, ← hz]
    exact (((Below.refl _ w).alloc (Nat.le_refl _) _).alloc (by simp) _).alloc (by simp; omega) _
  rw [hW0]
  clear hW0
  refine (nameBytes_any _ hml _).mono ?_
  rintro e w1 ⟨rfl, rfl⟩
  rw [mkB_data]
  have c0 := b0.cell0
  have c1 := b0.cell1
  have f0 := b0.frozen 0
  have f1 := b0.frozen 1
  have hP : ∀ u v, Box2 ((W0.setCell ⟨z, 0, none⟩ u).setCell ⟨z, 1, none⟩ v) z 61 u v := fun u v => (b0.set0 u).set1 v
  have hBP : ∀ u v, Below z w ((W0.setCell ⟨z, 0, none⟩ u).setCell ⟨z, 1, none⟩ v) := fun u v => (hB0.setCell (p := ⟨z, 0, none⟩) (Nat.le_refl _) _).setCell (p := ⟨z, 1, none⟩) (Nat.le_refl _) _
  replace hP := Lib.hid hP
  replace hBP := Lib.hid hBP
  replace b0 := Lib.hid b0
  replace b1 := Lib.hid b1
  replace b2 := Lib.hid b2
  replace hz := Lib.hid hz
  rcases boolOf (nameBytes (members b)) with hb | hb
  · rw [hb.out]
    go_wp2
    have p0 := (hP.out (.bool false) .nilFunc).cell0
    have p1 := (hP.out (.bool false) .nilFunc).cell1
    refine bodyPost_ret (v := .tuple #[.agg #[.bool false, .nilFunc], .bool false]) (by simp [results, Tryd.results50, go_sem, p0, p1]) rfl ⟨by rw [hz.out]; exact hBP.out _ _, .inl ⟨hb.out, _, rfl, rfl⟩⟩
  · rw [hb.out]
    go_wp2
    have p0 := (hP.out (.bool false) (.func (.func 60) #[] #[.pointer (some ⟨z + 1, 0, none⟩), .pointer (some ⟨z + 1 + 1, 0, none⟩)])).cell0
    have p1 := (hP.out (.bool false) (.func (.func 60) #[] #[.pointer (some ⟨z + 1, 0, none⟩), .pointer (some ⟨z + 1 + 1, 0, none⟩)])).cell1
    refine bodyPost_ret (v := .tuple #[.agg #[.bool false, .func (.func 60) #[] #[.pointer (some ⟨z + 1, 0, none⟩), .pointer (some ⟨z + 1 + 1, 0, none⟩)]], .bool true]) (by simp [results, Tryd.results50, go_sem, p0, p1]) rfl ⟨by rw [hz.out]; exact hBP.out _ _, .inr ⟨hb.out, _, rfl, z + 1, z + 1 + 1, by rw [hz.out]; omega, by rw [hz.out]; omega, rfl, ?_, ?_⟩⟩
    · exact (b1.out.kept (grown_set _ z 0 _) (by simp)).kept (grown_set _ z 1 _) (by simp)
    · exact (b2.out.kept (grown_set _ z 0 _) (by simp; omega)).kept (grown_set _ z 1 _) (by simp; omega)
end Go.Proofs.YtiibodelcfmnpaaDoor
