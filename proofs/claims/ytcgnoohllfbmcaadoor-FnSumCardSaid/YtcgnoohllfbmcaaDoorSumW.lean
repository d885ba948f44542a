/-
  Words in the walk: the model's arithmetic on them, as operations on words.
-/
import Derived.Test.YtcgnoohllfbmcaaDoorSumP
namespace Go.Proofs.YtcgnoohllfbmcaaDoor
open Go.RowKit
set_option linter.unusedVariables false

theorem w_add (x y : UInt32) : ((x.toNat : Int) + (y.toNat : Int)) % 4294967296 = ((addW x y).toNat : Int) := by
  rw [addW, UInt32.toNat_add]; simp
theorem w_xor (x y : UInt32) : bits .xor .u32 (x.toNat : Int) (y.toNat : Int) = ((xorW x y).toNat : Int) := by
  rw [xorW, UInt32.toNat_xor]; exact u32_xor_nat _ _ x.toNat_lt y.toNat_lt
theorem w_and (x y : UInt32) : bits .and .u32 (x.toNat : Int) (y.toNat : Int) = ((andW x y).toNat : Int) := by
  rw [andW, UInt32.toNat_and]; exact u32_and_nat _ _ x.toNat_lt y.toNat_lt
theorem w_not (x : UInt32) : bits .xor .u32 IntKind.u32.max (x.toNat : Int) = ((notW x).toNat : Int) := by
  have h := u32_xor_nat 4294967295 x.toNat (by decide) x.toNat_lt
  have hl : 4294967295 ^^^ x.toNat < 2 ^ 32 := Nat.xor_lt_two_pow (by decide) x.toNat_lt
  rw [notW, UInt32.toNat_ofNat', Nat.mod_eq_of_lt hl, ← h]
  rfl
/-- the first words are summed, the others stand -/
def mixL (s t : S8) (k : Nat) : List UInt32 := (addS s t).list.take k ++ s.list.drop k
theorem Below.drewW {n : Nat} {w w' : World} (h : Below n w w') (m : Nat) : Below n w (w'.drewN m) := h.trans ⟨rfl, rfl, rfl, Nat.le_refl _, fun _ _ => rfl⟩
theorem w_shr3 (x : UInt32) : ((x.toNat : Int) / 8) = ((shrW x 8).toNat : Int) := by
  have h := x.toNat_lt
  rw [shrW, UInt32.toNat_ofNat', Nat.mod_eq_of_lt (by omega)]; simp
theorem w_shr10 (x : UInt32) : ((x.toNat : Int) / 1024) = ((shrW x 1024).toNat : Int) := by
  have h := x.toNat_lt
  rw [shrW, UInt32.toNat_ofNat', Nat.mod_eq_of_lt (by omega)]; simp
/-- bytes lie at a place -/
def BAt (w : World) (g off : Nat) (b : List UInt8) : Prop := g < w.heap.size ∧ ∀ (j : Nat) (h : j < b.length), w.cell? ⟨g, off + j, none⟩ = some (.int .u8 (b[j].toNat : Int))
theorem BAt.below {w w' : World} {g off : Nat} {b : List UInt8} (h : BAt w g off b) (hB : Below w.heap.size w w') : BAt w' g off b :=
  ⟨Nat.lt_of_lt_of_le h.1 hB.size, fun j hj => by rw [← h.2 j hj]; exact hB.cell h.1⟩
theorem BAt.at {w : World} {g off : Nat} {b : List UInt8} (h : BAt w g off b) {i j : Nat} (hj : i + j < b.length) : w.cell? ⟨g, off + i + j, none⟩ = some (.int .u8 ((b.getD (i + j) 0).toNat : Int)) := by
  rw [Nat.add_assoc, h.2 _ hj]
  simp [List.getD_eq_getElem?_getD, List.getElem?_eq_getElem hj]
/-- the constants lie in the program's table -/
def KAt (w : World) : Prop := 0 < w.heap.size ∧ ∀ (j : Nat) (h : j < 64), w.cell? ⟨0, j, none⟩ = some (.int .u32 ((sumKs.getD j 0).toNat : Int))
theorem KAt.below {w w' : World} (h : KAt w) (hB : Below w.heap.size w w') : KAt w' :=
  ⟨Nat.lt_of_lt_of_le h.1 hB.size, fun j hj => by rw [← h.2 j hj]; exact hB.cell h.1⟩
def wV (x : UInt32) : Value := .int .u32 (x.toNat : Int)
/-- a block of words -/
def RowW (w : World) (B : Nat) (ws : List UInt32) : Prop := ∃ t, w.heap[B]? = some (.cells (ws.map wV).toArray t (0, 0))
theorem wp_name {P : Program} {code : Code} {Q : Exit → Act → World → Prop} {a : Act} {w : World} (h : ∀ w', w = w' → Code.wp P code Q a w') : Code.wp P code Q a w := h w rfl
theorem RowW.lt {w : World} {B : Nat} {ws : List UInt32} (h : RowW w B ws) : B < w.heap.size := by
  obtain ⟨t, h⟩ := h
  exact (Array.getElem?_eq_some_iff.1 h).1
theorem RowW.cell {w : World} {B : Nat} {ws : List UInt32} (h : RowW w B ws) {k : Nat} (hk : k < ws.length) : w.cell? ⟨B, k, none⟩ = some (.int .u32 ((ws.getD k 0).toNat : Int)) := by
  obtain ⟨t, h⟩ := h
  rw [cell_of_row _ _ _ _ _ _ h]
  simp [wV, List.getD_eq_getElem?_getD, List.getElem?_eq_getElem hk]
theorem RowW.same {w w' : World} {B : Nat} {ws : List UInt32} (h : RowW w B ws) (hb : w'.heap[B]? = w.heap[B]?) : RowW w' B ws := by
  obtain ⟨t, h⟩ := h
  exact ⟨t, hb.trans h⟩
theorem RowW.below {w w' : World} {B n : Nat} {ws : List UInt32} (h : RowW w B ws) (hB : Below n w w') (hn : B < n) : RowW w' B ws := h.same (hB.block B hn)
theorem row_set {w : World} {b k : Nat} {v : Value} {t : TypeId} {cs : Array Value} (h : w.heap[b]? = some (.cells cs t (0, 0))) : (w.setCell ⟨b, k, none⟩ v).heap[b]? = some (.cells (cs.setIfInBounds k v) t (0, 0)) := by
  have hlt := lt_of_block h
  have h' : w.heap[b] = .cells cs t (0, 0) := by simpa [Array.getElem?_eq_getElem hlt] using h
  show (w.heap.modify b _)[b]? = _
  rw [Array.getElem?_eq_getElem (by simpa using hlt), Array.getElem_modify_self, h']
  rfl
theorem RowW.set {w : World} {B : Nat} {ws : List UInt32} (h : RowW w B ws) {k : Nat} (hk : k < ws.length) (v : UInt32) : RowW (w.setCell ⟨B, k, none⟩ (.int .u32 (v.toNat : Int))) B (ws.set k v) := by
  obtain ⟨t, h⟩ := h
  refine ⟨t, (row_set h).trans ?_⟩
  simp [wV, List.map_set]
theorem RowW.free {w : World} {B : Nat} {ws : List UInt32} (h : RowW w B ws) (k : Nat) : w.frozen? ⟨B, k, none⟩ = false := by
  obtain ⟨t, h⟩ := h
  simp [World.frozen?, h]
theorem RowW.other {w : World} {B : Nat} {ws : List UInt32} (h : RowW w B ws) {p : Addr} (hp : p.block ≠ B) (v : Value) : RowW (w.setCell p v) B ws := h.same (Below.heap_setCell _ _ _ _ (fun e => hp e.symm))

/-! ### the bytes of a word -/
def pn (b : List UInt8) (k : Nat) : Nat → Nat
  | 0 => 0
  | j + 1 => pn b k j * 256 + (b.getD (4 * k + j) 0).toNat
def part (b : List UInt8) (k j : Nat) : UInt32 := UInt32.ofNat (pn b k j)
theorem pn_lt (b : List UInt8) (k : Nat) : ∀ j, pn b k j < 256 ^ j
  | 0 => by unfold pn; decide
  | j + 1 => by
    have h := pn_lt b k j
    have hb := (b.getD (4 * k + j) 0).toNat_lt
    unfold pn
    rw [Nat.pow_succ]
    omega
theorem part_nat (b : List UInt8) (k : Nat) {j : Nat} (hj : j ≤ 4) : (part b k j).toNat = pn b k j := by
  have h := pn_lt b k j
  have h4 : 256 ^ j ≤ 256 ^ 4 := Nat.pow_le_pow_right (by decide) hj
  unfold part
  rw [UInt32.toNat_ofNat', Nat.mod_eq_of_lt (by omega)]
theorem or_low (a c : Nat) (h : c < 256) : a * 256 ||| c = a * 256 + c := by
  have := Nat.two_pow_add_eq_or_of_lt (i := 8) h a
  rw [show a * 256 = 2 ^ 8 * a by omega]
  exact this.symm
theorem part_or (b : List UInt8) (k : Nat) {j : Nat} (hj : j < 4) : bits .or .u32 (((part b k j).toNat : Int) * 256 % 4294967296) ((b.getD (4 * k + j) 0).toNat : Int) = ((part b k (j + 1)).toNat : Int) := by
  have h := pn_lt b k j
  have h4 : 256 ^ j ≤ 256 ^ 3 := Nat.pow_le_pow_right (by decide) (by omega)
  have hb := (b.getD (4 * k + j) 0).toNat_lt
  rw [part_nat b k (by omega), part_nat b k (by omega)]
  have e1 : ((pn b k j : Int) * 256 % 4294967296) = ((pn b k j * 256 : Nat) : Int) := by omega
  rw [e1, u32_or_nat _ _ (by omega) (by omega), or_low _ _ hb]
  rfl
theorem part_word (b : List UInt8) (k : Nat) : part b k 4 = word4 (b.getD (4 * k) 0) (b.getD (4 * k + 1) 0) (b.getD (4 * k + 2) 0) (b.getD (4 * k + 3) 0) := by
  unfold part word4
  refine congrArg UInt32.ofNat ?_
  simp only [pn, Nat.add_zero]
  omega
theorem part_zero (b : List UInt8) (k : Nat) : part b k 0 = 0 := rfl
theorem rep_cut {n : Nat} (h : 0 < n) : List.replicate n (0 : UInt32) = 0 :: List.replicate (n - 1) 0 := by
  obtain ⟨m, rfl⟩ : ∃ m, n = m + 1 := ⟨n - 1, by omega⟩
  rfl
theorem set_at {a r : List UInt32} {x y : UInt32} {k : Nat} (h : a.length = k) : (a ++ x :: r).set k y = a ++ y :: r := by
  subst h; simp
theorem getD_at {a r : List UInt32} {x : UInt32} {k : Nat} (h : a.length = k) : (a ++ x :: r).getD k 0 = x := by
  subst h; simp
theorem getD_ahead {a r : List UInt32} {k : Nat} (h : k < a.length) : (a ++ r).getD k 0 = a.getD k 0 := by
  simp [List.getElem?_append_left h]
end Go.Proofs.YtcgnoohllfbmcaaDoor
