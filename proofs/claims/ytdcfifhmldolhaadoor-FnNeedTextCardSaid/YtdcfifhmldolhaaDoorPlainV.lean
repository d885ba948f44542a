/-
  Plain functions on lists of bytes, and their laws: numbers, versions, and their order. No program in sight.
-/
import Derived.Test.YtdcfifhmldolhaaDoorPlain
namespace Go.Proofs.YtdcfifhmldolhaaDoor

def digit (c : UInt8) : Bool := decide (48 ≤ c.toNat ∧ c.toNat ≤ 57)
def valGo (n : Nat) (l : List UInt8) : Nat := l.foldl (fun n c => n * 10 + (c.toNat - 48)) n
def valL (l : List UInt8) : Nat := valGo 0 l
def isNum (l : List UInt8) : Bool := !l.isEmpty && l.all digit && (decide (l.length ≤ 1) || l[0]? != some 48)
def verNum (l : List UInt8) : Option Nat := if isNum l = true ∧ valL l ≤ 999 then some (valL l) else none
/-- numbers of pieces, as far as all are numbers -/
def nums : List (List UInt8) → Option (List Nat)
  | [] => some []
  | x :: r => match verNum x, nums r with
    | some n, some ns => some (n :: ns)
    | _, _ => none
def version (l : List UInt8) : Option (List Nat) := if (cut 46 l).length ≤ 4 then nums (cut 46 l) else none
def versionOk (l : List UInt8) : Bool := (version l).isSome
def cmpL : List Nat → List Nat → Int
  | [], [] => 0
  | [], _ :: _ => -1
  | _ :: _, [] => 1
  | a :: r, b :: q => if a < b then -1 else if b < a then 1 else cmpL r q
def versionOrder (a b : List UInt8) : Int := match version a, version b with
  | some x, some y => cmpL x y
  | _, _ => 0

theorem valGo_snoc (n : Nat) (l : List UInt8) (c : UInt8) : valGo n (l ++ [c]) = valGo n l * 10 + (c.toNat - 48) := by simp [valGo]
theorem valL_snoc (l : List UInt8) (c : UInt8) : valL (l ++ [c]) = valL l * 10 + (c.toNat - 48) := valGo_snoc 0 l c
theorem valGo_ge (l : List UInt8) : ∀ n, n * 10 ^ l.length ≤ valGo n l := by
  induction l with
  | nil => intro n; simp [valGo]
  | cons c r ih =>
    intro n
    have h := ih (n * 10 + (c.toNat - 48))
    have e : valGo n (c :: r) = valGo (n * 10 + (c.toNat - 48)) r := rfl
    rw [e]
    refine Nat.le_trans ?_ h
    rw [List.length_cons, Nat.pow_succ, Nat.add_mul, Nat.mul_comm (10 ^ r.length) 10, ← Nat.mul_assoc]
    exact Nat.le_add_right _ _
theorem valGo_lt (l : List UInt8) (hd : l.all digit = true) : ∀ n, valGo n l < (n + 1) * 10 ^ l.length := by
  induction l with
  | nil => intro n; simp [valGo]
  | cons c r ih =>
    intro n
    simp only [List.all_cons, Bool.and_eq_true] at hd
    have h := ih hd.2 (n * 10 + (c.toNat - 48))
    have e : valGo n (c :: r) = valGo (n * 10 + (c.toNat - 48)) r := rfl
    rw [e]
    refine Nat.lt_of_lt_of_le h ?_
    have hc : c.toNat - 48 ≤ 9 := by
      have := hd.1
      simp only [digit, decide_eq_true_eq] at this
      omega
    rw [List.length_cons, Nat.pow_succ, Nat.mul_comm (10 ^ r.length) 10, ← Nat.mul_assoc]
    exact Nat.mul_le_mul_right _ (by omega)
theorem valL_lt (l : List UInt8) (hd : l.all digit = true) : valL l < 10 ^ l.length := by
  have := valGo_lt l hd 0
  simpa [valL] using this
/-- a number of four figures and more, without noughts ahead, is at least a thousand -/
theorem long_num {l : List UInt8} (h : isNum l = true) (hl : 4 ≤ l.length) : 1000 ≤ valL l := by
  cases l with
  | nil => simp at hl
  | cons c r =>
    simp only [isNum, Bool.and_eq_true, Bool.or_eq_true, decide_eq_true_eq, List.all_cons] at h
    obtain ⟨⟨_, hd, _⟩, h0⟩ := h
    have hc : c ≠ 48 := by
      rcases h0 with h0 | h0
      · omega
      · simpa using h0
    simp only [digit, decide_eq_true_eq] at hd
    have hc2 : c.toNat ≠ 48 := fun e => hc (UInt8.toNat_inj.1 e)
    have hg := valGo_ge r (0 * 10 + (c.toNat - 48))
    have e : valL (c :: r) = valGo (0 * 10 + (c.toNat - 48)) r := rfl
    rw [e]
    refine Nat.le_trans ?_ hg
    have h3 : 10 ^ 3 ≤ 10 ^ r.length := Nat.pow_le_pow_right (by omega) (by simp at hl; omega)
    calc 1000 ≤ 10 ^ r.length := h3
      _ ≤ (0 * 10 + (c.toNat - 48)) * 10 ^ r.length := Nat.le_mul_of_pos_left _ (by omega)
theorem verNum_long {l : List UInt8} (hl : 4 ≤ l.length) : verNum l = none := by
  unfold verNum
  rw [if_neg]
  rintro ⟨h1, h2⟩
  have := long_num h1 hl
  omega
theorem verNum_big {l : List UInt8} (h : 999 < valL l) : verNum l = none := by
  unfold verNum
  rw [if_neg]
  rintro ⟨_, h2⟩
  omega
theorem verNum_not {l : List UInt8} (h : isNum l = false) : verNum l = none := by
  unfold verNum
  rw [if_neg]
  rintro ⟨h1, _⟩
  rw [h] at h1; cases h1
theorem verNum_is {l : List UInt8} (h : isNum l = true) (h2 : valL l ≤ 999) : verNum l = some (valL l) := by
  unfold verNum; rw [if_pos ⟨h, h2⟩]
theorem verNum_le {l : List UInt8} {n : Nat} (h : verNum l = some n) : n ≤ 999 := by
  unfold verNum at h
  split at h
  · rename_i hc; cases h; exact hc.2
  · cases h
theorem verNum_len {l : List UInt8} {n : Nat} (h : verNum l = some n) : 1 ≤ l.length ∧ l.length ≤ 3 := by
  refine ⟨?_, ?_⟩
  · cases l with
    | nil => rw [verNum_not (by rfl)] at h; cases h
    | cons => simp
  · rcases Nat.lt_or_ge l.length 4 with hl | hl
    · omega
    · rw [verNum_long hl] at h; cases h

theorem nums_snoc {xs : List (List UInt8)} {ns : List Nat} {x : List UInt8} {n : Nat} (h : nums xs = some ns) (hx : verNum x = some n) : nums (xs ++ [x]) = some (ns ++ [n]) := by
  induction xs generalizing ns with
  | nil =>
    simp only [nums] at h
    cases h
    simp [nums, hx]
  | cons y r ih =>
    simp only [nums] at h
    cases hy : verNum y with
    | none => rw [hy] at h; cases h
    | some m =>
      rw [hy] at h
      cases hr : nums r with
      | none => rw [hr] at h; cases h
      | some ms =>
        rw [hr] at h
        cases h
        simp only [List.cons_append, nums, hy, ih hr]
theorem nums_none {xs : List (List UInt8)} {x : List UInt8} (hm : x ∈ xs) (hx : verNum x = none) : nums xs = none := by
  induction xs with
  | nil => cases hm
  | cons y r ih =>
    simp only [nums]
    rcases List.mem_cons.1 hm with e | e
    · rw [← e, hx]
    · rw [ih e]; cases verNum y <;> rfl
theorem nums_length {xs : List (List UInt8)} {ns : List Nat} (h : nums xs = some ns) : ns.length = xs.length := by
  induction xs generalizing ns with
  | nil => simp only [nums] at h; cases h; rfl
  | cons y r ih =>
    simp only [nums] at h
    cases hy : verNum y with
    | none => rw [hy] at h; cases h
    | some m =>
      rw [hy] at h
      cases hr : nums r with
      | none => rw [hr] at h; cases h
      | some ms => rw [hr] at h; cases h; simp [ih hr]
theorem nums_le {xs : List (List UInt8)} {ns : List Nat} (h : nums xs = some ns) : ∀ n ∈ ns, n ≤ 999 := by
  induction xs generalizing ns with
  | nil => simp only [nums] at h; cases h; simp
  | cons y r ih =>
    simp only [nums] at h
    cases hy : verNum y with
    | none => rw [hy] at h; cases h
    | some m =>
      rw [hy] at h
      cases hr : nums r with
      | none => rw [hr] at h; cases h
      | some ms =>
        rw [hr] at h; cases h
        intro n hn
        rcases List.mem_cons.1 hn with e | e
        · rw [e]; exact verNum_le hy
        · exact ih hr n e
theorem version_bad {l x : List UInt8} {pre : List (List UInt8)} (h : pre ++ [x] <+: cut 46 l) (hx : verNum x = none) : version l = none := by
  unfold version
  split
  · exact nums_none (h.subset (by simp)) hx
  · rfl
theorem version_many {l x : List UInt8} {pre : List (List UInt8)} (h : pre ++ [x] <+: cut 46 l) (hp : 4 ≤ pre.length) : version l = none := by
  unfold version
  have := h.length_le
  simp at this
  rw [if_neg (by omega)]
theorem version_all {l : List UInt8} {ns : List Nat} (h : nums (cut 46 l) = some ns) (h4 : (cut 46 l).length ≤ 4) : version l = some ns := by
  unfold version; rw [if_pos h4, h]
theorem version_le {l : List UInt8} {ns : List Nat} (h : version l = some ns) : ns.length ≤ 4 ∧ 1 ≤ ns.length ∧ ∀ n ∈ ns, n ≤ 999 := by
  unfold version at h
  split at h
  · rename_i h4
    have hl := nums_length h
    have := List.length_pos_iff.2 (cut_ne_nil 46 l)
    exact ⟨by omega, by omega, nums_le h⟩
  · cases h
theorem version_len {l : List UInt8} {ns : List Nat} (h : version l = some ns) : 1 ≤ l.length ∧ l.length ≤ 15 := by
  unfold version at h
  split at h
  · rename_i h4
    have hs := cut_sum 46 l
    have hall : ∀ x ∈ cut 46 l, 1 ≤ x.length ∧ x.length ≤ 3 := by
      intro x hx
      cases hv : verNum x with
      | none => rw [nums_none hx hv] at h; cases h
      | some n => exact verNum_len hv
    have h3 := sum_le (k := 3) (cut 46 l) (fun x hx => (hall x hx).2)
    refine ⟨?_, by omega⟩
    cases l with
    | nil =>
      have := hall [] (by simp [cut_nil])
      simp at this
    | cons => simp
  · cases h

end Go.Proofs.YtdcfifhmldolhaaDoor
