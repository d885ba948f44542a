/-
  Patterns, plainly: what the reference's loops see.
-/
import Derived.Test.YtiknkjhdieepbaaDoorGlobP
namespace Go.Proofs.YtiknkjhdieepbaaDoor
set_option linter.unusedVariables false
set_option linter.unusedSimpArgs false

/-- how long the class at the begin of a text is; 0 if it is none -/
def classLen (g : List UInt8) : Nat := match classOf (g.drop 1) with
  | some (b, _) => b.length + 2
  | none => 0
def markLen (g : List UInt8) : Nat := if marked (g.drop 1) then 2 else 1
theorem nb_no {c : UInt8} (h : nb c = true) : c ≠ 93 ∧ c ≠ 33 ∧ c ≠ 91 ∧ c ≠ 42 ∧ c ≠ 63 ∧ c ≠ 47 := by
  refine ⟨?_, ?_, ?_, ?_, ?_, ?_⟩ <;> (rintro rfl; revert h; decide)
theorem members_eq (b : List UInt8) : b = (if marked b then [33] else []) ++ members b := by
  unfold marked members
  split <;> simp
theorem class_some {r ms t : List UInt8} {nt : Bool} (h : r = (if nt then [33] else []) ++ (ms ++ 93 :: t)) (hm : nameBytes ms = true) :
    classOf r = some ((if nt then [33] else []) ++ ms, t) ∧ marked ((if nt then [33] else []) ++ ms) = nt ∧ members ((if nt then [33] else []) ++ ms) = ms := by
  have hall : ∀ x ∈ ms, nb x = true := by
    unfold nameBytes at hm
    simp only [Bool.and_eq_true, List.all_eq_true] at hm
    exact hm.1
  have hne : ms ≠ [] := by
    rintro rfl
    revert hm; decide
  have hmm : marked ((if nt then [33] else []) ++ ms) = nt ∧ members ((if nt then [33] else []) ++ ms) = ms := by
    cases nt with
    | true => exact ⟨rfl, rfl⟩
    | false =>
      cases ms with
      | nil => exact absurd rfl hne
      | cons c s =>
        have hc := (nb_no (hall c (by simp))).2.1
        simp only [Bool.false_eq_true, if_false, List.nil_append]
        refine ⟨?_, ?_⟩
        · unfold marked; split
          · rename_i h1; simp at h1; exact absurd h1.1 hc
          · rfl
        · unfold members; split
          · rename_i h1; simp at h1; exact absurd h1.1 hc
          · rfl
  refine ⟨?_, hmm⟩
  have h93 : (93 : UInt8) ∉ (if nt then [33] else []) ++ ms := by
    intro hx
    rcases List.mem_append.1 hx with hx | hx
    · cases nt <;> simp at hx
    · exact (nb_no (hall _ hx)).1 rfl
  rw [h, ← List.append_assoc, classOf_at h93, hmm.2, if_pos hm]
/-- the reference's loop over a class has come to its end -/
theorem class_end {r : List UInt8} {k : Nat} (hk : (if marked r then 1 else 0) ≤ k) (hkl : k ≤ r.length) (hall : ∀ j (hj : j < r.length), (if marked r then 1 else 0) ≤ j → j < k → nb r[j] = true)
    (hend : ∀ hj : k < r.length, nb r[k] = false) :
    (k = (if marked r then 1 else 0) ∨ k = r.length ∨ (∃ hj : k < r.length, r[k] ≠ 93) → classOf r = none) ∧
    (k ≠ (if marked r then 1 else 0) → ∀ hj : k < r.length, r[k] = 93 → classOf r = some (r.take k, r.drop (k + 1))) := by
  have hr := members_eq r
  obtain ⟨m, hm⟩ : ∃ m, (if marked r then 1 else 0) = m := ⟨_, rfl⟩
  rw [hm] at hk hall ⊢
  have hpre : (if marked r then [33] else [] : List UInt8).length = m := by rw [← hm]; split <;> rfl
  have hmr : members r = r.drop m := by
    conv => rhs; rw [hr]
    rw [List.drop_append_of_le_length (by omega), List.drop_of_length_le (by omega)]; rfl
  have htk : ∀ x ∈ (r.take k).drop m, nb x = true := by
    intro x hx
    obtain ⟨i, hi, rfl⟩ := List.getElem_of_mem hx
    simp only [List.length_drop, List.length_take] at hi
    rw [List.getElem_drop, List.getElem_take]
    exact hall _ (by omega) (by omega) (by omega)
  have hsplit : r.take k = (if marked r then [33] else []) ++ (r.take k).drop m := by
    have h1 : (r.take k).take m = (if marked r then [33] else []) := by
      rw [List.take_take, Nat.min_eq_left hk]
      conv => lhs; rw [hr]
      rw [List.take_append_of_le_length (by omega), List.take_of_length_le (by omega)]
    rw [← h1]
    exact (List.take_append_drop m _).symm
  refine ⟨fun h => ?_, fun hne hj h93 => ?_⟩
  · cases hc : classOf r with
    | none => rfl
    | some x =>
      exfalso
      obtain ⟨b, t⟩ := x
      obtain ⟨he, hb, hn⟩ := classOf_shape hc
      have hbm := members_eq b
      have hmb : marked b = marked r := by
        rw [he]
        cases b with
        | nil => exact absurd hn (by decide)
        | cons c s =>
          by_cases h33 : c = 33
          · subst h33; rfl
          · have hx : ∀ l : List UInt8, marked (c :: l) = false := fun l => by
              unfold marked
              split
              · rename_i h1; simp at h1; exact absurd h1.1 h33
              · rfl
            rw [List.cons_append, hx, hx]
      rw [hmb] at hbm
      have hbl : b.length = m + (members b).length := by
        conv => lhs; rw [hbm]
        rw [List.length_append, hpre]
      have hms : ∀ x ∈ members b, nb x = true := by
        unfold nameBytes at hn
        simp only [Bool.and_eq_true, List.all_eq_true] at hn
        exact hn.1
      have hmne : 0 < (members b).length := by
        cases hmb2 : members b with
        | nil => rw [hmb2] at hn; exact absurd hn (by decide)
        | cons => simp
      have hbk : b.length = k := by
        rcases Nat.lt_trichotomy b.length k with h1 | h1 | h1
        · have := hall b.length (by rw [he]; simp) (by omega) h1
          simp only [he] at this
          rw [List.getElem_append_right (by omega)] at this
          simp at this
          exact absurd this (by decide)
        · exact h1
        · exfalso
          have hkr : k < r.length := by rw [he]; simp; omega
          have hf := hend hkr
          have hkb : r[k] = b[k]'(by omega) := by simp only [he]; rw [List.getElem_append_left (by omega)]
          rw [hkb] at hf
          have hkm : b[k]'(by omega) ∈ members b := by
            have : members b = b.drop m := by
              conv => rhs; rw [hbm]
              rw [List.drop_append_of_le_length (by omega), List.drop_of_length_le (by omega)]; rfl
            rw [this]
            refine List.mem_iff_getElem.2 ⟨k - m, by simp; omega, ?_⟩
            rw [List.getElem_drop]
            congr 1; omega
          rw [hms _ hkm] at hf
          cases hf
      rcases h with h | h | ⟨hj, h⟩
      · omega
      · have : k < r.length := by rw [he]; simp; omega
        omega
      · apply h
        simp only [he]
        rw [List.getElem_append_right (by omega)]
        simp [hbk]
  · have hmn : nameBytes ((r.take k).drop m) = true := by
      unfold nameBytes
      simp only [Bool.and_eq_true, List.all_eq_true]
      refine ⟨htk, ?_⟩
      have : ((r.take k).drop m).length ≠ 0 := by simp; omega
      cases hq : (r.take k).drop m with
      | nil => rw [hq] at this; simp at this
      | cons => rfl
    have hcut : r = (if marked r then [33] else []) ++ ((r.take k).drop m ++ 93 :: r.drop (k + 1)) := by
      rw [← List.append_assoc, ← hsplit, ← h93]
      rw [← List.drop_eq_getElem_cons hj, List.take_append_drop]
    have := (class_some hcut hmn).1
    rw [← hsplit] at this
    exact this
/-- the head of a name, by its first byte -/
theorem head1_star (r : List UInt8) : head1 (42 :: r) = some (.star, r) := by simp [head1]
theorem head1_any (r : List UInt8) : head1 (63 :: r) = some (.any, r) := by simp [head1]
theorem head1_cls {r b t : List UInt8} (h : classOf r = some (b, t)) : head1 (91 :: r) = some (.cls (marked b) (members b), t) := by simp [head1, h]
theorem head1_nocls {r : List UInt8} (h : classOf r = none) : head1 (91 :: r) = none := by simp [head1, h]
theorem head1_lit {c : UInt8} {r : List UInt8} (h : nb c = true) : head1 (c :: r) = some (.lit c, r) := by
  obtain ⟨_, _, h3, h4, h5, _⟩ := nb_no h
  simp [head1, h, h3, h4, h5]
theorem head1_bad {c : UInt8} {r : List UInt8} (h : nb c = false) (h1 : c ≠ 42) (h2 : c ≠ 63) (h3 : c ≠ 91) : head1 (c :: r) = none := by
  simp [head1, h, h1, h2, h3]
/-- a class has one byte, by its mark and its members -/
def ofCls (b : List UInt8) (c : UInt8) : Bool := (members b).contains c != marked b
end Go.Proofs.YtiknkjhdieepbaaDoor
