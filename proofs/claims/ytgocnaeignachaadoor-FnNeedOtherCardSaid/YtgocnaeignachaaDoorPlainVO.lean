/-
  Plain laws of the order of versions. No program in sight.
-/
import Derived.Test.YtgocnaeignachaaDoorPlainV
namespace Go.Proofs.YtgocnaeignachaaDoor

theorem cmpL_neg : ∀ x y : List Nat, cmpL y x = -cmpL x y
  | [], [] => rfl
  | [], _ :: _ => rfl
  | _ :: _, [] => rfl
  | a :: r, b :: q => by
    simp only [cmpL]
    by_cases h : a < b
    · simp [h, show ¬ b < a by omega]
    · by_cases h2 : b < a
      · simp [h, h2]
      · simp only [if_neg h, if_neg h2]; exact cmpL_neg r q
theorem cmpL_zero : ∀ {x y : List Nat}, cmpL x y = 0 → x = y
  | [], [], _ => rfl
  | [], _ :: _, h => by simp [cmpL] at h
  | _ :: _, [], h => by simp [cmpL] at h
  | a :: r, b :: q, h => by
    simp only [cmpL] at h
    by_cases h1 : a < b
    · rw [if_pos h1] at h; cases h
    · rw [if_neg h1] at h
      by_cases h2 : b < a
      · rw [if_pos h2] at h; cases h
      · rw [if_neg h2] at h
        rw [cmpL_zero h, show a = b by omega]
theorem cmpL_self : ∀ x : List Nat, cmpL x x = 0
  | [] => rfl
  | a :: r => by
    simp only [cmpL]
    rw [if_neg (Nat.lt_irrefl a), if_neg (Nat.lt_irrefl a)]; exact cmpL_self r
theorem cmpL_trans : ∀ {x y z : List Nat}, cmpL x y ≤ 0 → cmpL y z ≤ 0 → cmpL x z ≤ 0
  | [], _, [], _, _ => by simp [cmpL]
  | [], _, _ :: _, _, _ => by simp [cmpL]
  | _ :: _, [], _, h, _ => by simp [cmpL] at h
  | _ :: _, _ :: _, [], _, h => by simp [cmpL] at h
  | a :: r, b :: q, c :: s, h, k => by
    simp only [cmpL] at h k ⊢
    by_cases h1 : a < b
    · by_cases k1 : b < c
      · rw [if_pos (by omega)]; omega
      · rw [if_neg k1] at k
        by_cases k2 : c < b
        · rw [if_pos k2] at k; omega
        · rw [if_pos (by omega)]; omega
    · rw [if_neg h1] at h
      by_cases h2 : b < a
      · rw [if_pos h2] at h; omega
      · rw [if_neg h2] at h
        have e : a = b := by omega
        subst e
        by_cases k1 : a < c
        · rw [if_pos k1]; omega
        · rw [if_neg k1] at k ⊢
          by_cases k2 : c < a
          · rw [if_pos k2] at k; omega
          · rw [if_neg k2] at k ⊢
            exact cmpL_trans h k
theorem cmpL_more_behind : ∀ (x : List Nat) (n : Nat), cmpL x (x ++ [n]) = -1
  | [], _ => rfl
  | a :: r, n => by
    simp only [cmpL, List.cons_append]
    rw [if_neg (Nat.lt_irrefl a), if_neg (Nat.lt_irrefl a)]; exact cmpL_more_behind r n
theorem cmpL_last : ∀ (x : List Nat) {n m : Nat}, n < m → cmpL (x ++ [n]) (x ++ [m]) = -1
  | [], n, m, h => by simp [cmpL, h]
  | a :: r, n, m, h => by
    simp only [cmpL, List.cons_append]
    rw [if_neg (Nat.lt_irrefl a), if_neg (Nat.lt_irrefl a)]; exact cmpL_last r h

theorem versionOrder_neg (a b : List UInt8) : versionOrder b a = -versionOrder a b := by
  unfold versionOrder
  cases version a <;> cases version b <;> first | rfl | exact cmpL_neg _ _
theorem ok_some {a : List UInt8} (h : versionOk a = true) : ∃ ns, version a = some ns := by
  unfold versionOk at h
  exact Option.isSome_iff_exists.1 h
theorem order_some {a b : List UInt8} {x y : List Nat} (ha : version a = some x) (hb : version b = some y) : versionOrder a b = cmpL x y := by unfold versionOrder; rw [ha, hb]
theorem versionOrder_trans {a b c : List UInt8} (ha : versionOk a = true) (hb : versionOk b = true) (hc : versionOk c = true) (h : versionOrder a b ≤ 0) (k : versionOrder b c ≤ 0) : versionOrder a c ≤ 0 := by
  obtain ⟨x, hx⟩ := ok_some ha
  obtain ⟨y, hy⟩ := ok_some hb
  obtain ⟨z, hz⟩ := ok_some hc
  rw [order_some hx hy] at h
  rw [order_some hy hz] at k
  rw [order_some hx hz]
  exact cmpL_trans h k

theorem nums_append_one (xs : List (List UInt8)) (x : List UInt8) (n : Nat) (hx : verNum x = some n) : nums (xs ++ [x]) = (nums xs).map (· ++ [n]) := by
  induction xs with
  | nil => simp [nums, hx]
  | cons y r ih =>
    simp only [List.cons_append, nums, ih]
    cases verNum y <;> cases nums r <;> rfl
theorem version_dot {a x : List UInt8} {n : Nat} (hx : (46 : UInt8) ∉ x) (hn : verNum x = some n) (h : versionOk (a ++ 46 :: x) = true) :
    ∃ ns, version a = some ns ∧ version (a ++ 46 :: x) = some (ns ++ [n]) := by
  obtain ⟨ms, hm⟩ := ok_some h
  have hc : cut 46 (a ++ 46 :: x) = cut 46 a ++ [x] := by rw [cut_append, cut_none hx]
  have hm' := hm
  unfold version at hm'
  rw [hc] at hm'
  split at hm'
  · rename_i h4
    rw [nums_append_one _ _ _ hn] at hm'
    cases hns : nums (cut 46 a) with
    | none => rw [hns] at hm'; cases hm'
    | some ns =>
      rw [hns] at hm'
      refine ⟨ns, version_all hns (by simp at h4; omega), ?_⟩
      rw [hm, ← hm']; rfl
  · cases hm'
/-- the same front with another number behind it is a version too -/
theorem version_dot' {a x y : List UInt8} {n m : Nat} (hx : (46 : UInt8) ∉ x) (hn : verNum x = some n) (hy : (46 : UInt8) ∉ y) (hm : verNum y = some m) (h : versionOk (a ++ 46 :: x) = true) : versionOk (a ++ 46 :: y) = true := by
  obtain ⟨ns, h1, h2⟩ := version_dot hx hn h
  have h4 : (cut 46 (a ++ 46 :: x)).length ≤ 4 := by
    unfold version at h2
    split at h2
    · assumption
    · cases h2
  have hnum : nums (cut 46 a) = some ns := by
    unfold version at h1
    split at h1
    · exact h1
    · cases h1
  rw [cut_append, cut_none hx] at h4
  unfold versionOk
  rw [version_all (ns := ns ++ [m]) (by rw [cut_append, cut_none hy, nums_append_one _ _ _ hm, hnum]; rfl) (by rw [cut_append, cut_none hy]; simpa using h4)]
  rfl
theorem order_last {a x y : List UInt8} {n m : Nat} (hx : (46 : UInt8) ∉ x) (hn : verNum x = some n) (hy : (46 : UInt8) ∉ y) (hm : verNum y = some m) (hlt : n < m) (h : versionOk (a ++ 46 :: x) = true) : versionOrder (a ++ 46 :: x) (a ++ 46 :: y) = -1 := by
  obtain ⟨ns, h1, h2⟩ := version_dot hx hn h
  obtain ⟨ms, h3, h4⟩ := version_dot hy hm (version_dot' hx hn hy hm h)
  rw [h1] at h3
  cases h3
  rw [order_some h2 h4]
  exact cmpL_last ns hlt
theorem order_longer {a x : List UInt8} {n : Nat} (hx : (46 : UInt8) ∉ x) (hn : verNum x = some n) (h : versionOk (a ++ 46 :: x) = true) : versionOrder a (a ++ 46 :: x) = -1 := by
  obtain ⟨ns, h1, h2⟩ := version_dot hx hn h
  rw [order_some h1 h2]
  exact cmpL_more_behind ns n

/-! ### a version's text is told by its numbers -/
def joinD : List (List UInt8) → List UInt8
  | [] => []
  | [x] => x
  | x :: r => x ++ 46 :: joinD r
theorem joinD_cons (x : List UInt8) {r : List (List UInt8)} (h : r ≠ []) : joinD (x :: r) = x ++ 46 :: joinD r := by
  cases r with
  | nil => exact absurd rfl h
  | cons => rfl
theorem joinD_cut : ∀ l, joinD (cut 46 l) = l := by
  refine cut_induction 46 ?_ ?_
  · intro l h; rw [cut_none h]; rfl
  · intro f r h ih
    rw [cut_cons h, joinD_cons _ (cut_ne_nil 46 r), ih]
theorem verNum_form {x : List UInt8} {n : Nat} (h : verNum x = some n) :
    (∃ a, x = [a] ∧ 48 ≤ a.toNat ∧ a.toNat ≤ 57 ∧ n = a.toNat - 48) ∨
    (∃ a b, x = [a, b] ∧ 49 ≤ a.toNat ∧ a.toNat ≤ 57 ∧ 48 ≤ b.toNat ∧ b.toNat ≤ 57 ∧ n = (a.toNat - 48) * 10 + (b.toNat - 48)) ∨
    (∃ a b c, x = [a, b, c] ∧ 49 ≤ a.toNat ∧ a.toNat ≤ 57 ∧ 48 ≤ b.toNat ∧ b.toNat ≤ 57 ∧ 48 ≤ c.toNat ∧ c.toNat ≤ 57 ∧ n = (a.toNat - 48) * 100 + (b.toNat - 48) * 10 + (c.toNat - 48)) := by
  have hl := verNum_len h
  unfold verNum at h
  split at h
  · rename_i hc
    obtain ⟨h1, h2⟩ := hc
    cases h
    unfold isNum at h1
    simp only [Bool.and_eq_true, Bool.or_eq_true, decide_eq_true_eq] at h1
    obtain ⟨⟨_, hd⟩, h0⟩ := h1
    have h48 : ∀ a : UInt8, a ≠ 48 → a.toNat ≠ 48 := fun a ha e => ha (UInt8.toNat_inj.1 e)
    match x, hl, hd, h0 with
    | [], hl, _, _ => simp at hl
    | [a], _, hd, _ =>
      left
      simp [digit] at hd
      exact ⟨a, rfl, hd.1, hd.2, by simp [valL, valGo]⟩
    | [a, b], _, hd, h0 =>
      right; left
      simp [digit] at hd h0
      have := h48 a h0
      exact ⟨a, b, rfl, by omega, by omega, by omega, by omega, by simp [valL, valGo]⟩
    | [a, b, c], _, hd, h0 =>
      right; right
      simp [digit] at hd h0
      have := h48 a h0
      refine ⟨a, b, c, rfl, by omega, by omega, by omega, by omega, by omega, by omega, ?_⟩
      simp [valL, valGo]
      omega
    | _ :: _ :: _ :: _ :: _, hl, _, _ => simp at hl
  · cases h
theorem verNum_inj {x y : List UInt8} {n : Nat} (hx : verNum x = some n) (hy : verNum y = some n) : x = y := by
  have ht : ∀ {a b : UInt8}, a.toNat = b.toNat → a = b := fun e => UInt8.toNat_inj.1 e
  rcases verNum_form hx with ⟨a, rfl, h⟩ | ⟨a, b, rfl, h⟩ | ⟨a, b, c, rfl, h⟩ <;> rcases verNum_form hy with ⟨a', rfl, k⟩ | ⟨a', b', rfl, k⟩ | ⟨a', b', c', rfl, k⟩ <;>
    first
      | (exfalso; omega)
      | (rw [ht (show a.toNat = a'.toNat by omega)]; done)
      | (rw [ht (show a.toNat = a'.toNat by omega), ht (show b.toNat = b'.toNat by omega)]; done)
      | (rw [ht (show a.toNat = a'.toNat by omega), ht (show b.toNat = b'.toNat by omega), ht (show c.toNat = c'.toNat by omega)])
theorem nums_inj : ∀ {xs ys : List (List UInt8)} {ns : List Nat}, nums xs = some ns → nums ys = some ns → xs = ys
  | [], ys, ns, h, k => by
    simp only [nums] at h
    cases h
    have := nums_length k
    exact (List.eq_nil_of_length_eq_zero (by simpa using this.symm)).symm
  | x :: r, ys, ns, h, k => by
    simp only [nums] at h
    cases hx : verNum x with
    | none => rw [hx] at h; cases h
    | some n =>
      rw [hx] at h
      cases hr : nums r with
      | none => rw [hr] at h; cases h
      | some ms =>
        rw [hr] at h
        cases h
        cases ys with
        | nil => simp only [nums] at k; cases k
        | cons y q =>
          simp only [nums] at k
          cases hy : verNum y with
          | none => rw [hy] at k; cases k
          | some m =>
            rw [hy] at k
            cases hq : nums q with
            | none => rw [hq] at k; cases k
            | some ls =>
              rw [hq] at k
              cases k
              rw [verNum_inj hx hy, nums_inj hr hq]
theorem version_inj {a b : List UInt8} {ns : List Nat} (ha : version a = some ns) (hb : version b = some ns) : a = b := by
  have key : ∀ {l : List UInt8}, version l = some ns → nums (cut 46 l) = some ns := by
    intro l h
    unfold version at h
    split at h
    · exact h
    · cases h
  have := nums_inj (key ha) (key hb)
  rw [← joinD_cut a, this, joinD_cut b]
theorem order_same {a b : List UInt8} (ha : versionOk a = true) (hb : versionOk b = true) : (decide (versionOrder a b = 0)) = decide (a = b) := by
  obtain ⟨x, hx⟩ := ok_some ha
  obtain ⟨y, hy⟩ := ok_some hb
  rw [order_some hx hy, decide_eq_decide]
  constructor
  · intro h
    have := cmpL_zero h
    subst this
    exact version_inj hx hy
  · rintro rfl
    rw [hx] at hy
    cases hy
    exact cmpL_self x

end Go.Proofs.YtgocnaeignachaaDoor
