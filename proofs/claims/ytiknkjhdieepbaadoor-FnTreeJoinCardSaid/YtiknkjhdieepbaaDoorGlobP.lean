/-
  Patterns, plainly: elements of a name, what they match, and the program's way to see it. No program in sight.
-/
import Derived.Test.YtiknkjhdieepbaaDoorGA
namespace Go.Proofs.YtiknkjhdieepbaaDoor
set_option linter.unusedVariables false
set_option linter.unusedSimpArgs false

/-- an element of a name of a pattern -/
inductive Pt where
  | star
  | any
  | lit (c : UInt8)
  | cls (not : Bool) (ms : List UInt8)
def Pt.isStar : Pt → Bool
  | .star => true
  | _ => false
def Pt.has : Pt → UInt8 → Bool
  | .star, _ => false
  | .any, _ => true
  | .lit d, c => c == d
  | .cls nt ms, c => ms.contains c != nt

/-! ### classes -/
/-- the body of a class, without its mark -/
def members (b : List UInt8) : List UInt8 := match b with
  | 33 :: r => r
  | b => b
def marked (b : List UInt8) : Bool := match b with
  | 33 :: _ => true
  | _ => false
/-- the class behind an open bracket: its body, and what follows the closed one -/
def classOf (r : List UInt8) : Option (List UInt8 × List UInt8) :=
  if (93 : UInt8) ∈ r then
    (if nameBytes (members (r.takeWhile (· != 93))) then some (r.takeWhile (· != 93), (r.dropWhile (· != 93)).drop 1) else none)
  else none
theorem classOf_shape {r b t : List UInt8} (h : classOf r = some (b, t)) : r = b ++ 93 :: t ∧ (93 : UInt8) ∉ b ∧ nameBytes (members b) = true := by
  unfold classOf at h
  split at h
  · rename_i hm
    split at h
    · rename_i hn
      cases h
      rcases split_first 93 r with h1 | ⟨f, s, hf, rfl⟩
      · exact absurd hm h1
      · have hne : ∀ x ∈ f, (x != 93) = true := fun x hx => by
          simp only [bne_iff_ne]; rintro rfl; exact hf hx
        have e1 : (f ++ 93 :: s).takeWhile (· != 93) = f := by rw [takeWhile_app _ _ hne]; simp
        have e2 : (f ++ 93 :: s).dropWhile (· != 93) = 93 :: s := by rw [dropWhile_app _ _ hne]; simp
        rw [e1] at hn ⊢
        rw [e2]
        exact ⟨by simp, hf, hn⟩
    · cases h
  · cases h
theorem classOf_at {b t : List UInt8} (hb : (93 : UInt8) ∉ b) : classOf (b ++ 93 :: t) = if nameBytes (members b) then some (b, t) else none := by
  have hne : ∀ x ∈ b, (x != 93) = true := fun x hx => by
    simp only [bne_iff_ne]; rintro rfl; exact hb hx
  have e1 : (b ++ 93 :: t).takeWhile (· != 93) = b := by rw [takeWhile_app _ _ hne]; simp
  have e2 : (b ++ 93 :: t).dropWhile (· != 93) = 93 :: t := by rw [dropWhile_app _ _ hne]; simp
  unfold classOf
  rw [if_pos (by simp), e1, e2]
  rfl
theorem classOf_none {r : List UInt8} (h : (93 : UInt8) ∉ r) : classOf r = none := by unfold classOf; rw [if_neg h]

/-! ### elements -/
/-- the first element of a name, and what follows -/
def head1 : List UInt8 → Option (Pt × List UInt8)
  | [] => none
  | c :: r => if c = 42 then some (.star, r) else if c = 63 then some (.any, r)
    else if c = 91 then (match classOf r with
      | some (b, t) => some (.cls (marked b) (members b), t)
      | none => none)
    else if nb c then some (.lit c, r) else none
theorem head1_short {l r : List UInt8} {p : Pt} (h : head1 l = some (p, r)) : r.length < l.length := by
  cases l with
  | nil => cases h
  | cons c s =>
    simp only [head1] at h
    split at h
    · cases h; simp
    · split at h
      · cases h; simp
      · split at h
        · split at h
          · rename_i b t hc
            cases h
            obtain ⟨rfl, _, _⟩ := classOf_shape hc
            simp; omega
          · cases h
        · split at h
          · cases h; simp
          · cases h
def partsGo : Nat → List UInt8 → Option (List Pt)
  | _, [] => some []
  | 0, _ :: _ => none
  | n + 1, l => match head1 l with
    | some (p, r) => (partsGo n r).map (p :: ·)
    | none => none
theorem partsGo_more : ∀ (n m : Nat) (l : List UInt8), l.length ≤ n → l.length ≤ m → partsGo n l = partsGo m l
  | n, m, [], _, _ => by cases n <;> cases m <;> rfl
  | 0, _, _ :: _, h, _ => by simp at h
  | _, 0, _ :: _, _, h => by simp at h
  | n + 1, m + 1, c :: s, h1, h2 => by
    unfold partsGo
    cases hh : head1 (c :: s) with
    | none => rfl
    | some x =>
      obtain ⟨p, r⟩ := x
      have := head1_short hh
      simp only
      rw [partsGo_more n m r (by simp at this h1; omega) (by simp at this h2; omega)]
def parts (l : List UInt8) : Option (List Pt) := partsGo l.length l
theorem parts_nil : parts [] = some [] := rfl
theorem parts_step {l r : List UInt8} {p : Pt} (h : head1 l = some (p, r)) : parts l = (parts r).map (p :: ·) := by
  have hs := head1_short h
  unfold parts
  cases l with
  | nil => cases h
  | cons c s =>
    conv => lhs; unfold partsGo
    simp only [List.length_cons]
    rw [h]
    simp only
    rw [partsGo_more s.length r.length r (by simp at hs; omega) (Nat.le_refl _)]
theorem parts_bad {l : List UInt8} (h : head1 l = none) (hn : l ≠ []) : parts l = none := by
  unfold parts
  cases l with
  | nil => exact absurd rfl hn
  | cons c s =>
    unfold partsGo
    simp only [List.length_cons]
    rw [h]
/-- a name of a pattern -/
def nameParts (l : List UInt8) : Option (List Pt) := if l = [] then none else parts l

/-! ### what elements match -/
def starGo {α : Type} (f : List α → Bool) : List α → Bool
  | [] => f []
  | c :: t => f (c :: t) || starGo f t
def fits : List Pt → List UInt8 → Bool
  | [] => fun s => s.isEmpty
  | p :: r => fun s => if p.isStar then starGo (fits r) s else (match s with
    | [] => false
    | c :: t => p.has c && fits r t)
theorem fits_nil (s : List UInt8) : fits [] s = s.isEmpty := rfl
theorem fits_star_nil (r : List Pt) : fits (.star :: r) [] = fits r [] := rfl
theorem fits_star_cons (r : List Pt) (c : UInt8) (t : List UInt8) : fits (.star :: r) (c :: t) = (fits r (c :: t) || fits (.star :: r) t) := rfl
theorem fits_one_nil {p : Pt} (h : p.isStar = false) (r : List Pt) : fits (p :: r) [] = false := by
  cases p <;> first | (cases h; done) | rfl
theorem fits_one_cons {p : Pt} (h : p.isStar = false) (r : List Pt) (c : UInt8) (t : List UInt8) : fits (p :: r) (c :: t) = (p.has c && fits r t) := by
  cases p <;> first | (cases h; done) | rfl
theorem fits_star {r : List Pt} {s : List UInt8} : fits (.star :: r) s = true ↔ ∃ a b, s = a ++ b ∧ fits r b = true := by
  induction s with
  | nil =>
    rw [fits_star_nil]
    constructor
    · intro h; exact ⟨[], [], rfl, h⟩
    · rintro ⟨a, b, h, hb⟩
      have : b = [] := (List.append_eq_nil_iff.1 h.symm).2
      rwa [this] at hb
  | cons c t ih =>
    rw [fits_star_cons, Bool.or_eq_true, ih]
    constructor
    · rintro (h | ⟨a, b, rfl, hb⟩)
      · exact ⟨[], c :: t, rfl, h⟩
      · exact ⟨c :: a, b, rfl, hb⟩
    · rintro ⟨a, b, h, hb⟩
      cases a with
      | nil => left; rw [show b = c :: t by simpa using h.symm] at hb; exact hb
      | cons x a =>
        simp at h
        exact .inr ⟨a, b, h.2, hb⟩
theorem fits_append (a b : List Pt) : ∀ s, fits (a ++ b) s = true ↔ ∃ x y, s = x ++ y ∧ fits a x = true ∧ fits b y = true := by
  induction a with
  | nil =>
    intro s
    constructor
    · intro h; exact ⟨[], s, rfl, by rw [fits_nil]; rfl, h⟩
    · rintro ⟨x, y, rfl, hx, hy⟩
      rw [fits_nil] at hx
      have : x = [] := by simpa using hx
      subst this
      exact hy
  | cons p a ih =>
    intro s
    by_cases hp : p.isStar = true
    · obtain rfl : p = .star := by cases p <;> first | rfl | (cases hp)
      rw [List.cons_append, fits_star]
      constructor
      · rintro ⟨u, v, rfl, hv⟩
        obtain ⟨x, y, rfl, hx, hy⟩ := (ih v).1 hv
        exact ⟨u ++ x, y, by simp, fits_star.2 ⟨u, x, rfl, hx⟩, hy⟩
      · rintro ⟨x, y, rfl, hx, hy⟩
        obtain ⟨u, v, rfl, hv⟩ := fits_star.1 hx
        exact ⟨u, v ++ y, by simp, (ih _).2 ⟨v, y, rfl, hv, hy⟩⟩
    · have hp : p.isStar = false := by simpa using hp
      cases s with
      | nil =>
        rw [List.cons_append, fits_one_nil hp]
        constructor
        · intro h; cases h
        · rintro ⟨x, y, h, hx, _⟩
          have : x = [] := (List.append_eq_nil_iff.1 h.symm).1
          rw [this, fits_one_nil hp] at hx
          cases hx
      | cons c t =>
        rw [List.cons_append, fits_one_cons hp, Bool.and_eq_true, ih]
        constructor
        · rintro ⟨h1, x, y, rfl, hx, hy⟩
          exact ⟨c :: x, y, rfl, by rw [fits_one_cons hp, h1, hx]; rfl, hy⟩
        · rintro ⟨x, y, h, hx, hy⟩
          cases x with
          | nil => rw [fits_one_nil hp] at hx; cases hx
          | cons d x =>
            simp at h
            obtain ⟨rfl, rfl⟩ := h
            rw [fits_one_cons hp, Bool.and_eq_true] at hx
            exact ⟨hx.1, x, y, rfl, hx.2, hy⟩
/-- the program's rows: one element more -/
theorem fits_snoc_star_nil (a : List Pt) : fits (a ++ [.star]) [] = fits a [] := by
  rw [Bool.eq_iff_iff, fits_append]
  constructor
  · rintro ⟨x, y, h, hx, _⟩
    have : x = [] := (List.append_eq_nil_iff.1 h.symm).1
    rwa [this] at hx
  · intro h
    exact ⟨[], [], rfl, h, by rw [fits_star_nil, fits_nil]; rfl⟩
theorem fits_snoc_star (a : List Pt) (s : List UInt8) (c : UInt8) : fits (a ++ [.star]) (s ++ [c]) = (fits a (s ++ [c]) || fits (a ++ [.star]) s) := by
  have hall : ∀ y, fits [.star] y = true := fun y => fits_star.2 ⟨y, [], by simp, by rw [fits_nil]; rfl⟩
  rw [Bool.eq_iff_iff, Bool.or_eq_true, fits_append, fits_append]
  constructor
  · rintro ⟨x, y, h, hx, _⟩
    rcases List.eq_nil_or_concat y with rfl | ⟨z, d, rfl⟩
    · left; rw [h]; simpa using hx
    · right
      rw [List.concat_eq_append, ← List.append_assoc] at h
      obtain ⟨h1, h2⟩ := List.append_inj' h rfl
      exact ⟨x, z, h1, hx, hall z⟩
  · rintro (h | ⟨x, y, rfl, hx, _⟩)
    · exact ⟨s ++ [c], [], by simp, h, hall _⟩
    · exact ⟨x, y ++ [c], by simp, hx, hall _⟩
theorem fits_snoc_one_nil (a : List Pt) {p : Pt} (h : p.isStar = false) : fits (a ++ [p]) [] = false := by
  cases hb : fits (a ++ [p]) [] with
  | false => rfl
  | true =>
    obtain ⟨x, y, h1, hx, hy⟩ := (fits_append a [p] []).1 hb
    have : y = [] := (List.append_eq_nil_iff.1 h1.symm).2
    rw [this, fits_one_nil h] at hy
    cases hy
theorem fits_snoc_one (a : List Pt) {p : Pt} (hp : p.isStar = false) (s : List UInt8) (c : UInt8) : fits (a ++ [p]) (s ++ [c]) = (fits a s && p.has c) := by
  rw [Bool.eq_iff_iff, Bool.and_eq_true, fits_append]
  constructor
  · rintro ⟨x, y, h, hx, hy⟩
    cases y with
    | nil => rw [fits_one_nil hp] at hy; cases hy
    | cons d y =>
      rw [fits_one_cons hp, Bool.and_eq_true, fits_nil] at hy
      have hyn : y = [] := by simpa using hy.2
      subst hyn
      obtain ⟨h1, h2⟩ := List.append_inj' h rfl
      simp at h2
      subst h1
      subst h2
      exact ⟨hx, hy.1⟩
  · rintro ⟨h1, h2⟩
    exact ⟨s, [c], rfl, h1, by rw [fits_one_cons hp, h2, fits_nil]; rfl⟩

/-! ### names of a pattern -/
structure Gn where
  many : Bool
  ps : List Pt
def globName (l : List UInt8) : Option Gn := (nameParts l).map (fun ps => ⟨l == [42, 42], ps⟩)
def globAll : List (List UInt8) → Option (List Gn)
  | [] => some []
  | l :: r => match globName l, globAll r with
    | some x, some xs => some (x :: xs)
    | _, _ => none
def globs (g : List UInt8) : Option (List Gn) := if g.length ≤ 40 then (if (cut 47 g).length ≤ 5 then globAll (cut 47 g) else none) else none
def globOk (g : List UInt8) : Bool := (globs g).isSome
def meets : List Gn → List (List UInt8) → Bool
  | [] => fun ns => ns.isEmpty
  | g :: r => fun ns => if g.many then starGo (meets r) ns else (match ns with
    | [] => false
    | n :: t => fits g.ps n && meets r t)
def globHas (g s : List UInt8) : Bool := match globs g with
  | some gs => pathOk s && meets gs (cut 47 s)
  | none => false
theorem meets_nil (ns : List (List UInt8)) : meets [] ns = ns.isEmpty := rfl
theorem meets_many_nil (ps : List Pt) (r : List Gn) : meets (⟨true, ps⟩ :: r) [] = meets r [] := rfl
theorem meets_many_cons (ps : List Pt) (r : List Gn) (n : List UInt8) (t : List (List UInt8)) : meets (⟨true, ps⟩ :: r) (n :: t) = (meets r (n :: t) || meets (⟨true, ps⟩ :: r) t) := rfl
theorem meets_one_nil (ps : List Pt) (r : List Gn) : meets (⟨false, ps⟩ :: r) [] = false := rfl
theorem meets_one_cons (ps : List Pt) (r : List Gn) (n : List UInt8) (t : List (List UInt8)) : meets (⟨false, ps⟩ :: r) (n :: t) = (fits ps n && meets r t) := rfl
theorem globAll_snoc {pre : List (List UInt8)} {x : List UInt8} {gs : List Gn} {g : Gn} (h : globAll pre = some gs) (hx : globName x = some g) : globAll (pre ++ [x]) = some (gs ++ [g]) := by
  induction pre generalizing gs with
  | nil => cases h; simp [globAll, hx]
  | cons l r ih =>
    unfold globAll at h
    split at h
    · rename_i y ys h1 h2
      cases h
      rw [List.cons_append]
      unfold globAll
      rw [h1, ih h2]
      rfl
    · cases h
theorem globAll_bad {pre rest : List (List UInt8)} {x : List UInt8} (hx : globName x = none) : globAll (pre ++ x :: rest) = none := by
  induction pre with
  | nil => simp [globAll, hx]
  | cons l r ih =>
    rw [List.cons_append]
    unfold globAll
    rw [ih]
    cases globName l <;> rfl
theorem globAll_length {pre : List (List UInt8)} {gs : List Gn} (h : globAll pre = some gs) : gs.length = pre.length := by
  induction pre generalizing gs with
  | nil => cases h; rfl
  | cons l r ih =>
    unfold globAll at h
    split at h
    · rename_i y ys h1 h2
      cases h
      simp [ih h2]
    · cases h
end Go.Proofs.YtiknkjhdieepbaaDoor
