/-
  Plain functions on lists of bytes, and their laws: names, paths, cuts at a byte. No program in sight.
-/
namespace Go.Proofs.YtcgnoohllfbmcaaDoor

/-! ### cutting at a byte -/
def cutGo (b : UInt8) (acc : List UInt8) : List UInt8 → List (List UInt8)
  | [] => [acc]
  | c :: r => if c = b then acc :: cutGo b [] r else cutGo b (acc ++ [c]) r
def cut (b : UInt8) (l : List UInt8) : List (List UInt8) := cutGo b [] l

theorem cutGo_app (b : UInt8) (f : List UInt8) : ∀ (acc r : List UInt8), b ∉ f → cutGo b acc (f ++ r) = cutGo b (acc ++ f) r := by
  induction f with
  | nil => intro acc r _; simp
  | cons c f ih =>
    intro acc r h
    have hc : ¬ c = b := fun e => h (by simp [e])
    have hf : b ∉ f := fun e => h (by simp [e])
    simp only [List.cons_append, cutGo, if_neg hc]
    rw [ih _ _ hf]; simp
theorem cut_none {b : UInt8} {f : List UInt8} (h : b ∉ f) : cut b f = [f] := by
  have := cutGo_app b f [] [] h
  simpa [cut, cutGo] using this
theorem cut_cons {b : UInt8} {f r : List UInt8} (h : b ∉ f) : cut b (f ++ b :: r) = f :: cut b r := by
  unfold cut
  rw [cutGo_app b f [] _ h]
  simp [cutGo]
theorem cutGo_ne_nil (b : UInt8) : ∀ (l acc : List UInt8), cutGo b acc l ≠ [] := by
  intro l
  induction l with
  | nil => intro acc; simp [cutGo]
  | cons c r ih => intro acc; unfold cutGo; split; · simp
                   · exact ih _
theorem cut_ne_nil (b : UInt8) (l : List UInt8) : cut b l ≠ [] := cutGo_ne_nil b l []
theorem cut_nil (b : UInt8) : cut b [] = [[]] := rfl

/-- a text is its head up to the first b, and what stands behind it -/
theorem split_first (b : UInt8) (l : List UInt8) : b ∉ l ∨ ∃ f r, b ∉ f ∧ l = f ++ b :: r := by
  induction l with
  | nil => left; simp
  | cons c l ih =>
    by_cases hc : c = b
    · right; exact ⟨[], l, by simp, by simp [hc]⟩
    · rcases ih with h | ⟨f, r, hf, rfl⟩
      · left
        intro hm
        rcases List.mem_cons.1 hm with e | e
        · exact hc e.symm
        · exact h e
      · right
        refine ⟨c :: f, r, ?_, by simp⟩
        intro hm
        rcases List.mem_cons.1 hm with e | e
        · exact hc e.symm
        · exact hf e
/-- induction along the cuts -/
theorem cut_induction (b : UInt8) {p : List UInt8 → Prop} (hn : ∀ l, b ∉ l → p l) (hc : ∀ f r, b ∉ f → p r → p (f ++ b :: r)) : ∀ l, p l := by
  intro l
  have key : ∀ (n : Nat) (l : List UInt8), l.length ≤ n → p l := by
    intro n
    induction n with
    | zero =>
      intro l hl
      have : l = [] := List.eq_nil_of_length_eq_zero (by omega)
      subst this; exact hn _ (by simp)
    | succ n ih =>
      intro l hl
      rcases split_first b l with h | ⟨f, r, hf, rfl⟩
      · exact hn _ h
      · exact hc f r hf (ih r (by simp at hl; omega))
  exact key l.length l (Nat.le_refl _)

theorem cut_append (b : UInt8) (l r : List UInt8) : cut b (l ++ b :: r) = cut b l ++ cut b r := by
  revert r
  refine cut_induction b (p := fun l => ∀ r, cut b (l ++ b :: r) = cut b l ++ cut b r) ?_ ?_ l
  · intro l h r
    rw [cut_cons h, cut_none h]; rfl
  · intro f r' hf ih r
    rw [List.append_assoc, List.cons_append, cut_cons hf, ih r, cut_cons hf]; rfl
theorem cut_no_b (b : UInt8) (l : List UInt8) : ∀ x ∈ cut b l, b ∉ x := by
  refine cut_induction b (p := fun l => ∀ x ∈ cut b l, b ∉ x) ?_ ?_ l
  · intro l h x hx
    rw [cut_none h] at hx
    simp at hx; subst hx; exact h
  · intro f r hf ih x hx
    rw [cut_cons hf] at hx
    rcases List.mem_cons.1 hx with e | e
    · subst e; exact hf
    · exact ih x e
theorem cut_length (b : UInt8) (l : List UInt8) : (cut b l).length = l.count b + 1 := by
  refine cut_induction b (p := fun l => (cut b l).length = l.count b + 1) ?_ ?_ l
  · intro l h
    rw [cut_none h, List.count_eq_zero_of_not_mem h]; rfl
  · intro f r hf ih
    rw [cut_cons hf, List.count_append, List.count_eq_zero_of_not_mem hf]
    simp [ih]
/-- the lengths of the pieces, and of the marks between -/
theorem cut_sum (b : UInt8) (l : List UInt8) : ((cut b l).map List.length).sum + (cut b l).length = l.length + 1 := by
  refine cut_induction b (p := fun l => ((cut b l).map List.length).sum + (cut b l).length = l.length + 1) ?_ ?_ l
  · intro l h
    rw [cut_none h]; simp
  · intro f r hf ih
    rw [cut_cons hf]
    simp
    omega
theorem cut_mem_length {b : UInt8} {l x : List UInt8} (h : x ∈ cut b l) : x.length ≤ l.length := by
  revert h
  refine cut_induction b (p := fun l => ∀ x, x ∈ cut b l → x.length ≤ l.length) ?_ ?_ l x
  · intro l h x hx
    rw [cut_none h] at hx; simp at hx; subst hx; exact Nat.le_refl _
  · intro f r hf ih x hx
    rw [cut_cons hf] at hx
    rcases List.mem_cons.1 hx with e | e
    · subst e; simp
    · have := ih x e; simp; omega

/-! ### names and paths -/
def nb (c : UInt8) : Bool := decide (97 ≤ c.toNat ∧ c.toNat ≤ 122 ∨ 48 ≤ c.toNat ∧ c.toNat ≤ 57 ∨ c.toNat = 46 ∨ c.toNat = 95 ∨ c.toNat = 45)
def nbI (c : Int) : Bool := decide (97 ≤ c ∧ c ≤ 122 ∨ 48 ≤ c ∧ c ≤ 57 ∨ c = 46 ∨ c = 95 ∨ c = 45)
theorem nbI_eq (c : UInt8) : nbI (c.toNat : Int) = nb c := by
  unfold nbI nb
  rw [Bool.eq_iff_iff]; simp only [decide_eq_true_eq]; omega
def nameBytes (l : List UInt8) : Bool := l.all nb && !l.isEmpty
def nameOk (l : List UInt8) : Bool := decide (l.length ≤ 10) && l != [46] && l != [46, 46] && nameBytes l
def pathOk (l : List UInt8) : Bool := (cut 47 l).all nameOk && decide ((cut 47 l).length ≤ 5)

theorem nameOk_len {l : List UInt8} (h : nameOk l = true) : 1 ≤ l.length ∧ l.length ≤ 10 := by
  simp only [nameOk, nameBytes, Bool.and_eq_true, decide_eq_true_eq] at h
  obtain ⟨⟨⟨h1, _⟩, _⟩, _, h4⟩ := h
  refine ⟨?_, h1⟩
  cases l with
  | nil => simp at h4
  | cons => simp
theorem sum_le {k : Nat} : ∀ (l : List (List UInt8)), (∀ x ∈ l, x.length ≤ k) → (l.map List.length).sum ≤ l.length * k := by
  intro l
  induction l with
  | nil => simp
  | cons x l ih =>
    intro h
    have h1 := h x (by simp)
    have h2 := ih (fun y hy => h y (by simp [hy]))
    simp only [List.map_cons, List.sum_cons, List.length_cons, Nat.succ_mul]
    omega
theorem pathOk_len {l : List UInt8} (h : pathOk l = true) : 1 ≤ l.length ∧ l.length ≤ 54 := by
  simp only [pathOk, Bool.and_eq_true, decide_eq_true_eq, List.all_eq_true] at h
  have h2 := cut_sum 47 l
  have h3 := sum_le (k := 10) (cut 47 l) (fun x hx => (nameOk_len (h.1 x hx)).2)
  have h4 : (cut 47 l).length * 10 ≤ 50 := by have := h.2; omega
  refine ⟨?_, by omega⟩
  cases l with
  | nil =>
    have := nameOk_len (h.1 [] (by simp [cut_nil]))
    simp at this
  | cons => simp
theorem not_nb_slash : nb 47 = false := by decide

/-! ### the last mark -/
def lastL (l : List UInt8) : List UInt8 := (l.reverse.takeWhile (· != 47)).reverse
def upL (l : List UInt8) : List UInt8 := ((l.reverse.dropWhile (· != 47)).drop 1).reverse

theorem takeWhile_app {p : UInt8 → Bool} : ∀ (f r : List UInt8), (∀ x ∈ f, p x = true) → (f ++ r).takeWhile p = f ++ r.takeWhile p := by
  intro f
  induction f with
  | nil => simp
  | cons c f ih =>
    intro r h
    simp only [List.cons_append, List.takeWhile_cons]
    rw [if_pos (h c (by simp)), ih r (fun x hx => h x (by simp [hx]))]
theorem dropWhile_app {p : UInt8 → Bool} : ∀ (f r : List UInt8), (∀ x ∈ f, p x = true) → (f ++ r).dropWhile p = r.dropWhile p := by
  intro f
  induction f with
  | nil => simp
  | cons c f ih =>
    intro r h
    simp only [List.cons_append, List.dropWhile_cons]
    rw [if_pos (h c (by simp)), ih r (fun x hx => h x (by simp [hx]))]
theorem ne_of_not_mem {f : List UInt8} (h : (47 : UInt8) ∉ f) : ∀ x ∈ f.reverse, (x != 47) = true := fun x hx => by
  simp only [bne_iff_ne]
  rintro rfl
  exact h (by simpa using hx)
theorem lastL_none {l : List UInt8} (h : (47 : UInt8) ∉ l) : lastL l = l := by
  unfold lastL
  have := takeWhile_app (p := (· != 47)) l.reverse [] (ne_of_not_mem h)
  simp only [List.append_nil] at this
  rw [this]; simp
theorem upL_none {l : List UInt8} (h : (47 : UInt8) ∉ l) : upL l = [] := by
  unfold upL
  have := dropWhile_app (p := (· != 47)) l.reverse [] (ne_of_not_mem h)
  simp only [List.append_nil] at this
  rw [this]; simp
theorem lastL_at {a c : List UInt8} (h : (47 : UInt8) ∉ c) : lastL (a ++ 47 :: c) = c := by
  unfold lastL
  rw [List.reverse_append, List.reverse_cons, List.append_assoc, takeWhile_app _ _ (ne_of_not_mem h)]
  simp
theorem upL_at {a c : List UInt8} (h : (47 : UInt8) ∉ c) : upL (a ++ 47 :: c) = a := by
  unfold upL
  rw [List.reverse_append, List.reverse_cons, List.append_assoc, dropWhile_app _ _ (ne_of_not_mem h)]
  simp
theorem split_last (b : UInt8) (l : List UInt8) : b ∉ l ∨ ∃ a c, b ∉ c ∧ l = a ++ b :: c := by
  rcases split_first b l.reverse with h | ⟨f, r, hf, h⟩
  · left; simpa using h
  · right
    refine ⟨r.reverse, f.reverse, by simpa using hf, ?_⟩
    have := congrArg List.reverse h
    simpa using this
theorem cut_up (l : List UInt8) (h : (47 : UInt8) ∈ l) : cut 47 l = cut 47 (upL l) ++ [lastL l] := by
  rcases split_last 47 l with h' | ⟨a, c, hc, rfl⟩
  · exact absurd h h'
  · rw [upL_at hc, lastL_at hc, cut_append, cut_none hc]
theorem last_of_cut (l : List UInt8) : (cut 47 l).getLast? = some (lastL l) := by
  rcases split_last 47 l with h' | ⟨a, c, hc, rfl⟩
  · rw [cut_none h', lastL_none h']; rfl
  · rw [lastL_at hc, cut_append, cut_none hc]; simp

/-! ### places -/
def below (p s : List UInt8) : Bool := s == p || (p ++ [47]).isPrefixOf s
def pathIn (p s : List UInt8) : Bool := pathOk p && pathOk s && below p s
def pathMove (s f t : List UInt8) : List UInt8 := if pathIn f s && pathOk t && pathOk (t ++ s.drop f.length) then t ++ s.drop f.length else []
def pathUp (s : List UInt8) : List UInt8 := if pathOk s then upL s else []
def pathLast (s : List UInt8) : List UInt8 := if pathOk s then lastL s else []

theorem below_iff {p s : List UInt8} : below p s = true ↔ s = p ∨ ∃ r, s = p ++ 47 :: r := by
  unfold below
  simp only [Bool.or_eq_true, beq_iff_eq, List.isPrefixOf_iff_prefix]
  constructor
  · rintro (h | ⟨r, h⟩)
    · exact .inl h
    · exact .inr ⟨r, by rw [← h]; simp⟩
  · rintro (h | ⟨r, h⟩)
    · exact .inl h
    · exact .inr ⟨r, by rw [h]; simp⟩
theorem below_refl (p : List UInt8) : below p p = true := below_iff.2 (.inl rfl)
theorem below_trans {p q s : List UInt8} (h : below p q = true) (k : below q s = true) : below p s = true := by
  rw [below_iff] at *
  rcases h with rfl | ⟨r, rfl⟩
  · exact k
  · rcases k with rfl | ⟨r', rfl⟩
    · exact .inr ⟨r, rfl⟩
    · exact .inr ⟨r ++ 47 :: r', by simp⟩

end Go.Proofs.YtcgnoohllfbmcaaDoor
