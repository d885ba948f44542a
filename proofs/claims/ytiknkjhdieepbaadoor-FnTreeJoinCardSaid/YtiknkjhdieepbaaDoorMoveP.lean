/-
  Joining and moving trees, plainly.
-/
import Derived.Test.YtiknkjhdieepbaaDoorPutP
namespace Go.Proofs.YtiknkjhdieepbaaDoor
open Go.RowKit
set_option linter.unusedVariables false
set_option linter.unusedSimpArgs false

/-! ### order -/
def Up (es : List En) : Prop := es.Pairwise (fun a b => Op.bytesLess a.path b.path = true)
theorem sorted_up {es : List En} (h : Sorted es) : Up es := by
  unfold Up
  rw [List.pairwise_iff_getElem]
  intro i j hi hj hij
  exact h.lt j i hj hij
theorem up_sorted {es : List En} (h : Up es) : Sorted es := by
  unfold Up at h
  rw [List.pairwise_iff_getElem] at h
  intro i hi
  exact h i (i + 1) (by omega) hi (by omega)
theorem up_unique {a b : List En} (ha : Up a) (hb : Up b) (hp : a.Perm b) : a = b := by
  unfold Up at ha hb
  refine List.Perm.eq_of_pairwise (le := fun x y : En => Op.bytesLess x.path y.path = true) ?_ ha hb hp
  intro x y _ _ h1 h2
  rw [lt_asymm h1] at h2
  cases h2
/-- paths are of one entry each -/
def Apart (es : List En) : Prop := es.Pairwise (fun a b => a.path ≠ b.path)
theorem up_apart {es : List En} (h : Up es) : Apart es := List.Pairwise.imp (fun h e => by rw [e, lt_irrefl] at h; cases h) h
theorem apart_perm {a b : List En} (hp : a.Perm b) (h : Apart a) : Apart b := (hp.pairwise_iff (fun h e => h e.symm)).1 h
theorem atGo_split (es : List En) (p : List UInt8) (h : Up es) (hn : there es p = false) :
    (∀ x ∈ es.take (atGo es p), Op.bytesLess x.path p = true) ∧ (∀ x ∈ es.drop (atGo es p), Op.bytesLess p x.path = true) := by
  have hs := up_sorted h
  constructor
  · intro x hx
    obtain ⟨i, hi, rfl⟩ := List.getElem_of_mem hx
    simp only [List.length_take] at hi
    rw [List.getElem_take]
    exact atGo_before i (by omega) (by omega)
  · intro x hx
    obtain ⟨i, hi, rfl⟩ := List.getElem_of_mem hx
    simp only [List.length_drop] at hi
    rw [List.getElem_drop]
    have hk : atGo es p < es.length := by omega
    have h1 := atGo_at hk
    have hne : (es[atGo es p].path == p) = false := by
      unfold there at hn
      rw [List.getElem?_eq_getElem hk] at hn
      exact hn
    have h2 := lt_of_not h1 hne
    rcases Nat.eq_zero_or_pos i with h0 | h0
    · subst h0; exact h2
    · exact lt_trans h2 (hs.lt (atGo es p + i) (atGo es p) (by omega) (by omega))
theorem insE_up {es : List En} {e : En} (h : Up es) (hn : there es e.path = false) : Up (insE es (atGo es e.path) e) := by
  obtain ⟨h1, h2⟩ := atGo_split es e.path h hn
  unfold Up insE at *
  rw [List.pairwise_append, List.pairwise_cons]
  refine ⟨h.sublist (List.take_sublist _ _), ⟨h2, h.sublist (List.drop_sublist _ _)⟩, fun a ha b hb => ?_⟩
  rcases List.mem_cons.1 hb with rfl | hb
  · exact h1 a ha
  · exact lt_trans (h1 a ha) (h2 b hb)
theorem insE_sorted {es : List En} {e : En} (h : Sorted es) (hn : there es e.path = false) : Sorted (insE es (atGo es e.path) e) := up_sorted (insE_up (sorted_up h) hn)
theorem insE_perm (es : List En) (i : Nat) (e : En) : (insE es i e).Perm (e :: es) := by
  unfold insE
  refine List.perm_middle.trans (List.Perm.cons e ?_)
  rw [List.take_append_drop]
theorem there_mem {es : List En} (hs : Sorted es) (p : List UInt8) : there es p = true ↔ ∃ x ∈ es, x.path = p := by
  constructor
  · intro h
    obtain ⟨hk, he⟩ := there_iff.1 h
    exact ⟨_, List.getElem_mem hk, he⟩
  · rintro ⟨x, hx, rfl⟩
    obtain ⟨i, hi, rfl⟩ := List.getElem_of_mem hx
    have ha : atGo es es[i].path = i := atGo_is (by omega) (fun j hj hji => hs.lt i j hi hji) (fun _ => lt_irrefl _)
    rw [there_iff]
    exact ⟨by omega, by simp only [ha]⟩
theorem atGo_mem {es : List En} (hs : Sorted es) {i : Nat} (hi : i < es.length) : atGo es es[i].path = i := atGo_is (by omega) (fun j hj hji => hs.lt i j hi hji) (fun _ => lt_irrefl _)

/-! ### joining -/
def sameE (a b : En) : Bool := a.path == b.path && a.kind == b.kind && a.mode == b.mode && a.text == b.text
theorem sameE_iff {a b : En} : sameE a b = true ↔ a = b := by
  obtain ⟨a1, a2, a3, a4⟩ := a
  obtain ⟨b1, b2, b3, b4⟩ := b
  simp [sameE, and_assoc]
def e0 : En := ⟨[], 0, 0, []⟩
def joinGo : List En → List En → Option (List En)
  | acc, [] => some acc
  | acc, e :: r => if there acc e.path then (if e.kind == 1 && sameE (acc.getD (atGo acc e.path) e0) e then joinGo acc r else none) else joinGo (insE acc (atGo acc e.path) e) r
noncomputable def joinL (a b : List En) : List En × Bool := match joinGo a b with
  | some x => if treeOk x = true then (x, true) else ([], false)
  | none => ([], false)
noncomputable def treeJoin (a b : List En) : List En × Bool := if treeOk a = true ∧ treeOk b = true then joinL a b else ([], false)
theorem joinGo_nil (acc : List En) : joinGo acc [] = some acc := rfl
theorem joinGo_ins {acc r : List En} {e : En} {k : Nat} (h : there acc e.path = false) (ha : atGo acc e.path = k) : joinGo acc (e :: r) = joinGo (insE acc k e) r := by
  conv => lhs; unfold joinGo
  rw [h, ha]; rfl
theorem joinGo_same {acc r : List En} {e : En} {k : Nat} (h : there acc e.path = true) (ha : atGo acc e.path = k) (hk : k < acc.length) (h1 : e.kind = 1) (h2 : sameE acc[k] e = true) : joinGo acc (e :: r) = joinGo acc r := by
  conv => lhs; unfold joinGo
  rw [h, ha, List.getD_eq_getElem?_getD, List.getElem?_eq_getElem hk, Option.getD_some, h2, h1]; rfl
theorem joinGo_no {acc r : List En} {e : En} {k : Nat} (h : there acc e.path = true) (ha : atGo acc e.path = k) (hk : k < acc.length) (h1 : e.kind ≠ 1 ∨ sameE acc[k] e = false) : joinGo acc (e :: r) = none := by
  conv => lhs; unfold joinGo
  rw [h, ha, List.getD_eq_getElem?_getD, List.getElem?_eq_getElem hk, Option.getD_some]
  rcases h1 with h1 | h1
  · rw [beq_eq_false_iff_ne.2 h1]; rfl
  · rw [h1]; simp
theorem treeJoin_bad1 {a b : List En} (h : treeOk a = false) : treeJoin a b = ([], false) := by unfold treeJoin; rw [h]; simp
theorem treeJoin_bad2 {a b : List En} (h : treeOk b = false) : treeJoin a b = ([], false) := by unfold treeJoin; rw [h]; simp
theorem treeJoin_ok {a b : List En} (h : treeOk a = true) (h2 : treeOk b = true) : treeJoin a b = joinL a b := by unfold treeJoin; rw [if_pos ⟨h, h2⟩]
theorem joinL_none {a b : List En} (h : joinGo a b = none) : joinL a b = ([], false) := by unfold joinL; rw [h]
theorem joinL_bad {a b x : List En} (h : joinGo a b = some x) (h2 : treeOk x = false) : joinL a b = ([], false) := by unfold joinL; rw [h]; simp [h2]
theorem joinL_ok {a b x : List En} (h : joinGo a b = some x) (h2 : treeOk x = true) : joinL a b = (x, true) := by unfold joinL; rw [h]; simp [h2]
theorem joinGo_len : ∀ (b a x : List En), joinGo a b = some x → x.length ≤ a.length + b.length
  | [], a, x, h => by cases h; simp
  | e :: r, a, x, h => by
    unfold joinGo at h
    split at h
    · split at h
      · have := joinGo_len r a x h; simp; omega
      · cases h
    · have := joinGo_len r _ x h
      rw [insE_length e (atGo_le a e.path)] at this
      simp; omega
theorem treeJoin_len (a b : List En) : (treeJoin a b).1.length ≤ a.length + b.length := by
  unfold treeJoin
  split
  · unfold joinL
    split
    · rename_i x hx
      split
      · exact joinGo_len b a x hx
      · simp
    · simp
  · simp

/-! ### moving -/
def moveE (f t : List UInt8) (e : En) : En := if below f e.path then { e with path := t ++ e.path.drop f.length } else e
def movesOk (es : List En) (f t : List UInt8) : Bool := es.all (fun e => pathOk (moveE f t e).path)
def sortGo (acc : List En) : List En → List En
  | [] => acc
  | e :: r => sortGo (insE acc (atGo acc e.path) e) r
def sortE (es : List En) : List En := sortGo [] es
def moveB (es : List En) (f t : List UInt8) : Bool := there es f && !there es t && pathOk t && !below f t && placeOk es (upL t)
def moveL (es : List En) (f t : List UInt8) : List En × Bool := if moveB es f t && movesOk es f t then (sortE (es.map (moveE f t)), true) else (es, false)
noncomputable def treeMove (es : List En) (f t : List UInt8) : List En × Bool := if treeOk es = true then moveL es f t else ([], false)
theorem treeMove_bad {es : List En} {f t : List UInt8} (h : treeOk es = false) : treeMove es f t = ([], false) := by unfold treeMove; rw [h]; rfl
theorem treeMove_no {es : List En} {f t : List UInt8} (h : treeOk es = true) (h2 : moveB es f t = false) : treeMove es f t = (es, false) := by unfold treeMove moveL; rw [h, h2]; rfl
theorem treeMove_long {es : List En} {f t : List UInt8} (h : treeOk es = true) (h2 : movesOk es f t = false) : treeMove es f t = (es, false) := by unfold treeMove moveL; rw [h, h2]; simp
theorem treeMove_yes {es : List En} {f t : List UInt8} (h : treeOk es = true) (h2 : moveB es f t = true) (h3 : movesOk es f t = true) : treeMove es f t = (sortE (es.map (moveE f t)), true) := by unfold treeMove moveL; rw [h, h2, h3]; rfl
theorem sortGo_length : ∀ (r acc : List En), (sortGo acc r).length = acc.length + r.length
  | [], acc => by simp [sortGo]
  | e :: r, acc => by
    unfold sortGo
    rw [sortGo_length r, insE_length e (atGo_le acc e.path)]
    simp; omega
theorem sortE_length (es : List En) : (sortE es).length = es.length := by unfold sortE; rw [sortGo_length]; simp
theorem treeMove_len (es : List En) (f t : List UInt8) : (treeMove es f t).1.length ≤ es.length := by
  unfold treeMove moveL
  split
  · split
    · show (sortE _).length ≤ _
      rw [sortE_length]; simp
    · simp
  · simp
theorem sortGo_perm : ∀ (r acc : List En), (sortGo acc r).Perm (acc ++ r)
  | [], acc => by simp [sortGo]
  | e :: r, acc => by
    unfold sortGo
    refine (sortGo_perm r _).trans ?_
    refine ((insE_perm acc _ e).append_right r).trans ?_
    exact (List.perm_middle (a := e) (l₁ := acc) (l₂ := r)).symm
theorem sortE_perm (es : List En) : (sortE es).Perm es := by simpa [sortE] using sortGo_perm es []
theorem sortGo_up : ∀ (r acc : List En), Up acc → Apart (acc ++ r) → Up (sortGo acc r)
  | [], acc, h, _ => h
  | e :: r, acc, h, ha => by
    have hno : there acc e.path = false := by
      cases hth : there acc e.path with
      | false => rfl
      | true =>
        obtain ⟨x, hx, he⟩ := (there_mem (up_sorted h) _).1 hth
        unfold Apart at ha
        rw [List.pairwise_append] at ha
        exact absurd he (ha.2.2 x hx e (by simp))
    unfold sortGo
    refine sortGo_up r _ (insE_up h hno) ?_
    refine apart_perm ?_ ha
    refine List.Perm.trans ?_ (((insE_perm acc (atGo acc e.path) e).symm).append_right r)
    exact (List.perm_middle (a := e) (l₁ := acc) (l₂ := r))
theorem sortE_up {es : List En} (h : Apart es) : Up (sortE es) := sortGo_up es [] List.Pairwise.nil (by simpa using h)
/-- whatever sorts entries apart from each other gives the same -/
theorem sortE_is {es x : List En} (h : Apart es) (hp : x.Perm es) (hs : ∀ i j (hi : i < x.length) (hj : j < x.length), i < j → Op.bytesLess x[j].path x[i].path = false) : x = sortE es := by
  have hx := apart_perm hp.symm h
  refine up_unique ?_ (sortE_up h) (hp.trans (sortE_perm es).symm)
  unfold Up
  rw [List.pairwise_iff_getElem]
  intro i j hi hj hij
  have hne : x[i].path ≠ x[j].path := by
    unfold Apart at hx
    rw [List.pairwise_iff_getElem] at hx
    exact hx i j hi hj hij
  rcases lt_tri x[i].path x[j].path with k | k | k
  · exact k
  · exact absurd k hne
  · rw [hs i j hi hj hij] at k; cases k
/-- what lies below a place that is not there is not there -/
theorem none_below {es : List En} (ht : TreeIs es) {p : List UInt8} (hp : p ≠ []) (hno : there es p = false) : ∀ x ∈ es, below p x.path = false := by
  have key : ∀ (n : Nat) (x : En), x ∈ es → x.path.length ≤ n → below p x.path = true → False := by
    intro n
    induction n with
    | zero =>
      intro x hx hl hb
      have hl0 : x.path = [] := List.eq_nil_of_length_eq_zero (by omega)
      rcases below_iff.1 hb with h | ⟨r, h⟩
      · exact hp (by rw [← h, hl0])
      · rw [hl0] at h; simp at h
    | succ n ih =>
      intro x hx hl hb
      rcases below_iff.1 hb with h | ⟨r, h⟩
      · have := (there_mem ht.sorted p).2 ⟨x, hx, h⟩
        rw [hno] at this; cases this
      · obtain ⟨i, hi, rfl⟩ := List.getElem_of_mem hx
        have hm : (47 : UInt8) ∈ es[i].path := by rw [h]; simp
        rcases split_last 47 es[i].path with h1 | ⟨a, c, hc, he⟩
        · exact h1 hm
        · have hu : upL es[i].path = a := by rw [he, upL_at hc]
          have hpl := ht.place i hi
          rw [hu] at hpl
          have hab : below p a = true := by
            rw [below_iff]
            rw [h] at he
            have hle : p.length ≤ a.length := by
              rcases Nat.lt_or_ge a.length p.length with h2 | h2
              · exfalso
                have h3 := congrArg (fun l => l.drop (a.length + 1)) he
                rw [List.drop_append_of_le_length (by omega)] at h3
                have h4 : (a ++ 47 :: c).drop (a.length + 1) = c := by rw [List.drop_append]; simp
                rw [h4] at h3
                apply hc
                rw [← h3]
                simp
              · exact h2
            have h5 := congrArg (fun l => l.take a.length) he
            simp only [List.take_left] at h5
            rcases Nat.lt_or_ge p.length a.length with h6 | h6
            · right
              refine ⟨r.take (a.length - p.length - 1), ?_⟩
              rw [← h5, List.take_append, List.take_of_length_le (by omega)]
              obtain ⟨k, hk⟩ : ∃ k, a.length - p.length = k + 1 := ⟨a.length - p.length - 1, by omega⟩
              rw [hk, List.take_succ_cons]; simp
            · left
              rw [← h5, List.take_append, List.take_of_length_le (by omega), show a.length - p.length = 0 by omega]; simp
          have hane : a ≠ [] := by
            rintro rfl
            rcases below_iff.1 hab with h6 | ⟨_, h6⟩
            · exact hp h6.symm
            · simp at h6
          have hda : dirAt es a = true := by
            unfold placeOk at hpl
            cases a with
            | nil => exact absurd rfl hane
            | cons => simpa using hpl
          have htha : there es a = true := by
            cases hth : there es a with
            | true => rfl
            | false =>
              unfold dirAt at hda
              unfold there at hth
              split at hda
              · rename_i y hy
                rw [hy] at hth
                simp only at hth
                rw [hth] at hda
                cases hda
              · cases hda
          obtain ⟨y, hy, hya⟩ := (there_mem ht.sorted a).1 htha
          refine ih y hy ?_ (by rw [hya]; exact hab)
          rw [hya]
          rw [he] at hl
          simp at hl; omega
  intro x hx
  cases hb : below p x.path with
  | false => rfl
  | true => exact (key _ x hx (Nat.le_refl _) hb).elim
theorem moved_apart {es : List En} {f t : List UInt8} (ht : treeOk es = true) (hm : moveB es f t = true) : Apart (es.map (moveE f t)) := by
  have hT := treeOk_is ht
  unfold moveB at hm
  simp only [Bool.and_eq_true, Bool.not_eq_true'] at hm
  obtain ⟨⟨⟨⟨hf, hno⟩, hpt⟩, hbt⟩, _⟩ := hm
  have htne : t ≠ [] := by rintro rfl; have := pathOk_len hpt; simp at this
  have hnb := none_below hT htne hno
  unfold Apart
  rw [List.pairwise_map]
  have hup := up_apart (sorted_up hT.sorted)
  unfold Apart at hup
  refine List.Pairwise.imp_of_mem ?_ hup
  intro a b ha hb hne
  unfold moveE
  have key : ∀ x y : En, y ∈ es → below f x.path = true → t ++ x.path.drop f.length ≠ y.path := by
    intro x y hy hx he
    have : below t y.path = true := by
      rw [← he, below_iff]
      rcases below_iff.1 hx with h | ⟨r, h⟩
      · left; rw [h]; simp
      · right; exact ⟨r, by rw [h]; simp⟩
    rw [hnb y hy] at this
    cases this
  have htake : ∀ x : En, below f x.path = true → x.path = f ++ x.path.drop f.length := by
    intro x hx
    rcases below_iff.1 hx with h | ⟨r, h⟩
    · rw [h]; simp
    · rw [h]; simp
  cases h1 : below f a.path <;> cases h2 : below f b.path
  · simpa using hne
  · simp only [Bool.false_eq_true, if_false, if_true]
    exact fun e => key b a ha h2 e.symm
  · simp only [Bool.false_eq_true, if_false, if_true]
    exact fun e => key a b hb h1 e
  · simp only [if_true]
    intro e
    have := List.append_cancel_left e
    apply hne
    rw [htake a h1, htake b h2, this]
end Go.Proofs.YtiknkjhdieepbaaDoor
