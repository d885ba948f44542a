/-
  The walks of the reference's l1Of, l1Globbed, l1Fits.
-/
import Derived.Test.YtiibodelcfmnpaaDoorGlobS
namespace Go.Proofs.YtiibodelcfmnpaaDoor
open Go.RowKit
set_option linter.unusedVariables false
set_option linter.unusedSimpArgs false
attribute [local go_sem] mkB_size mkB_extract mkB_get mkB_toList

/-! ### a class has a byte -/
theorem members_is (b : List UInt8) : members b = if marked b then b.drop 1 else b := by
  unfold members marked
  split <;> simp
theorem of_hit {b : List UInt8} {c : UInt8} {j : Nat} (hj : j < b.length) (h : b[j] = c) (h1 : 1 ≤ j ∨ marked b = false) : ofCls b c = !marked b := by
  have hc : (members b).contains c = true := by
    rw [members_is, List.contains_iff_mem]
    split
    · rename_i hm
      rcases h1 with h1 | h1
      · rw [← h]
        refine List.mem_iff_getElem.2 ⟨j - 1, by simp; omega, ?_⟩
        rw [List.getElem_drop]
        congr 1; omega
      · rw [h1] at hm; cases hm
    · rw [← h]; exact List.getElem_mem hj
  unfold ofCls
  rw [hc]
  cases marked b <;> rfl
theorem of_none {b : List UInt8} {c : UInt8} (h : ∀ j (hj : j < b.length), b[j] = c → 1 ≤ j ∨ marked b = false → False) : ofCls b c = marked b := by
  have hc : (members b).contains c = false := by
    cases hb : (members b).contains c with
    | false => rfl
    | true =>
      exfalso
      rw [members_is, List.contains_iff_mem] at hb
      split at hb
      · rename_i hm
        obtain ⟨i, hi, he⟩ := List.getElem_of_mem hb
        rw [List.getElem_drop] at he
        exact h _ _ he (.inl (by omega))
      · rename_i hm
        obtain ⟨i, hi, he⟩ := List.getElem_of_mem hb
        exact h _ hi he (.inr (by simpa using hm))
  unfold ofCls
  rw [hc]
  cases marked b <;> rfl
theorem marked_head {b : List UInt8} (h : 0 < b.length) : marked b = (b[0] == 33) := by
  cases b with
  | nil => simp at h
  | cons x s => exact marked_drop (g := [0, x] ++ s) (by simp)
def NoHit (s : List UInt8) (c : UInt8) (m : Bool) (k : Nat) : Prop := ∀ j (hj : j + 1 < s.length), 1 ≤ j → j < k → s[j] = c → (1 < j ∨ m = false) → False
def HitIs (s : List UInt8) (c : UInt8) (m r : Bool) : Prop := ∀ j (hj : j + 1 < s.length), 1 ≤ j → s[j] = c → (1 < j ∨ m = false) → r = !m
def NoneIs (s : List UInt8) (c : UInt8) (m r : Bool) : Prop := NoHit s c m s.length → r = m
set_option maxRecDepth 1000000 in
set_option maxHeartbeats 4000000 in
theorem l1Of_any (b : List UInt8) (c : UInt8) (hb : 0 < b.length) (hl : b.length ≤ 1048576) (w : World) :
    Calls Tryd.prog 57 #[.string (mkB (91 :: (b ++ [93]))), .int .u8 (c.toNat : Int)] w fun e w' => e = .returned (.bool (ofCls b c)) ∧ w = w' := by
  obtain ⟨s, hs⟩ : ∃ s, 91 :: (b ++ [93]) = s := ⟨_, rfl⟩
  rw [hs]
  have hsl : s.length = b.length + 2 := by rw [← hs]; simp
  have hsg : ∀ j (hj : j < b.length) (hj2 : j + 1 < s.length), s[j + 1] = b[j] := fun j hj hj2 => by
    subst hs
    rw [List.getElem_cons_succ, List.getElem_append_left hj]
  have hsl2 := Lib.hid hsl
  have hs3 : 3 ≤ s.length := by omega
  have h1 : (((s[1]'(Nat.lt_of_lt_of_le (by decide) hs3)).toNat : Int) == 33) = marked b := by
    have h := hsg 0 hb (by omega)
    simp only [Nat.zero_add] at h
    rw [h, marked_head hb]
    exact u8_eq (n := 33) (by omega)
  have hsI : (3 : Int) ≤ (s.length : Int) := by omega
  have hsm : (s.length : Int) ≤ 1048578 := by omega
  replace hsg := Lib.hid hsg
  clear hs hsl
  rcases boolOf (marked b) with hm | hm
  · rw [hm.out] at h1
    have hres : HitIs s c false (ofCls b c) := fun j hj h1 h2 h3 => by
      obtain ⟨i, rfl⟩ : ∃ i, j = i + 1 := ⟨j - 1, by omega⟩
      rw [hsg.out i (by have := hsl2.out; omega) (by omega)] at h2
      rw [← hm.out]
      refine of_hit (by have := hsl2.out; omega) h2 ?_
      rcases h3 with h3 | h3
      · exact .inl (by omega)
      · exact .inr (hm.out.trans h3)
    have hend : NoneIs s c false (ofCls b c) := fun h => by
      have hm2 := hm.out
      rw [← hm2]
      refine of_none (fun j hj h1 h2 => ?_)
      have hjs : j + 1 < s.length := by have := hsl2.out; omega
      refine h (j + 1) (by have := hsl2.out; omega) (by omega) (by have := hsl2.out; omega) ((hsg.out j hj hjs).trans h1) ?_
      rcases h2 with h2 | h2
      · exact .inl (by omega)
      · exact .inr (hm2.symm.trans h2)
    replace hres := Lib.hid hres
    replace hend := Lib.hid hend
    have hmc := Lib.hid hm.out
    clear hm
    go_enter Tryd.func57, Tryd.ntmps57
    go_wp2
    go_loop [6] (fun i => ∃ k : Nat, 1 ≤ k ∧ k + 1 ≤ s.length ∧ i = .int .i64 k ∧ NoHit s c false k) (fun i => s.length - (intOf i).toNat)
    case atStart => exact ⟨1, Nat.le_refl _, by omega, rfl, (fun j hj h1 h2 => by omega)⟩
    case round =>
      obtain ⟨k, hk1, hk, rfl, hno⟩ := hrel
      by_cases hlt : k + 1 < s.length
      · have hkI : (k : Int) < (s.length : Int) - 1 := by omega
        have hks : (k : Int) < (s.length : Int) := by omega
        have hstep : (s[k] = c → (1 < k ∨ false = false) → False) → NoHit s c false (k + 1) := fun hk3 => (fun j hj h1 h2 h3 h4 => by
          rcases Nat.lt_or_ge j k with h5 | h5
          · exact hno j hj h1 h5 h3 h4
          · obtain rfl : j = k := by omega
            exact hk3 h3 h4)
        replace hstep := Lib.hid hstep
        by_cases hc : s[k] = c
        · have hcb := u8_is hc
          by_cases hk2 : 1 < k
          · have hr := Lib.hid (hres.out k hlt hk1 hc (.inl hk2))
            have hk2I : (1 : Int) < (k : Int) := by omega
            replace hc := Lib.hid hc
            go_wp2
            go_ret
            exact ⟨ret_bool (by rw [hr.out]; rfl), rfl⟩
          · have hk2I : ¬ (1 : Int) < (k : Int) := by omega
            have hr := Lib.hid (hres.out k hlt hk1 hc (.inr rfl))
            replace hc := Lib.hid hc
            go_wp2
            go_ret
            exact ⟨ret_bool (by rw [hr.out]; rfl), rfl⟩
        · have hcb := u8_ne hc
          have hn := hstep.out (fun h _ => hc h)
          replace hc := Lib.hid hc
          go_wp2
          go_round
          case rel => exact ⟨k + 1, by omega, by omega, by go_num, hn⟩
          case measure => simp [intOf]; omega
      · have hkI : ¬ (k : Int) < (s.length : Int) - 1 := by omega
        have hr := Lib.hid (hend.out (fun j hj h1 _ h2 h3 => hno j hj h1 (by omega) h2 h3))
        go_wp2
        go_ret
        exact ⟨ret_bool (by rw [hr.out]), rfl⟩
  · rw [hm.out] at h1
    have hres : HitIs s c true (ofCls b c) := fun j hj h1 h2 h3 => by
      obtain ⟨i, rfl⟩ : ∃ i, j = i + 1 := ⟨j - 1, by omega⟩
      rw [hsg.out i (by have := hsl2.out; omega) (by omega)] at h2
      rw [← hm.out]
      refine of_hit (by have := hsl2.out; omega) h2 ?_
      rcases h3 with h3 | h3
      · exact .inl (by omega)
      · exact .inr (hm.out.trans h3)
    have hend : NoneIs s c true (ofCls b c) := fun h => by
      have hm2 := hm.out
      rw [← hm2]
      refine of_none (fun j hj h1 h2 => ?_)
      have hjs : j + 1 < s.length := by have := hsl2.out; omega
      refine h (j + 1) (by have := hsl2.out; omega) (by omega) (by have := hsl2.out; omega) ((hsg.out j hj hjs).trans h1) ?_
      rcases h2 with h2 | h2
      · exact .inl (by omega)
      · exact .inr (hm2.symm.trans h2)
    replace hres := Lib.hid hres
    replace hend := Lib.hid hend
    have hmc := Lib.hid hm.out
    clear hm
    go_enter Tryd.func57, Tryd.ntmps57
    go_wp2
    go_loop [6] (fun i => ∃ k : Nat, 1 ≤ k ∧ k + 1 ≤ s.length ∧ i = .int .i64 k ∧ NoHit s c true k) (fun i => s.length - (intOf i).toNat)
    case atStart => exact ⟨1, Nat.le_refl _, by omega, rfl, (fun j hj h1 h2 => by omega)⟩
    case round =>
      obtain ⟨k, hk1, hk, rfl, hno⟩ := hrel
      by_cases hlt : k + 1 < s.length
      · have hkI : (k : Int) < (s.length : Int) - 1 := by omega
        have hks : (k : Int) < (s.length : Int) := by omega
        have hstep : (s[k] = c → (1 < k ∨ true = false) → False) → NoHit s c true (k + 1) := fun hk3 => (fun j hj h1 h2 h3 h4 => by
          rcases Nat.lt_or_ge j k with h5 | h5
          · exact hno j hj h1 h5 h3 h4
          · obtain rfl : j = k := by omega
            exact hk3 h3 h4)
        replace hstep := Lib.hid hstep
        by_cases hc : s[k] = c
        · have hcb := u8_is hc
          by_cases hk2 : 1 < k
          · have hr := Lib.hid (hres.out k hlt hk1 hc (.inl hk2))
            have hk2I : (1 : Int) < (k : Int) := by omega
            replace hc := Lib.hid hc
            go_wp2
            go_ret
            exact ⟨ret_bool (by rw [hr.out]; rfl), rfl⟩
          · have hk2I : ¬ (1 : Int) < (k : Int) := by omega
            have hn := hstep.out (fun _ h => by rcases h with h | h; exact hk2 h; cases h)
            replace hc := Lib.hid hc
            go_wp2
            go_round
            case rel => exact ⟨k + 1, by omega, by omega, by go_num, hn⟩
            case measure => simp [intOf]; omega
        · have hcb := u8_ne hc
          have hn := hstep.out (fun h _ => hc h)
          replace hc := Lib.hid hc
          go_wp2
          go_round
          case rel => exact ⟨k + 1, by omega, by omega, by go_num, hn⟩
          case measure => simp [intOf]; omega
      · have hkI : ¬ (k : Int) < (s.length : Int) - 1 := by omega
        have hr := Lib.hid (hend.out (fun j hj h1 _ h2 h3 => hno j hj h1 (by omega) h2 h3))
        go_wp2
        go_ret
        exact ⟨ret_bool (by rw [hr.out]), rfl⟩

/-! ### a name of a pattern -/
theorem parts_cls {l : List UInt8} (h91 : ∃ r, l = 91 :: r) :
    (classLen l = 0 → parts l = none) ∧ (classLen l ≠ 0 → classLen l ≤ l.length ∧ 3 ≤ classLen l ∧ ∃ b, l = 91 :: (b ++ 93 :: l.drop (classLen l)) ∧ 0 < b.length ∧ classLen l = b.length + 2 ∧ parts l = (parts (l.drop (classLen l))).map (.cls (marked b) (members b) :: ·)) := by
  obtain ⟨r, rfl⟩ := h91
  unfold classLen
  simp only [List.drop_succ_cons, List.drop_zero]
  cases hc : classOf r with
  | none => exact ⟨fun _ => parts_bad (head1_nocls hc) (by simp), fun h => by simp at h⟩
  | some x =>
    obtain ⟨b, t⟩ := x
    obtain ⟨rfl, h93, hn⟩ := classOf_shape hc
    have hb : 0 < b.length := by
      cases b with
      | nil => exact absurd hn (by decide)
      | cons => simp
    have hd : (91 :: (b ++ 93 :: t)).drop (b.length + 2) = t := by
      rw [List.drop_succ_cons, show b ++ 93 :: t = (b ++ [93]) ++ t by simp, show b.length + 1 = (b ++ [93]).length by simp, List.drop_left]
    refine ⟨fun h => by simp at h, fun _ => ⟨by simp, by show 3 ≤ b.length + 2; omega, b, ?_, hb, rfl, ?_⟩⟩
    · simp only; rw [hd]
    · simp only; rw [hd]
      exact parts_step (head1_cls hc)
theorem isSome_map {α β : Type} (o : Option α) (f : α → β) : (o.map f).isSome = o.isSome := by cases o <;> rfl
theorem nameParts_some (l : List UInt8) : (nameParts l).isSome = (!l.isEmpty && (parts l).isSome) := by
  unfold nameParts
  cases l <;> rfl
end Go.Proofs.YtiibodelcfmnpaaDoor
