/-
  GlobS, GlobT, GlobU: merged.
-/
import Derived.Test.YtiknkjhdieepbaaDoorGB
import Derived.Test.YtiknkjhdieepbaaDoorGA
import Derived.Test.YtiknkjhdieepbaaDoorGlobQ
import Derived.Deep.QuietTactic
import Derived.BigQuiet
/-
  The walks of the reference's functions on patterns' names: l1Class, l1Of, l1Globbed.
-/
namespace Go.Proofs.YtiknkjhdieepbaaDoor
open Go.RowKit
set_option linter.unusedVariables false
set_option linter.unusedSimpArgs false
attribute [local go_sem] mkB_size mkB_extract mkB_get mkB_toList

/-! ### l1Class -/
theorem classLen_end {g : List UInt8} {k m : Nat} (hm : (if marked (g.drop 1) then 2 else 1) = m) (hk : m ≤ k) (hkl : k ≤ g.length) (hall : ∀ j (hj : j < g.length), m ≤ j → j < k → nb g[j] = true)
    (hend : ∀ hj : k < g.length, nb g[k] = false) : classLen g = if k = m ∨ k = g.length ∨ (∃ hj : k < g.length, g[k] ≠ 93) then 0 else k + 1 := by
  have hmm : (if marked (g.drop 1) then 1 else 0) = m - 1 := by
    rw [← hm]; split <;> rfl
  have hm1 : 1 ≤ m := by rw [← hm]; split <;> omega
  have h := class_end (r := g.drop 1) (k := k - 1) (by rw [hmm]; omega) (by simp; omega)
    (fun j hj h1 h2 => by
      simp only [List.length_drop] at hj
      rw [List.getElem_drop]
      rw [hmm] at h1
      exact hall (1 + j) (by omega) (by omega) (by omega))
    (fun hj => by
      simp only [List.length_drop] at hj
      have := hend (by omega)
      rw [List.getElem_drop]
      simpa [show 1 + (k - 1) = k by omega] using this)
  rw [hmm] at h
  have hmk : (k - 1 = m - 1) ↔ k = m := by omega
  unfold classLen
  by_cases hc : k = m ∨ k = g.length ∨ (∃ hj : k < g.length, g[k] ≠ 93)
  · rw [if_pos hc, h.1]
    rcases hc with hc | hc | ⟨hj, hc⟩
    · exact .inl (hmk.2 hc)
    · exact .inr (.inl (by simp; omega))
    · refine .inr (.inr ⟨by simp; omega, ?_⟩)
      rw [List.getElem_drop]
      simpa [show 1 + (k - 1) = k by omega] using hc
  · rw [if_neg hc]
    have h1 : k ≠ m := fun e => hc (.inl e)
    have h2 : k < g.length := by
      rcases Nat.lt_or_ge k g.length with h3 | h3
      · exact h3
      · exact absurd (.inr (.inl (by omega))) hc
    have h3 : g[k] = 93 := by
      cases hd : decide (g[k] = 93) with
      | true => simpa using hd
      | false => exact absurd (.inr (.inr ⟨h2, by simpa using hd⟩)) hc
    rw [h.2 (fun e => h1 (hmk.1 e)) (by simp; omega) (by rw [List.getElem_drop]; simpa [show 1 + (k - 1) = k by omega] using h3)]
    simp only
    simp
    omega
theorem marked_drop {g : List UInt8} (h : 1 < g.length) : marked (g.drop 1) = (g[1] == 33) := by
  rw [List.drop_eq_getElem_cons h]
  by_cases e : g[1] = 33
  · rw [e]; rfl
  · rw [show (g[1] == 33) = false by simpa using e]
    unfold marked
    split
    · rename_i h1
      injection h1 with h1 _
      exact absurd h1 e
    · rfl
theorem marked_short {g : List UInt8} (h : g.length ≤ 1) : marked (g.drop 1) = false := by
  rw [List.drop_of_length_le h]; rfl
theorem classLen_short {g : List UInt8} (h : g.length ≤ 1) : classLen g = 0 := by
  unfold classLen; rw [List.drop_of_length_le h]; rfl
theorem u8_eq {a : UInt8} {n : Nat} (hn : n < 256) : ((a.toNat : Int) == (n : Int)) = (a == UInt8.ofNat n) := by
  rw [Bool.eq_iff_iff, beq_iff_eq, beq_iff_eq]
  constructor
  · intro h
    apply UInt8.toNat_inj.1
    rw [UInt8.toNat_ofNat']
    omega
  · rintro rfl
    rw [UInt8.toNat_ofNat']
    omega
theorem u8_yes {a : UInt8} (n : Nat) (hn : n < 256) (h : a = UInt8.ofNat n) : ((a.toNat : Int) == (n : Int)) = true := by rw [u8_eq hn, h]; simp
theorem u8_no {a : UInt8} (n : Nat) (hn : n < 256) (h : ¬ a = UInt8.ofNat n) : ((a.toNat : Int) == (n : Int)) = false := by rw [u8_eq hn]; simpa using h
set_option maxRecDepth 1000000 in
set_option maxHeartbeats 4000000 in
theorem l1Class_any (g : List UInt8) (hl : g.length ≤ 1048576) (w : World) :
    Calls Tryd.prog 67 #[.string (mkB g)] w fun e w' => e = .returned (.int .i64 (classLen g)) ∧ w = w' := by
  obtain ⟨m, hm⟩ : ∃ m, (if marked (g.drop 1) then 2 else 1) = m := ⟨_, rfl⟩
  have key : (1 < g.length ∧ m = 2 ∧ ∀ h : 1 < g.length, ((g[1].toNat : Int) == 33) = true) ∨ (1 < g.length ∧ m = 1 ∧ ∀ h : 1 < g.length, ((g[1].toNat : Int) == 33) = false) ∨ (g.length ≤ 1 ∧ m = 1) := by
    by_cases h : 1 < g.length
    · rw [marked_drop h] at hm
      by_cases h2 : g[1] = 33
      · left
        rw [h2] at hm
        exact ⟨h, hm.symm, fun _ => u8_yes 33 (by omega) h2⟩
      · right; left
        rw [show (g[1] == 33) = false by simpa using h2] at hm
        exact ⟨h, hm.symm, fun _ => u8_no 33 (by omega) h2⟩
    · right; right
      rw [marked_short (by omega)] at hm
      exact ⟨by omega, hm.symm⟩
  rcases key with ⟨h1, rfl, h2⟩ | ⟨h1, rfl, h2⟩ | ⟨h1, rfl⟩
  all_goals try have h3 := h2 h1
  all_goals try clear h2
  all_goals have hm := Lib.hid hm
  all_goals go_enter Tryd.func67, Tryd.ntmps67
  all_goals go_wp2
  · go_loop [3] (fun i => ∃ k : Nat, 2 ≤ k ∧ k ≤ g.length ∧ i = .int .i64 k ∧ Hid (∀ j (hj : j < g.length), 2 ≤ j → j < k → nb g[j] = true)) (fun i => g.length - (intOf i).toNat)
    case atStart => exact ⟨2, Nat.le_refl _, by omega, rfl, Lib.hid (fun j hj h1 h2 => by omega)⟩
    case round =>
      obtain ⟨k, hmk, hk, rfl, hall⟩ := hrel
      by_cases hlt : k < g.length
      · have hkI : (k : Int) < (g.length : Int) := by omega
        rcases boolOf (nb g[k]) with hb | hb
        · by_cases h93 : g[k] = 93
          · have h93b : ((g[k].toNat : Int) != 93) = false := by rw [h93]; rfl
            have hres := classLen_end hm.out hmk (by omega) hall.out (fun _ => hb.out)
            by_cases hkm : k = 2
            · rw [if_pos (.inl hkm)] at hres
              replace hres := Lib.hid hres
              subst hkm
              replace h93 := Lib.hid h93
              go_wp2_with (go_at_call 68; refine (l1Small_any _ _).mono ?_; rintro e w' ⟨rfl, rfl⟩; rw [hb.out])
              go_ret
              exact ⟨ret_int (by rw [hres.out]; rfl), rfl⟩
            · rw [if_neg (by rintro (h | h | ⟨_, h⟩); exact hkm h; omega; exact h h93)] at hres
              replace hres := Lib.hid hres
              have hkmb : ((k : Int) == 2) = false := by simp; omega
              have hkl : ((k : Int) == (g.length : Int)) = false := by simp; omega
              replace h93 := Lib.hid h93
              replace hkm := Lib.hid hkm
              go_wp2_with (go_at_call 68; refine (l1Small_any _ _).mono ?_; rintro e w' ⟨rfl, rfl⟩; rw [hb.out])
              go_ret
              exact ⟨ret_int (by rw [hres.out]; omega), rfl⟩
          · have h93b : ((g[k].toNat : Int) != 93) = true := by have := u8_no 93 (by omega) h93; simp at this ⊢; exact this
            have hres := classLen_end hm.out hmk (by omega) hall.out (fun _ => hb.out)
            rw [if_pos (.inr (.inr ⟨hlt, h93⟩))] at hres
            replace hres := Lib.hid hres
            replace h93 := Lib.hid h93
            have hkl : ((k : Int) == (g.length : Int)) = false := by simp; omega
            go_wp2_with (go_at_call 68; refine (l1Small_any _ _).mono ?_; rintro e w' ⟨rfl, rfl⟩; rw [hb.out])
            all_goals go_ret
            all_goals exact ⟨ret_int (by rw [hres.out]; rfl), rfl⟩
        · go_wp2_with (go_at_call 68; refine (l1Small_any _ _).mono ?_; rintro e w' ⟨rfl, rfl⟩; rw [hb.out])
          go_round
          case rel => exact ⟨k + 1, by omega, by omega, by go_num, Lib.hid (fun j hj h1 h2 => by
            rcases Nat.lt_or_ge j k with h3 | h3
            · exact hall.out j hj h1 h3
            · obtain rfl : j = k := by omega
              exact hb.out)⟩
          case measure => simp [intOf]; omega
      · have hkI : ¬ (k : Int) < (g.length : Int) := by omega
        have hres : classLen g = 0 := by
          rw [classLen_end hm.out hmk (by omega) hall.out (fun hj => by omega), if_pos (.inr (.inl (by omega)))]
        replace hres := Lib.hid hres
        go_wp2
        all_goals go_ret
        all_goals exact ⟨ret_int (by rw [hres.out]; rfl), rfl⟩
  · go_loop [3] (fun i => ∃ k : Nat, 1 ≤ k ∧ k ≤ g.length ∧ i = .int .i64 k ∧ Hid (∀ j (hj : j < g.length), 1 ≤ j → j < k → nb g[j] = true)) (fun i => g.length - (intOf i).toNat)
    case atStart => exact ⟨1, Nat.le_refl _, by omega, rfl, Lib.hid (fun j hj h1 h2 => by omega)⟩
    case round =>
      obtain ⟨k, hmk, hk, rfl, hall⟩ := hrel
      by_cases hlt : k < g.length
      · have hkI : (k : Int) < (g.length : Int) := by omega
        rcases boolOf (nb g[k]) with hb | hb
        · by_cases h93 : g[k] = 93
          · have h93b : ((g[k].toNat : Int) != 93) = false := by rw [h93]; rfl
            have hres := classLen_end hm.out hmk (by omega) hall.out (fun _ => hb.out)
            by_cases hkm : k = 1
            · rw [if_pos (.inl hkm)] at hres
              replace hres := Lib.hid hres
              subst hkm
              replace h93 := Lib.hid h93
              go_wp2_with (go_at_call 68; refine (l1Small_any _ _).mono ?_; rintro e w' ⟨rfl, rfl⟩; rw [hb.out])
              go_ret
              exact ⟨ret_int (by rw [hres.out]; rfl), rfl⟩
            · rw [if_neg (by rintro (h | h | ⟨_, h⟩); exact hkm h; omega; exact h h93)] at hres
              replace hres := Lib.hid hres
              have hkmb : ((k : Int) == 1) = false := by simp; omega
              have hkl : ((k : Int) == (g.length : Int)) = false := by simp; omega
              replace h93 := Lib.hid h93
              replace hkm := Lib.hid hkm
              go_wp2_with (go_at_call 68; refine (l1Small_any _ _).mono ?_; rintro e w' ⟨rfl, rfl⟩; rw [hb.out])
              go_ret
              exact ⟨ret_int (by rw [hres.out]; omega), rfl⟩
          · have h93b : ((g[k].toNat : Int) != 93) = true := by have := u8_no 93 (by omega) h93; simp at this ⊢; exact this
            have hres := classLen_end hm.out hmk (by omega) hall.out (fun _ => hb.out)
            rw [if_pos (.inr (.inr ⟨hlt, h93⟩))] at hres
            replace hres := Lib.hid hres
            replace h93 := Lib.hid h93
            have hkl : ((k : Int) == (g.length : Int)) = false := by simp; omega
            go_wp2_with (go_at_call 68; refine (l1Small_any _ _).mono ?_; rintro e w' ⟨rfl, rfl⟩; rw [hb.out])
            all_goals go_ret
            all_goals exact ⟨ret_int (by rw [hres.out]; rfl), rfl⟩
        · go_wp2_with (go_at_call 68; refine (l1Small_any _ _).mono ?_; rintro e w' ⟨rfl, rfl⟩; rw [hb.out])
          go_round
          case rel => exact ⟨k + 1, by omega, by omega, by go_num, Lib.hid (fun j hj h1 h2 => by
            rcases Nat.lt_or_ge j k with h3 | h3
            · exact hall.out j hj h1 h3
            · obtain rfl : j = k := by omega
              exact hb.out)⟩
          case measure => simp [intOf]; omega
      · have hkI : ¬ (k : Int) < (g.length : Int) := by omega
        have hres : classLen g = 0 := by
          rw [classLen_end hm.out hmk (by omega) hall.out (fun hj => by omega), if_pos (.inr (.inl (by omega)))]
        replace hres := Lib.hid hres
        go_wp2
        all_goals go_ret
        all_goals exact ⟨ret_int (by rw [hres.out]; rfl), rfl⟩
  · go_loop [3] (fun i => i = .int .i64 1) (fun i => g.length - (intOf i).toNat)
    case atStart => exact rfl
    case round =>
      obtain rfl := hrel
      have hres := Lib.hid (classLen_short h1)
      go_wp2
      all_goals go_ret
      all_goals exact ⟨ret_int (by rw [hres.out]; rfl), rfl⟩
end Go.Proofs.YtiknkjhdieepbaaDoor

/-
  The walks of the reference's l1Of, l1Globbed, l1Fits.
-/
namespace Go.Proofs.YtiknkjhdieepbaaDoor
open Go.RowKit
set_option linter.unusedVariables false
set_option linter.unusedSimpArgs false
attribute [local go_sem] mkB_size mkB_extract mkB_get mkB_toList

/-! ### a class has a byte -/
theorem members_is (b : List UInt8) : members b = if marked b then b.drop 1 else b := by
  unfold members marked
  split <;> simp
theorem of_hit {b : List UInt8} {c : UInt8} {j : Nat} (hj : j < b.length) (h : b[j] = c) (h1 : 1 ≤ j ∨ marked b = false) : ofCls b c = !marked b := by
  have hc : (members b).contains c = true := by
    rw [members_is, List.contains_iff_mem]
    split
    · rename_i hm
      rcases h1 with h1 | h1
      · rw [← h]
        refine List.mem_iff_getElem.2 ⟨j - 1, by simp; omega, ?_⟩
        rw [List.getElem_drop]
        congr 1; omega
      · rw [h1] at hm; cases hm
    · rw [← h]; exact List.getElem_mem hj
  unfold ofCls
  rw [hc]
  cases marked b <;> rfl
theorem of_none {b : List UInt8} {c : UInt8} (h : ∀ j (hj : j < b.length), b[j] = c → 1 ≤ j ∨ marked b = false → False) : ofCls b c = marked b := by
  have hc : (members b).contains c = false := by
    cases hb : (members b).contains c with
    | false => rfl
    | true =>
      exfalso
      rw [members_is, List.contains_iff_mem] at hb
      split at hb
      · rename_i hm
        obtain ⟨i, hi, he⟩ := List.getElem_of_mem hb
        rw [List.getElem_drop] at he
        exact h _ _ he (.inl (by omega))
      · rename_i hm
        obtain ⟨i, hi, he⟩ := List.getElem_of_mem hb
        exact h _ hi he (.inr (by simpa using hm))
  unfold ofCls
  rw [hc]
  cases marked b <;> rfl
theorem marked_head {b : List UInt8} (h : 0 < b.length) : marked b = (b[0] == 33) := by
  cases b with
  | nil => simp at h
  | cons x s => exact marked_drop (g := [0, x] ++ s) (by simp)
def NoHit (s : List UInt8) (c : UInt8) (m : Bool) (k : Nat) : Prop := ∀ j (hj : j + 1 < s.length), 1 ≤ j → j < k → s[j] = c → (1 < j ∨ m = false) → False
def HitIs (s : List UInt8) (c : UInt8) (m r : Bool) : Prop := ∀ j (hj : j + 1 < s.length), 1 ≤ j → s[j] = c → (1 < j ∨ m = false) → r = !m
def NoneIs (s : List UInt8) (c : UInt8) (m r : Bool) : Prop := NoHit s c m s.length → r = m
set_option maxRecDepth 1000000 in
set_option maxHeartbeats 4000000 in
theorem l1Of_any (b : List UInt8) (c : UInt8) (hb : 0 < b.length) (hl : b.length ≤ 1048576) (w : World) :
    Calls Tryd.prog 69 #[.string (mkB (91 :: (b ++ [93]))), .int .u8 (c.toNat : Int)] w fun e w' => e = .returned (.bool (ofCls b c)) ∧ w = w' := by
  obtain ⟨s, hs⟩ : ∃ s, 91 :: (b ++ [93]) = s := ⟨_, rfl⟩
  rw [hs]
  have hsl : s.length = b.length + 2 := by rw [← hs]; simp
  have hsg : ∀ j (hj : j < b.length) (hj2 : j + 1 < s.length), s[j + 1] = b[j] := fun j hj hj2 => by
    subst hs
    rw [List.getElem_cons_succ, List.getElem_append_left hj]
  have hsl2 := Lib.hid hsl
  have hs3 : 3 ≤ s.length := by omega
  have h1 : (((s[1]'(Nat.lt_of_lt_of_le (by decide) hs3)).toNat : Int) == 33) = marked b := by
    have h := hsg 0 hb (by omega)
    simp only [Nat.zero_add] at h
    rw [h, marked_head hb]
    exact u8_eq (n := 33) (by omega)
  have hsI : (3 : Int) ≤ (s.length : Int) := by omega
  have hsm : (s.length : Int) ≤ 1048578 := by omega
  replace hsg := Lib.hid hsg
  clear hs hsl
  rcases boolOf (marked b) with hm | hm
  · rw [hm.out] at h1
    have hres : HitIs s c false (ofCls b c) := fun j hj h1 h2 h3 => by
      obtain ⟨i, rfl⟩ : ∃ i, j = i + 1 := ⟨j - 1, by omega⟩
      rw [hsg.out i (by have := hsl2.out; omega) (by omega)] at h2
      rw [← hm.out]
      refine of_hit (by have := hsl2.out; omega) h2 ?_
      rcases h3 with h3 | h3
      · exact .inl (by omega)
      · exact .inr (hm.out.trans h3)
    have hend : NoneIs s c false (ofCls b c) := fun h => by
      have hm2 := hm.out
      rw [← hm2]
      refine of_none (fun j hj h1 h2 => ?_)
      have hjs : j + 1 < s.length := by have := hsl2.out; omega
      refine h (j + 1) (by have := hsl2.out; omega) (by omega) (by have := hsl2.out; omega) ((hsg.out j hj hjs).trans h1) ?_
      rcases h2 with h2 | h2
      · exact .inl (by omega)
      · exact .inr (hm2.symm.trans h2)
    replace hres := Lib.hid hres
    replace hend := Lib.hid hend
    have hmc := Lib.hid hm.out
    clear hm
    go_enter Tryd.func69, Tryd.ntmps69
    go_wp2
    go_loop [6] (fun i => ∃ k : Nat, 1 ≤ k ∧ k + 1 ≤ s.length ∧ i = .int .i64 k ∧ NoHit s c false k) (fun i => s.length - (intOf i).toNat)
    case atStart => exact ⟨1, Nat.le_refl _, by omega, rfl, (fun j hj h1 h2 => by omega)⟩
    case round =>
      obtain ⟨k, hk1, hk, rfl, hno⟩ := hrel
      by_cases hlt : k + 1 < s.length
      · have hkI : (k : Int) < (s.length : Int) - 1 := by omega
        have hks : (k : Int) < (s.length : Int) := by omega
        have hstep : (s[k] = c → (1 < k ∨ false = false) → False) → NoHit s c false (k + 1) := fun hk3 => (fun j hj h1 h2 h3 h4 => by
          rcases Nat.lt_or_ge j k with h5 | h5
          · exact hno j hj h1 h5 h3 h4
          · obtain rfl : j = k := by omega
            exact hk3 h3 h4)
        replace hstep := Lib.hid hstep
        by_cases hc : s[k] = c
        · have hcb := u8_is hc
          by_cases hk2 : 1 < k
          · have hr := Lib.hid (hres.out k hlt hk1 hc (.inl hk2))
            have hk2I : (1 : Int) < (k : Int) := by omega
            replace hc := Lib.hid hc
            go_wp2
            go_ret
            exact ⟨ret_bool (by rw [hr.out]; rfl), rfl⟩
          · have hk2I : ¬ (1 : Int) < (k : Int) := by omega
            have hr := Lib.hid (hres.out k hlt hk1 hc (.inr rfl))
            replace hc := Lib.hid hc
            go_wp2
            go_ret
            exact ⟨ret_bool (by rw [hr.out]; rfl), rfl⟩
        · have hcb := u8_ne hc
          have hn := hstep.out (fun h _ => hc h)
          replace hc := Lib.hid hc
          go_wp2
          go_round
          case rel => exact ⟨k + 1, by omega, by omega, by go_num, hn⟩
          case measure => simp [intOf]; omega
      · have hkI : ¬ (k : Int) < (s.length : Int) - 1 := by omega
        have hr := Lib.hid (hend.out (fun j hj h1 _ h2 h3 => hno j hj h1 (by omega) h2 h3))
        go_wp2
        go_ret
        exact ⟨ret_bool (by rw [hr.out]), rfl⟩
  · rw [hm.out] at h1
    have hres : HitIs s c true (ofCls b c) := fun j hj h1 h2 h3 => by
      obtain ⟨i, rfl⟩ : ∃ i, j = i + 1 := ⟨j - 1, by omega⟩
      rw [hsg.out i (by have := hsl2.out; omega) (by omega)] at h2
      rw [← hm.out]
      refine of_hit (by have := hsl2.out; omega) h2 ?_
      rcases h3 with h3 | h3
      · exact .inl (by omega)
      · exact .inr (hm.out.trans h3)
    have hend : NoneIs s c true (ofCls b c) := fun h => by
      have hm2 := hm.out
      rw [← hm2]
      refine of_none (fun j hj h1 h2 => ?_)
      have hjs : j + 1 < s.length := by have := hsl2.out; omega
      refine h (j + 1) (by have := hsl2.out; omega) (by omega) (by have := hsl2.out; omega) ((hsg.out j hj hjs).trans h1) ?_
      rcases h2 with h2 | h2
      · exact .inl (by omega)
      · exact .inr (hm2.symm.trans h2)
    replace hres := Lib.hid hres
    replace hend := Lib.hid hend
    have hmc := Lib.hid hm.out
    clear hm
    go_enter Tryd.func69, Tryd.ntmps69
    go_wp2
    go_loop [6] (fun i => ∃ k : Nat, 1 ≤ k ∧ k + 1 ≤ s.length ∧ i = .int .i64 k ∧ NoHit s c true k) (fun i => s.length - (intOf i).toNat)
    case atStart => exact ⟨1, Nat.le_refl _, by omega, rfl, (fun j hj h1 h2 => by omega)⟩
    case round =>
      obtain ⟨k, hk1, hk, rfl, hno⟩ := hrel
      by_cases hlt : k + 1 < s.length
      · have hkI : (k : Int) < (s.length : Int) - 1 := by omega
        have hks : (k : Int) < (s.length : Int) := by omega
        have hstep : (s[k] = c → (1 < k ∨ true = false) → False) → NoHit s c true (k + 1) := fun hk3 => (fun j hj h1 h2 h3 h4 => by
          rcases Nat.lt_or_ge j k with h5 | h5
          · exact hno j hj h1 h5 h3 h4
          · obtain rfl : j = k := by omega
            exact hk3 h3 h4)
        replace hstep := Lib.hid hstep
        by_cases hc : s[k] = c
        · have hcb := u8_is hc
          by_cases hk2 : 1 < k
          · have hr := Lib.hid (hres.out k hlt hk1 hc (.inl hk2))
            have hk2I : (1 : Int) < (k : Int) := by omega
            replace hc := Lib.hid hc
            go_wp2
            go_ret
            exact ⟨ret_bool (by rw [hr.out]; rfl), rfl⟩
          · have hk2I : ¬ (1 : Int) < (k : Int) := by omega
            have hn := hstep.out (fun _ h => by rcases h with h | h; exact hk2 h; cases h)
            replace hc := Lib.hid hc
            go_wp2
            go_round
            case rel => exact ⟨k + 1, by omega, by omega, by go_num, hn⟩
            case measure => simp [intOf]; omega
        · have hcb := u8_ne hc
          have hn := hstep.out (fun h _ => hc h)
          replace hc := Lib.hid hc
          go_wp2
          go_round
          case rel => exact ⟨k + 1, by omega, by omega, by go_num, hn⟩
          case measure => simp [intOf]; omega
      · have hkI : ¬ (k : Int) < (s.length : Int) - 1 := by omega
        have hr := Lib.hid (hend.out (fun j hj h1 _ h2 h3 => hno j hj h1 (by omega) h2 h3))
        go_wp2
        go_ret
        exact ⟨ret_bool (by rw [hr.out]), rfl⟩

/-! ### a name of a pattern -/
theorem parts_cls {l : List UInt8} (h91 : ∃ r, l = 91 :: r) :
    (classLen l = 0 → parts l = none) ∧ (classLen l ≠ 0 → classLen l ≤ l.length ∧ 3 ≤ classLen l ∧ ∃ b, l = 91 :: (b ++ 93 :: l.drop (classLen l)) ∧ 0 < b.length ∧ classLen l = b.length + 2 ∧ parts l = (parts (l.drop (classLen l))).map (.cls (marked b) (members b) :: ·)) := by
  obtain ⟨r, rfl⟩ := h91
  unfold classLen
  simp only [List.drop_succ_cons, List.drop_zero]
  cases hc : classOf r with
  | none => exact ⟨fun _ => parts_bad (head1_nocls hc) (by simp), fun h => by simp at h⟩
  | some x =>
    obtain ⟨b, t⟩ := x
    obtain ⟨rfl, h93, hn⟩ := classOf_shape hc
    have hb : 0 < b.length := by
      cases b with
      | nil => exact absurd hn (by decide)
      | cons => simp
    have hd : (91 :: (b ++ 93 :: t)).drop (b.length + 2) = t := by
      rw [List.drop_succ_cons, show b ++ 93 :: t = (b ++ [93]) ++ t by simp, show b.length + 1 = (b ++ [93]).length by simp, List.drop_left]
    refine ⟨fun h => by simp at h, fun _ => ⟨by simp, by show 3 ≤ b.length + 2; omega, b, ?_, hb, rfl, ?_⟩⟩
    · simp only; rw [hd]
    · simp only; rw [hd]
      exact parts_step (head1_cls hc)
theorem isSome_map {α β : Type} (o : Option α) (f : α → β) : (o.map f).isSome = o.isSome := by cases o <;> rfl
theorem nameParts_some (l : List UInt8) : (nameParts l).isSome = (!l.isEmpty && (parts l).isSome) := by
  unfold nameParts
  cases l <;> rfl
end Go.Proofs.YtiknkjhdieepbaaDoor

/-
  The walk of the reference's l1Globbed.
-/
namespace Go.Proofs.YtiknkjhdieepbaaDoor
open Go.RowKit
set_option linter.unusedVariables false
set_option linter.unusedSimpArgs false
attribute [local go_sem] mkB_size mkB_extract mkB_get mkB_toList

set_option maxRecDepth 1000000 in
set_option maxHeartbeats 4000000 in
theorem l1Globbed_any (g : List UInt8) (hl : g.length ≤ 1048576) (w : World) :
    Calls Tryd.prog 59 #[.string (mkB g)] w fun e w' => e = .returned (.bool (nameParts g).isSome) ∧ w = w' := by
  go_enter Tryd.func59, Tryd.ntmps59
  go_wp2
  go_loop [3] (fun i => ∃ k : Nat, k ≤ g.length ∧ i = .int .i64 k ∧ Hid ((parts g).isSome = (parts (g.drop k)).isSome)) (fun i => g.length - (intOf i).toNat)
  case atStart => exact ⟨0, Nat.zero_le _, rfl, Lib.hid rfl⟩
  case round =>
    obtain ⟨k, hk, rfl, hp⟩ := hrel
    by_cases hlt : k < g.length
    · have hkI : (k : Int) < (g.length : Int) := by omega
      have hdk := List.drop_eq_getElem_cons hlt
      have hgn : ¬ g = [] := by rintro rfl; simp at hlt
      have hnp : (nameParts g).isSome = (parts (g.drop k)).isSome := by
        rw [nameParts_some, hp.out]
        cases g with
        | nil => exact absurd rfl hgn
        | cons => rfl
      replace hgn := Lib.hid hgn
      have htk := Lib.hid (show (g.drop k).take (g.length - k) = g.drop k from List.take_of_length_le (by simp))
      have hdl : (g.drop k).length ≤ 1048576 := by simp; omega
      by_cases h91 : g[k] = 91
      · have h91b : ((g[k].toNat : Int) == 91) = true := u8_yes 91 (by omega) h91
        obtain ⟨hz, hnz⟩ := parts_cls (l := g.drop k) ⟨_, by rw [hdk, h91]⟩
        obtain ⟨n, hn⟩ : ∃ n, classLen (g.drop k) = n := ⟨_, rfl⟩
        rw [hn] at hz hnz
        clear hdk
        replace h91 := Lib.hid h91
        by_cases hn0 : n = 0
        · have hbad := Lib.hid (hnp.trans (show (parts (g.drop k)).isSome = false by rw [hz hn0]; rfl))
          clear hz hnz hnp
          subst hn0
          replace hn := Lib.hid hn
          go_wp2_with (go_at_call 67; rw [htk.out]; refine (l1Class_any _ hdl _).mono ?_; rintro e w' ⟨rfl, rfl⟩; rw [hn.out])
          all_goals go_ret
          all_goals exact ⟨ret_bool (by rw [hbad.out]), rfl⟩
        · obtain ⟨hn1, hn3, b, -, -, -, hpp⟩ := hnz hn0
          have hnext : (parts g).isSome = (parts (g.drop (k + n))).isSome := by
            rw [hp.out, hpp, isSome_map, List.drop_drop]
          replace hnext := Lib.hid hnext
          clear hz hnz hnp hpp
          simp only [List.length_drop] at hn1
          have hnI : ((n : Int) == 0) = false := by simp; omega
          replace hn0 := Lib.hid hn0
          replace hn := Lib.hid hn
          go_wp2_with (go_at_call 67; rw [htk.out]; refine (l1Class_any _ hdl _).mono ?_; rintro e w' ⟨rfl, rfl⟩; rw [hn.out])
          go_round
          case rel => exact ⟨k + n, by omega, by first | go_num | (congr 1; omega), hnext⟩
          case measure => simp [intOf]; omega
      · have h91b : ((g[k].toNat : Int) == 91) = false := u8_no 91 (by omega) h91
        have hone : ∀ p, head1 (g.drop k) = some (p, g.drop (k + 1)) → Hid ((parts g).isSome = (parts (g.drop (k + 1))).isSome) := fun p h => Lib.hid (by rw [hp.out, parts_step h, isSome_map])
        replace hone := Lib.hid hone
        by_cases h42 : g[k] = 42
        · have h42b : ((g[k].toNat : Int) == 42) = true := u8_yes 42 (by omega) h42
          have hnext := hone.out .star (by rw [hdk, h42]; exact head1_star _)
          clear hdk hnp
          replace h91 := Lib.hid h91
          replace h42 := Lib.hid h42
          go_wp2
          go_round
          case rel => exact ⟨k + 1, by omega, by go_num, hnext⟩
          case measure => simp [intOf]; omega
        · have h42b : ((g[k].toNat : Int) == 42) = false := u8_no 42 (by omega) h42
          by_cases h63 : g[k] = 63
          · have h63b : ((g[k].toNat : Int) == 63) = true := u8_yes 63 (by omega) h63
            have hnext := hone.out .any (by rw [hdk, h63]; exact head1_any _)
            clear hdk hnp
            replace h91 := Lib.hid h91
            replace h42 := Lib.hid h42
            replace h63 := Lib.hid h63
            go_wp2
            go_round
            case rel => exact ⟨k + 1, by omega, by go_num, hnext⟩
            case measure => simp [intOf]; omega
          · have h63b : ((g[k].toNat : Int) == 63) = false := u8_no 63 (by omega) h63
            rcases boolOf (nb g[k]) with hb | hb
            · have hbad := Lib.hid (hnp.trans (show (parts (g.drop k)).isSome = false by rw [hdk, parts_bad (head1_bad hb.out h42 h63 h91) (List.cons_ne_nil _ _)]; rfl))
              clear hdk hnp
              replace h91 := Lib.hid h91
              replace h42 := Lib.hid h42
              replace h63 := Lib.hid h63
              go_wp2_with (go_at_call 68; refine (l1Small_any _ _).mono ?_; rintro e w' ⟨rfl, rfl⟩; rw [hb.out])
              all_goals go_ret
              all_goals exact ⟨ret_bool (by rw [hbad.out]), rfl⟩
            · have hnext := hone.out (.lit g[k]) (by rw [hdk]; exact head1_lit hb.out)
              clear hdk hnp
              replace h91 := Lib.hid h91
              replace h42 := Lib.hid h42
              replace h63 := Lib.hid h63
              go_wp2_with (go_at_call 68; refine (l1Small_any _ _).mono ?_; rintro e w' ⟨rfl, rfl⟩; rw [hb.out])
              go_round
              case rel => exact ⟨k + 1, by omega, by go_num, hnext⟩
              case measure => simp [intOf]; omega
    · obtain rfl : k = g.length := by omega
      have hps : (parts g).isSome = true := by rw [hp.out, List.drop_length]; rfl
      have hnp : (nameParts g).isSome = !g.isEmpty := by rw [nameParts_some, hps, Bool.and_true]
      replace hps := Lib.hid hps
      replace hnp := Lib.hid hnp
      go_wp2
      go_ret
      refine ⟨ret_bool ?_, rfl⟩
      rw [hnp.out]
end Go.Proofs.YtiknkjhdieepbaaDoor

