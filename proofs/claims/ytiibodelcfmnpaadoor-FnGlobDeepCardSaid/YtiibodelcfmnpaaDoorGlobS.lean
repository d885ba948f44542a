/-
  The walks of the reference's functions on patterns' names: l1Class, l1Of, l1Globbed.
-/
import Derived.Test.YtiibodelcfmnpaaDoorCut
import Derived.Test.YtiibodelcfmnpaaDoorLeaf
import Derived.Test.YtiibodelcfmnpaaDoorGlobQ
import Derived.Deep.QuietTactic
import Derived.BigQuiet
namespace Go.Proofs.YtiibodelcfmnpaaDoor
open Go.RowKit
set_option linter.unusedVariables false
set_option linter.unusedSimpArgs false
attribute [local go_sem] mkB_size mkB_extract mkB_get mkB_toList

/-! ### l1Class -/
theorem classLen_end {g : List UInt8} {k m : Nat} (hm : (if marked (g.drop 1) then 2 else 1) = m) (hk : m ≤ k) (hkl : k ≤ g.length) (hall : ∀ j (hj : j < g.length), m ≤ j → j < k → nb g[j] = true)
    (hend : ∀ hj : k < g.length, nb g[k] = false) : classLen g = if k = m ∨ k = g.length ∨ (∃ hj : k < g.length, g[k] ≠ 93) then 0 else k + 1 := by
  have hmm : (if marked (g.drop 1) then 1 else 0) = m - 1 := by
    rw [← hm]; split <;> rfl
  have hm1 : 1 ≤ m := by rw [← hm]; split <;> omega
  have h := class_end (r := g.drop 1) (k := k - 1) (by rw [hmm]; omega) (by simp; omega)
    (fun j hj h1 h2 => by
      simp only [List.length_drop] at hj
      rw [List.getElem_drop]
      rw [hmm] at h1
      exact hall (1 + j) (by omega) (by omega) (by omega))
    (fun hj => by
      simp only [List.length_drop] at hj
      have := hend (by omega)
      rw [List.getElem_drop]
      simpa [show 1 + (k - 1) = k by omega] using this)
  rw [hmm] at h
  have hmk : (k - 1 = m - 1) ↔ k = m := by omega
  unfold classLen
  by_cases hc : k = m ∨ k = g.length ∨ (∃ hj : k < g.length, g[k] ≠ 93)
  · rw [if_pos hc, h.1]
    rcases hc with hc | hc | ⟨hj, hc⟩
    · exact .inl (hmk.2 hc)
    · exact .inr (.inl (by simp; omega))
    · refine .inr (.inr ⟨by simp; omega, ?_⟩)
      rw [List.getElem_drop]
      simpa [show 1 + (k - 1) = k by omega] using hc
  · rw [if_neg hc]
    have h1 : k ≠ m := fun e => hc (.inl e)
    have h2 : k < g.length := by
      rcases Nat.lt_or_ge k g.length with h3 | h3
      · exact h3
      · exact absurd (.inr (.inl (by omega))) hc
    have h3 : g[k] = 93 := by
      cases hd : decide (g[k] = 93) with
      | true => simpa using hd
      | false => exact absurd (.inr (.inr ⟨h2, by simpa using hd⟩)) hc
    rw [h.2 (fun e => h1 (hmk.1 e)) (by simp; omega) (by rw [List.getElem_drop]; simpa [show 1 + (k - 1) = k by omega] using h3)]
    simp only
    simp
    omega
theorem marked_drop {g : List UInt8} (h : 1 < g.length) : marked (g.drop 1) = (g[1] == 33) := by
  rw [List.drop_eq_getElem_cons h]
  by_cases e : g[1] = 33
  · rw [e]; rfl
  · rw [show (g[1] == 33) = false by simpa using e]
    unfold marked
    split
    · rename_i h1
      injection h1 with h1 _
      exact absurd h1 e
    · rfl
theorem marked_short {g : List UInt8} (h : g.length ≤ 1) : marked (g.drop 1) = false := by
  rw [List.drop_of_length_le h]; rfl
theorem classLen_short {g : List UInt8} (h : g.length ≤ 1) : classLen g = 0 := by
  unfold classLen; rw [List.drop_of_length_le h]; rfl
theorem u8_eq {a : UInt8} {n : Nat} (hn : n < 256) : ((a.toNat : Int) == (n : Int)) = (a == UInt8.ofNat n) := by
  rw [Bool.eq_iff_iff, beq_iff_eq, beq_iff_eq]
  constructor
  · intro h
    apply UInt8.toNat_inj.1
    rw [UInt8.toNat_ofNat']
    omega
  · rintro rfl
    rw [UInt8.toNat_ofNat']
    omega
theorem u8_yes {a : UInt8} (n : Nat) (hn : n < 256) (h : a = UInt8.ofNat n) : ((a.toNat : Int) == (n : Int)) = true := by rw [u8_eq hn, h]; simp
theorem u8_no {a : UInt8} (n : Nat) (hn : n < 256) (h : ¬ a = UInt8.ofNat n) : ((a.toNat : Int) == (n : Int)) = false := by rw [u8_eq hn]; simpa using h
set_option maxRecDepth 1000000 in
set_option maxHeartbeats 4000000 in
theorem l1Class_any (g : List UInt8) (hl : g.length ≤ 1048576) (w : World) :
    Calls Tryd.prog 32 #[.string (mkB g)] w fun e w' => e = .returned (.int .i64 (classLen g)) ∧ w = w' := by
  obtain ⟨m, hm⟩ : ∃ m, (if marked (g.drop 1) then 2 else 1) = m := ⟨_, rfl⟩
  have key : (1 < g.length ∧ m = 2 ∧ ∀ h : 1 < g.length, ((g[1].toNat : Int) == 33) = true) ∨ (1 < g.length ∧ m = 1 ∧ ∀ h : 1 < g.length, ((g[1].toNat : Int) == 33) = false) ∨ (g.length ≤ 1 ∧ m = 1) := by
    by_cases h : 1 < g.length
    · rw [marked_drop h] at hm
      by_cases h2 : g[1] = 33
      · left
        rw [h2] at hm
        exact ⟨h, hm.symm, fun _ => u8_yes 33 (by omega) h2⟩
      · right; left
        rw [show (g[1] == 33) = false by simpa using h2] at hm
        exact ⟨h, hm.symm, fun _ => u8_no 33 (by omega) h2⟩
    · right; right
      rw [marked_short (by omega)] at hm
      exact ⟨by omega, hm.symm⟩
  rcases key with ⟨h1, rfl, h2⟩ | ⟨h1, rfl, h2⟩ | ⟨h1, rfl⟩
  all_goals try have h3 := h2 h1
  all_goals try clear h2
  all_goals have hm := Lib.hid hm
  all_goals go_enter Tryd.func32, Tryd.ntmps32
  all_goals go_wp2
  · go_loop [3] (fun i => ∃ k : Nat, 2 ≤ k ∧ k ≤ g.length ∧ i = .int .i64 k ∧ Hid (∀ j (hj : j < g.length), 2 ≤ j → j < k → nb g[j] = true)) (fun i => g.length - (intOf i).toNat)
    case atStart => exact ⟨2, Nat.le_refl _, by omega, rfl, Lib.hid (fun j hj h1 h2 => by omega)⟩
    case round =>
      obtain ⟨k, hmk, hk, rfl, hall⟩ := hrel
      by_cases hlt : k < g.length
      · have hkI : (k : Int) < (g.length : Int) := by omega
        rcases boolOf (nb g[k]) with hb | hb
        · by_cases h93 : g[k] = 93
          · have h93b : ((g[k].toNat : Int) != 93) = false := by rw [h93]; rfl
            have hres := classLen_end hm.out hmk (by omega) hall.out (fun _ => hb.out)
            by_cases hkm : k = 2
            · rw [if_pos (.inl hkm)] at hres
              replace hres := Lib.hid hres
              subst hkm
              replace h93 := Lib.hid h93
              go_wp2_with (go_at_call 33; refine (l1Small_any _ _).mono ?_; rintro e w' ⟨rfl, rfl⟩; rw [hb.out])
              go_ret
              exact ⟨ret_int (by rw [hres.out]; rfl), rfl⟩
            · rw [if_neg (by rintro (h | h | ⟨_, h⟩); exact hkm h; omega; exact h h93)] at hres
              replace hres := Lib.hid hres
              have hkmb : ((k : Int) == 2) = false := by simp; omega
              have hkl : ((k : Int) == (g.length : Int)) = false := by simp; omega
              replace h93 := Lib.hid h93
              replace hkm := Lib.hid hkm
              go_wp2_with (go_at_call 33; refine (l1Small_any _ _).mono ?_; rintro e w' ⟨rfl, rfl⟩; rw [hb.out])
              go_ret
              exact ⟨ret_int (by rw [hres.out]; omega), rfl⟩
          · have h93b : ((g[k].toNat : Int) != 93) = true := by have := u8_no 93 (by omega) h93; simp at this ⊢; exact this
            have hres := classLen_end hm.out hmk (by omega) hall.out (fun _ => hb.out)
            rw [if_pos (.inr (.inr ⟨hlt, h93⟩))] at hres
            replace hres := Lib.hid hres
            replace h93 := Lib.hid h93
            have hkl : ((k : Int) == (g.length : Int)) = false := by simp; omega
            go_wp2_with (go_at_call 33; refine (l1Small_any _ _).mono ?_; rintro e w' ⟨rfl, rfl⟩; rw [hb.out])
            all_goals go_ret
            all_goals exact ⟨ret_int (by rw [hres.out]; rfl), rfl⟩
        · go_wp2_with (go_at_call 33; refine (l1Small_any _ _).mono ?_; rintro e w' ⟨rfl, rfl⟩; rw [hb.out])
          go_round
          case rel => exact ⟨k + 1, by omega, by omega, by go_num, Lib.hid (fun j hj h1 h2 => by
            rcases Nat.lt_or_ge j k with h3 | h3
            · exact hall.out j hj h1 h3
            · obtain rfl : j = k := by omega
              exact hb.out)⟩
          case measure => simp [intOf]; omega
      · have hkI : ¬ (k : Int) < (g.length : Int) := by omega
        have hres : classLen g = 0 := by
          rw [classLen_end hm.out hmk (by omega) hall.out (fun hj => by omega), if_pos (.inr (.inl (by omega)))]
        replace hres := Lib.hid hres
        go_wp2
        all_goals go_ret
        all_goals exact ⟨ret_int (by rw [hres.out]; rfl), rfl⟩
  · go_loop [3] (fun i => ∃ k : Nat, 1 ≤ k ∧ k ≤ g.length ∧ i = .int .i64 k ∧ Hid (∀ j (hj : j < g.length), 1 ≤ j → j < k → nb g[j] = true)) (fun i => g.length - (intOf i).toNat)
    case atStart => exact ⟨1, Nat.le_refl _, by omega, rfl, Lib.hid (fun j hj h1 h2 => by omega)⟩
    case round =>
      obtain ⟨k, hmk, hk, rfl, hall⟩ := hrel
      by_cases hlt : k < g.length
      · have hkI : (k : Int) < (g.length : Int) := by omega
        rcases boolOf (nb g[k]) with hb | hb
        · by_cases h93 : g[k] = 93
          · have h93b : ((g[k].toNat : Int) != 93) = false := by rw [h93]; rfl
            have hres := classLen_end hm.out hmk (by omega) hall.out (fun _ => hb.out)
            by_cases hkm : k = 1
            · rw [if_pos (.inl hkm)] at hres
              replace hres := Lib.hid hres
              subst hkm
              replace h93 := Lib.hid h93
              go_wp2_with (go_at_call 33; refine (l1Small_any _ _).mono ?_; rintro e w' ⟨rfl, rfl⟩; rw [hb.out])
              go_ret
              exact ⟨ret_int (by rw [hres.out]; rfl), rfl⟩
            · rw [if_neg (by rintro (h | h | ⟨_, h⟩); exact hkm h; omega; exact h h93)] at hres
              replace hres := Lib.hid hres
              have hkmb : ((k : Int) == 1) = false := by simp; omega
              have hkl : ((k : Int) == (g.length : Int)) = false := by simp; omega
              replace h93 := Lib.hid h93
              replace hkm := Lib.hid hkm
              go_wp2_with (go_at_call 33; refine (l1Small_any _ _).mono ?_; rintro e w' ⟨rfl, rfl⟩; rw [hb.out])
              go_ret
              exact ⟨ret_int (by rw [hres.out]; omega), rfl⟩
          · have h93b : ((g[k].toNat : Int) != 93) = true := by have := u8_no 93 (by omega) h93; simp at this ⊢; exact this
            have hres := classLen_end hm.out hmk (by omega) hall.out (fun _ => hb.out)
            rw [if_pos (.inr (.inr ⟨hlt, h93⟩))] at hres
            replace hres := Lib.hid hres
            replace h93 := Lib.hid h93
            have hkl : ((k : Int) == (g.length : Int)) = false := by simp; omega
            go_wp2_with (go_at_call 33; refine (l1Small_any _ _).mono ?_; rintro e w' ⟨rfl, rfl⟩; rw [hb.out])
            all_goals go_ret
            all_goals exact ⟨ret_int (by rw [hres.out]; rfl), rfl⟩
        · go_wp2_with (go_at_call 33; refine (l1Small_any _ _).mono ?_; rintro e w' ⟨rfl, rfl⟩; rw [hb.out])
          go_round
          case rel => exact ⟨k + 1, by omega, by omega, by go_num, Lib.hid (fun j hj h1 h2 => by
            rcases Nat.lt_or_ge j k with h3 | h3
            · exact hall.out j hj h1 h3
            · obtain rfl : j = k := by omega
              exact hb.out)⟩
          case measure => simp [intOf]; omega
      · have hkI : ¬ (k : Int) < (g.length : Int) := by omega
        have hres : classLen g = 0 := by
          rw [classLen_end hm.out hmk (by omega) hall.out (fun hj => by omega), if_pos (.inr (.inl (by omega)))]
        replace hres := Lib.hid hres
        go_wp2
        all_goals go_ret
        all_goals exact ⟨ret_int (by rw [hres.out]; rfl), rfl⟩
  · go_loop [3] (fun i => i = .int .i64 1) (fun i => g.length - (intOf i).toNat)
    case atStart => exact rfl
    case round =>
      obtain rfl := hrel
      have hres := Lib.hid (classLen_short h1)
      go_wp2
      all_goals go_ret
      all_goals exact ⟨ret_int (by rw [hres.out]; rfl), rfl⟩
end Go.Proofs.YtiibodelcfmnpaaDoor
