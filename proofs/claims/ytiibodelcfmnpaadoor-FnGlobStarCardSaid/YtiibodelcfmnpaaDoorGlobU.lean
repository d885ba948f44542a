/-
  The walk of the reference's l1Globbed.
-/
import Derived.Test.YtiibodelcfmnpaaDoorGlobT
namespace Go.Proofs.YtiibodelcfmnpaaDoor
open Go.RowKit
set_option linter.unusedVariables false
set_option linter.unusedSimpArgs false
attribute [local go_sem] mkB_size mkB_extract mkB_get mkB_toList

set_option maxRecDepth 1000000 in
set_option maxHeartbeats 4000000 in
theorem l1Globbed_any (g : List UInt8) (hl : g.length ≤ 1048576) (w : World) :
    Calls Tryd.prog 20 #[.string (mkB g)] w fun e w' => e = .returned (.bool (nameParts g).isSome) ∧ w = w' := by
  go_enter Tryd.func20, Tryd.ntmps20
  go_wp2
  go_loop [3] (fun i => ∃ k : Nat, k ≤ g.length ∧ i = .int .i64 k ∧ Hid ((parts g).isSome = (parts (g.drop k)).isSome)) (fun i => g.length - (intOf i).toNat)
  case atStart => exact ⟨0, Nat.zero_le _, rfl, Lib.hid rfl⟩
  case round =>
    obtain ⟨k, hk, rfl, hp⟩ := hrel
    by_cases hlt : k < g.length
    · have hkI : (k : Int) < (g.length : Int) := by omega
      have hdk := List.drop_eq_getElem_cons hlt
      have hgn : ¬ g = [] := by rintro rfl; simp at hlt
      have hnp : (nameParts g).isSome = (parts (g.drop k)).isSome := by
        rw [nameParts_some, hp.out]
        cases g with
        | nil => exact absurd rfl hgn
        | cons => rfl
      replace hgn := Lib.hid hgn
      have htk := Lib.hid (show (g.drop k).take (g.length - k) = g.drop k from List.take_of_length_le (by simp))
      have hdl : (g.drop k).length ≤ 1048576 := by simp; omega
      by_cases h91 : g[k] = 91
      · have h91b : ((g[k].toNat : Int) == 91) = true := u8_yes 91 (by omega) h91
        obtain ⟨hz, hnz⟩ := parts_cls (l := g.drop k) ⟨_, by rw [hdk, h91]⟩
        obtain ⟨n, hn⟩ : ∃ n, classLen (g.drop k) = n := ⟨_, rfl⟩
        rw [hn] at hz hnz
        clear hdk
        replace h91 := Lib.hid h91
        by_cases hn0 : n = 0
        · have hbad := Lib.hid (hnp.trans (show (parts (g.drop k)).isSome = false by rw [hz hn0]; rfl))
          clear hz hnz hnp
          subst hn0
          replace hn := Lib.hid hn
          go_wp2_with (go_at_call 32; rw [htk.out]; refine (l1Class_any _ hdl _).mono ?_; rintro e w' ⟨rfl, rfl⟩; rw [hn.out])
          all_goals go_ret
          all_goals exact ⟨ret_bool (by rw [hbad.out]), rfl⟩
        · obtain ⟨hn1, hn3, b, -, -, -, hpp⟩ := hnz hn0
          have hnext : (parts g).isSome = (parts (g.drop (k + n))).isSome := by
            rw [hp.out, hpp, isSome_map, List.drop_drop]
          replace hnext := Lib.hid hnext
          clear hz hnz hnp hpp
          simp only [List.length_drop] at hn1
          have hnI : ((n : Int) == 0) = false := by simp; omega
          replace hn0 := Lib.hid hn0
          replace hn := Lib.hid hn
          go_wp2_with (go_at_call 32; rw [htk.out]; refine (l1Class_any _ hdl _).mono ?_; rintro e w' ⟨rfl, rfl⟩; rw [hn.out])
          go_round
          case rel => exact ⟨k + n, by omega, by first | go_num | (congr 1; omega), hnext⟩
          case measure => simp [intOf]; omega
      · have h91b : ((g[k].toNat : Int) == 91) = false := u8_no 91 (by omega) h91
        have hone : ∀ p, head1 (g.drop k) = some (p, g.drop (k + 1)) → Hid ((parts g).isSome = (parts (g.drop (k + 1))).isSome) := fun p h => Lib.hid (by rw [hp.out, parts_step h, isSome_map])
        replace hone := Lib.hid hone
        by_cases h42 : g[k] = 42
        · have h42b : ((g[k].toNat : Int) == 42) = true := u8_yes 42 (by omega) h42
          have hnext := hone.out .star (by rw [hdk, h42]; exact head1_star _)
          clear hdk hnp
          replace h91 := Lib.hid h91
          replace h42 := Lib.hid h42
          go_wp2
          go_round
          case rel => exact ⟨k + 1, by omega, by go_num, hnext⟩
          case measure => simp [intOf]; omega
        · have h42b : ((g[k].toNat : Int) == 42) = false := u8_no 42 (by omega) h42
          by_cases h63 : g[k] = 63
          · have h63b : ((g[k].toNat : Int) == 63) = true := u8_yes 63 (by omega) h63
            have hnext := hone.out .any (by rw [hdk, h63]; exact head1_any _)
            clear hdk hnp
            replace h91 := Lib.hid h91
            replace h42 := Lib.hid h42
            replace h63 := Lib.hid h63
            go_wp2
            go_round
            case rel => exact ⟨k + 1, by omega, by go_num, hnext⟩
            case measure => simp [intOf]; omega
          · have h63b : ((g[k].toNat : Int) == 63) = false := u8_no 63 (by omega) h63
            rcases boolOf (nb g[k]) with hb | hb
            · have hbad := Lib.hid (hnp.trans (show (parts (g.drop k)).isSome = false by rw [hdk, parts_bad (head1_bad hb.out h42 h63 h91) (List.cons_ne_nil _ _)]; rfl))
              clear hdk hnp
              replace h91 := Lib.hid h91
              replace h42 := Lib.hid h42
              replace h63 := Lib.hid h63
              go_wp2_with (go_at_call 33; refine (l1Small_any _ _).mono ?_; rintro e w' ⟨rfl, rfl⟩; rw [hb.out])
              all_goals go_ret
              all_goals exact ⟨ret_bool (by rw [hbad.out]), rfl⟩
            · have hnext := hone.out (.lit g[k]) (by rw [hdk]; exact head1_lit hb.out)
              clear hdk hnp
              replace h91 := Lib.hid h91
              replace h42 := Lib.hid h42
              replace h63 := Lib.hid h63
              go_wp2_with (go_at_call 33; refine (l1Small_any _ _).mono ?_; rintro e w' ⟨rfl, rfl⟩; rw [hb.out])
              go_round
              case rel => exact ⟨k + 1, by omega, by go_num, hnext⟩
              case measure => simp [intOf]; omega
    · obtain rfl : k = g.length := by omega
      have hps : (parts g).isSome = true := by rw [hp.out, List.drop_length]; rfl
      have hnp : (nameParts g).isSome = !g.isEmpty := by rw [nameParts_some, hps, Bool.and_true]
      replace hps := Lib.hid hps
      replace hnp := Lib.hid hnp
      go_wp2
      go_ret
      refine ⟨ret_bool ?_, rfl⟩
      rw [hnp.out]
end Go.Proofs.YtiibodelcfmnpaaDoor
