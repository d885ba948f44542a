/-
  The walk of the reference's l1Fits.
-/
import Derived.Test.YtiibodelcfmnpaaDoorGlobU
namespace Go.Proofs.YtiibodelcfmnpaaDoor
open Go.RowKit
set_option linter.unusedVariables false
set_option linter.unusedSimpArgs false
attribute [local go_sem] mkB_size mkB_extract mkB_get mkB_toList

theorem quiet_eqG {P : Program} {f : FuncId} {args : Array Value} {w : World} {n : Nat} {v : Value} (h : Calls P f args (w.drewN n) fun e w' => e = .returned v ∧ w.drewN n = w') :
    Calls P f args (w.drewN n) fun e w'' => e = .returned v ∧ ∃ m, w'' = w.drewN m := Calls.quiet_of_same (h.mono fun _ _ ⟨he, hw⟩ => ⟨he, hw.symm⟩)
def Quiet (b : Bool) (w : World) (e : Ending) (w' : World) : Prop := e = .returned (.bool b) ∧ ∃ n, w' = w.drewN n
theorem Quiet.same (b : Bool) (w : World) : Quiet b w (.returned (.bool b)) w := ⟨rfl, 0, rfl⟩
theorem parts_map {o : Option (List Pt)} {p : Pt} {ps : List Pt} (h : o.map (p :: ·) = some ps) : ∃ qs, o = some qs ∧ ps = p :: qs := by
  cases o with
  | none => cases h
  | some qs => exact ⟨qs, rfl, by cases h; rfl⟩
set_option maxRecDepth 1000000 in
set_option maxHeartbeats 4000000 in
theorem l1Fits_any : ∀ (N : Nat) (g s : List UInt8) (ps : List Pt) (w : World), g.length + s.length ≤ N → g.length ≤ 1048576 → s.length ≤ 1048576 → parts g = some ps →
    Calls Tryd.prog 45 #[.string (mkB g), .string (mkB s)] w (Quiet (fits ps s) w) := by
  intro N
  induction N with
  | zero =>
    intro g s ps w hN hg hs hp
    obtain rfl : g = [] := List.eq_nil_of_length_eq_zero (by omega)
    obtain rfl : s = [] := List.eq_nil_of_length_eq_zero (by omega)
    cases hp
    go_enter Tryd.func45, Tryd.ntmps45
    go_wp2
    go_ret
    exact Quiet.same _ _
  | succ N ih =>
    intro g s ps w hN hg hs hp
    replace ih := Lib.hid ih
    cases g with
    | nil =>
      cases hp
      cases s with
      | nil =>
        go_enter Tryd.func45, Tryd.ntmps45
        go_wp2
        go_ret
        exact Quiet.same _ _
      | cons d t =>
        go_enter Tryd.func45, Tryd.ntmps45
        go_wp2
        go_ret
        exact Quiet.same _ _
    | cons c r =>
      simp only [List.length_cons] at hN hg
      by_cases h42 : c = 42
      · subst h42
        rw [parts_step (head1_star r)] at hp
        obtain ⟨qs, hq, rfl⟩ := parts_map hp
        have hp' := Lib.hid hp
        clear hp
        have hq' := Lib.hid hq
        clear hq
        cases s with
        | nil =>
          rw [fits_star_nil]
          have h1 := Lib.hid (fun w => ih.out r [] qs w (by simp at hN ⊢; omega) (by omega) (by simp) hq'.out)
          rcases boolOf (fits qs []) with hb | hb
          all_goals rw [hb.out] at h1 ⊢
          all_goals go_enter Tryd.func45, Tryd.ntmps45
          all_goals go_wp2_with fail
          all_goals refine (h1.out _).mono ?_
          all_goals rintro e w1 ⟨rfl, n1, hw1⟩
          all_goals have hwh := Lib.hid hw1
          all_goals clear hw1
          all_goals go_wp2
          all_goals go_ret
          all_goals exact ⟨rfl, n1, hwh.out⟩
        | cons d t =>
          rw [fits_star_cons]
          have h1 := Lib.hid (fun w => ih.out r (d :: t) qs w (by simp at hN ⊢; omega) (by omega) hs hq'.out)
          have h2 := Lib.hid (fun w => ih.out (42 :: r) t (.star :: qs) w (by simp at hN ⊢; omega) (by simp; omega) (by simp at hs; omega) (by rw [parts_step (head1_star r), hq'.out]; rfl))
          simp only [List.length_cons] at hs
          rcases boolOf (fits qs (d :: t)) with hb | hb
          all_goals rw [hb.out] at h1 ⊢
          · rcases boolOf (fits (.star :: qs) t) with hb2 | hb2
            all_goals rw [hb2.out] at h2 ⊢
            all_goals go_enter Tryd.func45, Tryd.ntmps45
            all_goals go_wp2_with fail
            all_goals refine (h1.out _).mono ?_
            all_goals rintro e w1 ⟨rfl, n1, hw1⟩
            all_goals have hwh := Lib.hid hw1
            all_goals clear hw1
            all_goals go_wp2_with fail
            all_goals refine (h2.out _).mono ?_
            all_goals rintro e w2 ⟨rfl, n2, hw2⟩
            all_goals have hwh2 := Lib.hid hw2
            all_goals clear hw2
            all_goals go_wp2
            all_goals go_ret
            all_goals exact ⟨rfl, n1 + n2, by rw [hwh2.out, hwh.out, World.drewN_drewN]⟩
          · go_enter Tryd.func45, Tryd.ntmps45
            go_wp2_with fail
            refine (h1.out _).mono ?_
            rintro e w1 ⟨rfl, n1, hw1⟩
            have hwh := Lib.hid hw1
            clear hw1
            go_wp2
            go_ret
            exact ⟨rfl, n1, hwh.out⟩
      · have h42b : ((c.toNat : Int) == 42) = false := u8_no 42 (by omega) h42
        obtain ⟨p, r', hh⟩ : ∃ p r', head1 (c :: r) = some (p, r') := by
          cases hh : head1 (c :: r) with
          | none => rw [parts_bad hh (List.cons_ne_nil _ _)] at hp; cases hp
          | some x => exact ⟨x.1, x.2, rfl⟩
        rw [parts_step hh] at hp
        obtain ⟨qs, hq, rfl⟩ := parts_map hp
        have hps : p.isStar = false := by
          simp only [head1, if_neg h42] at hh
          split at hh
          · cases hh; rfl
          · split at hh
            · split at hh
              · cases hh; rfl
              · cases hh
            · split at hh
              · cases hh; rfl
              · cases hh
        clear hp
        replace h42 := Lib.hid h42
        have hrl := head1_short hh
        simp only [List.length_cons] at hrl
        replace hq := Lib.hid hq
        cases s with
        | nil =>
          rw [fits_one_nil hps]
          replace hps := Lib.hid hps
          replace hh := Lib.hid hh
          go_enter Tryd.func45, Tryd.ntmps45
          go_wp2
          go_ret
          exact Quiet.same _ _
        | cons d t =>
          rw [fits_one_cons hps]
          simp only [List.length_cons] at hs hN
          have h1 := Lib.hid (fun w => ih.out r' t qs w (by omega) (by omega) (by omega) hq.out)
          replace hps := Lib.hid hps
          by_cases h63 : c = 63
          · subst h63
            rw [head1_any] at hh
            cases hh
            rw [show Pt.has .any d = true from rfl, Bool.true_and]
            go_enter Tryd.func45, Tryd.ntmps45
            go_wp2_with fail
            go_quiet ((go_at_call 45; exact Calls.quiet_of (h1.out _)))
            go_wp2
            go_ret
            exact ⟨rfl, _, rfl⟩
          have h63b : ((c.toNat : Int) == 63) = false := u8_no 63 (by omega) h63
          by_cases h91 : c = 91
          · subst h91
            obtain ⟨hz, hnz⟩ := parts_cls (l := 91 :: r) ⟨r, rfl⟩
            have hn0 : classLen (91 :: r) ≠ 0 := fun h => by
              have := hz h
              rw [parts_step hh, hq.out] at this
              cases this
            obtain ⟨hn1, hn3, b, hlb, hb0, hnb, hpp⟩ := hnz hn0
            clear hz hnz hn0
            obtain ⟨x, hx⟩ : ∃ x, (91 :: r).drop (classLen (91 :: r)) = x := ⟨_, rfl⟩
            rw [hx] at hlb hpp
            have hr : r = b ++ 93 :: x := by injection hlb
            have hcls : classOf r = some (b, x) := by
              cases hc : classOf r with
              | none => rw [head1_nocls hc] at hh; cases hh
              | some y =>
                obtain ⟨b2, x2⟩ := y
                have h2 : classLen (91 :: r) = b2.length + 2 := by unfold classLen; simp only [List.drop_succ_cons, List.drop_zero]; rw [hc]
                obtain ⟨h3, -, -⟩ := classOf_shape hc
                have h4 : b2.length = b.length := by omega
                rw [hr] at h3
                obtain ⟨h5, h6⟩ := List.append_inj h3 h4.symm
                injection h6 with _ h6
                rw [h5, h6]
            rw [head1_cls hcls] at hh
            cases hh
            rw [show Pt.has (.cls (marked b) (members b)) d = ofCls b d from rfl]
            obtain ⟨n, hn⟩ : ∃ n, classLen (91 :: r) = n := ⟨_, rfl⟩
            rw [hn] at hx hn1 hn3 hnb
            simp only [List.length_cons] at hn1
            have hlen : r.length = b.length + 1 + r'.length := by rw [hr]; simp; omega
            have htk : List.take n (91 :: r) = 91 :: (b ++ [93]) := by
              rw [hnb, hr, List.take_succ_cons, show b ++ 93 :: r' = (b ++ [93]) ++ r' by simp, show b.length + 1 = (b ++ [93]).length by simp, List.take_left]
            have hdk : List.take (r.length + 1 - n) (List.drop n (91 :: r)) = r' := by
              rw [hx]; exact List.take_of_length_le (by omega)
            have hnI : (n : Int) ≤ (r.length : Int) + 1 := by omega
            have hof := Lib.hid (fun w => l1Of_any b d hb0 (by omega) w)
            replace htk := Lib.hid htk
            replace hdk := Lib.hid hdk
            replace hcls := Lib.hid hcls
            replace hr := Lib.hid hr
            replace hn := Lib.hid hn
            have hcl := Lib.hid (fun w => l1Class_any (91 :: r) (by simp; omega) w)
            clear hx hlb hpp hnb hlen
            rcases boolOf (ofCls b d) with hb1 | hb1
            all_goals rw [hb1.out] at hof ⊢
            all_goals go_enter Tryd.func45, Tryd.ntmps45
            all_goals go_wp2_with fail
            all_goals refine (hcl.out _).mono ?_
            all_goals rintro e w1 ⟨rfl, rfl⟩
            all_goals rw [hn.out]
            all_goals go_wp2_with fail
            · go_quiet ((first | (go_at_call 57; rw [htk.out]; exact quiet_eqG (hof.out _)) | (go_at_call 45; rw [hdk.out]; exact Calls.quiet_of (h1.out _))))
              go_wp2
              go_ret
              exact ⟨rfl, _, rfl⟩
            · go_quiet ((first | (go_at_call 57; rw [htk.out]; exact quiet_eqG (hof.out _)) | (go_at_call 45; rw [hdk.out]; exact Calls.quiet_of (h1.out _))))
              go_wp2
              go_ret
              exact ⟨rfl, _, rfl⟩
          have h91b : ((c.toNat : Int) == 91) = false := u8_no 91 (by omega) h91
          have hlit : p = .lit c ∧ r' = r := by
            simp only [head1, if_neg h42.out, if_neg h63, if_neg h91] at hh
            split at hh
            · cases hh; exact ⟨rfl, rfl⟩
            · cases hh
          obtain ⟨rfl, rfl⟩ := hlit
          rw [show Pt.has (.lit c) d = (d == c) from rfl]
          replace h63 := Lib.hid h63
          replace h91 := Lib.hid h91
          replace hh := Lib.hid hh
          by_cases hcd : d = c
          · subst hcd
            have hcb := u8_is (a := d) (b := d) rfl
            simp only [beq_self_eq_true, Bool.true_and]
            go_enter Tryd.func45, Tryd.ntmps45
            go_wp2_with fail
            go_quiet ((go_at_call 45; exact Calls.quiet_of (h1.out _)))
            go_wp2
            go_ret
            exact ⟨rfl, _, rfl⟩
          · have hcb : ((c.toNat : Int) == (d.toNat : Int)) = false := u8_ne (fun e => hcd e.symm)
            rw [show (d == c) = false by simpa using hcd, Bool.false_and]
            replace hcd := Lib.hid hcd
            go_enter Tryd.func45, Tryd.ntmps45
            go_wp2_with fail
            go_quiet ((go_at_call 45; exact Calls.quiet_of (h1.out _)))
            go_wp2
            go_ret
            exact ⟨rfl, _, rfl⟩
end Go.Proofs.YtiibodelcfmnpaaDoor
