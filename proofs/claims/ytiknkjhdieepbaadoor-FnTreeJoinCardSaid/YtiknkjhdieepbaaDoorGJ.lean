/-
  GlobV, GlobW, GlobX: merged.
-/
import Derived.Test.YtiknkjhdieepbaaDoorGI
import Derived.Test.YtiknkjhdieepbaaDoorGB
/-
  The walk of the reference's l1Fits.
-/
namespace Go.Proofs.YtiknkjhdieepbaaDoor
open Go.RowKit
set_option linter.unusedVariables false
set_option linter.unusedSimpArgs false
attribute [local go_sem] mkB_size mkB_extract mkB_get mkB_toList

theorem quiet_eqG {P : Program} {f : FuncId} {args : Array Value} {w : World} {n : Nat} {v : Value} (h : Calls P f args (w.drewN n) fun e w' => e = .returned v ∧ w.drewN n = w') :
    Calls P f args (w.drewN n) fun e w'' => e = .returned v ∧ ∃ m, w'' = w.drewN m := Calls.quiet_of_same (h.mono fun _ _ ⟨he, hw⟩ => ⟨he, hw.symm⟩)
def Quiet (b : Bool) (w : World) (e : Ending) (w' : World) : Prop := e = .returned (.bool b) ∧ ∃ n, w' = w.drewN n
theorem Quiet.same (b : Bool) (w : World) : Quiet b w (.returned (.bool b)) w := ⟨rfl, 0, rfl⟩
theorem parts_map {o : Option (List Pt)} {p : Pt} {ps : List Pt} (h : o.map (p :: ·) = some ps) : ∃ qs, o = some qs ∧ ps = p :: qs := by
  cases o with
  | none => cases h
  | some qs => exact ⟨qs, rfl, by cases h; rfl⟩
set_option maxRecDepth 1000000 in
set_option maxHeartbeats 4000000 in
theorem l1Fits_any : ∀ (N : Nat) (g s : List UInt8) (ps : List Pt) (w : World), g.length + s.length ≤ N → g.length ≤ 1048576 → s.length ≤ 1048576 → parts g = some ps →
    Calls Tryd.prog 61 #[.string (mkB g), .string (mkB s)] w (Quiet (fits ps s) w) := by
  intro N
  induction N with
  | zero =>
    intro g s ps w hN hg hs hp
    obtain rfl : g = [] := List.eq_nil_of_length_eq_zero (by omega)
    obtain rfl : s = [] := List.eq_nil_of_length_eq_zero (by omega)
    cases hp
    go_enter Tryd.func61, Tryd.ntmps61
    go_wp2
    go_ret
    exact Quiet.same _ _
  | succ N ih =>
    intro g s ps w hN hg hs hp
    replace ih := Lib.hid ih
    cases g with
    | nil =>
      cases hp
      cases s with
      | nil =>
        go_enter Tryd.func61, Tryd.ntmps61
        go_wp2
        go_ret
        exact Quiet.same _ _
      | cons d t =>
        go_enter Tryd.func61, Tryd.ntmps61
        go_wp2
        go_ret
        exact Quiet.same _ _
    | cons c r =>
      simp only [List.length_cons] at hN hg
      by_cases h42 : c = 42
      · subst h42
        rw [parts_step (head1_star r)] at hp
        obtain ⟨qs, hq, rfl⟩ := parts_map hp
        have hp' := Lib.hid hp
        clear hp
        have hq' := Lib.hid hq
        clear hq
        cases s with
        | nil =>
          rw [fits_star_nil]
          have h1 := Lib.hid (fun w => ih.out r [] qs w (by simp at hN ⊢; omega) (by omega) (by simp) hq'.out)
          rcases boolOf (fits qs []) with hb | hb
          all_goals rw [hb.out] at h1 ⊢
          all_goals go_enter Tryd.func61, Tryd.ntmps61
          all_goals go_wp2_with fail
          all_goals refine (h1.out _).mono ?_
          all_goals rintro e w1 ⟨rfl, n1, hw1⟩
          all_goals have hwh := Lib.hid hw1
          all_goals clear hw1
          all_goals go_wp2
          all_goals go_ret
          all_goals exact ⟨rfl, n1, hwh.out⟩
        | cons d t =>
          rw [fits_star_cons]
          have h1 := Lib.hid (fun w => ih.out r (d :: t) qs w (by simp at hN ⊢; omega) (by omega) hs hq'.out)
          have h2 := Lib.hid (fun w => ih.out (42 :: r) t (.star :: qs) w (by simp at hN ⊢; omega) (by simp; omega) (by simp at hs; omega) (by rw [parts_step (head1_star r), hq'.out]; rfl))
          simp only [List.length_cons] at hs
          rcases boolOf (fits qs (d :: t)) with hb | hb
          all_goals rw [hb.out] at h1 ⊢
          · rcases boolOf (fits (.star :: qs) t) with hb2 | hb2
            all_goals rw [hb2.out] at h2 ⊢
            all_goals go_enter Tryd.func61, Tryd.ntmps61
            all_goals go_wp2_with fail
            all_goals refine (h1.out _).mono ?_
            all_goals rintro e w1 ⟨rfl, n1, hw1⟩
            all_goals have hwh := Lib.hid hw1
            all_goals clear hw1
            all_goals go_wp2_with fail
            all_goals refine (h2.out _).mono ?_
            all_goals rintro e w2 ⟨rfl, n2, hw2⟩
            all_goals have hwh2 := Lib.hid hw2
            all_goals clear hw2
            all_goals go_wp2
            all_goals go_ret
            all_goals exact ⟨rfl, n1 + n2, by rw [hwh2.out, hwh.out, World.drewN_drewN]⟩
          · go_enter Tryd.func61, Tryd.ntmps61
            go_wp2_with fail
            refine (h1.out _).mono ?_
            rintro e w1 ⟨rfl, n1, hw1⟩
            have hwh := Lib.hid hw1
            clear hw1
            go_wp2
            go_ret
            exact ⟨rfl, n1, hwh.out⟩
      · have h42b : ((c.toNat : Int) == 42) = false := u8_no 42 (by omega) h42
        obtain ⟨p, r', hh⟩ : ∃ p r', head1 (c :: r) = some (p, r') := by
          cases hh : head1 (c :: r) with
          | none => rw [parts_bad hh (List.cons_ne_nil _ _)] at hp; cases hp
          | some x => exact ⟨x.1, x.2, rfl⟩
        rw [parts_step hh] at hp
        obtain ⟨qs, hq, rfl⟩ := parts_map hp
        have hps : p.isStar = false := by
          simp only [head1, if_neg h42] at hh
          split at hh
          · cases hh; rfl
          · split at hh
            · split at hh
              · cases hh; rfl
              · cases hh
            · split at hh
              · cases hh; rfl
              · cases hh
        clear hp
        replace h42 := Lib.hid h42
        have hrl := head1_short hh
        simp only [List.length_cons] at hrl
        replace hq := Lib.hid hq
        cases s with
        | nil =>
          rw [fits_one_nil hps]
          replace hps := Lib.hid hps
          replace hh := Lib.hid hh
          go_enter Tryd.func61, Tryd.ntmps61
          go_wp2
          go_ret
          exact Quiet.same _ _
        | cons d t =>
          rw [fits_one_cons hps]
          simp only [List.length_cons] at hs hN
          have h1 := Lib.hid (fun w => ih.out r' t qs w (by omega) (by omega) (by omega) hq.out)
          replace hps := Lib.hid hps
          by_cases h63 : c = 63
          · subst h63
            rw [head1_any] at hh
            cases hh
            rw [show Pt.has .any d = true from rfl, Bool.true_and]
            go_enter Tryd.func61, Tryd.ntmps61
            go_wp2_with fail
            go_quiet ((go_at_call 61; exact Calls.quiet_of (h1.out _)))
            go_wp2
            go_ret
            exact ⟨rfl, _, rfl⟩
          have h63b : ((c.toNat : Int) == 63) = false := u8_no 63 (by omega) h63
          by_cases h91 : c = 91
          · subst h91
            obtain ⟨hz, hnz⟩ := parts_cls (l := 91 :: r) ⟨r, rfl⟩
            have hn0 : classLen (91 :: r) ≠ 0 := fun h => by
              have := hz h
              rw [parts_step hh, hq.out] at this
              cases this
            obtain ⟨hn1, hn3, b, hlb, hb0, hnb, hpp⟩ := hnz hn0
            clear hz hnz hn0
            obtain ⟨x, hx⟩ : ∃ x, (91 :: r).drop (classLen (91 :: r)) = x := ⟨_, rfl⟩
            rw [hx] at hlb hpp
            have hr : r = b ++ 93 :: x := by injection hlb
            have hcls : classOf r = some (b, x) := by
              cases hc : classOf r with
              | none => rw [head1_nocls hc] at hh; cases hh
              | some y =>
                obtain ⟨b2, x2⟩ := y
                have h2 : classLen (91 :: r) = b2.length + 2 := by unfold classLen; simp only [List.drop_succ_cons, List.drop_zero]; rw [hc]
                obtain ⟨h3, -, -⟩ := classOf_shape hc
                have h4 : b2.length = b.length := by omega
                rw [hr] at h3
                obtain ⟨h5, h6⟩ := List.append_inj h3 h4.symm
                injection h6 with _ h6
                rw [h5, h6]
            rw [head1_cls hcls] at hh
            cases hh
            rw [show Pt.has (.cls (marked b) (members b)) d = ofCls b d from rfl]
            obtain ⟨n, hn⟩ : ∃ n, classLen (91 :: r) = n := ⟨_, rfl⟩
            rw [hn] at hx hn1 hn3 hnb
            simp only [List.length_cons] at hn1
            have hlen : r.length = b.length + 1 + r'.length := by rw [hr]; simp; omega
            have htk : List.take n (91 :: r) = 91 :: (b ++ [93]) := by
              rw [hnb, hr, List.take_succ_cons, show b ++ 93 :: r' = (b ++ [93]) ++ r' by simp, show b.length + 1 = (b ++ [93]).length by simp, List.take_left]
            have hdk : List.take (r.length + 1 - n) (List.drop n (91 :: r)) = r' := by
              rw [hx]; exact List.take_of_length_le (by omega)
            have hnI : (n : Int) ≤ (r.length : Int) + 1 := by omega
            have hof := Lib.hid (fun w => l1Of_any b d hb0 (by omega) w)
            replace htk := Lib.hid htk
            replace hdk := Lib.hid hdk
            replace hcls := Lib.hid hcls
            replace hr := Lib.hid hr
            replace hn := Lib.hid hn
            have hcl := Lib.hid (fun w => l1Class_any (91 :: r) (by simp; omega) w)
            clear hx hlb hpp hnb hlen
            rcases boolOf (ofCls b d) with hb1 | hb1
            all_goals rw [hb1.out] at hof ⊢
            all_goals go_enter Tryd.func61, Tryd.ntmps61
            all_goals go_wp2_with fail
            all_goals refine (hcl.out _).mono ?_
            all_goals rintro e w1 ⟨rfl, rfl⟩
            all_goals rw [hn.out]
            all_goals go_wp2_with fail
            · go_quiet ((first | (go_at_call 69; rw [htk.out]; exact quiet_eqG (hof.out _)) | (go_at_call 61; rw [hdk.out]; exact Calls.quiet_of (h1.out _))))
              go_wp2
              go_ret
              exact ⟨rfl, _, rfl⟩
            · go_quiet ((first | (go_at_call 69; rw [htk.out]; exact quiet_eqG (hof.out _)) | (go_at_call 61; rw [hdk.out]; exact Calls.quiet_of (h1.out _))))
              go_wp2
              go_ret
              exact ⟨rfl, _, rfl⟩
          have h91b : ((c.toNat : Int) == 91) = false := u8_no 91 (by omega) h91
          have hlit : p = .lit c ∧ r' = r := by
            simp only [head1, if_neg h42.out, if_neg h63, if_neg h91] at hh
            split at hh
            · cases hh; exact ⟨rfl, rfl⟩
            · cases hh
          obtain ⟨rfl, rfl⟩ := hlit
          rw [show Pt.has (.lit c) d = (d == c) from rfl]
          replace h63 := Lib.hid h63
          replace h91 := Lib.hid h91
          replace hh := Lib.hid hh
          by_cases hcd : d = c
          · subst hcd
            have hcb := u8_is (a := d) (b := d) rfl
            simp only [beq_self_eq_true, Bool.true_and]
            go_enter Tryd.func61, Tryd.ntmps61
            go_wp2_with fail
            go_quiet ((go_at_call 61; exact Calls.quiet_of (h1.out _)))
            go_wp2
            go_ret
            exact ⟨rfl, _, rfl⟩
          · have hcb : ((c.toNat : Int) == (d.toNat : Int)) = false := u8_ne (fun e => hcd e.symm)
            rw [show (d == c) = false by simpa using hcd, Bool.false_and]
            replace hcd := Lib.hid hcd
            go_enter Tryd.func61, Tryd.ntmps61
            go_wp2_with fail
            go_quiet ((go_at_call 61; exact Calls.quiet_of (h1.out _)))
            go_wp2
            go_ret
            exact ⟨rfl, _, rfl⟩
end Go.Proofs.YtiknkjhdieepbaaDoor

/-
  The walks of the reference's GlobOk, l1Match, GlobHas.
-/
namespace Go.Proofs.YtiknkjhdieepbaaDoor
open Go.RowKit
set_option linter.unusedVariables false
set_option linter.unusedSimpArgs false
attribute [local go_sem] mkB_size mkB_extract mkB_get mkB_toList

/-! ### GlobOk -/
def gok (x : List UInt8) : Bool := (nameParts x).isSome
theorem globName_some (x : List UInt8) : (globName x).isSome = gok x := by
  unfold globName gok
  cases nameParts x <;> rfl
theorem globAll_some : ∀ (xs : List (List UInt8)), (globAll xs).isSome = xs.all gok
  | [] => rfl
  | l :: r => by
    rw [List.all_cons, ← globAll_some r, ← globName_some l]
    cases h1 : globName l <;> cases h2 : globAll r <;> simp [globAll, h1, h2]
theorem globOk_eq (g : List UInt8) : globOk g = (decide (g.length ≤ 40) && (decide ((cut 47 g).length ≤ 5) && (cut 47 g).all gok)) := by
  unfold globOk globs
  by_cases h1 : g.length ≤ 40
  · by_cases h2 : (cut 47 g).length ≤ 5
    · rw [if_pos h1, if_pos h2, globAll_some]; simp [h1, h2]
    · rw [if_pos h1, if_neg h2]; simp [h1, h2]
  · rw [if_neg h1]; simp [h1]
theorem take_all_snoc {α : Type} {p : α → Bool} {xs : List α} {k : Nat} (hk : k < xs.length) (h : (xs.take k).all p = true) (hb : p xs[k] = true) : (xs.take (k + 1)).all p = true := by
  rw [List.take_succ_eq_append_getElem hk, List.all_append, h]; simp [hb]
theorem take_all_bad {α : Type} {p : α → Bool} {xs : List α} {k : Nat} (hk : k < xs.length) (hb : p xs[k] = false) : xs.all p = false := by
  rw [List.all_eq_false]; exact ⟨xs[k], List.getElem_mem hk, by simp [hb]⟩
set_option maxRecDepth 1000000 in
set_option maxHeartbeats 2000000 in
theorem specGlobOk_any (l : List UInt8) (hl : l.length ≤ 1048576) (w : World) :
    Calls Tryd.prog 44 #[.string (mkB l)] w fun e w' => e = .returned (.bool (globOk l)) ∧ Below w.heap.size w w' := by
  have heq := Lib.hid (globOk_eq l)
  go_enter Tryd.func44, Tryd.ntmps44
  go_wp2_with fail
  refine (l1Cut_any l 47 (by omega) _).mono ?_
  rintro e w1 ⟨v, rfl, hown, hB⟩
  obtain ⟨g, cap, rfl⟩ := cut_form hown
  have hlen : (cut 47 l).length ≤ l.length + 1 := by
    have := cut_sum 47 l; omega
  obtain ⟨xs, hxs⟩ : ∃ xs, cut 47 l = xs := ⟨_, rfl⟩
  rw [hxs] at hown hlen heq ⊢
  have hxs' := Lib.hid hxs
  clear hxs
  go_wp2
  go_loop [4] (fun i => ∃ k : Nat, k ≤ xs.length ∧ i = .int .i64 k ∧ Hid ((xs.take k).all gok = true)) (fun i => xs.length - (intOf i).toNat)
  case atStart => exact ⟨0, Nat.zero_le _, rfl, Lib.hid rfl⟩
  case round =>
    obtain ⟨k, hk, rfl, hall⟩ := hrel
    by_cases hlt : k < xs.length
    · have hc := strs_cell hown k hlt
      have hx : xs[k].length ≤ l.length := cut_mem_length (b := 47) (by rw [hxs'.out]; exact List.getElem_mem hlt)
      rcases boolOf (gok xs[k]) with hb | hb
      · go_wp2_with (go_at_call 59; refine (l1Globbed_any xs[k] (by omega) _).mono ?_; rintro e w' ⟨rfl, rfl⟩; rw [show (nameParts xs[k]).isSome = false from hb.out])
        go_ret
        refine ⟨ret_bool ?_, hB⟩
        rw [heq.out, take_all_bad hlt hb.out]; simp
      · go_wp2_with (go_at_call 59; refine (l1Globbed_any xs[k] (by omega) _).mono ?_; rintro e w' ⟨rfl, rfl⟩; rw [show (nameParts xs[k]).isSome = true from hb.out])
        go_round
        case rel => exact ⟨k + 1, by omega, by go_num, Lib.hid (take_all_snoc hlt hall.out hb.out)⟩
        case measure => simp [intOf]; omega
    · have hall2 : xs.all gok = true := by
        have h := hall.out
        rwa [List.take_of_length_le (by omega)] at h
      replace hall2 := Lib.hid hall2
      go_wp2
      all_goals go_ret
      all_goals refine ⟨ret_bool ?_, hB⟩
      all_goals rw [heq.out, hall2.out]
      all_goals rw [Bool.eq_iff_iff]; simp; omega

/-! ### rows of texts -/
def StrsAt (w : World) (g o : Nat) (l : List (List UInt8)) : Prop := ∀ i (h : i < l.length), w.cell? ⟨g, o + i, none⟩ = some (.string (mkB l[i]))
theorem StrsAt.head {w : World} {g o : Nat} {x : List UInt8} {l : List (List UInt8)} (h : StrsAt w g o (x :: l)) : w.cell? ⟨g, o, none⟩ = some (.string (mkB x)) := h 0 (by simp)
theorem StrsAt.tail {w : World} {g o : Nat} {x : List UInt8} {l : List (List UInt8)} (h : StrsAt w g o (x :: l)) : StrsAt w g (o + 1) l := fun i hi => by
  have := h (i + 1) (by simp; omega)
  rw [show o + 1 + i = o + (i + 1) by omega]
  simpa using this
theorem StrsAt.nil (w : World) (g o : Nat) : StrsAt w g o [] := fun i hi => by simp at hi
theorem StrsAt.drewN {w : World} {g o : Nat} {l : List (List UInt8)} (h : StrsAt w g o l) (n : Nat) : StrsAt (w.drewN n) g o l := h
theorem StrsAt.below {w w' : World} {g o n : Nat} {l : List (List UInt8)} (h : StrsAt w g o l) (hB : Below n w w') (hg : g < n) : StrsAt w' g o l := fun i hi =>
  (hB.cell (p := ⟨g, o + i, none⟩) hg).trans (h i hi)
theorem globAll_cons {x : List UInt8} {r : List (List UInt8)} {gs : List Gn} (h : globAll (x :: r) = some gs) : ∃ qs ps, nameParts x = some qs ∧ globAll r = some ps ∧ gs = ⟨x == [42, 42], qs⟩ :: ps := by
  unfold globAll at h
  split at h
  · rename_i y ys h1 h2
    cases h
    unfold globName at h1
    cases hn : nameParts x with
    | none => rw [hn] at h1; cases h1
    | some qs =>
      rw [hn] at h1
      cases h1
      exact ⟨qs, ys, rfl, h2, rfl⟩
  · cases h
theorem nameParts_parts {x : List UInt8} {qs : List Pt} (h : nameParts x = some qs) : parts x = some qs := by
  unfold nameParts at h
  split at h
  · cases h
  · exact h
theorem quiet_q {P : Program} {f : FuncId} {args : Array Value} {w : World} {n : Nat} {b : Bool} (h : Calls P f args (w.drewN n) (Quiet b (w.drewN n))) :
    Calls P f args (w.drewN n) fun e w'' => e = .returned (.bool b) ∧ ∃ m, w'' = w.drewN m := Calls.quiet_of h
def Short (l : List (List UInt8)) : Prop := ∀ x ∈ l, x.length ≤ 1048576
set_option maxRecDepth 1000000 in
set_option maxHeartbeats 4000000 in
theorem l1Match_on00 (b : Bool) (x d : List UInt8) (g o c g' o' c' n m : Nat) (w : World) (hx0 : w.cell? ⟨g, o, none⟩ = some (.string (mkB x))) (hy0 : w.cell? ⟨g', o', none⟩ = some (.string (mkB d)))
    (hc : ¬ c = 1) (hc0 : n + 1 ≤ c) (hc' : ¬ c' = 1) (hc0' : m + 1 ≤ c') (hm2 : (x == [42, 42]) = false) (hn : n ≤ 2097152) (hm : m ≤ 2097152)
    (hfit : ∀ w, Calls Tryd.prog 61 #[.string (mkB x), .string (mkB d)] w (Quiet true w))
    (hnx : ∀ k, Calls Tryd.prog 46 #[.slice (some ⟨g, o + 1, none⟩) n (c - 1), .slice (some ⟨g', o' + 1, none⟩) m (c' - 1)] (w.drewN k) (Quiet b (w.drewN k))) :
    Calls Tryd.prog 46 #[.slice (some ⟨g, o, none⟩) (n + 1) c, .slice (some ⟨g', o', none⟩) (m + 1) c'] w (Quiet b w) := by
  have hlI : (decide ((0 : Int) < (m : Int) + 1)) = true := by simp
  replace hfit := Lib.hid hfit
  replace hnx := Lib.hid hnx
  go_enter Tryd.func46, Tryd.ntmps46
  go_wp2_with fail
  go_quiet ((first | (go_at_call 61; with_reducible exact quiet_q (hfit.out _)) | (go_at_call 46; with_reducible exact quiet_q (hnx.out _))))
  go_wp2
  go_ret
  exact ⟨rfl, _, rfl⟩
set_option maxRecDepth 1000000 in
set_option maxHeartbeats 4000000 in
theorem l1Match_on01 (b : Bool) (x d : List UInt8) (g o c g' o' n m : Nat) (w : World) (hx0 : w.cell? ⟨g, o, none⟩ = some (.string (mkB x))) (hy0 : w.cell? ⟨g', o', none⟩ = some (.string (mkB d)))
    (hc : ¬ c = 1) (hc0 : n + 1 ≤ c) (hm2 : (x == [42, 42]) = false) (hn : n ≤ 2097152) (hm : m ≤ 2097152)
    (hm0 : m = 0) (hfit : ∀ w, Calls Tryd.prog 61 #[.string (mkB x), .string (mkB d)] w (Quiet true w))
    (hnx : ∀ k, Calls Tryd.prog 46 #[.slice (some ⟨g, o + 1, none⟩) n (c - 1), .slice (some ⟨g', o', none⟩) m 0] (w.drewN k) (Quiet b (w.drewN k))) :
    Calls Tryd.prog 46 #[.slice (some ⟨g, o, none⟩) (n + 1) c, .slice (some ⟨g', o', none⟩) (m + 1) 1] w (Quiet b w) := by
  replace hm0 := Lib.hid hm0
  have hlI : (decide ((0 : Int) < (m : Int) + 1)) = true := by simp
  replace hfit := Lib.hid hfit
  replace hnx := Lib.hid hnx
  go_enter Tryd.func46, Tryd.ntmps46
  go_wp2_with fail
  go_quiet ((first | (go_at_call 61; with_reducible exact quiet_q (hfit.out _)) | (go_at_call 46; with_reducible exact quiet_q (hnx.out _))))
  go_wp2
  go_ret
  exact ⟨rfl, _, rfl⟩
set_option maxRecDepth 1000000 in
set_option maxHeartbeats 4000000 in
theorem l1Match_on10 (b : Bool) (x d : List UInt8) (g o g' o' c' n m : Nat) (w : World) (hx0 : w.cell? ⟨g, o, none⟩ = some (.string (mkB x))) (hy0 : w.cell? ⟨g', o', none⟩ = some (.string (mkB d)))
    (hc' : ¬ c' = 1) (hc0' : m + 1 ≤ c') (hn0 : n = 0) (hm2 : (x == [42, 42]) = false) (hn : n ≤ 2097152) (hm : m ≤ 2097152)
    (hfit : ∀ w, Calls Tryd.prog 61 #[.string (mkB x), .string (mkB d)] w (Quiet true w))
    (hnx : ∀ k, Calls Tryd.prog 46 #[.slice (some ⟨g, o, none⟩) n 0, .slice (some ⟨g', o' + 1, none⟩) m (c' - 1)] (w.drewN k) (Quiet b (w.drewN k))) :
    Calls Tryd.prog 46 #[.slice (some ⟨g, o, none⟩) (n + 1) 1, .slice (some ⟨g', o', none⟩) (m + 1) c'] w (Quiet b w) := by
  replace hn0 := Lib.hid hn0
  have hnI : (1 : Int) ≤ (n : Int) + 1 := by omega
  have hlI : (decide ((0 : Int) < (m : Int) + 1)) = true := by simp
  replace hfit := Lib.hid hfit
  replace hnx := Lib.hid hnx
  go_enter Tryd.func46, Tryd.ntmps46
  go_wp2_with fail
  go_quiet ((first | (go_at_call 61; with_reducible exact quiet_q (hfit.out _)) | (go_at_call 46; with_reducible exact quiet_q (hnx.out _))))
  go_wp2
  go_ret
  exact ⟨rfl, _, rfl⟩
set_option maxRecDepth 1000000 in
set_option maxHeartbeats 4000000 in
theorem l1Match_on11 (b : Bool) (x d : List UInt8) (g o g' o' n m : Nat) (w : World) (hx0 : w.cell? ⟨g, o, none⟩ = some (.string (mkB x))) (hy0 : w.cell? ⟨g', o', none⟩ = some (.string (mkB d)))
    (hn0 : n = 0) (hm2 : (x == [42, 42]) = false) (hn : n ≤ 2097152) (hm : m ≤ 2097152)
    (hm0 : m = 0) (hfit : ∀ w, Calls Tryd.prog 61 #[.string (mkB x), .string (mkB d)] w (Quiet true w))
    (hnx : ∀ k, Calls Tryd.prog 46 #[.slice (some ⟨g, o, none⟩) n 0, .slice (some ⟨g', o', none⟩) m 0] (w.drewN k) (Quiet b (w.drewN k))) :
    Calls Tryd.prog 46 #[.slice (some ⟨g, o, none⟩) (n + 1) 1, .slice (some ⟨g', o', none⟩) (m + 1) 1] w (Quiet b w) := by
  replace hn0 := Lib.hid hn0
  have hnI : (1 : Int) ≤ (n : Int) + 1 := by omega
  replace hm0 := Lib.hid hm0
  have hlI : (decide ((0 : Int) < (m : Int) + 1)) = true := by simp
  replace hfit := Lib.hid hfit
  replace hnx := Lib.hid hnx
  go_enter Tryd.func46, Tryd.ntmps46
  go_wp2_with fail
  go_quiet ((first | (go_at_call 61; with_reducible exact quiet_q (hfit.out _)) | (go_at_call 46; with_reducible exact quiet_q (hnx.out _))))
  go_wp2
  go_ret
  exact ⟨rfl, _, rfl⟩
set_option maxRecDepth 1000000 in
set_option maxHeartbeats 8000000 in
theorem l1Match_any : ∀ (N : Nat) (gs ns : List (List UInt8)) (ps : List Gn) (g o c g' o' c' n m : Nat) (w : World), gs.length = n → ns.length = m → n + m ≤ N → n ≤ c → m ≤ c' → N ≤ 2097152 → Short gs → Short ns → StrsAt w g o gs → StrsAt w g' o' ns → globAll gs = some ps →
    Calls Tryd.prog 46 #[.slice (some ⟨g, o, none⟩) n c, .slice (some ⟨g', o', none⟩) m c'] w (Quiet (meets ps ns) w) := by
  intro N
  induction N with
  | zero =>
    intro gs ns ps g o c g' o' c' n m w hn hm' hN hc hc' h20 hsg hsn hG hS hp
    subst hn
    subst hm'
    obtain rfl : gs = [] := List.eq_nil_of_length_eq_zero (by omega)
    obtain rfl : ns = [] := List.eq_nil_of_length_eq_zero (by omega)
    cases hp
    clear hG hS
    go_enter Tryd.func46, Tryd.ntmps46
    go_wp2
    go_ret
    exact Quiet.same _ _
  | succ N ih =>
    intro gs ns ps g o c g' o' c' n m w hn hm' hN hc hc' h20 hsg hsn hG hS hp
    subst hn
    subst hm'
    replace ih := Lib.hid ih
    cases gs with
    | nil =>
      cases hp
      clear hG hS
      cases ns with
      | nil =>
        go_enter Tryd.func46, Tryd.ntmps46
        go_wp2
        go_ret
        exact Quiet.same _ _
      | cons d t =>
        have hlI : (((d :: t).length : Int) == 0) = false := by simp; omega
        go_enter Tryd.func46, Tryd.ntmps46
        go_wp2
        go_ret
        exact Quiet.same _ _
    | cons x r =>
      obtain ⟨qs, ps, hnp, hr, rfl⟩ := globAll_cons hp
      clear hp
      have hx0 := hG.head
      have hG' := Lib.hid hG.tail
      have hnil : r.length = 0 → StrsAt w g o r := fun h => by
        rw [List.eq_nil_of_length_eq_zero h]; exact StrsAt.nil _ _ _
      have hsr : Short r := fun y hy => hsg y (by simp [hy])
      have hxl : x.length ≤ 1048576 := hsg x (by simp)
      simp only [List.length_cons] at hN hc ⊢
      have hGG := Lib.hid hG
      clear hG
      replace hnp := Lib.hid hnp
      replace hr := Lib.hid hr
      replace hsr := Lib.hid hsr
      replace hsg := Lib.hid hsg
      replace hsn := Lib.hid hsn
      replace hnil := Lib.hid hnil
      replace hS := Lib.hid hS
      rcases boolOf (x == [42, 42]) with hm | hm
      case inr =>
        rw [hm.out]
        have hm2 := hm.out
        cases ns with
        | nil =>
          rw [meets_many_nil]
          rcases boolOf (meets ps []) with hb | hb
          all_goals rw [hb.out]
          all_goals go_enter Tryd.func46, Tryd.ntmps46
          all_goals go_wp2_with fail
          all_goals with_reducible refine (ih.out r [] ps g _ _ g' _ _ r.length 0 _ rfl List.length_nil (by simp at hN; omega) (by omega) (by simp) (by omega) hsr.out hsn.out (by first | exact hG'.out | exact hnil.out (by omega)) (StrsAt.nil _ _ _) hr.out).mono ?_
          all_goals rintro e w1 ⟨rfl, n1, hw1⟩
          all_goals have hwh := Lib.hid hw1
          all_goals clear hw1
          all_goals rw [hb.out]
          all_goals go_wp2
          all_goals go_ret
          all_goals exact ⟨rfl, n1, hwh.out⟩
        | cons d t =>
          rw [meets_many_cons]
          simp only [List.length_cons] at hN hc' ⊢
          have hN2 : r.length + 1 + t.length ≤ N := by omega
          have hsn2 : Short t := fun y hy => hsn.out y (by simp [hy])
          have hS2 := Lib.hid hS.out.tail
          have hSn : t.length = 0 → StrsAt w g' o' t := fun h => by
            rw [List.eq_nil_of_length_eq_zero h]; exact StrsAt.nil _ _ _
          replace hSn := Lib.hid hSn
          replace hsn2 := Lib.hid hsn2
          have hgo : globAll (x :: r) = some (⟨true, qs⟩ :: ps) := by
            have h1 : globName x = some ⟨true, qs⟩ := by unfold globName; rw [hnp.out, hm.out]; rfl
            have h2 := hr.out
            simp [globAll, h1, h2]
          replace hgo := Lib.hid hgo
          rcases boolOf (meets ps (d :: t)) with hb | hb
          case inr =>
            rw [hb.out]
            go_enter Tryd.func46, Tryd.ntmps46
            go_wp2_with fail
            all_goals with_reducible refine (ih.out r (d :: t) ps g _ _ g' _ _ r.length (t.length + 1) _ rfl List.length_cons (by omega) (by omega) (by omega) (by omega) hsr.out hsn.out (by first | exact hG'.out | exact hnil.out (by omega)) hS.out hr.out).mono ?_
            all_goals rintro e w1 ⟨rfl, n1, hw1⟩
            all_goals have hwh := Lib.hid hw1
            all_goals clear hw1
            all_goals rw [hb.out]
            all_goals go_wp2
            all_goals go_ret
            all_goals exact ⟨rfl, n1, hwh.out⟩
          rw [hb.out]
          rcases boolOf (meets (⟨true, qs⟩ :: ps) t) with hb2 | hb2
          all_goals rw [hb2.out]
          all_goals go_enter Tryd.func46, Tryd.ntmps46
          all_goals go_wp2_with fail
          all_goals with_reducible refine (ih.out r (d :: t) ps g _ _ g' _ _ r.length (t.length + 1) _ rfl List.length_cons (by omega) (by omega) (by omega) (by omega) hsr.out hsn.out (by first | exact hG'.out | exact hnil.out (by omega)) hS.out hr.out).mono ?_
          all_goals rintro e w1 ⟨rfl, n1, hw1⟩
          all_goals have hS3 : StrsAt w1 g' (o' + 1) t := by rw [hw1]; exact hS2.out
          all_goals have hSn3 : t.length = 0 → StrsAt w1 g' o' t := by rw [hw1]; exact hSn.out
          all_goals have hG3 : StrsAt w1 g o (x :: r) := by rw [hw1]; exact hGG.out
          all_goals have hwh := Lib.hid hw1
          all_goals replace hS3 := Lib.hid hS3
          all_goals replace hSn3 := Lib.hid hSn3
          all_goals replace hG3 := Lib.hid hG3
          all_goals clear hw1
          all_goals rw [hb.out]
          all_goals go_wp2_with fail
          all_goals first | with_reducible refine (ih.out (x :: r) t (⟨true, qs⟩ :: ps) g o _ g' (o' + 1) _ (r.length + 1) t.length _ List.length_cons rfl (by omega) (by omega) (by omega) (by omega) hsg.out hsn2.out hG3.out hS3.out hgo.out).mono ?_ | with_reducible refine (ih.out (x :: r) t (⟨true, qs⟩ :: ps) g o _ g' o' _ (r.length + 1) t.length _ List.length_cons rfl (by omega) (by omega) (by omega) (by omega) hsg.out hsn2.out hG3.out (hSn3.out (by omega)) hgo.out).mono ?_
          all_goals rintro e w2 ⟨rfl, n2, hw2⟩
          all_goals have hwh2 := Lib.hid hw2
          all_goals clear hw2
          all_goals rw [hb2.out]
          all_goals go_wp2
          all_goals go_ret
          all_goals exact ⟨rfl, n1 + n2, by rw [hwh2.out, hwh.out, World.drewN_drewN]⟩
      rw [hm.out]
      have hm2 := hm.out
      cases ns with
      | nil =>
        rw [meets_one_nil]
        go_enter Tryd.func46, Tryd.ntmps46
        go_wp2_with fail
        go_quiet (fail)
        go_wp2
        go_ret
        exact ⟨rfl, _, rfl⟩
      | cons d t =>
        rw [meets_one_cons]
        simp only [List.length_cons] at hN hc' ⊢
        have hy0 := hS.out.head
        have hsn2 : Short t := fun y hy => hsn.out y (by simp [hy])
        have hdl : d.length ≤ 1048576 := hsn.out d (by simp)
        have hS2 := Lib.hid hS.out.tail
        have hSn : t.length = 0 → StrsAt w g' o' t := fun h => by
          rw [List.eq_nil_of_length_eq_zero h]; exact StrsAt.nil _ _ _
        replace hSn := Lib.hid hSn
        replace hsn2 := Lib.hid hsn2
        have hfit := Lib.hid (fun w => l1Fits_any (x.length + d.length) x d qs w (Nat.le_refl _) hxl hdl (nameParts_parts hnp.out))
        have hnx := Lib.hid (fun g2 o2 c2 g3 o3 c3 w3 => ih.out r t ps g2 o2 c2 g3 o3 c3 r.length t.length w3 rfl rfl (by omega))
        have hlI : (decide ((0 : Int) < (t.length : Int) + 1)) = true := by simp
        rcases boolOf (fits qs d) with hb | hb
        · rw [hb.out, Bool.false_and]
          go_enter Tryd.func46, Tryd.ntmps46
          go_wp2_with fail
          go_quiet ((go_at_call 61; rw [hb.out] at hfit; exact Calls.quiet_of (hfit.out _)))
          go_wp2
          go_ret
          exact ⟨rfl, _, rfl⟩
        · rw [hb.out] at hfit ⊢
          rw [Bool.true_and]
          have h20' : r.length ≤ 2097152 ∧ t.length ≤ 2097152 := by omega
          by_cases hc1 : c = 1 <;> by_cases hc2 : c' = 1
          · subst hc1
            subst hc2
            exact l1Match_on11 _ x d g o g' o' _ _ w hx0 hy0 (by omega) hm2 h20'.1 h20'.2 (by omega) hfit.out (fun k => hnx.out g o 0 g' o' 0 _ (by omega) (by omega) (by omega) hsr.out hsn2.out ((hnil.out (by omega)).drewN k) ((hSn.out (by omega)).drewN k) hr.out)
          · subst hc1
            exact l1Match_on10 _ x d g o g' o' c' _ _ w hx0 hy0 hc2 hc' (by omega) hm2 h20'.1 h20'.2 hfit.out (fun k => hnx.out g o 0 g' (o' + 1) (c' - 1) _ (by omega) (by omega) (by omega) hsr.out hsn2.out ((hnil.out (by omega)).drewN k) (hS2.out.drewN k) hr.out)
          · subst hc2
            exact l1Match_on01 _ x d g o c g' o' _ _ w hx0 hy0 hc1 hc hm2 h20'.1 h20'.2 (by omega) hfit.out (fun k => hnx.out g (o + 1) (c - 1) g' o' 0 _ (by omega) (by omega) (by omega) hsr.out hsn2.out (hG'.out.drewN k) ((hSn.out (by omega)).drewN k) hr.out)
          · exact l1Match_on00 _ x d g o c g' o' c' _ _ w hx0 hy0 hc1 hc hc2 hc' hm2 h20'.1 h20'.2 hfit.out (fun k => hnx.out g (o + 1) (c - 1) g' (o' + 1) (c' - 1) _ (by omega) (by omega) (by omega) hsr.out hsn2.out (hG'.out.drewN k) (hS2.out.drewN k) hr.out)
end Go.Proofs.YtiknkjhdieepbaaDoor

/-
  The walk of the reference's GlobHas.
-/
namespace Go.Proofs.YtiknkjhdieepbaaDoor
open Go.RowKit
set_option linter.unusedVariables false
set_option linter.unusedSimpArgs false
attribute [local go_sem] mkB_size mkB_extract mkB_get mkB_toList

theorem globOk_parts {g : List UInt8} (h : globOk g = true) : ∃ ps, globs g = some ps ∧ globAll (cut 47 g) = some ps ∧ g.length ≤ 40 ∧ (cut 47 g).length ≤ 5 := by
  unfold globOk at h
  cases hg : globs g with
  | none => rw [hg] at h; cases h
  | some ps =>
    refine ⟨ps, rfl, ?_⟩
    unfold globs at hg
    split at hg
    · rename_i h1
      split at hg
      · rename_i h2
        exact ⟨hg, h1, h2⟩
      · cases hg
    · cases hg
theorem globHas_no {g s : List UInt8} (h : globOk g = false) : globHas g s = false := by
  unfold globOk at h
  unfold globHas
  cases hg : globs g with
  | none => rfl
  | some x => rw [hg] at h; cases h
theorem globHas_path {g s : List UInt8} (h : pathOk s = false) : globHas g s = false := by
  unfold globHas
  split
  · rw [h]; rfl
  · rfl
theorem globHas_is {g s : List UInt8} {ps : List Gn} (h : globs g = some ps) (hs : pathOk s = true) : globHas g s = meets ps (cut 47 s) := by
  unfold globHas
  rw [h]
  simp only
  rw [hs]; rfl
theorem strs_own {W : World} {lo g cap : Nat} {l : List (List UInt8)} (h : W.ownsRow lo 9 1 (.slice (some ⟨g, 0, none⟩) l.length cap) l.length (l.map strV)) : StrsAt W g 0 l := fun i hi => by
  have := strs_cell h i hi
  rwa [Nat.zero_add]
theorem short_cut {l : List UInt8} (hl : l.length ≤ 1048576) : Short (cut 47 l) := fun x hx => Nat.le_trans (cut_mem_length hx) hl
theorem own_cap {W : World} {lo g c k : Nat} {e : TypeId} {xs : List Value} (h : W.ownsRow lo e 1 (.slice (some ⟨g, 0, none⟩) k c) k xs) : k ≤ c ∧ g < W.heap.size := by
  obtain ⟨_, h | ⟨g', cap', cur, hv, hb, hh, hnc, hm, hs, ht⟩⟩ := h
  · cases h.1
  · cases hv
    exact ⟨hnc, (Array.getElem?_eq_some_iff.1 hh).1⟩
set_option maxRecDepth 1000000 in
set_option maxHeartbeats 4000000 in
theorem specGlobHas_any (l s : List UInt8) (hl : l.length ≤ 1048576) (hs : s.length ≤ 1048576) (w : World) :
    Calls Tryd.prog 25 #[.string (mkB l), .string (mkB s)] w fun e w' => e = .returned (.bool (globHas l s)) ∧ Below w.heap.size w w' := by
  rcases boolOf (globOk l) with h1 | h1
  · rw [globHas_no h1.out]
    go_enter Tryd.func25, Tryd.ntmps25
    go_wp2_with fail
    refine (specGlobOk_any l hl _).mono ?_
    rintro e w1 ⟨rfl, hB⟩
    rw [h1.out]
    go_wp2
    go_ret
    exact ⟨rfl, hB⟩
  rcases boolOf (pathOk s) with h2 | h2
  · rw [globHas_path h2.out]
    go_enter Tryd.func25, Tryd.ntmps25
    go_wp2_with fail
    refine (specGlobOk_any l hl _).mono ?_
    rintro e w1 ⟨rfl, hB⟩
    rw [h1.out]
    go_wp2_with fail
    refine (l1Path_any s (by omega) _).mono ?_
    rintro e w2 ⟨rfl, hB2⟩
    rw [h2.out]
    go_wp2
    go_ret
    exact ⟨rfl, hB.trans (hB2.mono hB.size)⟩
  obtain ⟨ps, hg, hall, h40, h5⟩ := globOk_parts h1.out
  rw [globHas_is hg h2.out]
  have hcs := cut_sum 47 s
  replace hg := Lib.hid hg
  replace hall := Lib.hid hall
  replace hcs := Lib.hid hcs
  go_enter Tryd.func25, Tryd.ntmps25
  go_wp2_with fail
  refine (specGlobOk_any l hl _).mono ?_
  rintro e w1 ⟨rfl, hB⟩
  rw [h1.out]
  go_wp2_with fail
  refine (l1Path_any s (by omega) _).mono ?_
  rintro e w2 ⟨rfl, hB2⟩
  rw [h2.out]
  replace hB2 := hB.trans (hB2.mono hB.size)
  go_wp2_with fail
  refine (l1Cut_any l 47 (by omega) _).mono ?_
  rintro e w3 ⟨v, rfl, hown, hB3⟩
  obtain ⟨g, cap, rfl⟩ := cut_form hown
  have hG := strs_own hown
  obtain ⟨hcap, hgl⟩ := own_cap hown
  have hB3' := hB2.trans (hB3.mono hB2.size)
  replace hG := Lib.hid hG
  clear hown hB3
  go_wp2_with fail
  refine (l1Cut_any s 47 (by omega) _).mono ?_
  rintro e w4 ⟨v, rfl, hown, hB4⟩
  obtain ⟨g2, cap2, rfl⟩ := cut_form hown
  have hS := Lib.hid (strs_own hown)
  obtain ⟨hcap2, hgl2⟩ := own_cap hown
  have hG4 := Lib.hid (hG.out.below hB4 hgl)
  have hB4' := hB3'.trans (hB4.mono hB3'.size)
  clear hown hB4
  go_wp2_with fail
  refine (l1Match_any 1048582 (cut 47 l) (cut 47 s) ps g 0 cap g2 0 cap2 _ _ _ rfl rfl (by have := hcs.out; omega) hcap hcap2 (by omega) (short_cut hl) (short_cut hs) hG4.out hS.out hall.out).mono ?_
  rintro e w5 ⟨rfl, n, hw⟩
  replace hw := Lib.hid hw
  go_wp2
  go_ret
  exact ⟨rfl, by rw [hw.out]; exact hB4'.trans ⟨rfl, rfl, rfl, Nat.le_refl _, fun _ _ => rfl⟩⟩
end Go.Proofs.YtiknkjhdieepbaaDoor

