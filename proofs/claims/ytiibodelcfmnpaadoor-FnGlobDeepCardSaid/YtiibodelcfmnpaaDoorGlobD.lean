/-
  The walk of the program's globParts.
-/
import Derived.Test.YtiibodelcfmnpaaDoorGlobC
import Derived.Test.YtiibodelcfmnpaaDoorPush
import Derived.Deep.Cut
namespace Go.Proofs.YtiibodelcfmnpaaDoor
open Go.RowKit
set_option linter.unusedVariables false
set_option linter.unusedSimpArgs false
attribute [local go_sem] mkB_size mkB_extract mkB_get mkB_toList

/-- elements as cells: a star's mark, and what takes a byte -/
def cellsP (xs : List (Pt × Value)) : List Value := xs.flatMap fun x => [.bool x.1.isStar, x.2]
def TakesAll (lo : Nat) (W : World) (xs : List (Pt × Value)) : Prop := ∀ x ∈ xs, TakeIs lo W x.2 x.1
theorem TakesAll.below {lo : Nat} {W W' : World} {xs : List (Pt × Value)} (h : TakesAll lo W xs) (hB : Below W.heap.size W W') : TakesAll lo W' xs := fun x hx => (h x hx).below hB
theorem TakesAll.mono {lo lo' : Nat} {W : World} {xs : List (Pt × Value)} (h : TakesAll lo W xs) (hl : lo' ≤ lo) : TakesAll lo' W xs := fun x hx => (h x hx).mono hl
theorem TakesAll.kept {lo : Nat} {W W' : World} {xs : List (Pt × Value)} {row : Option Nat} (h : TakesAll lo W xs) (hg : W.grownBy W' row) (hne : ∀ B t v, lo ≤ B → Boxed W B t v → (t = 5 ∨ t = 9 ∨ t = 4) → some B ≠ row) : TakesAll lo W' xs := fun x hx => (h x hx).kept hg hne
theorem cellsP_snoc (xs : List (Pt × Value)) (p : Pt) (f : Value) : cellsP (xs ++ [(p, f)]) = cellsP xs ++ [.bool p.isStar, f] := by simp [cellsP]
theorem cellsP_length (xs : List (Pt × Value)) : (cellsP xs).length = xs.length * 2 := by
  induction xs with
  | nil => rfl
  | cons x xs ih =>
    unfold cellsP at ih ⊢
    rw [List.flatMap_cons, List.length_append, ih]
    simp; omega
theorem info_part : (Tryd.prog.info? 61).map (fun i => (i.zero, i.size, i.bytes)) = some (some (.agg #[.bool false, .nilFunc]), 2, 16) := by kernel_rfl
def onP (xs : List (Pt × Value)) (o : Option (List Pt)) : Option (List Pt) := o.map (xs.map Prod.fst ++ ·)
theorem onP_next {xs : List (Pt × Value)} {l r : List UInt8} {p : Pt} (h : head1 l = some (p, r)) (f : Value) : onP xs (parts l) = onP (xs ++ [(p, f)]) (parts r) := by
  rw [parts_step h]
  unfold onP
  cases parts r <;> simp
theorem onP_bad {xs : List (Pt × Value)} {l : List UInt8} (h : head1 l = none) (hn : l ≠ []) : onP xs (parts l) = none := by
  rw [parts_bad h hn]; rfl
def PartsPost (l : List UInt8) (w : World) (e : Ending) (w' : World) : Prop :=
  Below w.heap.size w w' ∧ ((nameParts l = none ∧ ∃ A n c, e = .returned (.tuple #[.slice A n c, .bool false])) ∨
    (∃ (xs : List (Pt × Value)) (g cap : Nat), nameParts l = some (xs.map Prod.fst) ∧ e = .returned (.tuple #[.slice (some ⟨g, 0, none⟩) xs.length cap, .bool true]) ∧
      w'.ownsRow w.heap.size 61 2 (.slice (some ⟨g, 0, none⟩) xs.length cap) xs.length (cellsP xs) ∧ TakesAll w.heap.size w' xs))
def szOf (v : Value) : Nat := match v with
  | .string s => s.size
  | _ => 0
theorem szOf_str (l : List UInt8) : szOf (.string (mkB l)) = l.length := mkB_size l
theorem name_bad {l : List UInt8} (h : parts l = none) : nameParts l = none := by
  unfold nameParts
  split
  · rfl
  · exact h
theorem own_below {W W' : World} {base : Nat} {e : TypeId} {k m : Nat} {v : Value} {xs : List Value} (h : W.ownsRow base e k v m xs) (hB : Below W.heap.size W W') : W'.ownsRow base e k v m xs := by
  have hg : W.grownBy W' none := ⟨hB.os, hB.tape, hB.output, hB.size, fun k hk _ => hB.block k hk⟩
  refine h.kept hg ?_
  rcases h.2 with ⟨rfl, _⟩ | ⟨g, cap, cur, rfl, _⟩
  · exact .inl rfl
  · exact .inr (by simp [Value.ownBlock])
theorem takes_push {lo : Nat} {wr W2 w1 : World} {xs : List (Pt × Value)} {p : Pt} {f v : Value} {base k : Nat} {cs : List Value} (hT : TakesAll lo wr xs) (hB : Below wr.heap.size wr W2) (hnew : TakeIs lo W2 f p)
    (hown : W2.ownsRow base 61 2 v k cs) (hg : W2.grownBy w1 v.ownBlock) : TakesAll lo w1 (xs ++ [(p, f)]) := by
  have hne : ∀ B t u, lo ≤ B → Boxed W2 B t u → (t = 5 ∨ t = 9 ∨ t = 4) → some B ≠ v.ownBlock := fun B t u _ hb ht => by
    refine hb.not_row ?_ hown
    rcases ht with rfl | rfl | rfl <;> decide
  intro x hx
  rcases List.mem_append.1 hx with hx | hx
  · exact ((hT x hx).below hB).kept hg hne
  · simp at hx; subst hx
    exact hnew.kept hg hne
theorem own_push {w1 : World} {base g1 cap1 : Nat} {xs : List (Pt × Value)} {p : Pt} {f : Value} (h : w1.ownsRow base 61 2 (.slice (some ⟨g1, 0, none⟩) (xs.length + 1) cap1) (xs.length + 1) (cellsP xs ++ [.bool p.isStar, f])) :
    w1.ownsRow base 61 2 (.slice (some ⟨g1, 0, none⟩) (xs.length + 1) cap1) (xs ++ [(p, f)]).length (cellsP (xs ++ [(p, f)])) := by
  rw [cellsP_snoc, List.length_append]
  exact h
set_option maxRecDepth 1000000 in
set_option maxHeartbeats 8000000 in
theorem globParts_any (l : List UInt8) (hl : l.length ≤ 1048576) (w : World) :
    Calls Tryd.prog 34 #[.string (mkB l)] w (PartsPost l w) := by
  obtain ⟨i0, hi, hz0, hz1, hz2⟩ := info_parts info_part
  go_enter Tryd.func34, Tryd.ntmps34
  go_wp2
  go_loopw [0, 4] (fun nm v wr => ∃ (rest : List UInt8) (xs : List (Pt × Value)), nm = .string (mkB rest) ∧ (∃ A cap, v = .slice A xs.length cap) ∧ rest.length + xs.length ≤ l.length ∧ Hid (parts l = onP xs (parts rest)) ∧ Hid (wr.ownsRow w.heap.size 61 2 v xs.length (cellsP xs)) ∧ Hid (TakesAll w.heap.size wr xs) ∧ Below w.heap.size w wr)
    (fun nm _ _ => szOf nm)
  case atStart =>
    exact ⟨l, [], rfl, ⟨none, 0, rfl⟩, by simp, Lib.hid (by unfold onP; cases parts l <;> rfl), Lib.hid ⟨rfl, .inl ⟨rfl, rfl⟩⟩, Lib.hid (fun x hx => by simp at hx), Below.refl _ _⟩
  case round =>
    obtain ⟨rest, xs, rfl, ⟨A, cap, rfl⟩, hlen, hp, hown, hT, hB⟩ := hrel
    have hBz := hB.size
    cases rest with
    | nil =>
      have hps : parts l = some (xs.map Prod.fst) := by rw [hp.out]; simp [onP, parts_nil]
      cases xs with
      | nil =>
        have hnl : nameParts l = none := by
          unfold nameParts
          split
          · rfl
          · rename_i hne
            exfalso
            cases hh : head1 l with
            | none => rw [parts_bad hh hne] at hps; cases hps
            | some x => rw [parts_step (p := x.1) (r := x.2) hh] at hps; cases hq : parts x.2 <;> rw [hq] at hps <;> cases hps
        replace hnl := Lib.hid hnl
        replace hps := Lib.hid hps
        go_wp2
        go_ret2
        exact ⟨hB, .inl ⟨hnl.out, _, _, _, rfl⟩⟩
      | cons x xs =>
        have hnl : nameParts l = some ((x :: xs).map Prod.fst) := by
          unfold nameParts
          rw [if_neg]
          · exact hps
          · rintro rfl; cases hps
        obtain ⟨g, cp, hv⟩ : ∃ g cp, Value.slice A (x :: xs).length cap = .slice (some ⟨g, 0, none⟩) (x :: xs).length cp := by
          rcases hown.out.2 with ⟨h, _⟩ | ⟨g, cp, cur, h, _⟩
          · cases h
          · exact ⟨g, cp, h⟩
        cases hv
        have hlI : (0 : Int) < ((x :: xs).length : Int) := by simp
        have hlI2 : decide ((0 : Int) < ((x :: xs).length : Int)) = true := by simp
        have hlI3 : decide ((0 : Int) < (xs.length : Int) + 1) = true := by simp
        replace hnl := Lib.hid hnl
        replace hps := Lib.hid hps
        go_wp2
        go_ret2
        exact ⟨hB, .inr ⟨x :: xs, g, cap, hnl.out, rfl, hown.out, hT.out⟩⟩
    | cons c r =>
      simp only [List.length_cons] at hlen
      have hpost : ∀ W A n k, Below w.heap.size w W → head1 (c :: r) = none → PartsPost l w (.returned (.tuple #[.slice A n k, .bool false])) W := fun W A n k hW hh =>
        ⟨hW, .inl ⟨name_bad (by rw [hp.out, onP_bad hh (List.cons_ne_nil _ _)]), A, n, k, rfl⟩⟩
      replace hpost := Lib.hid hpost
      have hnext : ∀ p r' f, head1 (c :: r) = some (p, r') → parts l = onP (xs ++ [(p, f)]) (parts r') := fun p r' f hh => by rw [hp.out, onP_next hh f]
      replace hnext := Lib.hid hnext
      by_cases h42 : c = 42
      · subst h42
        have hown2 := Lib.hid ((hown.out.alloc (.cells #[.int .u8 42] 5)).alloc (.cells #[.bool true, .nilFunc] 61))
        have hB2 : Below wr.heap.size wr ((wr.alloc (.cells #[.int .u8 42] 5)).alloc (.cells #[.bool true, .nilFunc] 61)) := ((Below.refl _ _).alloc (Nat.le_refl _) _).alloc (by simp) _
        have hB2' : Below w.heap.size wr ((wr.alloc (.cells #[.int .u8 42] 5)).alloc (.cells #[.bool true, .nilFunc] 61)) := hB2.mono hBz
        have hnew : TakeIs w.heap.size ((wr.alloc (.cells #[.int .u8 42] 5)).alloc (.cells #[.bool true, .nilFunc] 61)) (.nilFunc) (.star) := rfl
        replace hnew := Lib.hid hnew
        go_wp2_with (at_builtin; go_loud (refine wpList_push rfl _ _ 47 rfl w.heap.size 61 i0 (.agg #[.bool false, .nilFunc]) 2 16 Tryd.underlying47 hi hz0 hz1 hz2 rfl (by decide) ((wr.alloc (.cells #[.int .u8 42] 5)).alloc (.cells #[.bool true, .nilFunc] 61)) _ _ _ hown2.out rfl [.bool true, .nilFunc] (by simp [Act.eval]) rfl (by simp [Value.oneCell']) (by simp only [maxLen]; omega) (by omega) (by simp; omega) ?_; intro g1 cap1 w1 hown1 hg1 hb1 _))
        have ho := own_push (p := .star) (f := .nilFunc) hown1
        have ht := takes_push (p := .star) hT.out hB2 hnew.out hown2.out hg1
        replace ho := Lib.hid ho
        replace ht := Lib.hid ht
        clear hown1 hg1 hnew
        have hnx := Lib.hid (hnext.out (.star) r (.nilFunc) (head1_star r))
        go_roundw
        case rel => exact ⟨r, xs ++ [(.star, .nilFunc)], rfl, ⟨_, _, by rw [List.length_append]; rfl⟩, by simp; omega, hnx, ho, ht, (hB.trans hB2').trans hb1⟩
        case measure => simp [szOf_str]
      have h42b : ((c.toNat : Int) == 42) = false := u8_no 42 (by omega) h42
      by_cases h63 : c = 63
      · subst h63
        clear h42
        have hown2 := Lib.hid ((hown.out.alloc (.cells #[.int .u8 63] 5)).alloc (.cells #[.bool false, .func (.func 48) #[] #[]] 61))
        have hB2 : Below wr.heap.size wr ((wr.alloc (.cells #[.int .u8 63] 5)).alloc (.cells #[.bool false, .func (.func 48) #[] #[]] 61)) := ((Below.refl _ _).alloc (Nat.le_refl _) _).alloc (by simp) _
        have hB2' : Below w.heap.size wr ((wr.alloc (.cells #[.int .u8 63] 5)).alloc (.cells #[.bool false, .func (.func 48) #[] #[]] 61)) := hB2.mono hBz
        have hnew : TakeIs w.heap.size ((wr.alloc (.cells #[.int .u8 63] 5)).alloc (.cells #[.bool false, .func (.func 48) #[] #[]] 61)) (.func (.func 48) #[] #[]) (.any) := rfl
        replace hnew := Lib.hid hnew
        go_wp2_with (at_builtin; go_loud (refine wpList_push rfl _ _ 47 rfl w.heap.size 61 i0 (.agg #[.bool false, .nilFunc]) 2 16 Tryd.underlying47 hi hz0 hz1 hz2 rfl (by decide) ((wr.alloc (.cells #[.int .u8 63] 5)).alloc (.cells #[.bool false, .func (.func 48) #[] #[]] 61)) _ _ _ hown2.out rfl [.bool false, .func (.func 48) #[] #[]] (by simp [Act.eval]) rfl (by simp [Value.oneCell']) (by simp only [maxLen]; omega) (by omega) (by simp; omega) ?_; intro g1 cap1 w1 hown1 hg1 hb1 _))
        have ho := own_push (p := .any) (f := .func (.func 48) #[] #[]) hown1
        have ht := takes_push (p := .any) hT.out hB2 hnew.out hown2.out hg1
        replace ho := Lib.hid ho
        replace ht := Lib.hid ht
        clear hown1 hg1 hnew
        have hnx := Lib.hid (hnext.out (.any) r (.func (.func 48) #[] #[]) (head1_any r))
        go_roundw
        case rel => exact ⟨r, xs ++ [(.any, .func (.func 48) #[] #[])], rfl, ⟨_, _, by rw [List.length_append]; rfl⟩, by simp; omega, hnx, ho, ht, (hB.trans hB2').trans hb1⟩
        case measure => simp [szOf_str]
      have h63b : ((c.toNat : Int) == 63) = false := u8_no 63 (by omega) h63
      by_cases h91 : c = 91
      case neg =>
        have h91b : ((c.toNat : Int) == 91) = false := u8_no 91 (by omega) h91
        rcases boolOf (nb c) with hb | hb
        · have hbad := Lib.hid (head1_bad (r := r) hb.out h42 h63 h91)
          replace h42 := Lib.hid h42
          replace h63 := Lib.hid h63
          replace h91 := Lib.hid h91
          go_wp2_with fail
          refine (nameByte_any _ _).mono ?_
          rintro e w1 ⟨rfl, rfl⟩
          rw [hb.out]
          go_wp2
          go_ret2
          exact hpost.out _ _ _ _ (hB.trans ((((Below.refl _ _).alloc (Nat.le_refl _) _).alloc (by simp) _).mono hBz)) hbad.out
        · have hlit := Lib.hid (head1_lit (r := r) hb.out)
          replace h42 := Lib.hid h42
          replace h63 := Lib.hid h63
          replace h91 := Lib.hid h91
          have hown2 := Lib.hid ((hown.out.alloc (.cells #[.int .u8 (c.toNat : Int)] 5)).alloc (.cells #[.bool false, .func (.func 52) #[] #[.pointer (some ⟨wr.heap.size, 0, none⟩)]] 61))
          have hB2 : Below wr.heap.size wr ((wr.alloc (.cells #[.int .u8 (c.toNat : Int)] 5)).alloc (.cells #[.bool false, .func (.func 52) #[] #[.pointer (some ⟨wr.heap.size, 0, none⟩)]] 61)) := ((Below.refl _ _).alloc (Nat.le_refl _) _).alloc (by simp) _
          have hB2' : Below w.heap.size wr ((wr.alloc (.cells #[.int .u8 (c.toNat : Int)] 5)).alloc (.cells #[.bool false, .func (.func 52) #[] #[.pointer (some ⟨wr.heap.size, 0, none⟩)]] 61)) := hB2.mono hBz
          have hnew : TakeIs w.heap.size ((wr.alloc (.cells #[.int .u8 (c.toNat : Int)] 5)).alloc (.cells #[.bool false, .func (.func 52) #[] #[.pointer (some ⟨wr.heap.size, 0, none⟩)]] 61)) (.func (.func 52) #[] #[.pointer (some ⟨wr.heap.size, 0, none⟩)]) ((.lit c)) := ⟨wr.heap.size, hBz, rfl, (Boxed.new wr _ _).alloc _⟩
          replace hnew := Lib.hid hnew
          go_wp2_with (first | (go_at_call 51; refine (nameByte_any _ _).mono ?_; rintro e w1 ⟨rfl, rfl⟩; rw [hb.out]) | (at_builtin; go_loud (refine wpList_push rfl _ _ 47 rfl w.heap.size 61 i0 (.agg #[.bool false, .nilFunc]) 2 16 Tryd.underlying47 hi hz0 hz1 hz2 rfl (by decide) ((wr.alloc (.cells #[.int .u8 (c.toNat : Int)] 5)).alloc (.cells #[.bool false, .func (.func 52) #[] #[.pointer (some ⟨wr.heap.size, 0, none⟩)]] 61)) _ _ _ hown2.out rfl [.bool false, .func (.func 52) #[] #[.pointer (some ⟨wr.heap.size, 0, none⟩)]] (by simp [Act.eval]) rfl (by simp [Value.oneCell']) (by simp only [maxLen]; omega) (by omega) (by simp; omega) ?_; intro g1 cap1 w1 hown1 hg1 hb1 _)))
          have ho := own_push (p := (.lit c)) (f := .func (.func 52) #[] #[.pointer (some ⟨wr.heap.size, 0, none⟩)]) hown1
          have ht := takes_push (p := (.lit c)) hT.out hB2 hnew.out hown2.out hg1
          replace ho := Lib.hid ho
          replace ht := Lib.hid ht
          clear hown1 hg1 hnew
          have hnx := Lib.hid (hnext.out ((.lit c)) r (.func (.func 52) #[] #[.pointer (some ⟨wr.heap.size, 0, none⟩)]) hlit.out)
          go_roundw
          case rel => exact ⟨r, xs ++ [((.lit c), .func (.func 52) #[] #[.pointer (some ⟨wr.heap.size, 0, none⟩)])], rfl, ⟨_, _, by rw [List.length_append]; rfl⟩, by simp; omega, hnx, ho, ht, (hB.trans hB2').trans hb1⟩
          case measure => simp [szOf_str]
      subst h91
      clear h42 h63
      rcases split_first 93 r with hno | ⟨b, t, hb93, hr⟩
      · have hix : Lib.indexByte (91 :: r) 93 = -1 := indexByte_of_none (by intro h; rcases List.mem_cons.1 h with h | h; cases h; exact hno h)
        have hbad := Lib.hid (head1_nocls (classOf_none hno))
        replace hix := Lib.hid hix
        replace hno := Lib.hid hno
        go_wp2_with fail
        refine (strings_IndexByte_any (91 :: r) 93 _).mono ?_
        rintro e w1 ⟨rfl, rfl⟩
        rw [hix.out]
        go_wp2
        go_ret2
        exact hpost.out _ _ _ _ (hB.trans ((((Below.refl _ _).alloc (Nat.le_refl _) _).alloc (by simp) _).mono hBz)) hbad.out
      obtain ⟨n, hn⟩ : ∃ n : Nat, b.length + 1 = n := ⟨_, rfl⟩
      have hix : Lib.indexByte (91 :: r) 93 = (n : Int) := by
        rw [hr]
        have := indexByte_at (f := 91 :: b) (r := t) (c := 93) (by intro h; rcases List.mem_cons.1 h with h | h; cases h; exact hb93 h)
        rw [← hn]
        simpa using this
      have hrl : r.length = n + t.length := by rw [hr, ← hn]; simp; omega
      have htk : List.take (n - 1) r = b := by rw [hr, ← hn, Nat.add_sub_cancel, List.take_left]
      have hdk : List.drop n r = t := by rw [hr, ← hn, show b ++ 93 :: t = (b ++ [93]) ++ t by simp, show b.length + 1 = (b ++ [93]).length by simp, List.drop_left]
      have hdt : List.take (r.length - n) (List.drop n r) = t := by rw [hdk]; exact List.take_of_length_le (by omega)
      replace hdt := Lib.hid hdt
      have hcls := classOf_at (t := t) hb93
      rw [← hr] at hcls
      have hbl : b.length ≤ 1048576 := by omega
      have hn1 : (1 : Int) ≤ (n : Int) := by omega
      have hn1' : 1 ≤ n := by omega
      have hnr : n ≤ r.length := by omega
      have hnI : (n : Int) ≤ (r.length : Int) + 1 := by omega
      have hnI2 : (n : Int) ≤ (r.length : Int) := by omega
      have hrm : r.length ≤ 1048576 := by omega
      replace hn := Lib.hid hn
      replace hix := Lib.hid hix
      replace hr := Lib.hid hr
      replace htk := Lib.hid htk
      replace hdk := Lib.hid hdk
      replace hcls := Lib.hid hcls
      replace hb93 := Lib.hid hb93
      have hrh := Lib.hid hrl
      clear hrl
      go_wp2_with fail
      refine (strings_IndexByte_any (91 :: r) 93 _).mono ?_
      rintro e w1 ⟨rfl, rfl⟩
      rw [hix.out]
      go_wp2_with fail
      rw [htk.out]
      refine (globClass_any b hbl _).mono ?_
      rintro e wc ⟨hBc, ⟨hnb, v, rfl, rfl⟩ | ⟨hnb, f, rfl, htf⟩⟩
      · have hbad := Lib.hid (head1_nocls (r := r) (by rw [hcls.out, hnb]; rfl))
        have hW1 : Below w.heap.size w wc := hB.trans (((((Below.refl wr.heap.size wr).alloc (Nat.le_refl _) _).alloc (by simp) _).trans (hBc.mono (by simp; omega))).mono hBz)
        clear hBc
        replace hnb := Lib.hid hnb
        go_wp2
        go_ret2
        exact hpost.out _ _ _ _ (hW1.alloc hW1.size _) hbad.out
      have htf0 := htf
      obtain ⟨B, C, -, -, rfl, -, -⟩ := htf0
      have hhd := Lib.hid (head1_cls (r := r) (b := b) (t := t) (by rw [hcls.out, hnb]; rfl))
      have hW1 : Below wr.heap.size wr wc := (((Below.refl wr.heap.size wr).alloc (Nat.le_refl _) _).alloc (by simp) _).trans (hBc.mono (by simp; omega))
      have pb : Box2 wc (wr.heap.size + 1) 61 (.bool false) .nilFunc := by
        have h := Box2.new (wr.alloc (.cells #[.int .u8 91] 5)) 61 (.bool false) .nilFunc
        simp only [World.size_alloc] at h
        exact h.below hBc (by simp)
      clear hBc
      replace hnb := Lib.hid hnb
      have hlt1 := pb.lt
      have e0 := pb.cell0
      have e1 := pb.cell1
      have e2 := pb.frozen 0
      have e3 := pb.frozen 1
      have pa := pb.alloc (.cells #[.bool false, .func (.func 60) #[] #[.pointer (some ⟨B, 0, none⟩), .pointer (some ⟨C, 0, none⟩)]] 61)
      have pc := (pb.set0 (.bool false)).set1 (.func (.func 60) #[] #[.pointer (some ⟨B, 0, none⟩), .pointer (some ⟨C, 0, none⟩)])
      have d0 := pc.cell0
      have d1 := pc.cell1
      have pd := pc.alloc (.cells #[.bool false, .func (.func 60) #[] #[.pointer (some ⟨B, 0, none⟩), .pointer (some ⟨C, 0, none⟩)]] 61)
      have d2 := pd.cell0
      have d3 := pd.cell1
      clear pc pd
      have c0 := pa.cell0
      have c1 := pa.cell1
      have f0 := pa.frozen 0
      have f1 := pa.frozen 1
      have hB2 : Below wr.heap.size wr (((wc.setCell ⟨wr.heap.size + 1, 0, none⟩ (.bool false)).setCell ⟨wr.heap.size + 1, 1, none⟩ (.func (.func 60) #[] #[.pointer (some ⟨B, 0, none⟩), .pointer (some ⟨C, 0, none⟩)])).alloc (.cells #[.bool false, .func (.func 60) #[] #[.pointer (some ⟨B, 0, none⟩), .pointer (some ⟨C, 0, none⟩)]] 61)) := ((hW1.setCell (p := ⟨wr.heap.size + 1, 0, none⟩) (by simp) _).setCell (p := ⟨wr.heap.size + 1, 1, none⟩) (by simp) _).alloc (by simp only [World.size_setCell]; exact hW1.size) _
      have hB2' : Below w.heap.size wr (((wc.setCell ⟨wr.heap.size + 1, 0, none⟩ (.bool false)).setCell ⟨wr.heap.size + 1, 1, none⟩ (.func (.func 60) #[] #[.pointer (some ⟨B, 0, none⟩), .pointer (some ⟨C, 0, none⟩)])).alloc (.cells #[.bool false, .func (.func 60) #[] #[.pointer (some ⟨B, 0, none⟩), .pointer (some ⟨C, 0, none⟩)]] 61)) := hB2.mono hBz
      have hown2 := Lib.hid (own_below hown.out hB2)
      have hne : ∀ {j u B t v} {W : World}, Box2 W (wr.heap.size + 1) 61 j u → Boxed W B t v → some B ≠ some (wr.heap.size + 1) := fun h1 h2 e => by
        injection e with e
        subst e
        unfold Box2 at h1
        unfold Boxed at h2
        rw [h1] at h2
        cases h2
      have hnew : TakeIs w.heap.size (((wc.setCell ⟨wr.heap.size + 1, 0, none⟩ (.bool false)).setCell ⟨wr.heap.size + 1, 1, none⟩ (.func (.func 60) #[] #[.pointer (some ⟨B, 0, none⟩), .pointer (some ⟨C, 0, none⟩)])).alloc (.cells #[.bool false, .func (.func 60) #[] #[.pointer (some ⟨B, 0, none⟩), .pointer (some ⟨C, 0, none⟩)]] 61)) (.func (.func 60) #[] #[.pointer (some ⟨B, 0, none⟩), .pointer (some ⟨C, 0, none⟩)]) (.cls (marked b) (members b)) := (((htf.mono (by simp; omega)).kept (grown_set _ (wr.heap.size + 1) 0 (.bool false)) (fun B t v _ hb _ => hne pb hb)).kept (grown_set _ (wr.heap.size + 1) 1 _) (fun B t v _ hb _ => hne (pb.set0 _) hb)).below ((Below.refl _ _).alloc (Nat.le_refl _) _)
      replace hnew := Lib.hid hnew
      replace htf := Lib.hid htf
      clear hne
      replace pa := Lib.hid pa
      replace pb := Lib.hid pb
      go_wp2_with (at_builtin; go_loud (refine wpList_push rfl _ _ 47 rfl w.heap.size 61 i0 (.agg #[.bool false, .nilFunc]) 2 16 Tryd.underlying47 hi hz0 hz1 hz2 rfl (by decide) (((wc.setCell ⟨wr.heap.size + 1, 0, none⟩ (.bool false)).setCell ⟨wr.heap.size + 1, 1, none⟩ (.func (.func 60) #[] #[.pointer (some ⟨B, 0, none⟩), .pointer (some ⟨C, 0, none⟩)])).alloc (.cells #[.bool false, .func (.func 60) #[] #[.pointer (some ⟨B, 0, none⟩), .pointer (some ⟨C, 0, none⟩)]] 61)) _ _ _ hown2.out rfl [.bool false, .func (.func 60) #[] #[.pointer (some ⟨B, 0, none⟩), .pointer (some ⟨C, 0, none⟩)]] (by simp [Act.eval]) rfl (by simp [Value.oneCell']) (by simp only [maxLen]; omega) (by omega) (Nat.le_trans hBz (Nat.le_trans hW1.size (by simp [World.setCell]))) ?_; intro g1 cap1 w1 hown1 hg1 hb1 _))
      rw [hdt.out]
      have ho := own_push (p := (.cls (marked b) (members b))) (f := .func (.func 60) #[] #[.pointer (some ⟨B, 0, none⟩), .pointer (some ⟨C, 0, none⟩)]) hown1
      have ht := takes_push (p := (.cls (marked b) (members b))) hT.out hB2 hnew.out hown2.out hg1
      replace ho := Lib.hid ho
      replace ht := Lib.hid ht
      clear hown1 hg1 hnew
      have hnx := Lib.hid (hnext.out ((.cls (marked b) (members b))) t (.func (.func 60) #[] #[.pointer (some ⟨B, 0, none⟩), .pointer (some ⟨C, 0, none⟩)]) hhd.out)
      go_roundw
      case rel => exact ⟨t, xs ++ [((.cls (marked b) (members b)), .func (.func 60) #[] #[.pointer (some ⟨B, 0, none⟩), .pointer (some ⟨C, 0, none⟩)])], rfl, ⟨_, _, by rw [List.length_append]; rfl⟩, by have := hrh.out; simp; omega, hnx, ho, ht, (hB.trans hB2').trans hb1⟩
      case measure => have := hrh.out; simp [szOf_str]; omega
end Go.Proofs.YtiibodelcfmnpaaDoor
