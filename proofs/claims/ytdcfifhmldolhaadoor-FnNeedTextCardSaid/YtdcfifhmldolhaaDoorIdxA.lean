/-
  The walk of strings.IndexAny at "=<>", whatever the bytes of the text.
-/
import Derived.Test.YtdcfifhmldolhaaDoorIdx
import Derived.Test.YtdcfifhmldolhaaDoorLay
import Derived.Lib.OthersKept
namespace Go.Proofs.YtdcfifhmldolhaaDoor
open Go.RowKit
set_option linter.unusedVariables false
attribute [local go_sem] mkB_size mkB_extract mkB_get mkB_append mkB_append_raw raw_append_mkB mkB_toList

theorem contains_sign (c : UInt8) : [61, 60, 62].contains c = isSign c := by
  unfold isSign
  rw [Bool.eq_iff_iff]
  simp [or_assoc]
def optI (o : Option Nat) : Int := match o with
  | some i => i
  | none => -1
theorem sign_key (o : Option Nat) : (if false = true then 0 else if (optI o == -1) = true then -1 else optI o + 1) = optI (if false = true then some 0 else o.map (· + 1)) := by
  cases o with
  | none => rfl
  | some k =>
    have h : ((k : Int) == -1) = false := by rw [beq_eq_false_iff_ne]; omega
    simp [optI, h]
theorem indexAny_sign : ∀ l : List UInt8, Lib.indexAny l [61, 60, 62] = signI l
  | [] => rfl
  | c :: r => by
    unfold Lib.indexAny signI
    rw [contains_sign, indexAny_sign r]
    simp only [signAt, signI]
    cases hc : isSign c with
    | true => rfl
    | false => exact sign_key (signAt r)
theorem set_info : (Tryd.prog.info? (Tryd.lays153_ren.t 116)).map (fun i => (i.zero, i.size)) = some (some (.agg (Array.replicate 256 (.bool false))), 256) := by kernel_rfl

theorem indexAny_long (l : List UInt8) (h8 : 8 < l.length) (hl : l.length ≤ 2147483647) (w : World) :
    Calls Tryd.prog 15 #[.string (mkB l), .string (mkB [61, 60, 62])] w fun e w' => e = .returned (.int .i64 (signI l)) ∧ Below w.heap.size w w' := by
  have h := Any.strings_IndexAny_long Tryd.lays153 (zero_of_info set_info).1 (zero_of_info set_info).2 (mkB l) (mkB [61, 60, 62]) w (by decide) (by rw [mkB_size]; exact h8) (by rw [mkB_size]; omega) (by decide) (by
    intro j b hb
    rw [mkB_data] at hb
    have hm : b ∈ [(61 : UInt8), 60, 62] := List.mem_of_getElem? hb
    simp at hm
    rcases hm with rfl | rfl | rfl <;> decide)
  refine Calls.mono (show Calls Tryd.prog 15 _ _ _ from h) ?_
  rintro e w' ⟨rfl, rfl⟩
  rw [mkB_data, mkB_data, indexAny_sign]
  exact ⟨rfl, ((Below.refl _ _).alloc (Nat.le_refl _) _).alloc (by simp) _⟩

theorem signI_none {l : List UInt8} (h : NoSign l l.length) : signI l = -1 := by unfold signI; rw [signAt_none h]
theorem signI_is {l : List UInt8} {i : Nat} (hi : i < l.length) (h : NoSign l i) (hs : isSign l[i] = true) : signI l = i := by unfold signI; rw [signAt_is hi h hs]
theorem NoSign.span {l : List UInt8} {i n : Nat} (h : NoSign l i) (hs : ∀ j (hj : j < l.length), i ≤ j → j < i + n → isSign l[j] = false) : NoSign l (i + n) := fun j hj hji => by
  rcases Nat.lt_or_ge j i with hlt | hge
  · exact h j hj hlt
  · exact hs j hj hge hji

theorem below_iterAt {n : Nat} {w W : World} (h : Below n w W) (s : ByteArray) (p : Nat) : Below n w (W.iterAt n s p) :=
  ⟨h.os, h.tape, h.output, by have := h.size; simp [World.iterAt]; omega, fun k hk => by
    rw [← h.block k hk]
    simp [World.iterAt, Array.getElem?_setIfInBounds]
    omega⟩

set_option maxHeartbeats 4000000 in
set_option maxRecDepth 1000000 in
theorem indexAny_short (l : List UInt8) (h8 : l.length ≤ 8) (w : World) :
    Calls Tryd.prog 15 #[.string (mkB l), .string (mkB [61, 60, 62])] w fun e w' => e = .returned (.int .i64 (signI l)) ∧ Below w.heap.size w w' := by
  have h8z : decide ((8 : Int) < (l.length : Int)) = false := decide_eq_false (by omega)
  go_enter Tryd.func15, Tryd.ntmps15
  go_wp2_with (go_at_call 29; refine (shouldUse_any _ _).mono ?_; rintro e w' ⟨rfl, rfl⟩; rw [h8z])
  go_loopg [9, 10] l.length (fun g _ _ wx => ∃ i : Nat, l.length ≤ i + g ∧ Hid (NoSign l i) ∧ wx.heap[w.heap.size]? = some (.stringIter (mkB l) i) ∧ Below w.heap.size w wx)
  case atStart => exact ⟨0, by omega, Lib.hid (NoSign.zero _), World.iter_heap _ _ _, (Below.refl _ _).alloc (Nat.le_refl _) _⟩
  case round =>
    obtain ⟨i, hig, hno, hit, hB⟩ := hrel
    by_cases hi : i < l.length
    · have hsz : (i : Nat) < (mkB l).size := by rw [mkB_size]; exact hi
      have hltw : w.heap.size < wr.heap.size := (Array.getElem?_eq_some_iff.1 hit).1
      cases gk with
      | zero => omega
      | succ g =>
        by_cases h128 : l[i].toNat < 128
        · have hnx : ∀ ty, (Instr.next (.pointer (some ⟨w.heap.size, 0, none⟩)) true ty).run Tryd.prog wr = .ok (.tuple #[.bool true, .int .i64 i, .int .i32 (l[i].toNat : Nat)]) (wr.iterAt w.heap.size (mkB l) (i + 1)) := fun ty => Lib.run_next_ascii_at wr w.heap.size (mkB l) i ty hit hsz h128
          obtain ⟨W1, hW1⟩ : ∃ W1, wr.iterAt w.heap.size (mkB l) (i + 1) = W1 := ⟨_, rfl⟩
          have hit1 : W1.heap[w.heap.size]? = some (.stringIter (mkB l) (i + 1)) := by rw [← hW1]; exact Lib.iterAt_heap wr w.heap.size (mkB l) i (i + 1) hit
          have hB1 : Below w.heap.size w W1 := by rw [← hW1]; exact below_iterAt hB _ _
          simp only [hW1] at hnx
          clear hW1
          have hix := Lib.hid (indexByte_sign l[i])
          have hofn : UInt8.ofNat l[i].toNat = l[i] := by simp
          rcases boolOf (isSign l[i]) with hs | hs
          · have hlt : Lib.indexByte [61, 60, 62] l[i] < 0 := by
              rcases Int.lt_or_le (Lib.indexByte [61, 60, 62] l[i]) 0 with h | h
              · exact h
              · have := hix.out.1 h; rw [hs.out] at this; cases this
            obtain ⟨v, hv⟩ : ∃ v, Lib.indexByte [61, 60, 62] l[i] = v := ⟨_, rfl⟩
            rw [hv] at hlt
            have hv' := Lib.hid hv
            clear hv hix
            have hofn' := Lib.hid hofn
            clear hofn
            go_wp2_with (go_at_call 28; refine (indexRune_low _ h128 _).mono ?_; rintro e w' ⟨rfl, rfl⟩; rw [hofn'.out, hv'.out])
            go_roundg g
            case measure => omega
            case rel => exact ⟨i + 1, by omega, Lib.hid (hno.out.succ hi hs.out), hit1, hB1⟩
          · have hge : 0 ≤ Lib.indexByte [61, 60, 62] l[i] := hix.out.2 hs.out
            obtain ⟨v, hv⟩ : ∃ v, Lib.indexByte [61, 60, 62] l[i] = v := ⟨_, rfl⟩
            rw [hv] at hge
            have hv' := Lib.hid hv
            clear hv hix
            have hofn' := Lib.hid hofn
            clear hofn
            have hans := Lib.hid (signI_is hi hno.out hs.out)
            go_wp2_with (go_at_call 28; refine (indexRune_low _ h128 _).mono ?_; rintro e w' ⟨rfl, rfl⟩; rw [hofn'.out, hv'.out])
            go_ret
            exact ⟨ret_int hans.out.symm, hB1⟩
        · have h128' : 128 ≤ l[i].toNat := by omega
          have hspan := Lib.hid (decode_span l i hi h128')
          obtain ⟨d1, d2⟩ := decode_high (mkB l) i hsz h128'
          have d3 := decode_le (mkB l) i
          have hnx : ∀ ty, (Instr.next (.pointer (some ⟨w.heap.size, 0, none⟩)) true ty).run Tryd.prog wr = _ := fun ty => Lib.run_next_any_at wr w.heap.size (mkB l) i ty hit hsz
          obtain ⟨⟨c, n⟩, hd⟩ : ∃ d, Utf8.decode (mkB l) i = d := ⟨_, rfl⟩
          have hspan' := hspan.out
          clear hspan
          simp only [hd] at d1 d2 d3 hnx hspan'
          have hspan := Lib.hid hspan'
          clear hspan' hd
          obtain ⟨W1, hW1⟩ : ∃ W1, wr.iterAt w.heap.size (mkB l) (i + n) = W1 := ⟨_, rfl⟩
          have hit1 : W1.heap[w.heap.size]? = some (.stringIter (mkB l) (i + n)) := by rw [← hW1]; exact Lib.iterAt_heap wr w.heap.size (mkB l) i (i + n) hit
          have hB1 : Below w.heap.size w W1 := by rw [← hW1]; exact below_iterAt hB _ _
          simp only [hW1] at hnx
          clear hW1
          have hlt1 : w.heap.size < W1.heap.size := (Array.getElem?_eq_some_iff.1 hit1).1
          go_wp2_with (go_at_call 28; refine (indexRune_high c d1 d3 _).mono ?_; rintro e w' ⟨rfl, hB2⟩)
          go_roundg g
          case measure => omega
          case rel => exact ⟨i + n, by omega, Lib.hid (hno.out.span hspan.out), (hB2.block _ hlt1).trans hit1, hB1.trans (hB2.mono hB1.size)⟩
    · have hnx : ∀ ty, (Instr.next (.pointer (some ⟨w.heap.size, 0, none⟩)) true ty).run Tryd.prog wr = .ok (.tuple #[.bool false]) wr := fun ty => Lib.run_next_end_at wr w.heap.size (mkB l) i ty hit (by rw [mkB_size]; exact hi)
      have hans := Lib.hid (signI_none (l := l) (fun j hj _ => hno.out j hj (by omega)))
      go_wp2
      go_ret
      exact ⟨ret_int hans.out.symm, hB⟩

theorem IndexAny_any (l : List UInt8) (hl : l.length ≤ 2147483647) (w : World) :
    Calls Tryd.prog 15 #[.string (mkB l), .string (mkB [61, 60, 62])] w fun e w' => e = .returned (.int .i64 (signI l)) ∧ Below w.heap.size w w' := by
  by_cases h8 : l.length ≤ 8
  · exact indexAny_short l h8 w
  · exact indexAny_long l (by omega) hl w

end Go.Proofs.YtdcfifhmldolhaaDoor
