/-
  The walk of strings.IndexAny at "=<>", whatever the bytes of the text: the first of the three signs.
-/
import Derived.Test.YtdcfifhmldolhaaDoorNeedF
import Derived.Laws.RangeAny
import Derived.Laws.RangeString
import Derived.Laws.Runes
import Derived.WalkMore
import Derived.Deep.LoopGhost
namespace Go.Proofs.YtdcfifhmldolhaaDoor
open Go.RowKit
set_option linter.unusedVariables false
attribute [local go_sem] mkB_size mkB_extract mkB_get mkB_append mkB_append_raw raw_append_mkB mkB_toList

/-- one of the three signs -/
def isSign (c : UInt8) : Bool := c == 61 || c == 60 || c == 62
/-- where the first sign stands -/
def signAt : List UInt8 → Option Nat
  | [] => none
  | c :: r => if isSign c then some 0 else (signAt r).map (· + 1)

theorem shouldUse_any (n : Int) (w : World) :
    Calls Tryd.prog 29 #[.int .i64 n] w fun e w' => e = .returned (.bool (decide (8 < n))) ∧ w = w' := by
  go_enter Tryd.func29, Tryd.ntmps29
  go_wp2
  go_ret
  exact ⟨rfl, rfl⟩
theorem strIndexByte_any (s : ByteArray) (c : Int) (w : World) :
    Calls Tryd.prog 39 #[.string s, .int .u8 c] w fun e w' => e = .returned (.int .i64 (Lib.indexByte s.data.toList c.toNat.toUInt8)) ∧ w = w' := by
  go_enter Tryd.func39, Tryd.ntmps39
  go_wp2_with (go_at_call 47; refine (stringslite_IndexByte _ _ _).mono ?_; rintro e w' ⟨rfl, rfl⟩)
  go_ret
  exact ⟨rfl, rfl⟩

set_option maxHeartbeats 4000000 in
set_option maxRecDepth 1000000 in
theorem indexRune_low (c : Nat) (h : c < 128) (w : World) :
    Calls Tryd.prog 28 #[.string (mkB [61, 60, 62]), .int .i32 (c : Int)] w fun e w' => e = .returned (.int .i64 (Lib.indexByte [61, 60, 62] (UInt8.ofNat c))) ∧ w = w' := by
  go_enter Tryd.func28, Tryd.ntmps28
  go_wp2_with (go_at_call 39; refine (strIndexByte_any _ _ _).mono ?_; rintro e w' ⟨rfl, rfl⟩)
  go_ret
  exact ⟨by simp [mkB_data], rfl⟩

theorem wpList_conv {P : Program} {ops : Array Oper} {rest : List Oper} {o : Oper} {a : Act} {Q : Exit → Act → World → Prop} {w : World} (hgd : o.guard = none) (s d : TypeId) (x : Operand)
    (ho : o.op = .convert s d x) (v u : Value) (hx : a.eval x = v) (hc : (convert s d v).run P w = .ok u w) (h : wpList P ops Q rest (a.put o.dst u) w) : wpList P ops Q (o :: rest) a w := by
  refine wpList_plain hgd fun _ hK => ?_
  unfold Oper.wp execOp
  simp only [ho, hx, Sem.run_bind, hc, Sem.run_pure, Result.andThen_ok]
  exact hK _ _ h
theorem enc_split (el : List UInt8) (h1 : 2 ≤ el.length) (h2 : el.length ≤ 4) {h : (mkB el).size - 1 < (mkB el).size} (h3 : 128 ≤ ((mkB el)[(mkB el).size - 1]'h).toNat) :
    (∃ a b, el = [a, b] ∧ 128 ≤ b.toNat) ∨ (∃ a b d, el = [a, b, d] ∧ 128 ≤ d.toNat) ∨ (∃ a b d f, el = [a, b, d, f]) := by
  match el, h1, h2, h, h3 with
  | [a, b], _, _, _, h3 => exact .inl ⟨a, b, rfl, h3⟩
  | [a, b, d], _, _, _, h3 => exact .inr (.inl ⟨a, b, d, rfl, h3⟩)
  | [a, b, d, f], _, _, _, _ => exact .inr (.inr ⟨a, b, d, f, rfl⟩)
theorem enc_list (c : Nat) (hval : Utf8.valid (c : Int) = true) (h : 128 ≤ c) :
    ∃ el : List UInt8, (∀ w : World, (convert 21 9 (.int .i32 (c : Int))).run Tryd.prog w = .ok (.string (mkB el)) w) ∧
      ((∃ a b, el = [a, b] ∧ 128 ≤ b.toNat) ∨ (∃ a b d, el = [a, b, d] ∧ 128 ≤ d.toNat) ∨ (∃ a b d f, el = [a, b, d, f])) := by
  obtain ⟨e1, e2, e3⟩ := encode_facts (c : Int) hval (by omega)
  have e3 := e3 (by omega)
  refine ⟨(Utf8.encode (c : Int)).data.toList, fun w => ?_, ?_⟩
  · rw [mkB_self (Utf8.encode (c : Int))]
    exact run_convert_int_string (P := Tryd.prog) w 21 9 .i32 (c : Int) (by kernel_rfl) (by kernel_rfl)
  · obtain ⟨E, hE⟩ : ∃ E, Utf8.encode (c : Int) = E := ⟨_, rfl⟩
    simp only [hE] at e1 e2 e3 ⊢
    obtain ⟨el, rfl⟩ : ∃ l, E = mkB l := ⟨_, (mkB_self E).symm⟩
    rw [mkB_data]
    have l1 : 2 ≤ el.length := by rw [← mkB_size]; exact e1
    have l2 : el.length ≤ 4 := by rw [← mkB_size]; exact e2
    exact enc_split el l1 l2 e3
theorem u8_back (b : UInt8) : ((b.toNat : Int)).toNat.toUInt8 = b := by simp
theorem ix_none {b : UInt8} (l : List UInt8) (hl : ∀ x ∈ l, x.toNat < 128) (hb : 128 ≤ b.toNat) : Lib.indexByte l b = -1 := indexByte_of_none (fun h => by have := hl b h; omega)
theorem quiet_eq2 {P : Program} {f : FuncId} {args : Array Value} {w : World} {a n : Nat} {v : Value} (h : Calls P f args (w.drewN (a + n)) fun e w' => e = .returned v ∧ w.drewN (a + n) = w') :
    Calls P f args (w.drewN (a + n)) fun e w' => e = .returned v ∧ ∃ m, w' = w.drewN (a + m) := h.mono fun _ _ ⟨he, hw⟩ => ⟨he, n, hw.symm⟩
def validR (c : Nat) : Bool := decide (c < 55296) || (decide (57343 < c) && decide (c ≤ 1114111))
set_option maxRecDepth 1000000 in
set_option maxHeartbeats 2000000 in
theorem validRune_any (c : Nat) (w : World) :
    Calls Tryd.prog 40 #[.int .i32 (c : Int)] w fun e w' => e = .returned (.bool (validR c)) ∧ w = w' := by
  go_enter Tryd.func40, Tryd.ntmps40
  go_wp2
  all_goals go_ret
  all_goals refine ⟨ret_bool ?_, rfl⟩
  all_goals (unfold validR; rw [Bool.eq_iff_iff]; first | (simp; done) | (simp; omega))

set_option maxHeartbeats 4000000 in
set_option maxRecDepth 1000000 in
theorem indexRune_high (c : Nat) (h : 128 ≤ c) (h2 : c ≤ 2147483647) (w : World) :
    Calls Tryd.prog 28 #[.string (mkB [61, 60, 62]), .int .i32 (c : Int)] w fun e w' => e = .returned (.int .i64 (-1)) ∧ Below w.heap.size w w' := by
  by_cases hrr : c = 65533
  · subst hrr
    go_enter Tryd.func28, Tryd.ntmps28
    go_wp2_with fail
    go_loopg [5, 6] 3 (fun g _ _ wx => ∃ i : Nat, i + g = 3 ∧ wx = w.iter (mkB [61, 60, 62]) i)
    case atStart => exact ⟨0, by omega, rfl⟩
    case round =>
      obtain ⟨i, hig, rfl⟩ := hrel
      cases gk with
      | zero =>
        obtain rfl : i = 3 := by omega
        have hnx := run_next_end (P := Tryd.prog) w (mkB [61, 60, 62]) 3
        go_wp2
        go_ret
        exact ⟨rfl, (Below.refl _ _).alloc (Nat.le_refl _) _⟩
      | succ g =>
        have hi : i = 0 ∨ i = 1 ∨ i = 2 := by omega
        rcases hi with rfl | rfl | rfl
        · have hnx := fun ty => run_next_ascii (P := Tryd.prog) w (mkB [61, 60, 62]) 0 ty (by decide) (by decide)
          go_wp2
          go_roundg g
          case measure => omega
          case rel => exact ⟨1, by omega, rfl⟩
        · have hnx := fun ty => run_next_ascii (P := Tryd.prog) w (mkB [61, 60, 62]) 1 ty (by decide) (by decide)
          go_wp2
          go_roundg g
          case measure => omega
          case rel => exact ⟨2, by omega, rfl⟩
        · have hnx := fun ty => run_next_ascii (P := Tryd.prog) w (mkB [61, 60, 62]) 2 ty (by decide) (by decide)
          go_wp2
          go_roundg g
          case measure => omega
          case rel => exact ⟨3, by omega, rfl⟩
  · have k1 : ((c : Int) == 65533) = false := by rw [beq_eq_false_iff_ne]; omega
    rcases boolOf (validR c) with hv | hv
    · go_enter Tryd.func28, Tryd.ntmps28
      go_wp2_with (go_at_call 40; refine (validRune_any c _).mono ?_; rintro e w' ⟨rfl, rfl⟩; rw [hv.out])
      go_ret
      exact ⟨rfl, Below.refl _ _⟩
    · have hval : Utf8.valid (c : Int) = true := by
        have h := hv.out
        unfold validR at h
        unfold Utf8.valid
        simp at h ⊢
        omega
      obtain ⟨el, conv, hel⟩ := enc_list c hval h
      clear hval
      rcases hel with ⟨a, b, rfl, hb⟩ | ⟨a, b, d, rfl, hb⟩ | ⟨a, b, d, f, rfl⟩
      · have hne : ((60 : Int) == (b.toNat : Int)) = false := by rw [beq_eq_false_iff_ne]; omega
        have hix := Lib.hid (show Lib.indexByte (mkB [62]).data.toList ((b.toNat : Int)).toNat.toUInt8 = -1 by rw [mkB_data, u8_back]; exact ix_none _ (by decide) hb)
        go_enter Tryd.func28, Tryd.ntmps28
        go_wp2_with (go_at_call 40; refine (validRune_any c _).mono ?_; rintro e w' ⟨rfl, rfl⟩; rw [hv.out])
        refine wp_scope_straight ?_
        go_wp2_with (refine wpList_conv rfl 21 9 (.tmp 17) rfl _ _ rfl (conv _) ?_)
        go_loop [9, 10] (fun i f => i = .int .i64 1 ∧ f = .int .i64 0) (fun _ _ => 0)
        case atStart => exact ⟨rfl, rfl⟩
        case round =>
          obtain ⟨rfl, rfl⟩ := hrel
          go_wp2_with fail
          refine wp_scope_straight ?_
          go_wp2_with fail
          go_quiet (fail)
          go_wp2_with fail
          go_quiet ((go_at_call 39; exact quiet_eq2 (strIndexByte_any _ _ _)))
          rw [hix.out]
          go_wp2
          simp +zetaDelta only [Exit.inBlock, Exit.noGoto_ret, Exit.then]
          refine bodyPost_ret (results_tmp rfl _ _ _) rfl ?_
          exact ⟨rfl, below_drewN (Below.refl _ _) _⟩
      · have hne : ((62 : Int) == (d.toNat : Int)) = false := by rw [beq_eq_false_iff_ne]; omega
        have hix := Lib.hid (show Lib.indexByte ByteArray.empty.data.toList ((d.toNat : Int)).toNat.toUInt8 = -1 from rfl)
        go_enter Tryd.func28, Tryd.ntmps28
        go_wp2_with (go_at_call 40; refine (validRune_any c _).mono ?_; rintro e w' ⟨rfl, rfl⟩; rw [hv.out])
        refine wp_scope_straight ?_
        go_wp2_with (refine wpList_conv rfl 21 9 (.tmp 17) rfl _ _ rfl (conv _) ?_)
        go_loop [9, 10] (fun i f => i = .int .i64 2 ∧ f = .int .i64 0) (fun _ _ => 0)
        case atStart => exact ⟨rfl, rfl⟩
        case round =>
          obtain ⟨rfl, rfl⟩ := hrel
          go_wp2_with fail
          refine wp_scope_straight ?_
          go_wp2_with fail
          go_quiet (fail)
          go_wp2_with fail
          go_quiet ((go_at_call 39; exact quiet_eq2 (strIndexByte_any _ _ _)))
          rw [hix.out]
          go_wp2
          simp +zetaDelta only [Exit.inBlock, Exit.noGoto_ret, Exit.then]
          refine bodyPost_ret (results_tmp rfl _ _ _) rfl ?_
          exact ⟨rfl, below_drewN (Below.refl _ _) _⟩
      · go_enter Tryd.func28, Tryd.ntmps28
        go_wp2_with (go_at_call 40; refine (validRune_any c _).mono ?_; rintro e w' ⟨rfl, rfl⟩; rw [hv.out])
        refine wp_scope_straight ?_
        go_wp2_with (refine wpList_conv rfl 21 9 (.tmp 17) rfl _ _ rfl (conv _) ?_)
        go_loop [9, 10] (fun i f => i = .int .i64 3 ∧ f = .int .i64 0) (fun _ _ => 0)
        case atStart => exact ⟨rfl, rfl⟩
        case round =>
          obtain ⟨rfl, rfl⟩ := hrel
          go_wp2
          go_ret
          exact ⟨rfl, Below.refl _ _⟩

/-! ### the walk over the text -/
/-- no sign among the first i bytes -/
def NoSign (l : List UInt8) (i : Nat) : Prop := ∀ j (h : j < l.length), j < i → isSign l[j] = false
theorem signAt_none {l : List UInt8} (h : NoSign l l.length) : signAt l = none := by
  induction l with
  | nil => rfl
  | cons c r ih =>
    have h0 := h 0 (by simp) (by simp)
    simp at h0
    simp only [signAt, h0]
    rw [ih (fun j hj _ => by have := h (j + 1) (by simp; omega) (by simp; omega); simpa using this)]
    rfl
theorem signAt_is {l : List UInt8} {i : Nat} (hi : i < l.length) (h : NoSign l i) (hs : isSign l[i] = true) : signAt l = some i := by
  induction l generalizing i with
  | nil => simp at hi
  | cons c r ih =>
    cases i with
    | zero => simp at hs; simp [signAt, hs]
    | succ k =>
      have h0 := h 0 (by simp) (by simp)
      simp at h0 hs
      simp only [signAt, h0]
      rw [ih (i := k) (by simpa using hi) (fun j hj hjk => by have := h (j + 1) (by simp; omega) (by omega); simpa using this) hs]
      rfl
theorem NoSign.zero (l : List UInt8) : NoSign l 0 := fun _ _ h => absurd h (Nat.not_lt_zero _)
theorem NoSign.succ {l : List UInt8} {i : Nat} (h : NoSign l i) (hi : i < l.length) (hs : isSign l[i] = false) : NoSign l (i + 1) := fun j hj hji => by
  rcases Nat.lt_or_ge j i with hlt | hge
  · exact h j hj hlt
  · obtain rfl : j = i := by omega
    exact hs
/-- IndexAny's answer -/
def signI (l : List UInt8) : Int := match signAt l with
  | some i => i
  | none => -1

theorem isSign_high {c : UInt8} (h : 128 ≤ c.toNat) : isSign c = false := by
  unfold isSign
  rw [Bool.or_eq_false_iff, Bool.or_eq_false_iff]
  refine ⟨⟨?_, ?_⟩, ?_⟩ <;> (rw [beq_eq_false_iff_ne]; rintro rfl; revert h; decide)
theorem indexByte_sign (c : UInt8) : (0 ≤ Lib.indexByte [61, 60, 62] c) ↔ isSign c = true := by
  unfold isSign
  by_cases h1 : c = 61
  · subst h1; decide
  · by_cases h2 : c = 60
    · subst h2; decide
    · by_cases h3 : c = 62
      · subst h3; decide
      · rw [indexByte_of_none (by simp [h1, h2, h3])]
        simp [h1, h2, h3]
theorem span_cont (s : ByteArray) (i k : Nat) (h : k < (Utf8.decode s i).2) : k = 0 ∨ (i + k < s.size ∧ (s.get! (i + k)).toNat / 64 = 2) := by
  rcases k with _ | _ | _ | _ | k
  · exact .inl rfl
  all_goals right
  all_goals simp only [Utf8.decode] at h
  all_goals repeat' split at h
  all_goals first
    | (exfalso; simp at h; done)
    | (exfalso; omega)
    | (simp_all; done)
/-- the bytes of a rune that is no ASCII byte are no signs -/
theorem decode_span (l : List UInt8) (i : Nat) (hi : i < l.length) (h : 128 ≤ l[i].toNat) : ∀ j (hj : j < l.length), i ≤ j → j < i + (Utf8.decode (mkB l) i).2 → isSign l[j] = false := by
  intro j hj hij hji
  obtain ⟨k, rfl⟩ : ∃ k, j = i + k := ⟨j - i, by omega⟩
  rcases span_cont (mkB l) i k (by omega) with rfl | ⟨h1, h2⟩
  · exact isSign_high h
  · refine isSign_high ?_
    have e : (mkB l).get! (i + k) = l[i + k] := by
      show (mkB l).get! (i + k) = (mkB l)[i + k]
      simp [ByteArray.get!, getElem!_pos, h1]
      rfl
    rw [e] at h2
    omega

end Go.Proofs.YtdcfifhmldolhaaDoor
