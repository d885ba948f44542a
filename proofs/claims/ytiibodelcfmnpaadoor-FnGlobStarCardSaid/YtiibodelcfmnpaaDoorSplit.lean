/-
  The walk of strings.Index at a text of one byte, and of the iterator of strings.SplitSeq at a separator of one byte: it hands over the pieces of the text, in their order.
-/
import Derived.Test.YtiibodelcfmnpaaDoorProg
import Derived.Test.YtiibodelcfmnpaaDoorLaw
import Derived.Test.YtiibodelcfmnpaaDoorPlain
import Derived.Shelf.Abstract
import Derived.Shelf.RegionOpen
import Derived.WalkKit
import Derived.OwnWalkIn
import Derived.TacticsInMore
import Derived.LoopNIn
import Derived.LoopIn
import Derived.Lib.Hide
import Derived.Lib.Bytealg
import Derived.Lib.IndexLaws
import Derived.Lib.IndexBytes
import Derived.BigCall
import Derived.Laws.Strings3
namespace Go.Proofs.YtiibodelcfmnpaaDoor
open Go.RowKit Go.Shelf
attribute [local go_sem] Oper.semAt_some

/-! ### endings -/
theorem ret_bool {a b : Bool} (h : a = b) : Ending.returned (.bool a) = .returned (.bool b) := by rw [h]
theorem ret_int {k : IntKind} {a b : Int} (h : a = b) : Ending.returned (.int k a) = .returned (.int k b) := by rw [h]
theorem ret_str {a b : ByteArray} (h : a = b) : Ending.returned (.string a) = .returned (.string b) := by rw [h]

/-! ### texts -/
def mkB (l : List UInt8) : ByteArray := ⟨l.toArray⟩
theorem mkB_size (l : List UInt8) : (mkB l).size = l.length := by simp [mkB, ByteArray.size]
theorem mkB_data (l : List UInt8) : (mkB l).data.toList = l := by simp [mkB]
theorem mkB_toList (l : List UInt8) : (mkB l).toList = l := by rw [Lib.toList_data, mkB_data]
theorem mkB_self (s : ByteArray) : mkB s.data.toList = s := by cases s; simp [mkB]
theorem mkB_extract (l : List UInt8) (a b : Nat) : (mkB l).extract a b = mkB ((l.drop a).take (b - a)) := by
  rw [← mkB_self ((mkB l).extract a b), Lib.extract_data, mkB_data]
theorem mkB_one : (mkB [47]) = { data := #[47] } := rfl
theorem take_left_len (f r : List UInt8) : (f ++ r).take f.length = f := List.take_left
theorem drop_left_len (f r : List UInt8) (c : UInt8) : (f ++ c :: r).drop (f.length + 1) = r := by
  rw [show f ++ c :: r = (f ++ [c]) ++ r by simp]
  rw [show f.length + 1 = (f ++ [c]).length by simp]
  exact List.drop_left

theorem indexByte_of_none {l : List UInt8} {c : UInt8} (h : c ∉ l) : Lib.indexByte l c = -1 := by
  have hg := Lib.indexByte_ge l c
  rcases Int.lt_or_le (Lib.indexByte l c) 0 with hlt | hge
  · omega
  · obtain ⟨o, ho⟩ := Int.eq_ofNat_of_zero_le hge
    have := (Lib.indexByte_some ho).1
    exact absurd (List.mem_of_getElem? this) h
theorem indexByte_at {f r : List UInt8} {c : UInt8} (h : c ∉ f) : Lib.indexByte (f ++ c :: r) c = f.length := by
  induction f with
  | nil => simp [Lib.indexByte]
  | cons x f ih =>
    have hx : (x == c) = false := by
      rw [beq_eq_false_iff_ne]; rintro rfl; exact h (by simp)
    have hf := ih (fun e => h (by simp [e]))
    simp only [List.cons_append, Lib.indexByte, hx, hf]
    rw [if_neg (by decide), if_neg]
    · simp
    · simp only [beq_iff_eq]; omega

/-! ### strings.Index at one byte -/
set_option maxRecDepth 1000000 in
theorem stringslite_IndexByte (s : ByteArray) (c : Int) (w : World) :
    Calls Tryd.prog 58 #[.string s, .int .u8 c] w fun e w' => e = .returned (.int .i64 (Lib.indexByte s.data.toList c.toNat.toUInt8)) ∧ w = w' := by
  go_enter Tryd.func58, Tryd.ntmps58
  go_wp2
  rw [run_callFunc_extern Tryd.func63 (by kernel_rfl) (by kernel_rfl) (by kernel_rfl) (e := Extern.BytealgIndexByte.indexByte) (by kernel_rfl), Lib.run_indexByteString]
  simp only [Result.andThen]
  rw [Oper.upon_value]
  go_wp2
  go_ret
  exact ⟨rfl, rfl⟩

theorem stringslite_Index_one (s : ByteArray) (c : UInt8) (w : World) :
    Calls Tryd.prog 62 #[.string s, .string (mkB [c])] w fun e w' => e = .returned (.int .i64 (Lib.indexByte s.data.toList c)) ∧ w = w' := by
  unfold mkB
  go_enter Tryd.func62, Tryd.ntmps62
  go_wp2_with (go_at_call 58; refine (stringslite_IndexByte _ _ _).mono ?_; rintro e w' ⟨rfl, rfl⟩)
  · have h : ([c] == s.toList) = true := by assumption
    go_ret
    refine ⟨ret_int ?_, rfl⟩
    rw [← Lib.toList_data, ← eq_of_beq h]
    simp [Lib.indexByte]
  · go_ret
    refine ⟨ret_int ?_, rfl⟩
    rfl

theorem strings_Index_one (s : ByteArray) (c : UInt8) (w : World) :
    Calls Tryd.prog 55 #[.string s, .string (mkB [c])] w fun e w' => e = .returned (.int .i64 (Lib.indexByte s.data.toList c)) ∧ w = w' := by
  go_enter Tryd.func55, Tryd.ntmps55
  go_wp2_with (go_at_call 62; refine (stringslite_Index_one _ _ _).mono ?_; rintro e w' ⟨rfl, rfl⟩)
  go_ret
  exact ⟨rfl, rfl⟩
theorem index_none (l : List UInt8) (c : UInt8) (h : c ∉ l) (w : World) :
    Calls Tryd.prog 55 #[.string (mkB l), .string (mkB [c])] w fun e w' => e = .returned (.int .i64 (-1)) ∧ w = w' := by
  refine (strings_Index_one _ _ _).mono ?_
  rintro e w' ⟨rfl, rfl⟩
  rw [mkB_data, indexByte_of_none h]
  exact ⟨rfl, rfl⟩
theorem index_at (f r : List UInt8) (c : UInt8) (h : c ∉ f) (w : World) :
    Calls Tryd.prog 55 #[.string (mkB (f ++ c :: r)), .string (mkB [c])] w fun e w' => e = .returned (.int .i64 f.length) ∧ w = w' := by
  refine (strings_Index_one _ _ _).mono ?_
  rintro e w' ⟨rfl, rfl⟩
  rw [mkB_data, indexByte_at h]
  exact ⟨rfl, rfl⟩


/-! ### the iterator -/
attribute [local go_sem] mkB_size mkB_extract take_left_len drop_left_len
def KpB (bs : Nat) (W W' : World) : Prop := ∀ k, bs ≤ k → k ≤ bs + 2 → W'.heap[k]? = W.heap[k]?
theorem kpB_t {bs : Nat} {A B C : World} (h : KpB bs A B) (k : KpB bs B C) : KpB bs A C := fun i h1 h2 => (k i h1 h2).trans (h i h1 h2)
theorem kpB_g {bs : Nat} {w : World} (hz : bs + 2 < w.heap.size) (W W' : World) (row : Option Nat) (hg : W.grownBy W' row) (hW : w.heap.size ≤ W.heap.size) (hr : ∀ r, row = some r → w.heap.size ≤ r) : KpB bs W W' :=
  fun i _ h2 => hg.block i (by omega) (fun e => by have := hr i e.symm; omega)
theorem KpB.boxed {bs : Nat} {W W' : World} (h : KpB bs W W') {k : Nat} {t : TypeId} {v : Value} (h1 : bs ≤ k) (h2 : k ≤ bs + 2) (hb : Boxed W k t v) : Boxed W' k t v := (h k h1 h2).trans hb
/-- how much of the text is left -/
def leftOf (bs : Nat) (w : World) : Nat := match w.cell? ⟨bs, 0, none⟩ with
  | some (.string s) => s.size
  | _ => 0
theorem leftOf_eq {bs : Nat} {w : World} {t : TypeId} {l : List UInt8} (h : Boxed w bs t (.string (mkB l))) : leftOf bs w = l.length := by
  unfold leftOf; rw [h.cell]; simp [mkB_size]

set_option maxRecDepth 1000000 in
set_option maxHeartbeats 1000000 in
theorem iter_box (n : Nat) (hn : 1 ≤ n) (l : List UInt8) (hl : l.length ≤ 140737488355328) (c : UInt8) (bs : Nat) (w : World)
    (hs : Boxed w bs 9 (.string (mkB l))) (hp : Boxed w (bs + 1) 9 (.string (mkB [c]))) (hz : Boxed w (bs + 1 + 1) 3 (.int .i64 0)) :
    SeqBox Fence.wide n Tryd.prog 53 #[.pointer (some ⟨bs + 1, 0, none⟩), .pointer (some ⟨bs, 0, none⟩), .pointer (some ⟨bs + 1 + 1, 0, none⟩)] (fun x => .string (mkB x)) bs (KpB bs) (cut c l) w := by
  intro lp J Jx W hW hzW hJ hY h0
  dsimp only at hY
  have hl0 := Lib.hid hl
  clear hl
  replace hs : Boxed W bs 9 (.string (mkB l)) := hW.boxed (Nat.le_refl _) (by omega) hs
  replace hp : Boxed W (bs + 1) 9 (.string (mkB [c])) := hW.boxed (by omega) (by omega) hp
  replace hz : Boxed W (bs + 1 + 1) 3 (.int .i64 0) := hW.boxed (by omega) (by omega) hz
  clear hW hzW
  have hpc := hp.cell
  have hsc := hs.cell
  refine callsIn_of_wp Tryd.func53 rfl trivial ?_ rfl
  simp only [Tryd.ntmps53, List.size_toArray, List.length_cons, List.length_nil, Nat.reduceAdd, Nat.reduceSub, Array.replicate_succ, Array.replicate_zero, List.push_toArray, List.append_toArray, List.nil_append, List.cons_append]
  gi_wp2
  gi_loopw [7] (fun _ wr => ∃ (pre : List (List UInt8)) (rest : List UInt8), cut c l = pre ++ cut c rest ∧ rest.length ≤ l.length ∧ Boxed wr bs 9 (.string (mkB rest)) ∧ Boxed wr (bs + 1) 9 (.string (mkB [c])) ∧ Boxed wr (bs + 1 + 1) 3 (.int .i64 0) ∧ J pre wr)
    (fun _ wr => leftOf bs wr)
  case atStart => exact ⟨[], l, rfl, Nat.le_refl _, hs, hp, hz, h0⟩
  case round =>
    clear hpc hsc hs hp hz h0
    obtain ⟨pre, rest, hcut, hlen, hs, hp, hz, hJs⟩ := hrel
    have hcut' := Lib.hid hcut
    clear hcut
    have hsc := hs.cell
    have hpc := hp.cell
    have hzc := hz.cell
    have hsf := hs.frozen
    rcases split_first c rest with hno | ⟨f, r, hf, rfl⟩
    · obtain ⟨fn, tmps, assign, body, hy, hR⟩ := hY pre rest wr hJs (by rw [hcut'.out, cut_none hno]; exact List.prefix_refl _)
      clear hY
      gi_wp2_with (refine ⟨trivial, ?_⟩; gi_at_call 55; refine (callsIn_wide.2 (index_none _ _ hno _)).mono ?_; rintro e w' ⟨rfl, rfl⟩)
      refine hR.mono ?_
      rintro e W' (⟨rfl, hJ', hk⟩ | ⟨rfl, hJx'⟩)
      all_goals gi_wp2
      all_goals go_end0
      · exact ⟨⟨_, rfl⟩, .inl (by rw [hcut'.out, cut_none hno]; exact hJ')⟩
      · exact ⟨⟨_, rfl⟩, .inr ⟨_, by rw [hcut'.out, cut_none hno]; exact List.prefix_refl _, hJx'⟩⟩
    · have hcc : cut c (f ++ c :: r) = f :: cut c r := cut_cons hf
      obtain ⟨fn, tmps, assign, body, hy, hR⟩ := hY pre f wr hJs (by rw [hcut'.out, hcc]; exact ⟨cut c r, by simp⟩)
      clear hY
      have hcc' := Lib.hid hcc
      clear hcc
      have hb : f.length + r.length + 1 ≤ l.length := by simp at hlen; omega
      have hb2 := hl0.out
      clear hlen
      gi_wp2_with (refine ⟨trivial, ?_⟩; gi_at_call 55; refine (callsIn_wide.2 (index_at _ _ _ hf _)).mono ?_; rintro e w' ⟨rfl, rfl⟩)
      refine hR.mono ?_
      rintro e W' (⟨rfl, hJ', hk⟩ | ⟨rfl, hJx'⟩)
      · have hleft := Lib.hid (leftOf_eq hs)
        replace hs := hk.boxed (Nat.le_refl _) (by omega) hs
        replace hp := hk.boxed (by omega) (by omega) hp
        replace hz := hk.boxed (by omega) (by omega) hz
        have hsc := hs.cell
        have hpc := hp.cell
        have hsf := hs.frozen
        gi_wp2
        have htk : List.take (f.length + (r.length + 1) - (f.length + 1)) r = r := List.take_of_length_le (by omega)
        rw [htk]
        clear htk
        go_roundw
        case rel =>
          refine ⟨pre ++ [f], r, by rw [hcut'.out, hcc'.out]; simp, by omega, hs.set _, hp.other (by omega) _, hz.other (by omega) _, hJ _ _ _ hJ' (grownBy_setCell' _ _ _)⟩
        case measure =>
          rw [leftOf_eq (hs.set _), hleft.out]
          simp
          omega
      · gi_wp2
        refine bodyPost_ret (results_none rfl _ _ _) rfl ?_
        exact ⟨⟨_, rfl⟩, .inr ⟨_, by rw [hcut'.out, hcc'.out]; exact ⟨cut c r, by simp⟩, hJx'⟩⟩

end Go.Proofs.YtiibodelcfmnpaaDoor
