/-
  What the drawn laws of trees share.
-/
import Derived.Test.YtiknkjhdieepbaaDoorGH
import Derived.Test.YtiknkjhdieepbaaDoorNilE
import Derived.Test.YtiknkjhdieepbaaDoorFollowP
namespace Go.Proofs.YtiknkjhdieepbaaDoor
open Go.RowKit
set_option linter.unusedVariables false
set_option linter.unusedSimpArgs false
attribute [local go_sem] mkB_size mkB_extract mkB_get mkB_append mkB_append_raw raw_append_mkB mkB_toList

theorem entV_shape (x : Option En) : ∃ (e0 : En) (b : Bool), entV x = .tuple #[.agg #[.string (mkB e0.path), .int .i64 e0.kind, .int .i64 e0.mode, .string (mkB e0.text)], .bool b] ∧ (b = true → x = some e0) ∧ (b = false → x = none) := by
  cases x with
  | none => exact ⟨⟨[], 0, 0, []⟩, false, rfl, (fun h => by cases h), (fun _ => rfl)⟩
  | some e => exact ⟨e, true, rfl, (fun _ => rfl), (fun h => by cases h)⟩
theorem sameE_refl (e : En) : sameE e e = true := sameE_iff.2 rfl
theorem run_eqlE (a b : En) (w : World) : (binOp .eql 30 (enV a) (enV b)).run Tryd.prog w = .ok (.bool (sameE a b)) w := by
  have hS : Tryd.prog.underlying 30 = some (.struct (Tryd.prog.fieldsOf 30)) := by kernel_rfl
  have hp : Tryd.prog.stoodInHeld 30 = false := by kernel_rfl
  have u1 := Tryd.underlying9
  have u2 := Tryd.underlying3
  have a1 := Tryd.isAgg9
  have a2 := Tryd.isAgg3
  have z1 := Tryd.sizeOf9
  have z2 := Tryd.sizeOf3
  rw [run_eql_struct, show (10000 : Nat) = 9999 + 1 from rfl, run_equalIn_struct w 9999 30 _ _ hS hp]
  simp only [Program.fieldsOf, Tryd.underlying30]
  go_simp
  by_cases h1 : a.path = b.path <;> by_cases h2 : a.kind = b.kind <;> by_cases h3 : a.mode = b.mode <;> by_cases h4 : a.text = b.text <;> simp [h1, h2, h3, h4, sameE]
theorem eqlE_cells (p q : List UInt8) (k m k' m' : Int) (t u : List UInt8) {r : Bool} (h : sameE ⟨p, k, m, t⟩ ⟨q, k', m', u⟩ = r) (w : World) : (binOp .eql 30 (.agg #[.string (mkB p), .int .i64 k, .int .i64 m, .string (mkB t)]) (.agg #[.string (mkB q), .int .i64 k', .int .i64 m', .string (mkB u)])).run Tryd.prog w = .ok (.bool r) w := by
  have := run_eqlE ⟨p, k, m, t⟩ ⟨q, k', m', u⟩ w
  rw [h] at this
  exact this
theorem neqD_cells (p q : List UInt8) (k m k' m' : Int) (t u : List UInt8) {r : Bool} (h : sameE ⟨p, k, m, t⟩ ⟨q, k', m', u⟩ = r) (w : World) : (binOp .neq 30 (.agg #[.string (mkB p), .int .i64 k, .int .i64 m, .string (mkB t)]) (.agg #[.string (mkB q), .int .i64 k', .int .i64 m', .string (mkB u)])).run Tryd.prog w = .ok (.bool (!r)) w := run_neqE_is ⟨p, k, m, t⟩ ⟨q, k', m', u⟩ h w
theorem guardD_cells (op : BinOp) (x y : Operand) (p q : List UInt8) (k m k' m' : Int) (t u : List UInt8) (w : World) : (eqGuard op 30 x y (.agg #[.string (mkB p), .int .i64 k, .int .i64 m, .string (mkB t)]) (.agg #[.string (mkB q), .int .i64 k', .int .i64 m', .string (mkB u)])).run Tryd.prog w = .ok () w := guardE op x y ⟨p, k, m, t⟩ ⟨q, k', m', u⟩ w
end Go.Proofs.YtiknkjhdieepbaaDoor
