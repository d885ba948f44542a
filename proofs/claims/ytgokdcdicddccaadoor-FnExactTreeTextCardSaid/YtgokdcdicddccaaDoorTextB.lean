/-
  The builder's String and Itoa of small numbers: the shelf's contracts at this dump.
-/
import Derived.Test.YtgokdcdicddccaaDoorLayB
import Derived.Test.YtgokdcdicddccaaDoorBuild
import Derived.Test.YtgokdcdicddccaaDoorTextP0
namespace Go.Proofs.YtgokdcdicddccaaDoor
open Go.RowKit
set_option linter.unusedVariables false

theorem extraB : Builder.Extra Tryd.prog Tryd.lays169_ren := {
  sizeBuilder := by kernel_rfl
  liesBuilder := by kernel_rfl
  t5 := Tryd.underlying5
  a5 := Tryd.isAgg5
  z5 := Tryd.sizeOf5
  v5 := Tryd.zeroValue5
  infoByte := by kernel_rfl
  cellsByte := by kernel_rfl
  sizeByte := by kernel_rfl
  neB5 := by decide }
theorem String_any (B b : Nat) (l : List UInt8) (w : World) (h : IsB B b (Lib.byteCells l) w) (hBw : B ≤ w.heap.size) :
    Calls Tryd.prog 32 #[.pointer (some ⟨b, 0, none⟩)] w fun e w' => e = .returned (.string (mkB l)) ∧ Below B w w' :=
  Any.Builder_String_any Tryd.lays169 extraB B b l w h hBw
theorem Itoa_any (i : Nat) (hi : i < 100) (w : World) :
    Calls Tryd.prog 30 #[.int .i64 i] w fun e w' => e = .returned (.string (mkB (dd i))) ∧ w' = w :=
  Any.strconv_Itoa_small Tryd.lays171 i hi w
end Go.Proofs.YtgokdcdicddccaaDoor
