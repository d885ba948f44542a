/-
  What the drawn patterns and paths say, plainly (by looking at each).
-/
import Derived.Test.YtiibodelcfmnpaaDoorGlobQ
import Derived.Test.YtiibodelcfmnpaaDoorDrawGl
namespace Go.Proofs.YtiibodelcfmnpaaDoor
set_option maxRecDepth 1000000

theorem star_top : ∀ s ∈ drawnL, pathOk s = true → pathUp s = [] → globHas [42] s = true ∧ globHas [42, 47, 42] s = false := by decide +kernel
theorem star_in : ∀ s ∈ drawnL, pathOk s = true → pathUp s ≠ [] → globHas [42] s = false ∧ globHas [42, 42, 47, 42] s = true ∧ globHas (pathUp s ++ [47, 42]) s = true ∧ globHas (pathUp s ++ [47, 42, 42]) s = true := by decide +kernel
theorem deep_any : ∀ s ∈ drawnL, pathOk s = true → globHas (42 :: 42 :: 47 :: pathLast s) s = true ∧ globHas (42 :: 42 :: 47 :: (pathLast s ++ [47, 42, 42])) s = true := by decide +kernel
theorem deep_in : ∀ s ∈ drawnL, pathOk s = true → pathUp s ≠ [] → globHas (pathUp s ++ [47, 42, 42]) s = true := by decide +kernel
theorem glob_with : ∀ g ∈ globsL, ∀ s ∈ drawnL, globHas g s = true → globOk (42 :: 42 :: 47 :: g) = true → globHas (42 :: 42 :: 47 :: g) s = true := by decide +kernel
theorem glob_self : ∀ s ∈ drawnL, pathOk s = true → globHas s s = true ∧ globHas [42, 42] s = true := by decide +kernel
theorem glob_bad : ∀ g ∈ globsL, ∀ s ∈ drawnL, pathOk s = false → globHas g s = false := by decide +kernel
theorem glob_ok : ∀ g ∈ globsL, ∀ s ∈ drawnL, globHas g s = true → globOk g = true := by decide +kernel
theorem class_one : ∀ s ∈ drawnL, (pathLast s).length = 1 → globHas (91 :: (pathLast s ++ [45, 93])) (pathLast s) = true ∧ globHas (91 :: 33 :: (pathLast s ++ [93])) (pathLast s) = false ∧ globHas [63] (pathLast s) = true ∧ globHas [63, 63] (pathLast s) = false ∧ globHas (pathLast s ++ [42]) (pathLast s) = true := by decide +kernel
theorem up_short : ∀ s ∈ drawnL, (pathUp s).length ≤ 20 ∧ (pathLast s).length ≤ 20 := by decide +kernel
end Go.Proofs.YtiibodelcfmnpaaDoor
