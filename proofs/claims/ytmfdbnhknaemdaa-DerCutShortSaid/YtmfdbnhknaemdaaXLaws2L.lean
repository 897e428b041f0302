/- More laws of chapter 12, as the claims ask for them. -/
import Derived.Test.YtmfdbnhknaemdaaXCutL
import Derived.Test.YtmfdbnhknaemdaaXVals3L
set_option linter.unusedVariables false
namespace Go.Abs
theorem CutShort_law {x0 : Tree} {x1 : Int} {x2 : List Int} (h0 : TreeOk x0) (h1 : (Lit.int .i64 x1).wf = true) (h2 : ∀ y ∈ x2, (Lit.int .u8 y).wf = true) (g2 : x2.length * 1 ≤ 140737488351232) : Fd7 (x0, x1, x2) = some true := by
  have := bounds_i64 h1
  exact cutShort h0 (by omega) (By.of h2) (by omega)
theorem Bits_law {x0 : Tree} {x1 : List Int} (h0 : TreeOk x0) (h1 : ∀ y ∈ x1, (Lit.int .u8 y).wf = true) (g1 : x1.length * 1 ≤ 140737488351232) : Fd4 (x0, x1) = some true := bits_law h0 (By.of h1) (by omega)
theorem Values_law {x0 : Tree} {x1 : Int} {x2 : Bool} (h0 : TreeOk x0) (h1 : (Lit.int .u64 x1).wf = true) : Fd8 (x0, x1, x2) = some true := by
  have := bounds_u64 h1
  exact values_law h0 (by omega) (by omega)
end Go.Abs
