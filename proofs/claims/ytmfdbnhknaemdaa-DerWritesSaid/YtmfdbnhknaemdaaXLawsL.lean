/- The laws of chapter 12, as the claims ask for them. -/
import Derived.Test.YtmfdbnhknaemdaaXSameL
set_option linter.unusedVariables false
namespace Go.Abs
theorem Writes_law {x0 : Tree} (h0 : TreeOk x0) : Fd5 x0 = some true := writes h0
theorem OneForm_law {x0 : Tree} {x1 : List Int} (h0 : TreeOk x0) (h1 : ∀ y ∈ x1, (Lit.int .u8 y).wf = true) (g1 : x1.length * 1 ≤ 140737488351232) : Fd6 (x0, x1) = some true := oneForm h0 (By.of h1) (by omega)
end Go.Abs
