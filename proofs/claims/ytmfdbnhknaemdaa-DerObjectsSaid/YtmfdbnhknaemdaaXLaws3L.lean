/- The law of objects' names, as the claim asks for it. -/
import Derived.Test.YtmfdbnhknaemdaaXOid3L
set_option linter.unusedVariables false
namespace Go.Abs
theorem Objects_law {x0 : Tree} {x1 : List Int} (h0 : TreeOk x0) (h1 : ∀ y ∈ x1, (Lit.int .u64 y).wf = true) (g1 : x1.length * 8 ≤ 140737488351232) : Fd9 (x0, x1) = some true :=
  objects_law h0 (fun y hy => by have := bounds_u64 (h1 y hy); omega) (by omega)
end Go.Abs
