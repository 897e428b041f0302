/- PackHints: the plain law. -/
import Derived.Test.YthihjipdkhmgkaaHCareL
set_option linter.unusedVariables false
namespace Go.Abs
open Go.ChangeShapes Go.WideShapes
theorem Hints_law {h : Nat → Int} {b : List Int} (hb : ∀ y ∈ b, (Lit.int .u8 y).wf = true) (g : b.length * 1 ≤ 140737488351232) : Fh3 (h, b) = some true :=
  hints_law h (bytes_in hb)
end Go.Abs
