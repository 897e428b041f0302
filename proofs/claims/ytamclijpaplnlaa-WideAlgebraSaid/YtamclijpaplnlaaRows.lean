/-
  No cell of these rows narrows 'for every input' (looked for: loops, veiled, ifaces, maps, wideKeys, modest, calm, conditions, laid).
  DERIVED. THE GIVEN ROWS OF THIS SEAT. 6 by the template 'for every input the law returns true; each argument reads behind the call as it read before'; 0 by the template 'total and deterministic' (their statements: YtamclijpaplnlaaTotals.lean).
  GIVEN WITH THE SEED: the statements are not yours to turn. If you find one false, say at which input.
  Laid BY PROGRAM, IN A SANDBOX (cutbox-rows.mjs): the forced cells as the released guide's own fill.sh prints them over the translation dcf6510f68779516… (all of the seat's roots in one cut). By AI agents, Wed Nov 11 2026. No macro, syntax, notation, axiom, sorry.
-/
import Derived.Test.YtamclijpaplnlaaChecked
import GoSem.Claim
import GoSem.ClaimJoined
import GoSem.ClaimMapViews
import Derived.JoinedTies
import Derived.KernelRfl
namespace Go.Proofs.Ytamclijpaplnlaa
/- THE CELL 'sum', in the pinned program and in every row, IS THE sha256 OF THE DUMP (.gsa) THAT YtamclijpaplnlaaProg.lean LOADS. Nothing in Lean hashes anything: it is a label: what it is worth is what the hold of that sum in a sandbox is worth. -/
noncomputable def Try.pinned : Pinned := { name := "ytamclijpaplnlaa", sum := "dcf6510f687795162fb5bedd87cbe71a326745c3392870afd63a95cdb932b7c1", checked := Try.checked }
namespace Rows
def none {H : Type} : Left H := { results := [], args := [] }

/-- 'barbicanlaw04.WideSums': WHATEVER THE INPUT: true; the input reads as it did. -/
def wideSumsSpec : ChangeSpec := { name := "wideSums", fn := fun _ => fun
  | [d1, d2] => { results := [.lit (.bool true)], args := [d1, d2] }
  | _ => none }
def wideSumsRow : OpenClaim := { program := "ytamclijpaplnlaa", sum := "dcf6510f687795162fb5bedd87cbe71a326745c3392870afd63a95cdb932b7c1", func := "barbican/barbicanlaw04.WideSums", spec := "wideSums", inPlace := ["math/bits.Sub64", "math/bits.Add64"], apart := false }
def WideSumsSaid : Prop := wideSumsRow.holds Try.pinned (OpenSpec.ofChange wideSumsSpec)

/-- ITS FALSE NEIGHBOUR: 'it returns false'. Refute it at one input. -/
def wideSumsWrong : ChangeSpec := { name := "wideSums", fn := fun _ => fun
  | [d1, d2] => { results := [.lit (.bool false)], args := [d1, d2] }
  | _ => none }
def WideSumsWrongFalsely : Prop := wideSumsRow.holds Try.pinned (OpenSpec.ofChange wideSumsWrong)

/-- 'barbicanlaw04.WideShifts': WHATEVER THE INPUT: true; the input reads as it did. -/
def wideShiftsSpec : ChangeSpec := { name := "wideShifts", fn := fun _ => fun
  | [d1, d2] => { results := [.lit (.bool true)], args := [d1, d2] }
  | _ => none }
def wideShiftsRow : OpenClaim := { program := "ytamclijpaplnlaa", sum := "dcf6510f687795162fb5bedd87cbe71a326745c3392870afd63a95cdb932b7c1", func := "barbican/barbicanlaw04.WideShifts", spec := "wideShifts", inPlace := ["math/bits.Sub64", "math/bits.Add64"], apart := false }
def WideShiftsSaid : Prop := wideShiftsRow.holds Try.pinned (OpenSpec.ofChange wideShiftsSpec)

/-- ITS FALSE NEIGHBOUR: 'it returns false'. Refute it at one input. -/
def wideShiftsWrong : ChangeSpec := { name := "wideShifts", fn := fun _ => fun
  | [d1, d2] => { results := [.lit (.bool false)], args := [d1, d2] }
  | _ => none }
def WideShiftsWrongFalsely : Prop := wideShiftsRow.holds Try.pinned (OpenSpec.ofChange wideShiftsWrong)

/-- 'barbicanlaw04.WideBytes': WHATEVER THE INPUT: true; the input reads as it did. -/
def wideBytesSpec : ChangeSpec := { name := "wideBytes", fn := fun _ => fun
  | [d1, d2, d3] => { results := [.lit (.bool true)], args := [d1, d2, d3] }
  | _ => none }
def wideBytesRow : OpenClaim := { program := "ytamclijpaplnlaa", sum := "dcf6510f687795162fb5bedd87cbe71a326745c3392870afd63a95cdb932b7c1", func := "barbican/barbicanlaw04.WideBytes", spec := "wideBytes", inPlace := ["math/bits.Sub64", "math/bits.Add64"], apart := false }
def WideBytesSaid : Prop := wideBytesRow.holds Try.pinned (OpenSpec.ofChange wideBytesSpec)

/-- ITS FALSE NEIGHBOUR: 'it returns false'. Refute it at one input. -/
def wideBytesWrong : ChangeSpec := { name := "wideBytes", fn := fun _ => fun
  | [d1, d2, d3] => { results := [.lit (.bool false)], args := [d1, d2, d3] }
  | _ => none }
def WideBytesWrongFalsely : Prop := wideBytesRow.holds Try.pinned (OpenSpec.ofChange wideBytesWrong)

/-- 'barbicanlaw04.WideReduces': WHATEVER THE INPUT: true; the input reads as it did. -/
def wideReducesSpec : ChangeSpec := { name := "wideReduces", fn := fun _ => fun
  | [d1, d2] => { results := [.lit (.bool true)], args := [d1, d2] }
  | _ => none }
def wideReducesRow : OpenClaim := { program := "ytamclijpaplnlaa", sum := "dcf6510f687795162fb5bedd87cbe71a326745c3392870afd63a95cdb932b7c1", func := "barbican/barbicanlaw04.WideReduces", spec := "wideReduces", inPlace := ["math/bits.Sub64", "math/bits.Add64"], apart := false }
def WideReducesSaid : Prop := wideReducesRow.holds Try.pinned (OpenSpec.ofChange wideReducesSpec)

/-- ITS FALSE NEIGHBOUR: 'it returns false'. Refute it at one input. -/
def wideReducesWrong : ChangeSpec := { name := "wideReduces", fn := fun _ => fun
  | [d1, d2] => { results := [.lit (.bool false)], args := [d1, d2] }
  | _ => none }
def WideReducesWrongFalsely : Prop := wideReducesRow.holds Try.pinned (OpenSpec.ofChange wideReducesWrong)

/-- 'barbicanlaw04.WideAlgebra': WHATEVER THE INPUT: true; the input reads as it did. -/
def wideAlgebraSpec : ChangeSpec := { name := "wideAlgebra", fn := fun _ => fun
  | [d1, d2, d3] => { results := [.lit (.bool true)], args := [d1, d2, d3] }
  | _ => none }
def wideAlgebraRow : OpenClaim := { program := "ytamclijpaplnlaa", sum := "dcf6510f687795162fb5bedd87cbe71a326745c3392870afd63a95cdb932b7c1", func := "barbican/barbicanlaw04.WideAlgebra", spec := "wideAlgebra", inPlace := ["math/bits.Sub64", "math/bits.Add64"], apart := false }
def WideAlgebraSaid : Prop := wideAlgebraRow.holds Try.pinned (OpenSpec.ofChange wideAlgebraSpec)

/-- ITS FALSE NEIGHBOUR: 'it returns false'. Refute it at one input. -/
def wideAlgebraWrong : ChangeSpec := { name := "wideAlgebra", fn := fun _ => fun
  | [d1, d2, d3] => { results := [.lit (.bool false)], args := [d1, d2, d3] }
  | _ => none }
def WideAlgebraWrongFalsely : Prop := wideAlgebraRow.holds Try.pinned (OpenSpec.ofChange wideAlgebraWrong)

/-- 'barbicanlaw04.WideProducts': WHATEVER THE INPUT: true; the input reads as it did. -/
def wideProductsSpec : ChangeSpec := { name := "wideProducts", fn := fun _ => fun
  | [d1, d2, d3] => { results := [.lit (.bool true)], args := [d1, d2, d3] }
  | _ => none }
def wideProductsRow : OpenClaim := { program := "ytamclijpaplnlaa", sum := "dcf6510f687795162fb5bedd87cbe71a326745c3392870afd63a95cdb932b7c1", func := "barbican/barbicanlaw04.WideProducts", spec := "wideProducts", inPlace := ["math/bits.Sub64", "math/bits.Add64"], apart := false }
def WideProductsSaid : Prop := wideProductsRow.holds Try.pinned (OpenSpec.ofChange wideProductsSpec)

/-- ITS FALSE NEIGHBOUR: 'it returns false'. Refute it at one input. -/
def wideProductsWrong : ChangeSpec := { name := "wideProducts", fn := fun _ => fun
  | [d1, d2, d3] => { results := [.lit (.bool false)], args := [d1, d2, d3] }
  | _ => none }
def WideProductsWrongFalsely : Prop := wideProductsRow.holds Try.pinned (OpenSpec.ofChange wideProductsWrong)

/- THE SECOND FORM. 'bulk': how many values and letters a reading holds, each counted each time it is reached (what is shared counts as often as it is met; a slice's spare places count too). A statement '..UptoSaid' is the law's where the arguments, and the package variables that the reading takes, are together of bulk at most 1048576: NARROWER than '..Said'. Prove '..Said' where nothing that the law and all that it calls make is longer than what came in: it says more and counts as full. Else prove '..UptoSaid'. A law counts once. -/
mutual
def uptoBulk {H : Type} : DataW H → Nat
  | .lit (.string bytes) => bytes.length + 1
  | .lit _ => 1
  | .nil => 1
  | .ptr d => uptoBulk d + 1
  | .slice elems spare => uptoBulkAll elems + uptoBulkAll spare + 1
  | .agg parts => uptoBulkAll parts + 1
  | .iface _ d => uptoBulk d + 1
  | .map entries => uptoBulkEntries entries + 1
  | .held _ => 1
def uptoBulkAll {H : Type} : List (DataW H) → Nat
  | [] => 0
  | d :: r => uptoBulk d + uptoBulkAll r
def uptoBulkEntries {H : Type} : List (Lit × DataW H) → Nat
  | [] => 0
  | x :: r => uptoBulkEntry x + uptoBulkEntries r
def uptoBulkEntry {H : Type} : Lit × DataW H → Nat
  | (.string bytes, d) => bytes.length + uptoBulk d + 1
  | (_, d) => uptoBulk d + 1
 end
def uptoSmall : (H : Type) → List (DataW H) → Bool := fun _ ds => decide (uptoBulkAll ds ≤ 1048576)
def OpenSpec.upto (s : _root_.Go.ChangeSpec) : _root_.Go.OpenSpec := { _root_.Go.OpenSpec.ofChange s with cond := some uptoSmall }

/-- 'barbicanlaw04.WideSums', WHERE WHAT IT READS IS OF BULK AT MOST 1048576: true; the input reads as it did. -/
def wideSumsUptoRow : OpenClaim := { program := "ytamclijpaplnlaa", sum := "dcf6510f687795162fb5bedd87cbe71a326745c3392870afd63a95cdb932b7c1", func := "barbican/barbicanlaw04.WideSums", spec := "wideSums", inPlace := ["math/bits.Sub64", "math/bits.Add64"], apart := false, narrowed := true }
def WideSumsUptoSaid : Prop := wideSumsUptoRow.holds Try.pinned (OpenSpec.upto wideSumsSpec)

/-- 'barbicanlaw04.WideShifts', WHERE WHAT IT READS IS OF BULK AT MOST 1048576: true; the input reads as it did. -/
def wideShiftsUptoRow : OpenClaim := { program := "ytamclijpaplnlaa", sum := "dcf6510f687795162fb5bedd87cbe71a326745c3392870afd63a95cdb932b7c1", func := "barbican/barbicanlaw04.WideShifts", spec := "wideShifts", inPlace := ["math/bits.Sub64", "math/bits.Add64"], apart := false, narrowed := true }
def WideShiftsUptoSaid : Prop := wideShiftsUptoRow.holds Try.pinned (OpenSpec.upto wideShiftsSpec)

/-- 'barbicanlaw04.WideBytes', WHERE WHAT IT READS IS OF BULK AT MOST 1048576: true; the input reads as it did. -/
def wideBytesUptoRow : OpenClaim := { program := "ytamclijpaplnlaa", sum := "dcf6510f687795162fb5bedd87cbe71a326745c3392870afd63a95cdb932b7c1", func := "barbican/barbicanlaw04.WideBytes", spec := "wideBytes", inPlace := ["math/bits.Sub64", "math/bits.Add64"], apart := false, narrowed := true }
def WideBytesUptoSaid : Prop := wideBytesUptoRow.holds Try.pinned (OpenSpec.upto wideBytesSpec)

/-- 'barbicanlaw04.WideReduces', WHERE WHAT IT READS IS OF BULK AT MOST 1048576: true; the input reads as it did. -/
def wideReducesUptoRow : OpenClaim := { program := "ytamclijpaplnlaa", sum := "dcf6510f687795162fb5bedd87cbe71a326745c3392870afd63a95cdb932b7c1", func := "barbican/barbicanlaw04.WideReduces", spec := "wideReduces", inPlace := ["math/bits.Sub64", "math/bits.Add64"], apart := false, narrowed := true }
def WideReducesUptoSaid : Prop := wideReducesUptoRow.holds Try.pinned (OpenSpec.upto wideReducesSpec)

/-- 'barbicanlaw04.WideAlgebra', WHERE WHAT IT READS IS OF BULK AT MOST 1048576: true; the input reads as it did. -/
def wideAlgebraUptoRow : OpenClaim := { program := "ytamclijpaplnlaa", sum := "dcf6510f687795162fb5bedd87cbe71a326745c3392870afd63a95cdb932b7c1", func := "barbican/barbicanlaw04.WideAlgebra", spec := "wideAlgebra", inPlace := ["math/bits.Sub64", "math/bits.Add64"], apart := false, narrowed := true }
def WideAlgebraUptoSaid : Prop := wideAlgebraUptoRow.holds Try.pinned (OpenSpec.upto wideAlgebraSpec)

/-- 'barbicanlaw04.WideProducts', WHERE WHAT IT READS IS OF BULK AT MOST 1048576: true; the input reads as it did. -/
def wideProductsUptoRow : OpenClaim := { program := "ytamclijpaplnlaa", sum := "dcf6510f687795162fb5bedd87cbe71a326745c3392870afd63a95cdb932b7c1", func := "barbican/barbicanlaw04.WideProducts", spec := "wideProducts", inPlace := ["math/bits.Sub64", "math/bits.Add64"], apart := false, narrowed := true }
def WideProductsUptoSaid : Prop := wideProductsUptoRow.holds Try.pinned (OpenSpec.upto wideProductsSpec)

end Rows
end Go.Proofs.Ytamclijpaplnlaa
