/-
  No cell of these rows narrows 'for every input' (looked for: loops, veiled, ifaces, maps, wideKeys, modest, calm, conditions, laid).
  DERIVED. THE GIVEN ROWS OF THIS SEAT. 5 by the template 'for every input the law returns true; each argument reads behind the call as it read before'; 0 by the template 'total and deterministic' (their statements: YtancmhkdbckfeaaTotals.lean).
  GIVEN WITH THE SEED: the statements are not yours to turn. If you find one false, say at which input.
  Laid BY PROGRAM, IN A SANDBOX (cutbox-rows.mjs): the forced cells as the released guide's own fill.sh prints them over the translation 4d23af6eb9a79742… (all of the seat's roots in one cut). By AI agents, Wed Nov 11 2026. No macro, syntax, notation, axiom, sorry.
-/
import Derived.Test.YtancmhkdbckfeaaChecked
import GoSem.Claim
import GoSem.ClaimJoined
import GoSem.ClaimMapViews
import Derived.JoinedTies
import Derived.KernelRfl
namespace Go.Proofs.Ytancmhkdbckfeaa
/- THE CELL 'sum', in the pinned program and in every row, IS THE sha256 OF THE DUMP (.gsa) THAT YtancmhkdbckfeaaProg.lean LOADS. Nothing in Lean hashes anything: it is a label: what it is worth is what the hold of that sum in a sandbox is worth. -/
noncomputable def Try.pinned : Pinned := { name := "ytancmhkdbckfeaa", sum := "4d23af6eb9a79742647fbbda834df3448bae70b1e298ee6d5a081ed428549cc0", checked := Try.checked }
namespace Rows
def none {H : Type} : Left H := { results := [], args := [] }

/-- 'barbicanlaw08.RingValues': WHATEVER THE INPUT: true; the input reads as it did. -/
def ringValuesSpec : ChangeSpec := { name := "ringValues", fn := fun _ => fun
  | [d] => { results := [.lit (.bool true)], args := [d] }
  | _ => none }
def ringValuesRow : OpenClaim := { program := "ytancmhkdbckfeaa", sum := "4d23af6eb9a79742647fbbda834df3448bae70b1e298ee6d5a081ed428549cc0", func := "barbican/barbicanlaw08.RingValues", spec := "ringValues", apart := false }
def RingValuesSaid : Prop := ringValuesRow.holds Try.pinned (OpenSpec.ofChange ringValuesSpec)

/-- ITS FALSE NEIGHBOUR: 'it returns false'. Refute it at one input. -/
def ringValuesWrong : ChangeSpec := { name := "ringValues", fn := fun _ => fun
  | [d] => { results := [.lit (.bool false)], args := [d] }
  | _ => none }
def RingValuesWrongFalsely : Prop := ringValuesRow.holds Try.pinned (OpenSpec.ofChange ringValuesWrong)

/-- 'barbicanlaw08.RingParts': WHATEVER THE INPUT: true; the input reads as it did. -/
def ringPartsSpec : ChangeSpec := { name := "ringParts", fn := fun _ => fun
  | [d1, d2, d3] => { results := [.lit (.bool true)], args := [d1, d2, d3] }
  | _ => none }
def ringPartsRow : OpenClaim := { program := "ytancmhkdbckfeaa", sum := "4d23af6eb9a79742647fbbda834df3448bae70b1e298ee6d5a081ed428549cc0", func := "barbican/barbicanlaw08.RingParts", spec := "ringParts", apart := false }
def RingPartsSaid : Prop := ringPartsRow.holds Try.pinned (OpenSpec.ofChange ringPartsSpec)

/-- ITS FALSE NEIGHBOUR: 'it returns false'. Refute it at one input. -/
def ringPartsWrong : ChangeSpec := { name := "ringParts", fn := fun _ => fun
  | [d1, d2, d3] => { results := [.lit (.bool false)], args := [d1, d2, d3] }
  | _ => none }
def RingPartsWrongFalsely : Prop := ringPartsRow.holds Try.pinned (OpenSpec.ofChange ringPartsWrong)

/-- 'barbicanlaw08.RingHints': WHATEVER THE INPUT: true; the input reads as it did. -/
def ringHintsSpec : ChangeSpec := { name := "ringHints", fn := fun _ => fun
  | [d1, d2] => { results := [.lit (.bool true)], args := [d1, d2] }
  | _ => none }
def ringHintsRow : OpenClaim := { program := "ytancmhkdbckfeaa", sum := "4d23af6eb9a79742647fbbda834df3448bae70b1e298ee6d5a081ed428549cc0", func := "barbican/barbicanlaw08.RingHints", spec := "ringHints", apart := false }
def RingHintsSaid : Prop := ringHintsRow.holds Try.pinned (OpenSpec.ofChange ringHintsSpec)

/-- ITS FALSE NEIGHBOUR: 'it returns false'. Refute it at one input. -/
def ringHintsWrong : ChangeSpec := { name := "ringHints", fn := fun _ => fun
  | [d1, d2] => { results := [.lit (.bool false)], args := [d1, d2] }
  | _ => none }
def RingHintsWrongFalsely : Prop := ringHintsRow.holds Try.pinned (OpenSpec.ofChange ringHintsWrong)

/-- 'barbicanlaw08.RingLaws': WHATEVER THE INPUT: true; the input reads as it did. -/
def ringLawsSpec : ChangeSpec := { name := "ringLaws", fn := fun _ => fun
  | [d1, d2, d3] => { results := [.lit (.bool true)], args := [d1, d2, d3] }
  | _ => none }
def ringLawsRow : OpenClaim := { program := "ytancmhkdbckfeaa", sum := "4d23af6eb9a79742647fbbda834df3448bae70b1e298ee6d5a081ed428549cc0", func := "barbican/barbicanlaw08.RingLaws", spec := "ringLaws", apart := false }
def RingLawsSaid : Prop := ringLawsRow.holds Try.pinned (OpenSpec.ofChange ringLawsSpec)

/-- ITS FALSE NEIGHBOUR: 'it returns false'. Refute it at one input. -/
def ringLawsWrong : ChangeSpec := { name := "ringLaws", fn := fun _ => fun
  | [d1, d2, d3] => { results := [.lit (.bool false)], args := [d1, d2, d3] }
  | _ => none }
def RingLawsWrongFalsely : Prop := ringLawsRow.holds Try.pinned (OpenSpec.ofChange ringLawsWrong)

/-- 'barbicanlaw08.RingSums': WHATEVER THE INPUT: true; the input reads as it did. -/
def ringSumsSpec : ChangeSpec := { name := "ringSums", fn := fun _ => fun
  | [d1, d2] => { results := [.lit (.bool true)], args := [d1, d2] }
  | _ => none }
def ringSumsRow : OpenClaim := { program := "ytancmhkdbckfeaa", sum := "4d23af6eb9a79742647fbbda834df3448bae70b1e298ee6d5a081ed428549cc0", func := "barbican/barbicanlaw08.RingSums", spec := "ringSums", apart := false }
def RingSumsSaid : Prop := ringSumsRow.holds Try.pinned (OpenSpec.ofChange ringSumsSpec)

/-- ITS FALSE NEIGHBOUR: 'it returns false'. Refute it at one input. -/
def ringSumsWrong : ChangeSpec := { name := "ringSums", fn := fun _ => fun
  | [d1, d2] => { results := [.lit (.bool false)], args := [d1, d2] }
  | _ => none }
def RingSumsWrongFalsely : Prop := ringSumsRow.holds Try.pinned (OpenSpec.ofChange ringSumsWrong)

/- THE SECOND FORM. 'bulk': how many values and letters a reading holds, each counted each time it is reached (what is shared counts as often as it is met; a slice's spare places count too). A statement '..UptoSaid' is the law's where the arguments, and the package variables that the reading takes, are together of bulk at most 1048576: NARROWER than '..Said'. Prove '..Said' where nothing that the law and all that it calls make is longer than what came in: it says more and counts as full. Else prove '..UptoSaid'. A law counts once. -/
mutual
def uptoBulk {H : Type} : DataW H → Nat
  | .lit (.string bytes) => bytes.length + 1
  | .lit _ => 1
  | .nil => 1
  | .ptr d => uptoBulk d + 1
  | .slice elems spare => uptoBulkAll elems + uptoBulkAll spare + 1
  | .agg parts => uptoBulkAll parts + 1
  | .iface _ d => uptoBulk d + 1
  | .map entries => uptoBulkEntries entries + 1
  | .held _ => 1
def uptoBulkAll {H : Type} : List (DataW H) → Nat
  | [] => 0
  | d :: r => uptoBulk d + uptoBulkAll r
def uptoBulkEntries {H : Type} : List (Lit × DataW H) → Nat
  | [] => 0
  | x :: r => uptoBulkEntry x + uptoBulkEntries r
def uptoBulkEntry {H : Type} : Lit × DataW H → Nat
  | (.string bytes, d) => bytes.length + uptoBulk d + 1
  | (_, d) => uptoBulk d + 1
 end
def uptoSmall : (H : Type) → List (DataW H) → Bool := fun _ ds => decide (uptoBulkAll ds ≤ 1048576)
def OpenSpec.upto (s : _root_.Go.ChangeSpec) : _root_.Go.OpenSpec := { _root_.Go.OpenSpec.ofChange s with cond := some uptoSmall }

/-- 'barbicanlaw08.RingValues', WHERE WHAT IT READS IS OF BULK AT MOST 1048576: true; the input reads as it did. -/
def ringValuesUptoRow : OpenClaim := { program := "ytancmhkdbckfeaa", sum := "4d23af6eb9a79742647fbbda834df3448bae70b1e298ee6d5a081ed428549cc0", func := "barbican/barbicanlaw08.RingValues", spec := "ringValues", apart := false, narrowed := true }
def RingValuesUptoSaid : Prop := ringValuesUptoRow.holds Try.pinned (OpenSpec.upto ringValuesSpec)

/-- 'barbicanlaw08.RingParts', WHERE WHAT IT READS IS OF BULK AT MOST 1048576: true; the input reads as it did. -/
def ringPartsUptoRow : OpenClaim := { program := "ytancmhkdbckfeaa", sum := "4d23af6eb9a79742647fbbda834df3448bae70b1e298ee6d5a081ed428549cc0", func := "barbican/barbicanlaw08.RingParts", spec := "ringParts", apart := false, narrowed := true }
def RingPartsUptoSaid : Prop := ringPartsUptoRow.holds Try.pinned (OpenSpec.upto ringPartsSpec)

/-- 'barbicanlaw08.RingHints', WHERE WHAT IT READS IS OF BULK AT MOST 1048576: true; the input reads as it did. -/
def ringHintsUptoRow : OpenClaim := { program := "ytancmhkdbckfeaa", sum := "4d23af6eb9a79742647fbbda834df3448bae70b1e298ee6d5a081ed428549cc0", func := "barbican/barbicanlaw08.RingHints", spec := "ringHints", apart := false, narrowed := true }
def RingHintsUptoSaid : Prop := ringHintsUptoRow.holds Try.pinned (OpenSpec.upto ringHintsSpec)

/-- 'barbicanlaw08.RingLaws', WHERE WHAT IT READS IS OF BULK AT MOST 1048576: true; the input reads as it did. -/
def ringLawsUptoRow : OpenClaim := { program := "ytancmhkdbckfeaa", sum := "4d23af6eb9a79742647fbbda834df3448bae70b1e298ee6d5a081ed428549cc0", func := "barbican/barbicanlaw08.RingLaws", spec := "ringLaws", apart := false, narrowed := true }
def RingLawsUptoSaid : Prop := ringLawsUptoRow.holds Try.pinned (OpenSpec.upto ringLawsSpec)

/-- 'barbicanlaw08.RingSums', WHERE WHAT IT READS IS OF BULK AT MOST 1048576: true; the input reads as it did. -/
def ringSumsUptoRow : OpenClaim := { program := "ytancmhkdbckfeaa", sum := "4d23af6eb9a79742647fbbda834df3448bae70b1e298ee6d5a081ed428549cc0", func := "barbican/barbicanlaw08.RingSums", spec := "ringSums", apart := false, narrowed := true }
def RingSumsUptoSaid : Prop := ringSumsUptoRow.holds Try.pinned (OpenSpec.upto ringSumsSpec)

end Rows
end Go.Proofs.Ytancmhkdbckfeaa
