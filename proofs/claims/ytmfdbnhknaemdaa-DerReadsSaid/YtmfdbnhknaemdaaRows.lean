/-
  NARROWER THAN 'FOR EVERY INPUT', by the rows' own cells (each row's printed sentence says how): DerBits: loops · DerWrites: loops · DerOneForm: loops · DerCutShort: loops · DerValues: loops · DerObjects: loops.
  DERIVED. THE GIVEN ROWS OF THIS SEAT. 7 by the template 'for every input the law returns true; each argument reads behind the call as it read before'; 0 by the template 'total and deterministic' (their statements: YtmfdbnhknaemdaaTotals.lean).
  GIVEN WITH THE SEED: the statements are not yours to turn. If you find one false, say at which input.
  Laid BY PROGRAM, IN A SANDBOX (cutbox-rows.mjs): the forced cells as the released guide's own fill.sh prints them over the translation cefd1f84965a94ed… (all of the seat's roots in one cut). By AI agents, Wed Nov 11 2026. No macro, syntax, notation, axiom, sorry.
-/
import Derived.Test.YtmfdbnhknaemdaaChecked
import GoSem.Claim
import GoSem.ClaimJoined
import GoSem.ClaimMapViews
import Derived.JoinedTies
import Derived.KernelRfl
namespace Go.Proofs.Ytmfdbnhknaemdaa
/- THE CELL 'sum', in the pinned program and in every row, IS THE sha256 OF THE DUMP (.gsa) THAT YtmfdbnhknaemdaaProg.lean LOADS. Nothing in Lean hashes anything: it is a label: what it is worth is what the hold of that sum in a sandbox is worth. -/
noncomputable def Try.pinned : Pinned := { name := "ytmfdbnhknaemdaa", sum := "cefd1f84965a94ed60f43a2bccfd044dd4bc261058aef8ef47bc7e43940603d0", checked := Try.checked }
namespace Rows
def none {H : Type} : Left H := { results := [], args := [] }

/-- 'barbicanlaw12.DerReads': WHATEVER THE INPUT: true; the input reads as it did. -/
def derReadsSpec : ChangeSpec := { name := "derReads", fn := fun _ => fun
  | [d] => { results := [.lit (.bool true)], args := [d] }
  | _ => none }
def derReadsRow : OpenClaim := { program := "ytmfdbnhknaemdaa", sum := "cefd1f84965a94ed60f43a2bccfd044dd4bc261058aef8ef47bc7e43940603d0", func := "barbican/barbicanlaw12.DerReads", spec := "derReads", unfollowed := true, recurses := true, apart := false }
def DerReadsSaid : Prop := derReadsRow.holds Try.pinned (OpenSpec.ofChange derReadsSpec)

/-- ITS FALSE NEIGHBOUR: 'it returns false'. Refute it at one input. -/
def derReadsWrong : ChangeSpec := { name := "derReads", fn := fun _ => fun
  | [d] => { results := [.lit (.bool false)], args := [d] }
  | _ => none }
def DerReadsWrongFalsely : Prop := derReadsRow.holds Try.pinned (OpenSpec.ofChange derReadsWrong)

/-- 'barbicanlaw12.DerBits': WHATEVER THE INPUT: true; the input reads as it did. -/
def derBitsSpec : ChangeSpec := { name := "derBits", fn := fun _ => fun
  | [d1, d2] => { results := [.lit (.bool true)], args := [d1, d2] }
  | _ => none }
def derBitsRow : OpenClaim := { program := "ytmfdbnhknaemdaa", sum := "cefd1f84965a94ed60f43a2bccfd044dd4bc261058aef8ef47bc7e43940603d0", func := "barbican/barbicanlaw12.DerBits", spec := "derBits", unfollowed := true, recurses := true, loops := true, apart := false }
def DerBitsSaid : Prop := derBitsRow.holds Try.pinned (OpenSpec.ofChange derBitsSpec)

/-- ITS FALSE NEIGHBOUR: 'it returns false'. Refute it at one input. -/
def derBitsWrong : ChangeSpec := { name := "derBits", fn := fun _ => fun
  | [d1, d2] => { results := [.lit (.bool false)], args := [d1, d2] }
  | _ => none }
def DerBitsWrongFalsely : Prop := derBitsRow.holds Try.pinned (OpenSpec.ofChange derBitsWrong)

/-- 'barbicanlaw12.DerWrites': WHATEVER THE INPUT: true; the input reads as it did. -/
def derWritesSpec : ChangeSpec := { name := "derWrites", fn := fun _ => fun
  | [d] => { results := [.lit (.bool true)], args := [d] }
  | _ => none }
def derWritesRow : OpenClaim := { program := "ytmfdbnhknaemdaa", sum := "cefd1f84965a94ed60f43a2bccfd044dd4bc261058aef8ef47bc7e43940603d0", func := "barbican/barbicanlaw12.DerWrites", spec := "derWrites", unfollowed := true, recurses := true, loops := true, apart := false }
def DerWritesSaid : Prop := derWritesRow.holds Try.pinned (OpenSpec.ofChange derWritesSpec)

/-- ITS FALSE NEIGHBOUR: 'it returns false'. Refute it at one input. -/
def derWritesWrong : ChangeSpec := { name := "derWrites", fn := fun _ => fun
  | [d] => { results := [.lit (.bool false)], args := [d] }
  | _ => none }
def DerWritesWrongFalsely : Prop := derWritesRow.holds Try.pinned (OpenSpec.ofChange derWritesWrong)

/-- 'barbicanlaw12.DerOneForm': WHATEVER THE INPUT: true; the input reads as it did. -/
def derOneFormSpec : ChangeSpec := { name := "derOneForm", fn := fun _ => fun
  | [d1, d2] => { results := [.lit (.bool true)], args := [d1, d2] }
  | _ => none }
def derOneFormRow : OpenClaim := { program := "ytmfdbnhknaemdaa", sum := "cefd1f84965a94ed60f43a2bccfd044dd4bc261058aef8ef47bc7e43940603d0", func := "barbican/barbicanlaw12.DerOneForm", spec := "derOneForm", unfollowed := true, recurses := true, loops := true, apart := false }
def DerOneFormSaid : Prop := derOneFormRow.holds Try.pinned (OpenSpec.ofChange derOneFormSpec)

/-- ITS FALSE NEIGHBOUR: 'it returns false'. Refute it at one input. -/
def derOneFormWrong : ChangeSpec := { name := "derOneForm", fn := fun _ => fun
  | [d1, d2] => { results := [.lit (.bool false)], args := [d1, d2] }
  | _ => none }
def DerOneFormWrongFalsely : Prop := derOneFormRow.holds Try.pinned (OpenSpec.ofChange derOneFormWrong)

/-- 'barbicanlaw12.DerCutShort': WHATEVER THE INPUT: true; the input reads as it did. -/
def derCutShortSpec : ChangeSpec := { name := "derCutShort", fn := fun _ => fun
  | [d1, d2, d3] => { results := [.lit (.bool true)], args := [d1, d2, d3] }
  | _ => none }
def derCutShortRow : OpenClaim := { program := "ytmfdbnhknaemdaa", sum := "cefd1f84965a94ed60f43a2bccfd044dd4bc261058aef8ef47bc7e43940603d0", func := "barbican/barbicanlaw12.DerCutShort", spec := "derCutShort", unfollowed := true, recurses := true, loops := true, apart := false }
def DerCutShortSaid : Prop := derCutShortRow.holds Try.pinned (OpenSpec.ofChange derCutShortSpec)

/-- ITS FALSE NEIGHBOUR: 'it returns false'. Refute it at one input. -/
def derCutShortWrong : ChangeSpec := { name := "derCutShort", fn := fun _ => fun
  | [d1, d2, d3] => { results := [.lit (.bool false)], args := [d1, d2, d3] }
  | _ => none }
def DerCutShortWrongFalsely : Prop := derCutShortRow.holds Try.pinned (OpenSpec.ofChange derCutShortWrong)

/-- 'barbicanlaw12.DerValues': WHATEVER THE INPUT: true; the input reads as it did. -/
def derValuesSpec : ChangeSpec := { name := "derValues", fn := fun _ => fun
  | [d1, d2, d3] => { results := [.lit (.bool true)], args := [d1, d2, d3] }
  | _ => none }
def derValuesRow : OpenClaim := { program := "ytmfdbnhknaemdaa", sum := "cefd1f84965a94ed60f43a2bccfd044dd4bc261058aef8ef47bc7e43940603d0", func := "barbican/barbicanlaw12.DerValues", spec := "derValues", unfollowed := true, recurses := true, loops := true, apart := false }
def DerValuesSaid : Prop := derValuesRow.holds Try.pinned (OpenSpec.ofChange derValuesSpec)

/-- ITS FALSE NEIGHBOUR: 'it returns false'. Refute it at one input. -/
def derValuesWrong : ChangeSpec := { name := "derValues", fn := fun _ => fun
  | [d1, d2, d3] => { results := [.lit (.bool false)], args := [d1, d2, d3] }
  | _ => none }
def DerValuesWrongFalsely : Prop := derValuesRow.holds Try.pinned (OpenSpec.ofChange derValuesWrong)

/-- 'barbicanlaw12.DerObjects': WHATEVER THE INPUT: true; the input reads as it did. -/
def derObjectsSpec : ChangeSpec := { name := "derObjects", fn := fun _ => fun
  | [d1, d2] => { results := [.lit (.bool true)], args := [d1, d2] }
  | _ => none }
def derObjectsRow : OpenClaim := { program := "ytmfdbnhknaemdaa", sum := "cefd1f84965a94ed60f43a2bccfd044dd4bc261058aef8ef47bc7e43940603d0", func := "barbican/barbicanlaw12.DerObjects", spec := "derObjects", unfollowed := true, recurses := true, loops := true, apart := false }
def DerObjectsSaid : Prop := derObjectsRow.holds Try.pinned (OpenSpec.ofChange derObjectsSpec)

/-- ITS FALSE NEIGHBOUR: 'it returns false'. Refute it at one input. -/
def derObjectsWrong : ChangeSpec := { name := "derObjects", fn := fun _ => fun
  | [d1, d2] => { results := [.lit (.bool false)], args := [d1, d2] }
  | _ => none }
def DerObjectsWrongFalsely : Prop := derObjectsRow.holds Try.pinned (OpenSpec.ofChange derObjectsWrong)

/- THE SECOND FORM. 'bulk': how many values and letters a reading holds, each counted each time it is reached (what is shared counts as often as it is met; a slice's spare places count too). A statement '..UptoSaid' is the law's where the arguments, and the package variables that the reading takes, are together of bulk at most 1048576: NARROWER than '..Said'. Prove '..Said' where nothing that the law and all that it calls make is longer than what came in: it says more and counts as full. Else prove '..UptoSaid'. A law counts once. -/
mutual
def uptoBulk {H : Type} : DataW H → Nat
  | .lit (.string bytes) => bytes.length + 1
  | .lit _ => 1
  | .nil => 1
  | .ptr d => uptoBulk d + 1
  | .slice elems spare => uptoBulkAll elems + uptoBulkAll spare + 1
  | .agg parts => uptoBulkAll parts + 1
  | .iface _ d => uptoBulk d + 1
  | .map entries => uptoBulkEntries entries + 1
  | .held _ => 1
def uptoBulkAll {H : Type} : List (DataW H) → Nat
  | [] => 0
  | d :: r => uptoBulk d + uptoBulkAll r
def uptoBulkEntries {H : Type} : List (Lit × DataW H) → Nat
  | [] => 0
  | x :: r => uptoBulkEntry x + uptoBulkEntries r
def uptoBulkEntry {H : Type} : Lit × DataW H → Nat
  | (.string bytes, d) => bytes.length + uptoBulk d + 1
  | (_, d) => uptoBulk d + 1
 end
def uptoSmall : (H : Type) → List (DataW H) → Bool := fun _ ds => decide (uptoBulkAll ds ≤ 1048576)
def OpenSpec.upto (s : _root_.Go.ChangeSpec) : _root_.Go.OpenSpec := { _root_.Go.OpenSpec.ofChange s with cond := some uptoSmall }

/-- 'barbicanlaw12.DerReads', WHERE WHAT IT READS IS OF BULK AT MOST 1048576: true; the input reads as it did. -/
def derReadsUptoRow : OpenClaim := { program := "ytmfdbnhknaemdaa", sum := "cefd1f84965a94ed60f43a2bccfd044dd4bc261058aef8ef47bc7e43940603d0", func := "barbican/barbicanlaw12.DerReads", spec := "derReads", unfollowed := true, recurses := true, apart := false, narrowed := true }
def DerReadsUptoSaid : Prop := derReadsUptoRow.holds Try.pinned (OpenSpec.upto derReadsSpec)

/-- 'barbicanlaw12.DerBits', WHERE WHAT IT READS IS OF BULK AT MOST 1048576: true; the input reads as it did. -/
def derBitsUptoRow : OpenClaim := { program := "ytmfdbnhknaemdaa", sum := "cefd1f84965a94ed60f43a2bccfd044dd4bc261058aef8ef47bc7e43940603d0", func := "barbican/barbicanlaw12.DerBits", spec := "derBits", unfollowed := true, recurses := true, loops := true, apart := false, narrowed := true }
def DerBitsUptoSaid : Prop := derBitsUptoRow.holds Try.pinned (OpenSpec.upto derBitsSpec)

/-- 'barbicanlaw12.DerWrites', WHERE WHAT IT READS IS OF BULK AT MOST 1048576: true; the input reads as it did. -/
def derWritesUptoRow : OpenClaim := { program := "ytmfdbnhknaemdaa", sum := "cefd1f84965a94ed60f43a2bccfd044dd4bc261058aef8ef47bc7e43940603d0", func := "barbican/barbicanlaw12.DerWrites", spec := "derWrites", unfollowed := true, recurses := true, loops := true, apart := false, narrowed := true }
def DerWritesUptoSaid : Prop := derWritesUptoRow.holds Try.pinned (OpenSpec.upto derWritesSpec)

/-- 'barbicanlaw12.DerOneForm', WHERE WHAT IT READS IS OF BULK AT MOST 1048576: true; the input reads as it did. -/
def derOneFormUptoRow : OpenClaim := { program := "ytmfdbnhknaemdaa", sum := "cefd1f84965a94ed60f43a2bccfd044dd4bc261058aef8ef47bc7e43940603d0", func := "barbican/barbicanlaw12.DerOneForm", spec := "derOneForm", unfollowed := true, recurses := true, loops := true, apart := false, narrowed := true }
def DerOneFormUptoSaid : Prop := derOneFormUptoRow.holds Try.pinned (OpenSpec.upto derOneFormSpec)

/-- 'barbicanlaw12.DerCutShort', WHERE WHAT IT READS IS OF BULK AT MOST 1048576: true; the input reads as it did. -/
def derCutShortUptoRow : OpenClaim := { program := "ytmfdbnhknaemdaa", sum := "cefd1f84965a94ed60f43a2bccfd044dd4bc261058aef8ef47bc7e43940603d0", func := "barbican/barbicanlaw12.DerCutShort", spec := "derCutShort", unfollowed := true, recurses := true, loops := true, apart := false, narrowed := true }
def DerCutShortUptoSaid : Prop := derCutShortUptoRow.holds Try.pinned (OpenSpec.upto derCutShortSpec)

/-- 'barbicanlaw12.DerValues', WHERE WHAT IT READS IS OF BULK AT MOST 1048576: true; the input reads as it did. -/
def derValuesUptoRow : OpenClaim := { program := "ytmfdbnhknaemdaa", sum := "cefd1f84965a94ed60f43a2bccfd044dd4bc261058aef8ef47bc7e43940603d0", func := "barbican/barbicanlaw12.DerValues", spec := "derValues", unfollowed := true, recurses := true, loops := true, apart := false, narrowed := true }
def DerValuesUptoSaid : Prop := derValuesUptoRow.holds Try.pinned (OpenSpec.upto derValuesSpec)

/-- 'barbicanlaw12.DerObjects', WHERE WHAT IT READS IS OF BULK AT MOST 1048576: true; the input reads as it did. -/
def derObjectsUptoRow : OpenClaim := { program := "ytmfdbnhknaemdaa", sum := "cefd1f84965a94ed60f43a2bccfd044dd4bc261058aef8ef47bc7e43940603d0", func := "barbican/barbicanlaw12.DerObjects", spec := "derObjects", unfollowed := true, recurses := true, loops := true, apart := false, narrowed := true }
def DerObjectsUptoSaid : Prop := derObjectsUptoRow.holds Try.pinned (OpenSpec.upto derObjectsSpec)

end Rows
end Go.Proofs.Ytmfdbnhknaemdaa
