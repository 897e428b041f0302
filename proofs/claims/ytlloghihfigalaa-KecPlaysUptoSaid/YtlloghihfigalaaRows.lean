/-
  No cell of these rows narrows 'for every input' (looked for: loops, veiled, ifaces, maps, wideKeys, modest, calm, conditions, laid).
  DERIVED. THE GIVEN ROWS OF THIS SEAT. 5 by the template 'for every input the law returns true; each argument reads behind the call as it read before'; 0 by the template 'total and deterministic' (their statements: YtlloghihfigalaaTotals.lean).
  GIVEN WITH THE SEED: the statements are not yours to turn. If you find one false, say at which input.
  Laid BY PROGRAM, IN A SANDBOX (cutbox-rows.mjs): the forced cells as the released guide's own fill.sh prints them over the translation 559bea702ac15714… (all of the seat's roots in one cut). By AI agents, Wed Nov 11 2026. No macro, syntax, notation, axiom, sorry.
-/
import Derived.Test.YtlloghihfigalaaChecked
import GoSem.Claim
import GoSem.ClaimJoined
import GoSem.ClaimMapViews
import Derived.JoinedTies
import Derived.KernelRfl
namespace Go.Proofs.Ytlloghihfigalaa
/- THE CELL 'sum', in the pinned program and in every row, IS THE sha256 OF THE DUMP (.gsa) THAT YtlloghihfigalaaProg.lean LOADS. Nothing in Lean hashes anything: it is a label: what it is worth is what the hold of that sum in a sandbox is worth. -/
noncomputable def Try.pinned : Pinned := { name := "ytlloghihfigalaa", sum := "559bea702ac157146ca623c26225e54e77eea48989e6f7d40a8c4ca29c1d8195", checked := Try.checked }
namespace Rows
def none {H : Type} : Left H := { results := [], args := [] }

/-- 'barbicanlaw03.KecPermutes': WHATEVER THE INPUT: true; the input reads as it did. -/
def kecPermutesSpec : ChangeSpec := { name := "kecPermutes", fn := fun _ => fun
  | [d1, d2] => { results := [.lit (.bool true)], args := [d1, d2] }
  | _ => none }
def kecPermutesRow : OpenClaim := { program := "ytlloghihfigalaa", sum := "559bea702ac157146ca623c26225e54e77eea48989e6f7d40a8c4ca29c1d8195", func := "barbican/barbicanlaw03.KecPermutes", spec := "kecPermutes", apart := false }
def KecPermutesSaid : Prop := kecPermutesRow.holds Try.pinned (OpenSpec.ofChange kecPermutesSpec)

/-- ITS FALSE NEIGHBOUR: 'it returns false'. Refute it at one input. -/
def kecPermutesWrong : ChangeSpec := { name := "kecPermutes", fn := fun _ => fun
  | [d1, d2] => { results := [.lit (.bool false)], args := [d1, d2] }
  | _ => none }
def KecPermutesWrongFalsely : Prop := kecPermutesRow.holds Try.pinned (OpenSpec.ofChange kecPermutesWrong)

/-- 'barbicanlaw03.KecPieces': WHATEVER THE INPUT: true; the input reads as it did. -/
def kecPiecesSpec : ChangeSpec := { name := "kecPieces", fn := fun _ => fun
  | [d1, d2, d3] => { results := [.lit (.bool true)], args := [d1, d2, d3] }
  | _ => none }
def kecPiecesRow : OpenClaim := { program := "ytlloghihfigalaa", sum := "559bea702ac157146ca623c26225e54e77eea48989e6f7d40a8c4ca29c1d8195", func := "barbican/barbicanlaw03.KecPieces", spec := "kecPieces", apart := false }
def KecPiecesSaid : Prop := kecPiecesRow.holds Try.pinned (OpenSpec.ofChange kecPiecesSpec)

/-- ITS FALSE NEIGHBOUR: 'it returns false'. Refute it at one input. -/
def kecPiecesWrong : ChangeSpec := { name := "kecPieces", fn := fun _ => fun
  | [d1, d2, d3] => { results := [.lit (.bool false)], args := [d1, d2, d3] }
  | _ => none }
def KecPiecesWrongFalsely : Prop := kecPiecesRow.holds Try.pinned (OpenSpec.ofChange kecPiecesWrong)

/-- 'barbicanlaw03.KecSums': WHATEVER THE INPUT: true; the input reads as it did. -/
def kecSumsSpec : ChangeSpec := { name := "kecSums", fn := fun _ => fun
  | [d1, d2, d3] => { results := [.lit (.bool true)], args := [d1, d2, d3] }
  | _ => none }
def kecSumsRow : OpenClaim := { program := "ytlloghihfigalaa", sum := "559bea702ac157146ca623c26225e54e77eea48989e6f7d40a8c4ca29c1d8195", func := "barbican/barbicanlaw03.KecSums", spec := "kecSums", apart := false }
def KecSumsSaid : Prop := kecSumsRow.holds Try.pinned (OpenSpec.ofChange kecSumsSpec)

/-- ITS FALSE NEIGHBOUR: 'it returns false'. Refute it at one input. -/
def kecSumsWrong : ChangeSpec := { name := "kecSums", fn := fun _ => fun
  | [d1, d2, d3] => { results := [.lit (.bool false)], args := [d1, d2, d3] }
  | _ => none }
def KecSumsWrongFalsely : Prop := kecSumsRow.holds Try.pinned (OpenSpec.ofChange kecSumsWrong)

/-- 'barbicanlaw03.KecPlays': WHATEVER THE INPUT: true; the input reads as it did. -/
def kecPlaysSpec : ChangeSpec := { name := "kecPlays", fn := fun _ => fun
  | [d1, d2] => { results := [.lit (.bool true)], args := [d1, d2] }
  | _ => none }
def kecPlaysRow : OpenClaim := { program := "ytlloghihfigalaa", sum := "559bea702ac157146ca623c26225e54e77eea48989e6f7d40a8c4ca29c1d8195", func := "barbican/barbicanlaw03.KecPlays", spec := "kecPlays", apart := false }
def KecPlaysSaid : Prop := kecPlaysRow.holds Try.pinned (OpenSpec.ofChange kecPlaysSpec)

/-- ITS FALSE NEIGHBOUR: 'it returns false'. Refute it at one input. -/
def kecPlaysWrong : ChangeSpec := { name := "kecPlays", fn := fun _ => fun
  | [d1, d2] => { results := [.lit (.bool false)], args := [d1, d2] }
  | _ => none }
def KecPlaysWrongFalsely : Prop := kecPlaysRow.holds Try.pinned (OpenSpec.ofChange kecPlaysWrong)

/-- 'barbicanlaw03.KecNil': WHATEVER THE INPUT: true; the input reads as it did. -/
def kecNilSpec : ChangeSpec := { name := "kecNil", fn := fun _ => fun
  | [d1, d2] => { results := [.lit (.bool true)], args := [d1, d2] }
  | _ => none }
def kecNilRow : OpenClaim := { program := "ytlloghihfigalaa", sum := "559bea702ac157146ca623c26225e54e77eea48989e6f7d40a8c4ca29c1d8195", func := "barbican/barbicanlaw03.KecNil", spec := "kecNil", apart := false }
def KecNilSaid : Prop := kecNilRow.holds Try.pinned (OpenSpec.ofChange kecNilSpec)

/-- ITS FALSE NEIGHBOUR: 'it returns false'. Refute it at one input. -/
def kecNilWrong : ChangeSpec := { name := "kecNil", fn := fun _ => fun
  | [d1, d2] => { results := [.lit (.bool false)], args := [d1, d2] }
  | _ => none }
def KecNilWrongFalsely : Prop := kecNilRow.holds Try.pinned (OpenSpec.ofChange kecNilWrong)

/- THE SECOND FORM. 'bulk': how many values and letters a reading holds, each counted each time it is reached (what is shared counts as often as it is met; a slice's spare places count too). A statement '..UptoSaid' is the law's where the arguments, and the package variables that the reading takes, are together of bulk at most 1048576: NARROWER than '..Said'. Prove '..Said' where nothing that the law and all that it calls make is longer than what came in: it says more and counts as full. Else prove '..UptoSaid'. A law counts once. -/
mutual
def uptoBulk {H : Type} : DataW H → Nat
  | .lit (.string bytes) => bytes.length + 1
  | .lit _ => 1
  | .nil => 1
  | .ptr d => uptoBulk d + 1
  | .slice elems spare => uptoBulkAll elems + uptoBulkAll spare + 1
  | .agg parts => uptoBulkAll parts + 1
  | .iface _ d => uptoBulk d + 1
  | .map entries => uptoBulkEntries entries + 1
  | .held _ => 1
def uptoBulkAll {H : Type} : List (DataW H) → Nat
  | [] => 0
  | d :: r => uptoBulk d + uptoBulkAll r
def uptoBulkEntries {H : Type} : List (Lit × DataW H) → Nat
  | [] => 0
  | x :: r => uptoBulkEntry x + uptoBulkEntries r
def uptoBulkEntry {H : Type} : Lit × DataW H → Nat
  | (.string bytes, d) => bytes.length + uptoBulk d + 1
  | (_, d) => uptoBulk d + 1
 end
def uptoSmall : (H : Type) → List (DataW H) → Bool := fun _ ds => decide (uptoBulkAll ds ≤ 1048576)
def OpenSpec.upto (s : _root_.Go.ChangeSpec) : _root_.Go.OpenSpec := { _root_.Go.OpenSpec.ofChange s with cond := some uptoSmall }

/-- 'barbicanlaw03.KecPermutes', WHERE WHAT IT READS IS OF BULK AT MOST 1048576: true; the input reads as it did. -/
def kecPermutesUptoRow : OpenClaim := { program := "ytlloghihfigalaa", sum := "559bea702ac157146ca623c26225e54e77eea48989e6f7d40a8c4ca29c1d8195", func := "barbican/barbicanlaw03.KecPermutes", spec := "kecPermutes", apart := false, narrowed := true }
def KecPermutesUptoSaid : Prop := kecPermutesUptoRow.holds Try.pinned (OpenSpec.upto kecPermutesSpec)

/-- 'barbicanlaw03.KecPieces', WHERE WHAT IT READS IS OF BULK AT MOST 1048576: true; the input reads as it did. -/
def kecPiecesUptoRow : OpenClaim := { program := "ytlloghihfigalaa", sum := "559bea702ac157146ca623c26225e54e77eea48989e6f7d40a8c4ca29c1d8195", func := "barbican/barbicanlaw03.KecPieces", spec := "kecPieces", apart := false, narrowed := true }
def KecPiecesUptoSaid : Prop := kecPiecesUptoRow.holds Try.pinned (OpenSpec.upto kecPiecesSpec)

/-- 'barbicanlaw03.KecSums', WHERE WHAT IT READS IS OF BULK AT MOST 1048576: true; the input reads as it did. -/
def kecSumsUptoRow : OpenClaim := { program := "ytlloghihfigalaa", sum := "559bea702ac157146ca623c26225e54e77eea48989e6f7d40a8c4ca29c1d8195", func := "barbican/barbicanlaw03.KecSums", spec := "kecSums", apart := false, narrowed := true }
def KecSumsUptoSaid : Prop := kecSumsUptoRow.holds Try.pinned (OpenSpec.upto kecSumsSpec)

/-- 'barbicanlaw03.KecPlays', WHERE WHAT IT READS IS OF BULK AT MOST 1048576: true; the input reads as it did. -/
def kecPlaysUptoRow : OpenClaim := { program := "ytlloghihfigalaa", sum := "559bea702ac157146ca623c26225e54e77eea48989e6f7d40a8c4ca29c1d8195", func := "barbican/barbicanlaw03.KecPlays", spec := "kecPlays", apart := false, narrowed := true }
def KecPlaysUptoSaid : Prop := kecPlaysUptoRow.holds Try.pinned (OpenSpec.upto kecPlaysSpec)

/-- 'barbicanlaw03.KecNil', WHERE WHAT IT READS IS OF BULK AT MOST 1048576: true; the input reads as it did. -/
def kecNilUptoRow : OpenClaim := { program := "ytlloghihfigalaa", sum := "559bea702ac157146ca623c26225e54e77eea48989e6f7d40a8c4ca29c1d8195", func := "barbican/barbicanlaw03.KecNil", spec := "kecNil", apart := false, narrowed := true }
def KecNilUptoSaid : Prop := kecNilUptoRow.holds Try.pinned (OpenSpec.upto kecNilSpec)

end Rows
end Go.Proofs.Ytlloghihfigalaa
