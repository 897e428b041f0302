/-
  No cell of these rows narrows 'for every input' (looked for: loops, veiled, ifaces, maps, wideKeys, modest, calm, conditions, laid).
  DERIVED. THE GIVEN ROWS OF THIS SEAT. 4 by the template 'for every input the law returns true; each argument reads behind the call as it read before'; 0 by the template 'total and deterministic' (their statements: YtkkamfhppokooaaTotals.lean).
  GIVEN WITH THE SEED: the statements are not yours to turn. If you find one false, say at which input.
  Laid BY PROGRAM, IN A SANDBOX (cutbox-rows.mjs): the forced cells as the released guide's own fill.sh prints them over the translation 9aa78e0e8e2ffac8… (all of the seat's roots in one cut). By AI agents, Wed Nov 11 2026. No macro, syntax, notation, axiom, sorry.
-/
import Derived.Test.YtkkamfhppokooaaChecked
import GoSem.Claim
import GoSem.ClaimJoined
import GoSem.ClaimMapViews
import Derived.JoinedTies
import Derived.KernelRfl
namespace Go.Proofs.Ytkkamfhppokooaa
/- THE CELL 'sum', in the pinned program and in every row, IS THE sha256 OF THE DUMP (.gsa) THAT YtkkamfhppokooaaProg.lean LOADS. Nothing in Lean hashes anything: it is a label: what it is worth is what the hold of that sum in a sandbox is worth. -/
noncomputable def Try.pinned : Pinned := { name := "ytkkamfhppokooaa", sum := "9aa78e0e8e2ffac83182da6b2147513249acf53ee70326a2edf51261c28e569b", checked := Try.checked }
namespace Rows
def none {H : Type} : Left H := { results := [], args := [] }

/-- 'barbicanlaw13.CertReads': WHATEVER THE INPUT: true; the input reads as it did. -/
def certReadsSpec : ChangeSpec := { name := "certReads", fn := fun _ => fun
  | [d] => { results := [.lit (.bool true)], args := [d] }
  | _ => none }
def certReadsRow : OpenClaim := { program := "ytkkamfhppokooaa", sum := "9aa78e0e8e2ffac83182da6b2147513249acf53ee70326a2edf51261c28e569b", func := "barbican/barbicanlaw13.CertReads", spec := "certReads", unfollowed := true, recurses := true, apart := false }
def CertReadsSaid : Prop := certReadsRow.holds Try.pinned (OpenSpec.ofChange certReadsSpec)

/-- ITS FALSE NEIGHBOUR: 'it returns false'. Refute it at one input. -/
def certReadsWrong : ChangeSpec := { name := "certReads", fn := fun _ => fun
  | [d] => { results := [.lit (.bool false)], args := [d] }
  | _ => none }
def CertReadsWrongFalsely : Prop := certReadsRow.holds Try.pinned (OpenSpec.ofChange certReadsWrong)

/-- 'barbicanlaw13.CertWrites': WHATEVER THE INPUT: true; the input reads as it did. -/
def certWritesSpec : ChangeSpec := { name := "certWrites", fn := fun _ => fun
  | [d] => { results := [.lit (.bool true)], args := [d] }
  | _ => none }
def certWritesRow : OpenClaim := { program := "ytkkamfhppokooaa", sum := "9aa78e0e8e2ffac83182da6b2147513249acf53ee70326a2edf51261c28e569b", func := "barbican/barbicanlaw13.CertWrites", spec := "certWrites", unfollowed := true, recurses := true, apart := false }
def CertWritesSaid : Prop := certWritesRow.holds Try.pinned (OpenSpec.ofChange certWritesSpec)

/-- ITS FALSE NEIGHBOUR: 'it returns false'. Refute it at one input. -/
def certWritesWrong : ChangeSpec := { name := "certWrites", fn := fun _ => fun
  | [d] => { results := [.lit (.bool false)], args := [d] }
  | _ => none }
def CertWritesWrongFalsely : Prop := certWritesRow.holds Try.pinned (OpenSpec.ofChange certWritesWrong)

/-- 'barbicanlaw13.CertBack': WHATEVER THE INPUT: true; the input reads as it did. -/
def certBackSpec : ChangeSpec := { name := "certBack", fn := fun _ => fun
  | [d1, d2] => { results := [.lit (.bool true)], args := [d1, d2] }
  | _ => none }
def certBackRow : OpenClaim := { program := "ytkkamfhppokooaa", sum := "9aa78e0e8e2ffac83182da6b2147513249acf53ee70326a2edf51261c28e569b", func := "barbican/barbicanlaw13.CertBack", spec := "certBack", unfollowed := true, recurses := true, apart := false }
def CertBackSaid : Prop := certBackRow.holds Try.pinned (OpenSpec.ofChange certBackSpec)

/-- ITS FALSE NEIGHBOUR: 'it returns false'. Refute it at one input. -/
def certBackWrong : ChangeSpec := { name := "certBack", fn := fun _ => fun
  | [d1, d2] => { results := [.lit (.bool false)], args := [d1, d2] }
  | _ => none }
def CertBackWrongFalsely : Prop := certBackRow.holds Try.pinned (OpenSpec.ofChange certBackWrong)

/-- 'barbicanlaw13.CertFinds': WHATEVER THE INPUT: true; the input reads as it did. -/
def certFindsSpec : ChangeSpec := { name := "certFinds", fn := fun _ => fun
  | [d1, d2] => { results := [.lit (.bool true)], args := [d1, d2] }
  | _ => none }
def certFindsRow : OpenClaim := { program := "ytkkamfhppokooaa", sum := "9aa78e0e8e2ffac83182da6b2147513249acf53ee70326a2edf51261c28e569b", func := "barbican/barbicanlaw13.CertFinds", spec := "certFinds", unfollowed := true, recurses := true, apart := false }
def CertFindsSaid : Prop := certFindsRow.holds Try.pinned (OpenSpec.ofChange certFindsSpec)

/-- ITS FALSE NEIGHBOUR: 'it returns false'. Refute it at one input. -/
def certFindsWrong : ChangeSpec := { name := "certFinds", fn := fun _ => fun
  | [d1, d2] => { results := [.lit (.bool false)], args := [d1, d2] }
  | _ => none }
def CertFindsWrongFalsely : Prop := certFindsRow.holds Try.pinned (OpenSpec.ofChange certFindsWrong)

/- THE SECOND FORM. 'bulk': how many values and letters a reading holds, each counted each time it is reached (what is shared counts as often as it is met; a slice's spare places count too). A statement '..UptoSaid' is the law's where the arguments, and the package variables that the reading takes, are together of bulk at most 1048576: NARROWER than '..Said'. Prove '..Said' where nothing that the law and all that it calls make is longer than what came in: it says more and counts as full. Else prove '..UptoSaid'. A law counts once. -/
mutual
def uptoBulk {H : Type} : DataW H → Nat
  | .lit (.string bytes) => bytes.length + 1
  | .lit _ => 1
  | .nil => 1
  | .ptr d => uptoBulk d + 1
  | .slice elems spare => uptoBulkAll elems + uptoBulkAll spare + 1
  | .agg parts => uptoBulkAll parts + 1
  | .iface _ d => uptoBulk d + 1
  | .map entries => uptoBulkEntries entries + 1
  | .held _ => 1
def uptoBulkAll {H : Type} : List (DataW H) → Nat
  | [] => 0
  | d :: r => uptoBulk d + uptoBulkAll r
def uptoBulkEntries {H : Type} : List (Lit × DataW H) → Nat
  | [] => 0
  | x :: r => uptoBulkEntry x + uptoBulkEntries r
def uptoBulkEntry {H : Type} : Lit × DataW H → Nat
  | (.string bytes, d) => bytes.length + uptoBulk d + 1
  | (_, d) => uptoBulk d + 1
 end
def uptoSmall : (H : Type) → List (DataW H) → Bool := fun _ ds => decide (uptoBulkAll ds ≤ 1048576)
def OpenSpec.upto (s : _root_.Go.ChangeSpec) : _root_.Go.OpenSpec := { _root_.Go.OpenSpec.ofChange s with cond := some uptoSmall }

/-- 'barbicanlaw13.CertReads', WHERE WHAT IT READS IS OF BULK AT MOST 1048576: true; the input reads as it did. -/
def certReadsUptoRow : OpenClaim := { program := "ytkkamfhppokooaa", sum := "9aa78e0e8e2ffac83182da6b2147513249acf53ee70326a2edf51261c28e569b", func := "barbican/barbicanlaw13.CertReads", spec := "certReads", unfollowed := true, recurses := true, apart := false, narrowed := true }
def CertReadsUptoSaid : Prop := certReadsUptoRow.holds Try.pinned (OpenSpec.upto certReadsSpec)

/-- 'barbicanlaw13.CertWrites', WHERE WHAT IT READS IS OF BULK AT MOST 1048576: true; the input reads as it did. -/
def certWritesUptoRow : OpenClaim := { program := "ytkkamfhppokooaa", sum := "9aa78e0e8e2ffac83182da6b2147513249acf53ee70326a2edf51261c28e569b", func := "barbican/barbicanlaw13.CertWrites", spec := "certWrites", unfollowed := true, recurses := true, apart := false, narrowed := true }
def CertWritesUptoSaid : Prop := certWritesUptoRow.holds Try.pinned (OpenSpec.upto certWritesSpec)

/-- 'barbicanlaw13.CertBack', WHERE WHAT IT READS IS OF BULK AT MOST 1048576: true; the input reads as it did. -/
def certBackUptoRow : OpenClaim := { program := "ytkkamfhppokooaa", sum := "9aa78e0e8e2ffac83182da6b2147513249acf53ee70326a2edf51261c28e569b", func := "barbican/barbicanlaw13.CertBack", spec := "certBack", unfollowed := true, recurses := true, apart := false, narrowed := true }
def CertBackUptoSaid : Prop := certBackUptoRow.holds Try.pinned (OpenSpec.upto certBackSpec)

/-- 'barbicanlaw13.CertFinds', WHERE WHAT IT READS IS OF BULK AT MOST 1048576: true; the input reads as it did. -/
def certFindsUptoRow : OpenClaim := { program := "ytkkamfhppokooaa", sum := "9aa78e0e8e2ffac83182da6b2147513249acf53ee70326a2edf51261c28e569b", func := "barbican/barbicanlaw13.CertFinds", spec := "certFinds", unfollowed := true, recurses := true, apart := false, narrowed := true }
def CertFindsUptoSaid : Prop := certFindsUptoRow.holds Try.pinned (OpenSpec.upto certFindsSpec)

end Rows
end Go.Proofs.Ytkkamfhppokooaa
