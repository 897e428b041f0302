/- Two contracts of one function: the first where it fits. -/
import Derived.Test.YtmfdbnhknaemdaaAbsTabM
set_option linter.unusedVariables false
set_option linter.unusedSimpArgs false
namespace Go.Abs
open Go.RowKit

noncomputable def Tree.rank (t : Tree) : Nat := SizeOf.sizeOf t
theorem Tree.rank_kid {t c : Tree} (h : c ∈ t.kids) : c.rank < t.rank := by
  cases t with
  | node a b k =>
    have := List.sizeOf_lt_of_mem (show c ∈ k from h)
    simp only [Tree.rank, Tree.node.sizeOf_spec]
    omega

def canIn (S : FL) (l : List AV) (h : Nat → Option Reg) : Bool :=
  bif Nat.beq l.length S.n then (match S.inp.decN (callSt l h) (rhoOf (nmL S l h)) (nilOf (nmL S l h)) with | some _ => true | none => false) else false
def entOr (t : List AV → (Nat → Option Reg) → Bool) (e1 e2 : Ent) : Ent :=
  ⟨fun d l h k => bif t l h then e1.k d l h k else e2.k d l h k, false⟩
theorem entOr_ok {P : Program} {f : Nat} {t : List AV → (Nat → Option Reg) → Bool} {e1 e2 : Ent} (h1 : EntOk P f e1) (h2 : EntOk P f e2) : EntOk P f (entOr t e1 e2) := by
  refine ⟨fun d l h k => ?_, fun h => (by cases h), fun o d l us δ next Q a1 a2 a3 a4 a5 a6 a7 a8 => ?_⟩
  · simp only [entOr]
    cases t l h
    · exact h2.nat d l h k
    · exact h1.nat d l h k
  · rename_i st a w
    simp only [entOr] at a6
    cases ht : t l st.heap with
    | true => rw [ht] at a6; exact h1.call o d l us δ next Q a1 a2 a3 a4 a5 a6 a7 a8
    | false => rw [ht] at a6; exact h2.call o d l us δ next Q a1 a2 a3 a4 a5 a6 a7 a8
end Go.Abs
