/- Writing an item: what der.Encode answers, and what the document's does. -/
import Derived.Test.YtmfdbnhknaemdaaXRead2M
set_option linter.unusedVariables false
set_option linter.unusedSimpArgs false
namespace Go.Abs

/-! ### look -/
def lkA (e : Int) : Unit ⊕ (Int × Unit) := if e = 0 then .inl () else .inr (e, ())
def lkB (e : Int) : (Int × Unit) ⊕ Unit := if e = 0 then .inr () else .inl (e, ())
def lkC (e : Int) : Int ⊕ Unit := if e = 0 then .inr () else .inl e
theorem lkA_ne {e : Int} (h : e ≠ 0) : lkA e = .inr (e, ()) := if_neg h
theorem lkB_ne {e : Int} (h : e ≠ 0) : lkB e = .inl (e, ()) := if_neg h
theorem lkC_ne {e : Int} (h : e ≠ 0) : lkC e = .inl e := if_neg h
theorem lookL_pos {g : Tree → Int} {c : Tree} {l : List Tree} (h : g c = 0) : lookL g (c :: l) = lookL g l := if_pos h
theorem lookL_neg {g : Tree → Int} {c : Tree} {l : List Tree} (h : g c ≠ 0) : lookL g (c :: l) = g c := if_neg h
theorem Fd41_eq (n : Int) : Fd41 n = some (n, ()) := rfl
theorem Fd58_eq {t : Tree} (ht : TreeOk t) : Fd58 t.tag = some (bltT t.tag) := by simp only [Fd58, blt_tag ht.tag.1 ht.tag.2]

theorem lk_end (e : Int) : ((some (lkB e)).bind fun
                | (.inl (e8, _)) => some (.inr (e8, ()))
                | (.inr _) => some (.inl ()) : Option (Unit ⊕ (Int × Unit))) = some (lkA e) := by
  by_cases h : e = 0
  · subst h; rfl
  · rw [lkB_ne h, lkA_ne h]; rfl
theorem lk_endC (e : Int) : ((some (lkC e)).bind fun
                | (.inl z) => some z
                | (.inr _) => some 0 : Option Int) = some e := by
  by_cases h : e = 0
  · subst h; rfl
  · rw [lkC_ne h]; rfl
/-! ### write -/
theorem len1 (x : Int) : ((List.replicate 1 (0 : Int)).set 0 x) = [x] := rfl

def encO (t : Tree) : List Int × Int :=
  if lookE 16 t = 0 then (if t.enc.length ≤ 65536 then (t.enc, 0) else ([], 121)) else ([], lookE 16 t)

theorem lookE_pos : ∀ {f : Nat} {t : Tree}, lookE f t = 0 ∨ 123 ≤ lookE f t := by
  intro f
  induction f with
  | zero => intro t; right; show (123 : Int) ≤ 125; omega
  | succ f ih =>
    intro t
    unfold lookE
    split
    · right; omega
    · split
      · right; omega
      · have : ∀ l : List Tree, lookL (lookE f) l = 0 ∨ 123 ≤ lookL (lookE f) l := by
          intro l
          induction l with
          | nil => left; rfl
          | cons c l ihl =>
            simp only [lookL]
            split
            · exact ihl
            · rename_i h; rcases ih (t := c) with h' | h'
              · exact absurd h' h
              · exact .inr h'
        exact this _

/-! ### the document's -/
theorem Fd54_eq {t : Tree} (ht : TreeOk t) : Fd54 t.tag = some (bltT t.tag) := by simp only [Fd54, blt_ref ht.tag.1 ht.tag.2]
theorem Fd52_eq {t : Tree} (ht : TreeOk t) : Fd52 t.tag = some (decide (t.tag % 32 = 31)) := by simp only [Fd52, none_ref ht.tag.1]

def Cap (x l : List Int) : Prop := (l.length ≤ 65536 → x = l) ∧ (65536 < l.length → 65536 < x.length)
theorem Cap.refl (l : List Int) : Cap l l := ⟨fun _ => rfl, id⟩
theorem Cap.append {x y l m : List Int} (h : Cap x l) (hx : x.length ≤ 65536) (h2 : Cap y m) : Cap (x ++ y) (l ++ m) := by
  have hl : l.length ≤ 65536 := by
    by_cases hl : l.length ≤ 65536
    · exact hl
    · have := h.2 (by omega); omega
  have e := h.1 hl
  subst e
  refine ⟨fun h3 => ?_, fun h3 => ?_⟩
  · rw [h2.1 (by simp only [List.length_append] at h3; omega)]
  · by_cases hm : m.length ≤ 65536
    · rw [h2.1 hm]; exact h3
    · have := h2.2 (by omega); simp only [List.length_append]; omega

end Go.Abs
