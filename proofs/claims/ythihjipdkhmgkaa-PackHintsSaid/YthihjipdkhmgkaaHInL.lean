/- An array of arrays of integers that came in. -/
import Derived.Test.YthihjipdkhmgkaaAbsLawL
set_option linter.unusedVariables false
set_option linter.unusedSimpArgs false
namespace Go.Abs
open Go.ChangeShapes Go.WideShapes Go.ChangeAt Go.RowKit

section
variable {H : Type} {enc : TypeId × Value → H} {P : Program} {W : World} {base : Nat} {spare : Nat → Bool} {held : Bool} {r : Reach} {b0 : Nat} {t : TypeId} {v : Value} {d : DataW H} {ps : List MemPlace}

theorem in_array2 {n m : Nat} {e e2 : TypeId} {k : IntKind} (ht : P.underlying t = some (.array n e)) (he : P.underlying e = some (.array m e2)) (he2 : P.underlying e2 = some (.int k)) (hc2 : P.cellsOf e2 = 1) (hce : P.cellsOf e = m) (hct : P.cellsOf t = n * m) (hm : 0 < m)
    (hval : Value.okWide P W r b0 t v) (hd : DataW.Trod enc P W base spare held t v d ps) : ∃ f : Nat → Int, In W (.agg [.ints k (n * m) f]) v := by
  have hcs : ∃ cs, v = .agg cs ∧ cs.size = P.cellsOf t := by
    simp only [Value.okWide, ht] at hval
    obtain ⟨cs, h1, h2, _⟩ := hval
    exact ⟨cs, h1, h2⟩
  obtain ⟨cs, rfl, hsz⟩ := hcs
  obtain ⟨fuel, hf⟩ := hd
  obtain ⟨xs, fu, _, _, hlen, hxn, hel⟩ := DataW.trod_array ht hf
  have hcl : (Value.agg cs).cells.toList = cs.toList := rfl
  have hone : ∀ i, i < n * m → ∃ x : Int, cs.toList[i]? = some (.int k x) := by
    intro i hi
    have hq : i / m < n := Nat.div_lt_of_lt_mul (by rw [Nat.mul_comm]; exact hi)
    have hr : i % m < m := Nat.mod_lt _ hm
    have hdm : i / m * m + i % m = i := by rw [Nat.mul_comm]; exact Nat.div_add_mod i m
    have h1 := hel (i / m) hq
    rw [hce, hcl] at h1
    have hx : xs[i / m]? = some xs[i / m] := List.getElem?_eq_getElem (by omega)
    rw [hx] at h1
    obtain ⟨ys, fu2, _, _, hlen2, hyn, hel2⟩ := DataW.trod_array he h1
    have h2 := hel2 (i % m) hr
    rw [hc2, Nat.mul_one] at h2
    have hy : ys[i % m]? = some ys[i % m] := List.getElem?_eq_getElem (by omega)
    rw [hy] at h2
    obtain ⟨x, h3, _, _⟩ := DataW.trod_int he2 h2
    refine ⟨x, ?_⟩
    have h4 : ((((cs.toList.drop (i / m * m)).take m).drop (i % m)).take 1)[0]? = some (.int k x) := by rw [h3]; rfl
    rw [List.getElem?_take_of_lt (by omega), List.getElem?_drop, List.getElem?_take_of_lt (by omega), List.getElem?_drop] at h4
    rw [Nat.add_zero, hdm] at h4
    exact h4
  have hat : ∀ i x, cs.toList[i]? = some (.int k x) → intAt cs.toList i = x := fun i x h => by simp [intAt, h]
  refine ⟨intAt cs.toList, fun h β _ => ?_⟩
  simp only [AVRel, SegsRel]
  refine ⟨cs.toList, by simp, [], ?_, rfl⟩
  rw [List.append_nil]
  apply List.ext_getElem?
  intro i
  by_cases hi : i < n * m
  · obtain ⟨x, h1⟩ := hone i hi
    rw [fnV_get _ _ _ _ hi, h1, hat i x h1]
  · rw [List.getElem?_eq_none (by simp [hsz, hct]; omega), List.getElem?_eq_none (by simp; omega)]
end
end Go.Abs
