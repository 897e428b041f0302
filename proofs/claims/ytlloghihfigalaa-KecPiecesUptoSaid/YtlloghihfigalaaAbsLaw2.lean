/- A slice of slices of numbers that came in. -/
import Derived.Test.YtlloghihfigalaaAbsLaw
import Derived.Deep.Matrix
set_option linter.unusedVariables false
set_option linter.unusedSimpArgs false
namespace Go.Abs
open Go.ChangeShapes Go.WideShapes Go.ChangeAt Go.RowKit Go.Deep

section
variable {H : Type} {enc : TypeId × Value → H} {P : Program} {W : World} {base : Nat} {held : Bool} {r : Reach} {b0 : Nat} {t : TypeId} {v : Value} {d : DataW H} {ps : List MemPlace}

theorem in_rows {e q : TypeId} {k : IntKind} (ht : P.underlying t = some (.slice e)) (he : P.underlying e = some (.slice q)) (hq : P.underlying q = some (.int k)) (ce : P.cellsOf e = 1) (cq : P.cellsOf q = 1)
    (hval : Value.okWide P W r b0 t v) (hd : DataW.Trod enc P W base (fun _ => true) held t v d ps) :
    ∃ xs : List (List Int), (∀ c ∈ xs, ∀ y ∈ c, (Lit.int k y).wf = true) ∧
      (xs = [] ∨ ∃ (len : Nat) (A : Nat → Option Addr) (L : Nat → Nat) (Z : Nat → List Int) (sp : List (DataW H)), xs = (List.range len).map (fun r => (Z r).take (L r)) ∧ d = .slice ((List.range len).map fun r => intRow k (A r) (L r) (Z r)) sp ∧ ∀ r, r < len → A r = none → (Z r).take (L r) = []) ∧
      In W (.c (.fz (.sl (.int k)) xs none)) v := by
  obtain ⟨a0, len0, cap0, rfl⟩ := okWide_slice ht hval
  obtain ⟨fuel, hf⟩ := hd
  rcases open_int_rows ht he hq ce cq hf with ⟨hcs, _⟩ | ⟨a, len, cap, A, L, C, Z, hcs, _, hl, hm, hx, hrows⟩
  · simp [Value.cells] at hcs
    obtain ⟨rfl, rfl, rfl⟩ := hcs
    refine ⟨[], by simp, .inl rfl, fun h β _ => ?_⟩
    simp only [AVRel, CVRel]
    exact .fz (.sl (.int k)) [] none none 0 (Nat.le_refl _) (Nat.le_refl _) (fun _ => ⟨rfl, rfl⟩) (fun a h => by cases h)
  · simp [Value.cells] at hcs
    obtain ⟨rfl, rfl, rfl⟩ := hcs
    simp only [Prod.mk.injEq] at hx
    obtain ⟨xs, hxs⟩ : ∃ xs : List (List Int), xs = (List.range len0).map (fun r => (Z r).take (L r)) := ⟨_, rfl⟩
    have hlen : xs.length = len0 := by rw [hxs]; simp
    refine ⟨xs, ?_, .inr ⟨len0, A, L, Z, _, hxs, hx.1, ?_⟩, fun h β hno => ?_⟩
    · intro c hc y hy
      rw [hxs] at hc
      obtain ⟨r, hr, rfl⟩ := List.mem_map.1 hc
      obtain ⟨_, _, _, _, h4, _⟩ := hrows r (by have := List.mem_range.1 hr; omega)
      exact h4 y (List.mem_of_mem_take hy)
    · intro r hr hA
      obtain ⟨_, h1, _, _, _, h5, _⟩ := hrows r (by omega)
      have : L r = 0 := by have := h5 hA; omega
      rw [this]; rfl
    · simp only [AVRel, CVRel]
      have key := FzV.fz (w := W) (own := Own h β) (.sl (.int k)) xs none (some a) cap0 (Nat.le_refl _) (by show xs.length ≤ cap0; rw [hlen]; exact hl) (fun h => by cases h) (by
        intro a' ha i hi
        cases ha
        have hsz : i * (DT.sl (.int k)).size = i := Nat.mul_one i
        rw [hsz]
        have hi' : i < len0 := by rw [← hlen]; exact hi
        obtain ⟨e1, e2, e3, e4, e5, e6, e7⟩ := hrows i (by omega)
        refine .one _ [] _ _ e1 (hno _) ?_ (.nil _)
        have hget : xs[i]? = some ((Z i).take (L i)) := by rw [hxs]; simp [hi']
        have hget' : xs[i]'(by rw [hlen]; exact hi') = (Z i).take (L i) := by
          rw [List.getElem?_eq_getElem (by rw [hlen]; exact hi')] at hget
          exact Option.some.inj hget
        show FzV W (Own h β) (.fz (.int k) (xs[i]'(by rw [hlen]; exact hi')) none) _
        rw [hget']
        have htl : ((Z i).take (L i)).length = L i := by simp; omega
        have key1 := FzV.fz (w := W) (own := Own h β) (.int k) ((Z i).take (L i)) none (A i) (C i) (Nat.le_refl _) (by show ((Z i).take (L i)).length ≤ C i; rw [htl]; exact e2)
          (fun hA => by
            have h0 := e6 hA
            have h1 : L i = 0 := by omega
            exact ⟨by rw [h1]; rfl, h0⟩) (by
          intro a' ha j hj
          have hsz : j * (DT.int k).size = j := Nat.mul_one j
          rw [hsz]
          have hj' : j < ((Z i).take (L i)).length := hj
          have hj2 : j < C i := by rw [htl] at hj'; omega
          refine .one _ [] _ _ ((e7 a' ha).2 j hj2) (hno _) ?_ (.nil _)
          have : ((Z i).take (L i))[j] = (Z i).getD j 0 := by
            have : j < (Z i).length := by omega
            simp [List.getD_eq_getElem?_getD, this]
          show FzV W (Own h β) (.int k (((Z i).take (L i))[j])) _
          rw [this]
          exact .int k _)
        have key2 : FzV W (Own h β) (.fz (.int k) ((Z i).take (L i)) none) (.slice (A i) (List.length (α := Int) ((Z i).take (L i))) (C i)) := key1
        rw [htl] at key2
        exact key2)
      have key2 : FzV W (Own h β) (.fz (.sl (.int k)) xs none) (.slice (some a) (List.length (α := List Int) xs) cap0) := key
      rw [hlen] at key2
      exact key2
end
end Go.Abs
