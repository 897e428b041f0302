/- PackSamples: the law. -/
import Derived.Test.YtmclgnhhbicelaaSBallL
import Derived.Test.YtmclgnhhbicelaaSLay2L
set_option linter.unusedVariables false
set_option linter.unusedSimpArgs false
set_option maxRecDepth 100000
namespace Go.Abs
open Go.RowKit

theorem byt_wf {xs : List Int} (h : ∀ y ∈ xs, (Lit.int .u8 y).wf = true) : Byt xs := by
  intro i hi
  have := h xs[i] (List.getElem_mem hi)
  simp [Lit.wf, IntKind.min, IntKind.max, IntKind.signed, IntKind.bits] at this
  have e : xs.getD i 0 = xs[i] := by simp [List.getD_eq_getElem?_getD, hi]
  rw [e]
  omega

theorem law_true {xs : List Int} {p5 p6 p7 p8 p9 p10 : Nat → Int} {e5 e6 e7 e8 e9 e10 : Int} (h5 : Fs5 xs = some (p5, e5)) (h6 : Fs6 xs = some (p6, e6)) (h7 : Fs7 xs = some (p7, e7)) (h8 : Fs8 xs = some (p8, e8)) (h9 : Fs9 xs = some (p9, e9)) (h10 : Fs10 xs = some (p10, e10))
    (q1 : ∀ k, k < 256 → p5 k = p8 k) (q2 : ∀ k, k < 256 → p6 k = p9 k) (q3 : ∀ k, k < 256 → p7 k = p10 k) (r1 : e5 = e8) (r2 : e6 = e9) (r3 : e7 = e10) : Fs3 xs = some true := by
  subst r1; subst r2; subst r3
  simp only [Fs3, pawake_true, h5, h6, h7, h8, h9, h10, Option.bind_some, if_true, arrEq_true q1, arrEq_true q2, arrEq_true q3, beq_self_eq_true]

theorem len_no {xs : List Int} {n : Int} (h : (xs.length : Int) ≠ n) : (((xs.length : Nat) : Int) != n) = true := by simpa using h

theorem Samples_law {x0 : List Int} (h0 : ∀ y ∈ x0, (Lit.int .u8 y).wf = true) (g0 : x0.length * 1 ≤ 140737488351232) : Fs3 x0 = some true := by
  have hx := byt_wf h0
  have f5 : x0.length ≠ 34 → Fs5 x0 = some ((fun _ => 0), 91) := fun h => by
    have c : (((x0.length : Nat) : Int) != 34) = true := len_no (by omega)
    simp only [Fs5, c, if_true]
  have f8 : x0.length ≠ 34 → Fs8 x0 = some ((fun _ => 0), 91) := fun h => by
    have c : (((x0.length : Nat) : Int) != 34) = true := len_no (by omega)
    simp only [Fs8, c, if_true]
  have f6 : x0.length ≠ 66 → Fs6 x0 = some ((fun _ => 0), 91) := fun h => by
    have c : (((x0.length : Nat) : Int) != 66) = true := len_no (by omega)
    simp only [Fs6, c, if_true]
  have f9 : x0.length ≠ 66 → Fs9 x0 = some ((fun _ => 0), 91) := fun h => by
    have c : (((x0.length : Nat) : Int) != 66) = true := len_no (by omega)
    simp only [Fs9, c, if_true]
  have f7 : x0.length ≠ 48 → Fs7 x0 = some ((fun _ => 0), 91) := fun h => by
    have c : (((x0.length : Nat) : Int) != 48) = true := len_no (by omega)
    simp only [Fs7, c, if_true]
  have f10 : x0.length ≠ 48 → Fs10 x0 = some ((fun _ => 0), 91) := fun h => by
    have c : (((x0.length : Nat) : Int) != 48) = true := len_no (by omega)
    simp only [Fs10, c, if_true]
  obtain ⟨N1, n1⟩ : ∃ N, N = 2016 := ⟨_, rfl⟩
  obtain ⟨N2, n2⟩ : ∃ N, N = 2000 := ⟨_, rfl⟩
  obtain ⟨N3, n3⟩ : ∃ N, N = 1000 := ⟨_, rfl⟩
  by_cases c1 : x0.length = 34
  · have u1 := uni_prog hx c1 n1
    have u2 := uni_ref hx c1 n1
    generalize outc (uni (drw 168 31 x0) N1) = z at u1 u2
    obtain ⟨p, e⟩ := z
    exact law_true u1 (f6 (by omega)) (f7 (by omega)) u2 (f9 (by omega)) (f10 (by omega)) (fun _ _ => rfl) (fun _ _ => rfl) (fun _ _ => rfl) rfl rfl rfl
  · by_cases c2 : x0.length = 66
    · obtain ⟨r, e, hr⟩ := sml_prog hx c2 n2
      have u2 := sml_ref hx c2 n2
      exact law_true (f5 c1) e (f7 (by omega)) (f8 c1) u2 (f10 (by omega)) (fun _ _ => rfl) hr (fun _ _ => rfl) rfl rfl rfl
    · by_cases c3 : x0.length = 48
      · obtain ⟨r, e, hr⟩ := bal_prog hx c3 n3
        have u2 := bal_ref hx c3 n3
        exact law_true (f5 c1) (f6 c2) e (f8 c1) (f9 c2) u2 (fun _ _ => rfl) (fun _ _ => rfl) hr rfl rfl rfl
      · exact law_true (f5 c1) (f6 c2) (f7 c3) (f8 c1) (f9 c2) (f10 c3) (fun _ _ => rfl) (fun _ _ => rfl) (fun _ _ => rfl) rfl rfl rfl
end Go.Abs
