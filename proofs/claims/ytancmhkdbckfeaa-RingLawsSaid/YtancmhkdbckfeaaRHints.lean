/- Sums and reductions of polynomials; RingHints, the plain law. -/
import Derived.Test.YtancmhkdbckfeaaRNums
set_option linter.unusedVariables false
set_option linter.unusedSimpArgs false
namespace Go.Abs
open Go.ChangeShapes Go.WideShapes

theorem reduce_spec {p : Nat → Int} (hp : ∀ i, i < 256 → -2147483648 ≤ p i ∧ p i < 2147483648) : Ret (Fr21 p) fun r => ∀ i, i < 256 → r i = p i % 8380417 := by
  simp only [Fr21]
  refine Ret.bind (Q := fun r => ∀ i, i < 256 → r.1 i = p i % 8380417) ?_ fun ⟨z1, z2⟩ h => ⟨_, rfl, h⟩
  refine loopO_inv (fun i s => ∃ f : Nat → Int, s = (p, (i : Int), f, (fun _ => 0)) ∧ ∀ k, k < i → f k = p k % 8380417) 256 ⟨_, rfl, fun k h => by omega⟩ ?_ ?_
  · rintro i _ hi ⟨f, rfl, hf⟩
    have hpi := hp i hi
    refine ⟨_, ?_, upd f i (p i % 8380417), rfl, fun k hk => ?_⟩
    · simp only [stepr21_0]
      simp (disch := omega) only [decide_eq_true_eq, if_pos, Int.toNat_natCast, wi64]
      rw [rmod_spec (by omega) (by omega), Option.bind_some]
      rfl
    · rw [upd_apply]
      by_cases e : k = i
      · subst e; rw [if_pos rfl]
      · rw [if_neg e]; exact hf k (by omega)
  · rintro _ ⟨f, rfl, hf⟩
    refine ⟨(f, (fun _ => 0)), ?_, hf⟩
    simp only [stepr21_0]; simp (disch := omega) only [decide_eq_true_eq, if_neg]

theorem rreduce_spec {p : Nat → Int} (hp : ∀ i, i < 256 → -2147483648 ≤ p i ∧ p i < 2147483648) : Ret (Fr27 p) fun r => ∀ i, i < 256 → r i = p i % 8380417 := by
  simp only [Fr27]
  refine Ret.bind (Q := fun r => ∀ i, i < 256 → r.2 i = p i % 8380417) ?_ fun ⟨z1, z2⟩ h => ⟨_, rfl, h⟩
  refine loopO_inv (fun i s => ∃ f : Nat → Int, s = ((i : Int), p, (fun _ => 0), f) ∧ ∀ k, k < i → f k = p k % 8380417) 256 ⟨_, rfl, fun k h => by omega⟩ ?_ ?_
  · rintro i _ hi ⟨f, rfl, hf⟩
    have hpi := hp i hi
    refine ⟨_, ?_, upd f i (p i % 8380417), rfl, fun k hk => ?_⟩
    · simp only [stepr27_0]
      simp (disch := omega) only [decide_eq_true_eq, if_pos, Int.toNat_natCast, wi64]
      rw [rmod2_spec (by omega) (by omega), Option.bind_some]
      rfl
    · rw [upd_apply]
      by_cases e : k = i
      · subst e; rw [if_pos rfl]
      · rw [if_neg e]; exact hf k (by omega)
  · rintro _ ⟨f, rfl, hf⟩
    refine ⟨((fun _ => 0), f), ?_, hf⟩
    simp only [stepr27_0]; simp (disch := omega) only [decide_eq_true_eq, if_neg]

theorem add_yes {a b : Nat → Int} (ha : Pq a) (hb : Pq b) : Ret (Fr22 (a, b)) fun y => y.2 = 0 ∧ ∀ i, i < 256 → y.1 i = (a i + b i) % 8380417 := by
  simp only [Fr22, plain2_yes ha hb, Option.bind_some, Bool.not_true, Bool.false_eq_true, if_false]
  refine Ret.bind (Q := fun r => ∀ i, i < 256 → r.1 i = (a i + b i) % 8380417) ?_ fun ⟨z1, z2⟩ h => ⟨_, rfl, rfl, h⟩
  refine loopO_inv (fun i s => ∃ f : Nat → Int, s = (b, (i : Int), f, (fun _ => 0)) ∧ ∀ k, k < 256 → f k = if k < i then (a k + b k) % 8380417 else a k) 256 ⟨a, rfl, fun k h => by simp⟩ ?_ ?_
  · rintro i _ hi ⟨f, rfl, hf⟩
    have h1 := ha i hi
    have h2 := hb i hi
    have h3 := hf i hi
    rw [if_neg (Nat.lt_irrefl _)] at h3
    refine ⟨_, ?_, upd f i ((a i + b i) % 8380417), rfl, fun k hk => ?_⟩
    · simp only [stepr22_0]
      simp (disch := omega) only [decide_eq_true_eq, if_pos, Int.toNat_natCast, h3, wi64]
      rw [rmod_spec (by omega) (by omega), Option.bind_some]
      rfl
    · rw [upd_apply]
      by_cases e : k = i
      · rw [if_pos e, if_pos (by omega), e]
      · rw [if_neg e, hf k hk]
        by_cases c : k < i
        · rw [if_pos c, if_pos (by omega)]
        · rw [if_neg c, if_neg (by omega)]
  · rintro _ ⟨f, rfl, hf⟩
    refine ⟨(f, (fun _ => 0)), ?_, fun k hk => by show f k = _; rw [hf k hk, if_pos hk]⟩
    simp only [stepr22_0]; simp (disch := omega) only [decide_eq_true_eq, if_neg]

theorem dec_low {r : Int} (h : 0 ≤ r ∧ r < 8380417) : -261888 < dL r ∨ dH r = 0 := by
  unfold dH dL lo0
  split <;> split <;> omega

/-- a hint tells the high part of a sum -/
theorem hint_key {r z : Int} (hr : 0 ≤ r ∧ r < 8380417) (hz : -261888 ≤ z ∧ z ≤ 261888) : uH (dH r != dH ((r + z % 8380417) % 8380417)) r = dH ((r + z % 8380417) % 8380417) := by
  have hs := mod_Pq (r + z % 8380417)
  have hsr : (r + z % 8380417) % 8380417 = r + z ∨ (r + z % 8380417) % 8380417 = r + z - 8380417 ∨ (r + z % 8380417) % 8380417 = r + z + 8380417 := by omega
  generalize (r + z % 8380417) % 8380417 = s at *
  have b1 := dec_bounds hr
  have b2 := dec_bounds hs
  have c1 := dec_low hr
  have c2 := dec_low hs
  unfold uH
  by_cases c : dH r = dH s
  · rw [if_neg (by simpa using c)]; exact c
  · rw [if_pos (by simpa using c)]
    generalize dH r = H1 at *
    generalize dL r = L1 at *
    generalize dH s = H2 at *
    generalize dL s = L2 at *
    split <;> rcases hsr with e | e | e <;> omega

theorem hints_true {a b : Int} (ha : -2147483648 ≤ a ∧ a < 2147483648) (hb : -2147483648 ≤ b ∧ b < 2147483648) : Fr5 (a, b) = some true := by
  have hz : -261888 ≤ b.tmod 261889 ∧ b.tmod 261889 ≤ 261888 := by
    have e : b.tmod 261889 = if 0 ≤ b then b % 261889 else -((-b) % 261889) := by
      split
      · exact tmodP (by assumption)
      · rw [show b = -(-b) by omega, Int.neg_tmod, tmodP (x := -b) (by omega), Int.neg_neg]
    rw [e]; split <;> omega
  generalize hzz : b.tmod 261889 = z at hz
  obtain ⟨y2, e2, k2⟩ := reduce_spec (p := upd (upd (fun _ => 0) 0 a) 1 b) fun i _ => by
    rw [upd_apply, upd_apply]; split
    · exact hb
    · split
      · exact ha
      · omega
  obtain ⟨y3, e3, k3⟩ := reduce_spec (p := upd (fun _ => 0) 0 z) fun i _ => by
    rw [upd_apply]; split
    · omega
    · omega
  have r2 : y2 0 = a % 8380417 := k2 0 (by omega)
  have r3 : y3 0 = z % 8380417 := k3 0 (by omega)
  have hr : 0 ≤ y2 0 ∧ y2 0 < 8380417 := by rw [r2]; exact mod_Pq _
  have hq : 0 ≤ y3 0 ∧ y3 0 < 8380417 := by rw [r3]; exact mod_Pq _
  have hw : IntKind.i32.wrap (y2 0 - 4000000) = y2 0 - 4000000 := wi32 (by omega) (by omega)
  obtain ⟨y5, e5, k5⟩ := reduce_spec (p := upd (upd (fun _ => 0) 0 (y2 0 - 4000000)) 1 z) fun i _ => by
    rw [upd_apply, upd_apply]; split
    · omega
    · split
      · omega
      · omega
  have r5 : y5 1 = y3 0 := by rw [r3]; exact k5 1 (by omega)
  have one : ∀ x : Int, 0 ≤ x ∧ x < 8380417 → Pq (upd (fun _ => 0) 0 x) := by
    intro x hx i _
    rw [upd_apply]; split
    · exact hx
    · omega
  obtain ⟨⟨y6, f⟩, e6, rfl, k6⟩ := add_yes (one _ hr) (one _ hq)
  have r6 : y6 0 = (y2 0 + z % 8380417) % 8380417 := by rw [← r3]; exact k6 0 (by omega)
  have hs : 0 ≤ y6 0 ∧ y6 0 < 8380417 := by rw [r6]; exact mod_Pq _
  have hk := hint_key hr hz
  have em := make_yes hq hr
  rw [r3, ← r6] at em
  rw [← r6] at hk
  have b1 := dec_bounds hs
  have b3 : -4096 < y2 0 - 8192 * p1 (y2 0) ∧ y2 0 - 8192 * p1 (y2 0) ≤ 4096 ∧ 0 ≤ p1 (y2 0) ∧ p1 (y2 0) ≤ 2000 := by unfold p1; omega
  have x18 : (IntKind.i32.wrap (IntKind.i32.wrap (8192 * p1 (y2 0)) + (y2 0 - 8192 * p1 (y2 0))) == y2 0) = true := by
    rw [wi32 (n := 8192 * p1 (y2 0)) (by omega) (by omega), wi32 (by omega) (by omega), beq_iff_eq]; omega
  have d1 : decide (y2 0 - 8192 * p1 (y2 0) > -4096) = true := decide_eq_true (by omega)
  have d2 : decide (y2 0 - 8192 * p1 (y2 0) ≤ 4096) = true := decide_eq_true (by omega)
  have d3 : decide (dH (y6 0) ≥ 0) = true := decide_eq_true (by omega)
  have d4 : decide (dH (y6 0) < 16) = true := decide_eq_true (by omega)
  have d5 : decide (dL (y6 0) ≥ -261888) = true := decide_eq_true (by omega)
  have d6 : decide (dL (y6 0) ≤ 261888) = true := decide_eq_true (by omega)
  have x19 : (IntKind.i32.wrap (IntKind.i32.wrap (523776 * dH (y6 0)) + dL (y6 0)) == y6 0) = decide (523776 * dH (y6 0) + dL (y6 0) = y6 0) := by
    rw [wi32 (n := 523776 * dH (y6 0)) (by omega) (by omega), wi32 (by omega) (by omega)]
    by_cases c : 523776 * dH (y6 0) + dL (y6 0) = y6 0 <;> simp [c]
  have r53 : (y5 1 == y3 0) = true := by rw [r5]; simp
  have hk2 : (uH (dH (y2 0) != dH (y6 0)) (y2 0) == dH (y6 0)) = true := by rw [hk]; simp
  rw [← r3] at em
  simp only [Fr5, rawake_true, hzz, e2, e3, hw, e5, e6, em, use_yes hr, dec_yes hs, p2r_yes hr, Option.bind_some, BEq.rfl, if_true, x18, d1, d2, d3, d4, d5, d6, x19, r53, hk2]
  by_cases c : 523776 * dH (y6 0) + dL (y6 0) = y6 0
  · simp only [c, decide_true, Bool.true_eq_false, if_false]
  · obtain ⟨g1, g2, g3⟩ : dH (y6 0) = 0 ∧ dL (y6 0) < 0 ∧ dL (y6 0) + 8380417 = y6 0 := by
      rcases b1.2.2.2.2 with h | h
      · exact absurd h c
      · exact h
    have c0 : (dH (y6 0) == 0) = true := by rw [g1]; rfl
    have c1 : decide (dL (y6 0) < 0) = true := decide_eq_true g2
    have c2 : (IntKind.i32.wrap (dL (y6 0) + 8380417) == y6 0) = true := by rw [wi32 (by omega) (by omega), g3]; simp
    simp only [c, decide_false, if_true, c0, c1, c2]

theorem hints_law {x0 x1 : Int} (h0 : (Lit.int .i32 x0).wf = true) (h1 : (Lit.int .i32 x1).wf = true) : Fr5 (x0, x1) = some true :=
  hints_true (by have := bounds_i32 h0; omega) (by have := bounds_i32 h1; omega)
end Go.Abs
