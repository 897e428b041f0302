/- The document's products; quotients and rests on both sides; WideProducts, the plain law. -/
import Derived.Test.YtamclijpaplnlaaWProd
set_option linter.unusedVariables false
set_option linter.unusedSimpArgs false
namespace Go.Abs
open Go.ChangeShapes Go.WideShapes

theorem LL_upd (n : Nat) (f : Nat → Int) (i : Nat) (v : Int) : (LL n f).set i v = LL n (upd f i v) := by
  rw [LL_set]; congr 1; funext k; rw [upd_apply]
theorem LL_zero (n : Nat) : List.replicate n (0 : Int) = LL n (fun _ => 0) := by
  apply List.ext_getElem?
  intro i
  simp only [LL, List.getElem?_replicate, List.getElem?_map]
  by_cases h : i < n
  · rw [if_pos h, List.getElem?_range h]; rfl
  · rw [if_neg h, List.getElem?_eq_none (by simp; omega)]; rfl

theorem val_zero' (B : Int) (n : Nat) : val B (fun _ => 0) n = 0 := by
  induction n with
  | zero => rfl
  | succ n ih => simp [val, ih]

theorem rmul_inner {i : Nat} (hi : i < 16) {x y g : Nat → Int} {z : Nat → Int} (hx : Dig B16 x 16) (hy : Dig B16 y 16) (hg : ∀ k, 0 ≤ g k ∧ g k ≤ i * 4294836225) :
    Ret (loopO stepw34_1 ((i : Int), 0, z, LL 16 x, LL 16 y, LL 32 g)) fun r => ∃ g', r = ((i : Int), z, LL 16 x, LL 16 y, LL 32 g') ∧ (∀ k, 0 ≤ g' k ∧ g' k ≤ i * 4294836225 + 4294836225) ∧
      val B16 g' 32 = val B16 g 32 + x i * val B16 y 16 * B16 ^ i := by
  refine loopO_inv (fun j s => ∃ g', s = ((i : Int), (j : Int), z, LL 16 x, LL 16 y, LL 32 g') ∧ (∀ k, 0 ≤ g' k ∧ g' k ≤ i * 4294836225 + (if k < i + j then 4294836225 else 0)) ∧
      val B16 g' 32 = val B16 g 32 + x i * val B16 y j * B16 ^ i) 16 ⟨g, rfl, fun k => ⟨(hg k).1, by have := (hg k).2; split <;> omega⟩, by simp [val]⟩ ?_ ?_
  · rintro j _ hj ⟨f, rfl, hf, hv⟩
    have h1 := hx i hi
    have h2 := hy j hj
    have h3 := hf (i + j)
    simp only [B16] at h1 h2
    rw [if_neg (by omega)] at h3
    have hp := mul_le (a := x i) (b := y j) (m := 65535) h1.1 (by omega) h2.1 (by omega)
    have e1 : ((i : Int) + (j : Int)).toNat = i + j := by omega
    refine ⟨_, ?_, upd f (i + j) (f (i + j) + x i * y j), rfl, ?_, ?_⟩
    · simp only [stepw34_1, LL_length]
      simp (disch := omega) only [decide_eq_true_eq, if_pos, wi64, e1, Int.toNat_natCast, LL_getD, wu64]
      rw [LL_upd]
      rfl
    · intro k
      rw [upd_apply]
      by_cases e : k = i + j
      · rw [if_pos e, if_pos (by omega)]; omega
      · rw [if_neg e]
        have := hf k
        refine ⟨this.1, ?_⟩
        by_cases c : k < i + j
        · rw [if_pos c] at this; rw [if_pos (by omega)]; exact this.2
        · rw [if_neg c] at this; rw [if_neg (by omega)]; exact this.2
    · rw [val_upd (by omega), hv]
      show _ = val B16 g 32 + x i * (val B16 y j + y j * B16 ^ j) * B16 ^ i
      have e2 : x i * (val B16 y j + y j * B16 ^ j) * B16 ^ i = x i * val B16 y j * B16 ^ i + x i * y j * B16 ^ (i + j) := by
        rw [Int.mul_add, Int.add_mul, ← Int.mul_assoc, Int.mul_assoc (x i * y j), ← Int.pow_add, Nat.add_comm j i]
      rw [e2, show f (i + j) + x i * y j - f (i + j) = x i * y j by omega]; omega
  · rintro _ ⟨f, rfl, hf, hv⟩
    refine ⟨_, ?_, f, rfl, fun k => ⟨(hf k).1, by have := (hf k).2; split at this <;> omega⟩, hv⟩
    simp only [stepw34_1]; simp (disch := omega) only [decide_eq_true_eq, if_neg]

theorem rmul_spec {a b : Nat → Int} (ha : Dig B64 a 4) (hb : Dig B64 b 4) : Ret (Fw34 (a, b)) fun y => Dig B64 y 8 ∧ val B64 y 8 = val B64 a 4 * val B64 b 4 := by
  have va : val B16 (d16 a) 16 = val B64 a 4 := val_d16 ha
  have vb : val B16 (d16 b) 16 = val B64 b 4 := val_d16 hb
  simp only [Fw34, Fw38_eq ha, Fw38_eq hb, Option.bind_some, LL_zero]
  rw [if_pos (by unfold okBytes; omega)]
  refine Ret.bind (Q := fun r => ∃ g, r = ((fun _ => 0), LL 32 g) ∧ (∀ k, 0 ≤ g k ∧ g k ≤ 68717379600) ∧ val B16 g 32 = val B64 a 4 * val B64 b 4) ?_ ?_
  · refine loopO_inv (fun j s => ∃ g, s = ((j : Int), (fun _ => 0), LL 16 (d16 a), LL 16 (d16 b), LL 32 g) ∧ (∀ k, 0 ≤ g k ∧ g k ≤ j * 4294836225) ∧ val B16 g 32 = val B16 (d16 a) j * val B16 (d16 b) 16) 16 ⟨_, rfl, fun _ => by simp, by rw [val_zero']; simp [val]⟩ ?_ ?_
    · rintro j _ hj ⟨g, rfl, hg, hv⟩
      obtain ⟨r, h1, g', rfl, h2, h3⟩ := rmul_inner (z := fun _ => 0) hj (d16_dig a 16) (d16_dig b 16) hg
      refine ⟨_, ?_, g', rfl, fun k => ⟨(h2 k).1, by have := (h2 k).2; omega⟩, ?_⟩
      · simp only [stepw34_0]
        simp (disch := omega) only [decide_eq_true_eq, if_pos, h1, Option.bind_some, wi64]
        rfl
      · rw [h3, hv]
        show _ = (val B16 (d16 a) j + d16 a j * B16 ^ j) * _
        rw [Int.add_mul, Int.mul_assoc, Int.mul_comm (val B16 (d16 b) 16) (B16 ^ j), Int.mul_assoc]
    · rintro _ ⟨g, rfl, hg, hv⟩
      refine ⟨_, ?_, g, rfl, fun k => ⟨(hg k).1, by have := (hg k).2; omega⟩, ?_⟩
      · simp only [stepw34_0]; simp (disch := omega) only [decide_eq_true_eq, if_neg]
      · rw [hv, va, vb]
  rintro _ ⟨g, rfl, hg, hv⟩
  rw [if_pos (by unfold okBytes; omega)]
  have hs := val_sum (B := B16) g (fun _ => 0) 32
  have hcb : ∀ n, 0 ≤ carry B16 g (fun _ => 0) n ∧ carry B16 g (fun _ => 0) n ≤ 1048576 := by
    intro n
    induction n with
    | zero => simp [carry]
    | succ n ih =>
      have := hg n
      simp only [carry, B16] at ih ⊢; omega
  have hdig := sumD_dig (B := B16) (by decide) g (fun _ => 0) 32
  have hwd := wordOf_dig (n := 8) hdig
  refine Ret.bind (Q := fun r => r = ((fun _ => 0), LL 32 (sumD B16 g (fun _ => 0)))) ?_ ?_
  · refine loopO_inv (fun j s => ∃ f, s = (carry B16 g (fun _ => 0) j, (j : Int), (fun _ => 0), LL 32 g, LL 32 f) ∧ ∀ k, k < j → f k = sumD B16 g (fun _ => 0) k) 32 ⟨_, rfl, fun k h => by omega⟩ ?_ ?_
    · rintro j _ hj ⟨f, rfl, hf⟩
      have h1 := hg j
      have h2 := hcb j
      have h3 : 0 ≤ sumD B16 g (fun _ => 0) j ∧ sumD B16 g (fun _ => 0) j < 65536 := hdig j hj
      refine ⟨_, ?_, upd f j (sumD B16 g (fun _ => 0) j), rfl, fun k hk => ?_⟩
      · simp only [stepw34_2, LL_length]
        have e1 : IntKind.u64.wrap (g j + carry B16 g (fun _ => 0) j) = g j + carry B16 g (fun _ => 0) j := wu64 (by omega) (by omega)
        simp (disch := omega) only [decide_eq_true_eq, if_pos, wi64, Int.toNat_natCast, LL_getD, e1, tdivP, tmodP]
        rw [wu64 (n := (g j + carry B16 g (fun _ => 0) j) / 65536) (by omega) (by omega), LL_upd, wu32 (by omega) (by omega)]
        simp only [sumD, carry, Int.add_zero, B16]
        rfl
      · rw [upd_apply]
        by_cases e : k = j
        · rw [if_pos e, e]
        · rw [if_neg e]; exact hf k (by omega)
    · rintro _ ⟨f, rfl, hf⟩
      refine ⟨((fun _ => 0), LL 32 f), ?_, by rw [LL_congr hf]⟩
      simp only [stepw34_2]; simp (disch := omega) only [decide_eq_true_eq, if_neg]
  rintro _ rfl
  refine Ret.bind (Q := fun r => ∀ k, k < 8 → r.2 k = wordOf (sumD B16 g (fun _ => 0)) k) ?_ ?_
  · refine loopO_inv (fun j s => ∃ f, s = ((j : Int), (fun _ => 0), LL 32 (sumD B16 g (fun _ => 0)), f) ∧ ∀ k, k < j → f k = wordOf (sumD B16 g (fun _ => 0)) k) 8 ⟨_, rfl, fun k h => by omega⟩ ?_ ?_
    · rintro j _ hj ⟨f, rfl, hf⟩
      have hw := word_spec (LL 32 (sumD B16 g (fun _ => 0))) (LL_dig hdig) j (by omega) (by simp)
      have he : wordOf (fun k => (LL 32 (sumD B16 g (fun _ => 0))).getD k 0) j = wordOf (sumD B16 g (fun _ => 0)) j := by
        simp only [wordOf, LL_getD]
        rw [if_pos (by omega), if_pos (by omega), if_pos (by omega), if_pos (by omega)]
      rw [he] at hw
      refine ⟨_, ?_, upd f j (wordOf (sumD B16 g (fun _ => 0)) j), rfl, fun k hk => ?_⟩
      · simp only [stepw34_3]
        simp (disch := omega) only [decide_eq_true_eq, if_pos, wi64, hw, Option.bind_some, Int.toNat_natCast]
        rfl
      · rw [upd_apply]
        by_cases e : k = j
        · rw [if_pos e, e]
        · rw [if_neg e]; exact hf k (by omega)
    · rintro _ ⟨f, rfl, hf⟩
      refine ⟨((fun _ => 0), f), ?_, hf⟩
      simp only [stepw34_3]; simp (disch := omega) only [decide_eq_true_eq, if_neg]
  rintro ⟨z1, z2⟩ hz
  simp only at hz
  refine ⟨_, rfl, fun i hi => by show 0 ≤ z2 i ∧ z2 i < B64; rw [hz i hi]; exact hwd i hi, ?_⟩
  show val B64 z2 8 = _
  rw [val_congr hz, val_words, show 4 * 8 = 32 from rfl]
  rw [val_zero', Int.add_zero, hv] at hs
  have b1 := val_bound (by decide) hdig
  have a1 := val4_bound ha
  have a2 := val4_bound hb
  have hlt : val B64 a 4 * val B64 b 4 < B16 ^ 32 := by
    rw [show (B16 : Int) ^ 32 = W256 * W256 by decide]
    rcases Int.lt_or_le 0 (val B64 b 4) with h | h
    · exact Int.lt_of_lt_of_le (Int.mul_lt_mul_of_pos_right a1.2 h) (Int.mul_le_mul_of_nonneg_left (Int.le_of_lt a2.2) (by decide))
    · rw [show val B64 b 4 = 0 by omega, Int.mul_zero]; decide
  have hc0 : carry B16 g (fun _ => 0) 32 = 0 := by
    have := (hcb 32).1
    rcases Int.lt_or_le 0 (carry B16 g (fun _ => 0) 32) with h | h
    · have : 1 * B16 ^ 32 ≤ carry B16 g (fun _ => 0) 32 * B16 ^ 32 := Int.mul_le_mul_of_nonneg_right (by omega) (by decide)
      rw [Int.one_mul] at this
      generalize (B16 : Int) ^ 32 = q at *
      omega
    · omega
  rw [hc0] at hs; omega
end Go.Abs
