/- Numbers by their value: sums, doubling with a bit, and the step of a division, on both sides; WideReduces, the plain law. -/
import Derived.Test.YtamclijpaplnlaaWBytes
set_option linter.unusedVariables false
set_option linter.unusedSimpArgs false
namespace Go.Abs
open Go.ChangeShapes Go.WideShapes

abbrev W256 : Int := 115792089237316195423570985008687907853269984665640564039457584007913129639936
theorem B64_4 : (B64 : Int) ^ 4 = W256 := by decide
theorem two256 : (2 : Nat) ^ 256 = 115792089237316195423570985008687907853269984665640564039457584007913129639936 := by decide

theorem val4_bound {f : Nat → Int} (h : Dig B64 f 4) : 0 ≤ val B64 f 4 ∧ val B64 f 4 < W256 := by
  have := val_bound (by decide) h; rw [B64_4] at this; exact this

theorem add_val {a b : Nat → Int} (ha : Dig B64 a 4) (hb : Dig B64 b 4) : Ret (Fw10 (a, b)) fun y => Dig B64 y.1 4 ∧ val B64 y.1 4 = (val B64 a 4 + val B64 b 4) % W256 ∧ y.2 = (val B64 a 4 + val B64 b 4) / W256 := by
  obtain ⟨z, h1, h2⟩ := add_spec ha hb
  have hd := sumD_dig (B := B64) (by decide) a b 4
  have hv := val_sum (B := B64) a b 4
  have hb' := val4_bound hd
  rw [B64_4] at hv
  have e : val B64 z 4 = val B64 (sumD B64 a b) 4 := val_congr h2
  refine ⟨_, h1, fun i hi => by show 0 ≤ z i ∧ z i < B64; rw [h2 i hi]; exact hd i hi, ?_, ?_⟩
  · show val B64 z 4 = _
    rw [e]; simp only [W256] at *; omega
  · show carry B64 a b 4 = _
    simp only [W256] at *; omega

theorem sub_val {a b : Nat → Int} (ha : Dig B64 a 4) (hb : Dig B64 b 4) : Ret (Fw11 (a, b)) fun y => Dig B64 y.1 4 ∧ val B64 y.1 4 = (val B64 a 4 - val B64 b 4) % W256 ∧ y.2 = if val B64 a 4 < val B64 b 4 then 1 else 0 := by
  obtain ⟨z, h1, h2⟩ := sub_spec ha hb
  have hd := difD_dig (B := B64) (by decide) a b 4
  have hv := val_dif (B := B64) (by decide) a b 4 fun i hi => ⟨ha i hi, hb i hi⟩
  have hb' := val4_bound hd
  have h01 := borrow_01 B64 a b 4
  have va := val4_bound ha
  have vb := val4_bound hb
  rw [B64_4] at hv
  have e : val B64 z 4 = val B64 (difD B64 a b) 4 := val_congr h2
  refine ⟨_, h1, fun i hi => by show 0 ≤ z i ∧ z i < B64; rw [h2 i hi]; exact hd i hi, ?_, ?_⟩
  · show val B64 z 4 = _
    rw [e]; simp only [W256] at *; omega
  · show borrow B64 a b 4 = _
    simp only [W256] at *
    split <;> omega

theorem radd_val {a b : Nat → Int} (ha : Dig B64 a 4) (hb : Dig B64 b 4) : Ret (Fw12 (a, b)) fun y => Dig B64 y.1 4 ∧ val B64 y.1 4 = (val B64 a 4 + val B64 b 4) % W256 ∧ y.2 = (val B64 a 4 + val B64 b 4) / W256 := by
  obtain ⟨z, h1, h2⟩ := radd_spec ha hb
  have hd16 := sumD_dig (B := B16) (by decide) (d16 a) (d16 b) 16
  have hd := wordOf_dig (n := 4) hd16
  have hv := val_sum (B := B16) (d16 a) (d16 b) 16
  have va : val B16 (d16 a) 16 = val B64 a 4 := val_d16 ha
  have vb : val B16 (d16 b) 16 = val B64 b 4 := val_d16 hb
  have w1 := val_words (sumD B16 (d16 a) (d16 b)) 4
  rw [show 4 * 4 = 16 from rfl] at w1
  have hb' := val4_bound hd
  rw [va, vb, ← w1, show (B16 : Int) ^ 16 = W256 by decide] at hv
  have e : val B64 z 4 = val B64 (wordOf (sumD B16 (d16 a) (d16 b))) 4 := val_congr h2
  refine ⟨_, h1, fun i hi => by show 0 ≤ z i ∧ z i < B64; rw [h2 i hi]; exact hd i hi, ?_, ?_⟩
  · show val B64 z 4 = _
    rw [e]; simp only [W256] at *; omega
  · show carry B16 (d16 a) (d16 b) 16 = _
    simp only [W256] at *; omega

theorem rsub_val {a b : Nat → Int} (ha : Dig B64 a 4) (hb : Dig B64 b 4) : Ret (Fw13 (a, b)) fun y => Dig B64 y.1 4 ∧ val B64 y.1 4 = (val B64 a 4 - val B64 b 4) % W256 := by
  obtain ⟨z, h1, h2⟩ := rsub_spec ha hb
  have hd16 := difD_dig (B := B16) (by decide) (d16 a) (d16 b) 16
  have hd := wordOf_dig (n := 4) hd16
  have hv := val_dif (B := B16) (by decide) (d16 a) (d16 b) 16 fun i hi => ⟨d16_dig a 16 i hi, d16_dig b 16 i hi⟩
  have va : val B16 (d16 a) 16 = val B64 a 4 := val_d16 ha
  have vb : val B16 (d16 b) 16 = val B64 b 4 := val_d16 hb
  have w1 := val_words (difD B16 (d16 a) (d16 b)) 4
  rw [show 4 * 4 = 16 from rfl] at w1
  have hb' := val4_bound hd
  rw [va, vb, ← w1, show (B16 : Int) ^ 16 = W256 by decide] at hv
  have e : val B64 z 4 = val B64 (wordOf (difD B16 (d16 a) (d16 b))) 4 := val_congr h2
  refine ⟨_, h1, fun i hi => by show 0 ≤ z i ∧ z i < B64; rw [h2 i hi]; exact hd i hi, ?_⟩
  · show val B64 z 4 = _
    rw [e]; simp only [W256] at *; omega

theorem shl1_val {a : Nat → Int} (ha : Dig B64 a 4) : Ret (Fw18 (a, 1)) fun z => Dig B64 z 4 ∧ val B64 z 4 = 2 * val B64 a 4 % W256 := by
  refine (shl_spec ha 1).mono fun z ⟨hd, hb⟩ => ⟨hd, ?_⟩
  have b1 := val4_bound ha
  have b2 := val4_bound hd
  have : (val B64 z 4).toNat = (2 * (val B64 a 4).toNat) % 2 ^ 256 := by
    apply Nat.eq_of_testBit_eq
    intro k
    rw [Nat.testBit_mod_two_pow]
    by_cases hk : k < 256
    · rw [val_bit hd k (by omega), hb k hk]
      simp only [hk, decide_true, Bool.true_and]
      have e : clamp 1 = 1 := rfl
      rw [e]
      cases k with
      | zero => simp [Nat.testBit_zero]
      | succ k =>
        rw [Nat.testBit_succ, show 2 * (val B64 a 4).toNat / 2 = (val B64 a 4).toNat by omega, val_bit ha k (by omega)]
        simp
    · simp only [hk, decide_false, Bool.false_and]
      exact Nat.testBit_lt_two_pow (Nat.lt_of_lt_of_le (show _ < 2 ^ 256 by rw [two256]; simp only [W256] at b2; omega) (Nat.pow_le_pow_right (by decide) (by omega)))
  rw [two256] at this
  simp only [W256] at *; omega

theorem val4_head {f : Nat → Int} : val B64 f 4 = f 0 + B64 * (f 1 + f 2 * B64 + f 3 * B64 ^ 2) := by
  simp only [val, B64]; simp only [Int.pow_zero, Int.mul_one, Int.reducePow, Int.zero_add]; omega

/-- setting the lowest bit of an even number -/
theorem val4_upd0 {f : Nat → Int} (v : Int) : val B64 (upd f 0 v) 4 = val B64 f 4 - f 0 + v := by
  rw [val4_head, val4_head, upd_same, upd_ne _ _ (by decide), upd_ne _ _ (by decide), upd_ne _ _ (by decide)]; omega
theorem upd_dig {B : Int} {f : Nat → Int} {n k : Nat} {v : Int} (h : Dig B f n) (hv : 0 ≤ v ∧ v < B) : Dig B (upd f k v) n := by
  intro i hi
  rw [upd_apply]
  split
  · exact hv
  · exact h i hi

theorem even_head {f : Nat → Int} {x : Int} (h : val B64 f 4 = 2 * x % W256) : f 0 % 2 = 0 := by
  rw [val4_head] at h
  simp only [B64, W256] at h; omega

/-- The step of a division: twice the rest and a bit, less the modulus if it can be. -/
def StepOk (r : Nat → Int) (bit : Int) (m : Nat → Int) (y : (Nat → Int) × Bool) : Prop :=
  Dig B64 y.1 4 ∧ val B64 y.1 4 = (2 * val B64 r 4 + bit) % val B64 m 4 ∧ y.2 = decide (val B64 m 4 ≤ 2 * val B64 r 4 + bit)

theorem sg_neg {x y : Int} : sg x y < 0 ↔ x < y := by unfold sg; split <;> (try split) <;> omega

theorem emod_less {x m : Int} (h1 : 0 ≤ x) (h2 : x < m) : x % m = x := Int.emod_eq_of_lt h1 h2
theorem emod_once {x m : Int} (h1 : m ≤ x) (h2 : x < 2 * m) : x % m = x - m := by
  rw [← Int.sub_emod_right, Int.emod_eq_of_lt (by omega) (by omega)]

theorem step_spec {r m : Nat → Int} {bit : Int} (hr : Dig B64 r 4) (hm : Dig B64 m 4) (hb : bit = 0 ∨ bit = 1) (hlt : val B64 r 4 < val B64 m 4) : Ret (Fw43 (r, bit, m)) (StepOk r bit m) := by
  have br := val4_bound hr
  have bm := val4_bound hm
  simp only [Fw43]
  refine (shl1_val hr).bind fun z ⟨hz, vz⟩ => ?_
  have hev := even_head vz
  have hz0 := hz 0 (by omega)
  simp only [B64] at hz0
  have hor : bitsOr .u64 (z 0) (IntKind.u64.wrap bit) = z 0 + bit := by
    rw [wu64 (by omega) (by omega)]
    exact or_add64 1 hz0.1 hz0.2 (by omega) (by omega) (by simpa using hev) (by omega)
  rw [hor]
  have hu : Dig B64 (upd z 0 (z 0 + bit)) 4 := upd_dig hz (by simp only [B64]; omega)
  have vu : val B64 (upd z 0 (z 0 + bit)) 4 = 2 * val B64 r 4 % W256 + bit := by rw [val4_upd0, vz]; omega
  have hr3 := hr 3 (by omega)
  have hover : (shrI .u64 (r 3) 63 == 1) = decide (W256 ≤ 2 * val B64 r 4) := by
    rw [shrD (by omega) (by omega)]
    have h0 := hr 0 (by omega); have h1 := hr 1 (by omega); have h2 := hr 2 (by omega)
    have hv : val B64 r 4 = r 0 + r 1 * B64 + r 2 * B64 ^ 2 + r 3 * B64 ^ 3 := by simp only [val, B64]; simp only [Int.pow_zero, Int.mul_one, Int.reducePow, Int.zero_add]
    rw [hv]
    have e : (r 3 / 2 ^ (63 : Int).toNat == (1 : Int)) = decide (r 3 / 9223372036854775808 = 1) := by
      rw [show (2 : Int) ^ (63 : Int).toNat = 9223372036854775808 from rfl]
      by_cases h : r 3 / 9223372036854775808 = 1 <;> simp [h]
    rw [e]
    apply decide_eq_decide.2
    simp only [B64, W256] at *
    omega
  have hsub := sub_val hu hm
  rw [hover]
  by_cases c1 : W256 ≤ 2 * val B64 r 4
  · simp only [c1, decide_true, Bool.not_true, Bool.false_eq_true, if_false]
    refine hsub.bind fun y ⟨h1, h2, h3⟩ => ⟨_, rfl, h1, ?_, ?_⟩
    · show val B64 y.1 4 = _
      have e3 : (2 * val B64 r 4 + bit) % val B64 m 4 = 2 * val B64 r 4 + bit - val B64 m 4 := emod_once (by simp only [W256] at *; omega) (by omega)
      rw [h2, vu, e3]
      simp only [W256] at *; omega
    · show true = _
      symm; apply decide_eq_true; omega
  · have e2 : 2 * val B64 r 4 % W256 = 2 * val B64 r 4 := emod_less (by omega) (by omega)
    rw [e2] at vu
    simp only [c1, decide_false, Bool.not_false, if_true]
    rw [cmp_spec hu hm, Option.bind_some]
    by_cases c2 : sg (val B64 (upd z 0 (z 0 + bit)) 4) (val B64 m 4) < 0
    · simp only [c2, decide_true, if_true]
      rw [sg_neg, vu] at c2
      refine ⟨_, rfl, hu, ?_, ?_⟩
      · show val B64 (upd z 0 (z 0 + bit)) 4 = _
        rw [vu, emod_less (by omega) c2]
      · show false = _
        symm; apply decide_eq_false; omega
    · simp only [c2, decide_false, Bool.false_eq_true, if_false]
      rw [sg_neg, vu] at c2
      refine hsub.bind fun y ⟨h1, h2, h3⟩ => ⟨_, rfl, h1, ?_, ?_⟩
      · show val B64 y.1 4 = _
        have e3 : (2 * val B64 r 4 + bit) % val B64 m 4 = 2 * val B64 r 4 + bit - val B64 m 4 := emod_once (by omega) (by omega)
        rw [h2, vu, e3]
        simp only [W256] at *; omega
      · show true = _
        symm; apply decide_eq_true; omega

theorem twice_spec {r m : Nat → Int} {bit : Int} (hr : Dig B64 r 4) (hm : Dig B64 m 4) (hb : bit = 0 ∨ bit = 1) (hlt : val B64 r 4 < val B64 m 4) : Ret (Fw44 (r, bit, m)) (StepOk r bit m) := by
  have br := val4_bound hr
  have bm := val4_bound hm
  simp only [Fw44]
  refine (radd_val hr hr).bind fun ⟨z, c⟩ ⟨hz, vz, hc⟩ => ?_
  simp only at hz vz hc ⊢
  rw [← Int.two_mul] at vz hc
  have hev := even_head vz
  have hz0 := hz 0 (by omega)
  simp only [B64] at hz0
  have hor : IntKind.u64.wrap (z 0 + IntKind.u64.wrap bit) = z 0 + bit := by
    rw [wu64 (n := bit) (by omega) (by omega), wu64 (by omega) (by omega)]
  rw [hor]
  have hu : Dig B64 (upd z 0 (z 0 + bit)) 4 := upd_dig hz (by simp only [B64]; omega)
  have vu : val B64 (upd z 0 (z 0 + bit)) 4 = 2 * val B64 r 4 % W256 + bit := by rw [val4_upd0, vz]; omega
  have hsub := rsub_val hu hm
  have hover : (c == 0) = !decide (W256 ≤ 2 * val B64 r 4) := by
    rw [hc]
    by_cases h : W256 ≤ 2 * val B64 r 4
    · simp only [h, decide_true, Bool.not_true]
      have : ¬ 2 * val B64 r 4 / W256 = 0 := by simp only [W256] at *; omega
      simpa using this
    · simp only [h, decide_false, Bool.not_false]
      have : 2 * val B64 r 4 / W256 = 0 := by simp only [W256] at *; omega
      simpa using this
  rw [hover]
  by_cases c1 : W256 ≤ 2 * val B64 r 4
  · simp only [c1, decide_true, Bool.not_true, Bool.false_eq_true, if_false]
    refine hsub.bind fun y ⟨h1, h2⟩ => ⟨_, rfl, h1, ?_, ?_⟩
    · show val B64 y.1 4 = _
      have e3 : (2 * val B64 r 4 + bit) % val B64 m 4 = 2 * val B64 r 4 + bit - val B64 m 4 := emod_once (by simp only [W256] at *; omega) (by omega)
      rw [h2, vu, e3]
      simp only [W256] at *; omega
    · show true = _
      symm; apply decide_eq_true; omega
  · have e2 : 2 * val B64 r 4 % W256 = 2 * val B64 r 4 := emod_less (by omega) (by omega)
    rw [e2] at vu
    simp only [c1, decide_false, Bool.not_false, if_true]
    rw [rcmp_spec hu hm, Option.bind_some]
    by_cases c2 : sg (val B64 (upd z 0 (z 0 + bit)) 4) (val B64 m 4) < 0
    · simp only [c2, decide_true, if_true]
      rw [sg_neg, vu] at c2
      refine ⟨_, rfl, hu, ?_, ?_⟩
      · show val B64 (upd z 0 (z 0 + bit)) 4 = _
        rw [vu, emod_less (by omega) c2]
      · show false = _
        symm; apply decide_eq_false; omega
    · simp only [c2, decide_false, Bool.false_eq_true, if_false]
      rw [sg_neg, vu] at c2
      refine hsub.bind fun y ⟨h1, h2⟩ => ⟨_, rfl, h1, ?_, ?_⟩
      · show val B64 y.1 4 = _
        have e3 : (2 * val B64 r 4 + bit) % val B64 m 4 = 2 * val B64 r 4 + bit - val B64 m 4 := emod_once (by omega) (by omega)
        rw [h2, vu, e3]
        simp only [W256] at *; omega
      · show true = _
        symm; apply decide_eq_true; omega
end Go.Abs
