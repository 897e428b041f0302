/- Bits and shifts of numbers of four words: what the program and the document compute. -/
import Derived.Test.YtamclijpaplnlaaWSums2
import Derived.Test.YtamclijpaplnlaaPKit
set_option linter.unusedVariables false
set_option linter.unusedSimpArgs false
namespace Go.Abs

/-- bit i of a number, 0 outside -/
def bitI (a : Nat → Int) (i : Int) : Int := if 0 ≤ i ∧ i ≤ 255 ∧ bt a i.toNat = true then 1 else 0
theorem bitI_01 (a : Nat → Int) (i : Int) : bitI a i = 0 ∨ bitI a i = 1 := by unfold bitI; split <;> simp

theorem bt_mod {a : Nat → Int} {m : Nat} : ((a (m / 64)).toNat / 2 ^ (m % 64)) % 2 = if bt a m = true then 1 else 0 := by
  unfold bt
  rw [Nat.testBit_eq_decide_div_mod_eq]
  by_cases h : (a (m / 64)).toNat / 2 ^ (m % 64) % 2 = 1
  · simp [h]
  · simp [h]; omega

theorem bit_spec {a : Nat → Int} (ha : Dig B64 a 4) {i : Int} (hi : -9223372036854775808 ≤ i ∧ i < 9223372036854775808) : Fw14 (a, i) = some (bitI a i) := by
  simp only [Fw14, bitI]
  by_cases h0 : i < 0
  · simp [h0]; intro h; omega
  by_cases h1 : i > 255
  · simp [h0, h1]; intro _ h; omega
  have h2 := ha (i / 64).toNat (by omega)
  simp only [B64] at h2
  simp only [h0, h1, decide_false, decide_true, if_true, Bool.false_eq_true, if_false]
  rw [tdivP (by omega), tmodP (by omega)]
  simp (disch := omega) only [wi64, if_pos]
  rw [shr64 h2.1 (by omega) (by omega)]
  have hlt : (a (i / 64).toNat).toNat >>> (i % 64).toNat < 18446744073709551616 := by
    rw [Nat.shiftRight_eq_div_pow]
    exact Nat.lt_of_le_of_lt (Nat.div_le_self _ _) (by omega)
  generalize hq : (a (i / 64).toNat).toNat >>> (i % 64).toNat = q at hlt
  rw [and1_64 (by omega) (by omega), wi64 (by omega) (by omega)]
  have hm := bt_mod (a := a) (m := i.toNat)
  rw [show i.toNat / 64 = (i / 64).toNat by omega, show i.toNat % 64 = (i % 64).toNat by omega, ← Nat.shiftRight_eq_div_pow] at hm
  have : 0 ≤ i ∧ i ≤ 255 := by omega
  simp only [this.1, this.2, true_and]
  rw [hq] at hm
  split at hm <;> rename_i hb <;> simp only [hb, if_true, Bool.false_eq_true, if_false] <;> simp only [Option.some.injEq] <;> omega

theorem rbit_spec {a : Nat → Int} (ha : Dig B64 a 4) {i : Int} (hi : -9223372036854775808 ≤ i ∧ i < 9223372036854775808) : Fw15 (a, i) = some (bitI a i) := by
  simp only [Fw15, bitI]
  by_cases h0 : i < 0
  · simp [h0]; intro h; omega
  by_cases h1 : i > 255
  · simp [h0, h1]; intro _ h; omega
  have h2 := ha (i / 64).toNat (by omega)
  simp only [B64] at h2
  simp only [h0, h1, decide_false, decide_true, if_true, Bool.false_eq_true, if_false]
  rw [tdivP (by omega)]
  simp (disch := omega) only [wi64, if_pos]
  have hl : Ret (loopO stepw15_0 (i, a (i / 64).toNat, 0)) (· = ((a (i / 64).toNat).toNat / 2 ^ (i % 64).toNat : Nat)) := by
    refine loopO_inv (fun j s => s = (i, (((a (i / 64).toNat).toNat / 2 ^ j : Nat) : Int), (j : Int))) (i % 64).toNat ?_ ?_ ?_
    · simp; omega
    · rintro j _ hj rfl
      refine ⟨_, ?_, rfl⟩
      have : (a (i / 64).toNat).toNat / 2 ^ j ≤ (a (i / 64).toNat).toNat := Nat.div_le_self _ _
      simp only [stepw15_0]
      rw [Nat.pow_succ, ← Nat.div_div_eq_div_mul]
      generalize (a (i / 64).toNat).toNat / 2 ^ j = q at this ⊢
      rw [tmodP (by omega), tdivP (by omega)]
      simp (disch := omega) only [decide_eq_true_eq, wi64, wu64, if_pos]
      simp
    · rintro _ rfl
      refine ⟨_, ?_, rfl⟩
      simp only [stepw15_0]
      rw [tmodP (by omega)]
      simp (disch := omega) only [decide_eq_true_eq, if_neg]
  rw [hl.eq, Option.bind_some]
  have hm := bt_mod (a := a) (m := i.toNat)
  rw [show i.toNat / 64 = (i / 64).toNat by omega, show i.toNat % 64 = (i % 64).toNat by omega] at hm
  generalize (a (i / 64).toNat).toNat / 2 ^ (i % 64).toNat = q at hm ⊢
  rw [tmodP (by omega), wi64 (by omega) (by omega)]
  have : 0 ≤ i ∧ i ≤ 255 := by omega
  simp only [this.1, this.2, true_and]
  split at hm <;> rename_i hb <;> simp only [hb, if_true, Bool.false_eq_true, if_false] <;> simp only [Option.some.injEq] <;> omega

/-- words whose bits are told -/
def wordB (p : Nat → Bool) : Nat → Nat
  | 0 => 0
  | n + 1 => (if p n then 1 else 0) * 2 ^ n + wordB p n

/-- the shift, clamped -/
def clamp (n : Int) : Nat := min n.toNat 256

theorem shl_spec {a : Nat → Int} (ha : Dig B64 a 4) (n : Int) : Ret (Fw18 (a, n)) fun z => Dig B64 z 4 ∧ ∀ m, m < 256 → bt z m = (decide (clamp n ≤ m) && bt a (m - clamp n)) := by
  have hx : (if 0 < (if 256 < n then 256 else n) then (if 256 < n then 256 else n) else 0 : Int) = (clamp n : Int) := by unfold clamp; split <;> split at * <;> omega
  simp only [Fw18, hx]
  have hc : clamp n ≤ 256 := by unfold clamp; omega
  generalize clamp n = c at hc
  rw [tdivP (by omega), wi64 (by omega) (by omega)]
  refine Ret.bind (Q := fun z => Dig B64 z.2 4 ∧ ∀ m, m < 256 → bt z.2 m = (decide (c ≤ m) && bt a (m - c))) ?_ ?_
  refine loopO_inv (fun j s => ∃ f, s = ((c : Int), ((c / 64 + j : Nat) : Int), a, (fun _ => 0), f) ∧ Dig B64 f 4 ∧ (∀ k, c / 64 + j ≤ k → f k = 0) ∧ ∀ m, m < 64 * (c / 64 + j) → m < 256 → bt f m = (decide (c ≤ m) && bt a (m - c))) (4 - c / 64) ?_ ?_ ?_
  · refine ⟨_, rfl, zero_dig (by decide) _, fun k _ => rfl, ?_⟩
    intro m hm _
    rw [show decide (c ≤ m) = false by simp; omega]
    simp [bt]
  · rintro j _ hj ⟨f, rfl, hd, hz, hb⟩
    have hq : c / 64 ≤ 4 := by omega
    -- the words that are read
    have w1 := ha j (by omega)
    simp only [B64] at w1
    simp only [stepw18_0]
    rw [tdivP (by omega), tmodP (by omega)]
    simp (disch := omega) only [decide_eq_true_eq, wi64, if_pos]
    have e1 : (((c / 64 + j : Nat) : Int) - (c : Int) / 64).toNat = j := by omega
    have e2 : ((c / 64 + j : Nat) : Int).toNat = c / 64 + j := by omega
    have e3 : ((c : Int) % 64).toNat = c % 64 := by omega
    rw [e1, e2]
    have s1 := shl64 (x := a j) (s := (c : Int) % 64) w1.1 (by omega) (by omega)
    rw [e3] at s1
    have l1 : (a j).toNat <<< (c % 64) % 2 ^ 64 < 18446744073709551616 := Nat.mod_lt _ (by decide)
    by_cases hj0 : j = 0
    · subst hj0
      have h3 : ¬ ((c / 64 + 0 : Nat) : Int) > (c : Int) / 64 := by omega
      rw [if_neg h3]
      refine ⟨_, rfl, ⟨_, by simp only [Prod.mk.injEq, and_true, true_and]; exact ⟨by omega, rfl⟩, ?_, ?_, ?_⟩⟩
      · intro i hi
        rw [upd_apply]
        split
        · rw [s1]; exact ⟨nnn, nlt l1⟩
        · exact hd i hi
      · intro k hk; rw [upd_apply, if_neg (by omega)]; exact hz k (by omega)
      · intro m hm hm'
        by_cases hc1 : m < 64 * (c / 64)
        · have := hb m (by omega) hm'
          rw [← this]; unfold bt; rw [upd_apply, if_neg (by omega)]
        · have em : m / 64 = c / 64 + 0 := by omega
          unfold bt
          rw [upd_apply, if_pos em, s1, Int.toNat_natCast, Nat.testBit_mod_two_pow, Nat.testBit_shiftLeft]
          have h4 : m % 64 < 64 := Nat.mod_lt _ (by decide)
          simp only [h4, decide_true, Bool.true_and]
          by_cases h5 : c ≤ m
          · rw [show (m - c) / 64 = 0 by omega, show m % 64 - c % 64 = (m - c) % 64 by omega]
            simp [h5]; intro _; omega
          · simp [h5]; intro h; omega
    · have h3 : ((c / 64 + j : Nat) : Int) > (c : Int) / 64 := by omega
      rw [if_pos h3]
      have w2 := ha (j - 1) (by omega)
      simp only [B64] at w2
      have e4 : (((c / 64 + j : Nat) : Int) - (c : Int) / 64 - 1).toNat = j - 1 := by omega
      simp (disch := omega) only [wi64, if_pos, e4]
      have s2 := shr64 (x := a (j - 1)) (s := 64 - (c : Int) % 64) w2.1 (by omega) (by omega)
      rw [show (64 - (c : Int) % 64).toNat = 64 - c % 64 by omega] at s2
      have l2 : (a (j - 1)).toNat >>> (64 - c % 64) < 18446744073709551616 := by
        rw [Nat.shiftRight_eq_div_pow]; exact Nat.lt_of_le_of_lt (Nat.div_le_self _ _) (by omega)
      rw [upd_same, s1, s2, or64 nnn (nlt l1) nnn (nlt l2)]
      simp only [Int.toNat_natCast]
      have l3 : (a j).toNat <<< (c % 64) % 2 ^ 64 ||| (a (j - 1)).toNat >>> (64 - c % 64) < 2 ^ 64 := Nat.or_lt_two_pow l1 l2
      refine ⟨_, rfl, ⟨_, by simp only [Prod.mk.injEq, and_true, true_and]; exact ⟨by omega, rfl⟩, ?_, ?_, ?_⟩⟩
      · intro i hi
        rw [upd_apply]
        split
        · exact ⟨nnn, nlt l3⟩
        · rw [upd_apply, if_neg (by assumption)]; exact hd i hi
      · intro k hk; rw [upd_apply, if_neg (by omega), upd_apply, if_neg (by omega)]; exact hz k (by omega)
      · intro m hm hm'
        by_cases hc1 : m < 64 * (c / 64 + j)
        · have := hb m (by omega) hm'
          rw [← this]; unfold bt; rw [upd_apply, if_neg (by omega), upd_apply, if_neg (by omega)]
        · have em : m / 64 = c / 64 + j := by omega
          unfold bt
          rw [upd_apply, if_pos em, Int.toNat_natCast, Nat.testBit_or, Nat.testBit_mod_two_pow, Nat.testBit_shiftLeft, Nat.testBit_shiftRight]
          have h4 : m % 64 < 64 := Nat.mod_lt _ (by decide)
          simp only [h4, decide_true, Bool.true_and]
          have h5 : c ≤ m := by omega
          simp only [h5, decide_true, Bool.true_and]
          by_cases h6 : c % 64 ≤ m % 64
          · rw [show (m - c) / 64 = j by omega, show (m - c) % 64 = m % 64 - c % 64 by omega]
            simp only [ge_iff_le, h6, decide_true, Bool.true_and]
            have : (a (j - 1)).toNat.testBit (64 - c % 64 + m % 64) = false := Nat.testBit_lt_two_pow (Nat.lt_of_lt_of_le (show _ < 2 ^ 64 by omega) (Nat.pow_le_pow_right (by decide) (by omega)))
            rw [this, Bool.or_false]
          · rw [show (m - c) / 64 = j - 1 by omega, show (m - c) % 64 = 64 - c % 64 + m % 64 by omega]
            simp only [ge_iff_le, h6, decide_false, Bool.false_and, Bool.false_or]
  · rintro _ ⟨f, rfl, hd, hz, hb⟩
    refine ⟨(fun _ => 0, f), ?_, hd, fun m hm => hb m (by omega) hm⟩
    simp only [stepw18_0]
    simp (disch := omega) only [decide_eq_true_eq, if_neg]
  · rintro ⟨z1, z2⟩ h
    exact ⟨_, rfl, h⟩

theorem shr_spec {a : Nat → Int} (ha : Dig B64 a 4) (n : Int) : Ret (Fw20 (a, n)) fun z => Dig B64 z 4 ∧ ∀ m, m < 256 → bt z m = (decide (m + clamp n < 256) && bt a (m + clamp n)) := by
  have hx : (if 0 < (if 256 < n then 256 else n) then (if 256 < n then 256 else n) else 0 : Int) = (clamp n : Int) := by unfold clamp; split <;> split at * <;> omega
  simp only [Fw20, hx]
  have hc : clamp n ≤ 256 := by unfold clamp; omega
  generalize clamp n = c at hc
  rw [tdivP (by omega), wi64 (by omega) (by omega)]
  refine Ret.bind (Q := fun z => Dig B64 z.2 4 ∧ ∀ m, m < 256 → bt z.2 m = (decide (m + c < 256) && bt a (m + c))) ?_ ?_
  refine loopO_inv (fun j s => ∃ f, s = ((c : Int), ((c / 64 + j : Nat) : Int), a, (fun _ => 0), f) ∧ Dig B64 f 4 ∧ (∀ k, j ≤ k → f k = 0) ∧ ∀ m, m < 64 * j → m < 256 → bt f m = (decide (m + c < 256) && bt a (m + c))) (4 - c / 64) ?_ ?_ ?_
  · refine ⟨_, rfl, zero_dig (by decide) _, fun k _ => rfl, ?_⟩
    intro m hm _; omega
  · rintro j _ hj ⟨f, rfl, hd, hz, hb⟩
    have w1 := ha (c / 64 + j) (by omega)
    simp only [B64] at w1
    simp only [stepw20_0]
    rw [tdivP (by omega), tmodP (by omega)]
    simp (disch := omega) only [decide_eq_true_eq, wi64, if_pos]
    have e1 : (((c / 64 + j : Nat) : Int) - (c : Int) / 64).toNat = j := by omega
    have e2 : ((c / 64 + j : Nat) : Int).toNat = c / 64 + j := by omega
    have e3 : ((c : Int) % 64).toNat = c % 64 := by omega
    rw [e1, e2]
    have s1 := shr64 (x := a (c / 64 + j)) (s := (c : Int) % 64) w1.1 (by omega) (by omega)
    rw [e3] at s1
    have l1 : (a (c / 64 + j)).toNat >>> (c % 64) < 18446744073709551616 := by
      rw [Nat.shiftRight_eq_div_pow]; exact Nat.lt_of_le_of_lt (Nat.div_le_self _ _) (by omega)
    by_cases hj0 : c / 64 + j = 3
    · have h3 : ¬ ((c / 64 + j : Nat) : Int) < 3 := by omega
      rw [if_neg h3]
      refine ⟨_, rfl, ⟨_, by simp only [Prod.mk.injEq, and_true, true_and]; exact ⟨by omega, rfl⟩, ?_, ?_, ?_⟩⟩
      · intro i hi
        rw [upd_apply]
        split
        · rw [s1]; exact ⟨nnn, nlt l1⟩
        · exact hd i hi
      · intro k hk; rw [upd_apply, if_neg (by omega)]; exact hz k (by omega)
      · intro m hm hm'
        by_cases hc1 : m < 64 * j
        · have := hb m (by omega) hm'
          rw [← this]; unfold bt; rw [upd_apply, if_neg (by omega)]
        · have em : m / 64 = j := by omega
          unfold bt
          rw [upd_apply, if_pos em, s1, Int.toNat_natCast, Nat.testBit_shiftRight]
          by_cases h5 : m + c < 256
          · simp only [h5, decide_true, Bool.true_and]
            rw [show (m + c) / 64 = c / 64 + j by omega, show (m + c) % 64 = c % 64 + m % 64 by omega]
          · simp only [h5, decide_false, Bool.false_and]
            exact Nat.testBit_lt_two_pow (Nat.lt_of_lt_of_le (show _ < 2 ^ 64 by omega) (Nat.pow_le_pow_right (by decide) (by omega)))
    · have h3 : ((c / 64 + j : Nat) : Int) < 3 := by omega
      rw [if_pos h3]
      have w2 := ha (c / 64 + j + 1) (by omega)
      simp only [B64] at w2
      have e4 : (((c / 64 + j : Nat) : Int) + 1).toNat = c / 64 + j + 1 := by omega
      simp (disch := omega) only [wi64, if_pos, e4]
      have s2 := shl64 (x := a (c / 64 + j + 1)) (s := 64 - (c : Int) % 64) w2.1 (by omega) (by omega)
      rw [show (64 - (c : Int) % 64).toNat = 64 - c % 64 by omega] at s2
      have l2 : (a (c / 64 + j + 1)).toNat <<< (64 - c % 64) % 2 ^ 64 < 18446744073709551616 := Nat.mod_lt _ (by decide)
      rw [upd_same, s1, s2, or64 nnn (nlt l1) nnn (nlt l2)]
      simp only [Int.toNat_natCast]
      have l3 : (a (c / 64 + j)).toNat >>> (c % 64) ||| (a (c / 64 + j + 1)).toNat <<< (64 - c % 64) % 2 ^ 64 < 2 ^ 64 := Nat.or_lt_two_pow l1 l2
      refine ⟨_, rfl, ⟨_, by simp only [Prod.mk.injEq, and_true, true_and]; exact ⟨by omega, rfl⟩, ?_, ?_, ?_⟩⟩
      · intro i hi
        rw [upd_apply]
        split
        · exact ⟨nnn, nlt l3⟩
        · rw [upd_apply, if_neg (by assumption)]; exact hd i hi
      · intro k hk; rw [upd_apply, if_neg (by omega), upd_apply, if_neg (by omega)]; exact hz k (by omega)
      · intro m hm hm'
        by_cases hc1 : m < 64 * j
        · have := hb m (by omega) hm'
          rw [← this]; unfold bt; rw [upd_apply, if_neg (by omega), upd_apply, if_neg (by omega)]
        · have em : m / 64 = j := by omega
          unfold bt
          rw [upd_apply, if_pos em, Int.toNat_natCast, Nat.testBit_or, Nat.testBit_mod_two_pow, Nat.testBit_shiftLeft, Nat.testBit_shiftRight]
          have h4 : m % 64 < 64 := Nat.mod_lt _ (by decide)
          simp only [h4, decide_true, Bool.true_and]
          have h5 : m + c < 256 := by omega
          simp only [h5, decide_true, Bool.true_and]
          by_cases h6 : c % 64 + m % 64 < 64
          · rw [show (m + c) / 64 = c / 64 + j by omega, show (m + c) % 64 = c % 64 + m % 64 by omega]
            rw [show decide (m % 64 ≥ 64 - c % 64) = false by simp; omega]
            simp
          · rw [show (m + c) / 64 = c / 64 + j + 1 by omega, show (m + c) % 64 = m % 64 - (64 - c % 64) by omega]
            rw [show decide (m % 64 ≥ 64 - c % 64) = true by simp; omega]
            have : (a (c / 64 + j)).toNat.testBit (c % 64 + m % 64) = false := Nat.testBit_lt_two_pow (Nat.lt_of_lt_of_le (show _ < 2 ^ 64 by omega) (Nat.pow_le_pow_right (by decide) (by omega)))
            rw [this]; simp
  · rintro _ ⟨f, rfl, hd, hz, hb⟩
    refine ⟨(fun _ => 0, f), ?_, hd, fun m hm => ?_⟩
    · simp only [stepw20_0]
      simp (disch := omega) only [decide_eq_true_eq, if_neg]
    · by_cases h : m < 64 * (4 - c / 64)
      · exact hb m h hm
      · rw [show decide (m + c < 256) = false by simp; omega]
        show (f (m / 64)).toNat.testBit _ = _
        rw [hz _ (by omega)]; simp
  · rintro ⟨z1, z2⟩ h
    exact ⟨_, rfl, h⟩
end Go.Abs
