/- Polynomials in bits: laid and taken, on both sides. -/
import Derived.Test.YthihjipdkhmgkaaH9L
import Derived.Test.YthihjipdkhmgkaaPKit2L
set_option linter.unusedVariables false
set_option linter.unusedSimpArgs false
namespace Go.Abs
open Go.ChangeShapes Go.WideShapes

/-- bit k of numbers of n bits each -/
def sb (l : Nat → Int) (n k : Nat) : Bool := (l (k / n)).toNat.testBit (k % n)
/-- byte j of them -/
def byteG (l : Nat → Int) (n j : Nat) : Int := (nat2 (fun e => sb l n (8 * j + e)) 8 : Nat)

theorem byteG_lt (l : Nat → Int) (n j : Nat) : 0 ≤ byteG l n j ∧ byteG l n j < 256 := by
  have := nat2_lt (fun e => sb l n (8 * j + e)) 8
  unfold byteG
  generalize nat2 _ 8 = q at *
  omega

def InB (l : Nat → Int) (n : Nat) : Prop := ∀ i, i < 256 → 0 ≤ l i ∧ l i < 2 ^ n

theorem InB.nat {l : Nat → Int} {n : Nat} (h : InB l n) {i : Nat} (hi : i < 256) : (l i).toNat < 2 ^ n := by
  have := h i hi
  have e := toNat_pow n
  rw [← e]; omega

theorem shl1_64 (n : Nat) (hn : n ≤ 30) : shlI .u64 1 (n : Int) = 2 ^ n := by
  unfold shlI
  have hm : min (n : Int).toNat IntKind.u64.bits = n := by have : IntKind.u64.bits = 64 := rfl; omega
  have h1 : (2 : Int) ^ n ≤ 2 ^ 30 := ipow_le (by decide) hn
  have h2 : (0 : Int) < 2 ^ n := Int.pow_pos (by decide)
  rw [hm, Int.one_mul, wu64 (by omega) (by rw [show (2 : Int) ^ 30 = 1073741824 from rfl] at h1; omega)]

theorem at_div {i n r : Nat} (h : r < n) : (i * n + r) / n = i ∧ (i * n + r) % n = r := by
  rw [Nat.mul_comm i n, Nat.mul_add_div (by omega), Nat.mul_add_mod, Nat.div_eq_of_lt h, Nat.mod_eq_of_lt h, Nat.add_zero]
  exact ⟨rfl, rfl⟩

theorem lay_spec {l : Nat → Int} {n : Nat} (hn : 1 ≤ n ∧ n ≤ 23) (hl : InB l n) : Fh14 (l, (n : Int)) = some (LL (32 * n) (byteG l n)) := by
  have hcond : 0 ≤ (0 : Int) ∧ (0 : Int) ≤ IntKind.i64.wrap (32 * (n : Int)) ∧ okBytes (IntKind.i64.wrap (32 * (n : Int))).toNat 1 := by
    rw [wi64 (by omega) (by omega)]; unfold okBytes; omega
  simp only [Fh14]
  rw [if_pos hcond]
  have key : Ret (loopO steph14_0 ((n : Int), 0, 0, l, 0, List.replicate 0 (0 : Int))) (· = LL (32 * n) (byteG l n)) := by
    refine loopO_inv (fun i s => ∃ b : Nat, s = ((n : Int), (b : Int), ((i * n % 8 : Nat) : Int), l, (i : Int), LL (i * n / 8) (byteG l n)) ∧ ∀ k, b.testBit k = (decide (k < i * n % 8) && sb l n (8 * (i * n / 8) + k))) 256 ⟨0, by simp [LL], fun k => by simp⟩ ?_ ?_
    · rintro i _ hi ⟨b, rfl, hb⟩
      have hx := hl i hi
      have hxn := hl.nat hi
      have hp23 : (2 : Nat) ^ n ≤ 2 ^ 23 := Nat.pow_le_pow_right (by decide) hn.2
      have hb7 : b < 2 ^ 7 := Nat.lt_pow_two_of_testBit _ fun k hk => by
        rw [hb k, show decide (k < i * n % 8) = false by simp; omega]; rfl
      have hin : i * n ≤ 255 * 23 := Nat.mul_le_mul (by omega) hn.2
      -- the buffer behind the number
      have hor : bitsOr .u64 (b : Int) (shlI .u64 (IntKind.u64.wrap (l i)) ((i * n % 8 : Nat) : Int)) = ((b ||| (l i).toNat <<< (i * n % 8) : Nat) : Int) := by
        have e23 : (2 : Nat) ^ 23 = 8388608 := rfl
        have e7 : (2 : Nat) ^ 7 = 128 := rfl
        rw [wu64 hx.1 (by omega), shl64 hx.1 (by omega) (by omega), Int.toNat_natCast]
        have hsm : (l i).toNat <<< (i * n % 8) < 2 ^ 64 := by
          rw [Nat.shiftLeft_eq]
          exact Nat.lt_of_lt_of_le (Nat.mul_lt_mul_of_pos_right (show (l i).toNat < 2 ^ 23 by omega) (Nat.pow_pos (by decide))) (by rw [← Nat.pow_add]; exact Nat.pow_le_pow_right (by decide) (by omega))
        rw [Nat.mod_eq_of_lt hsm, or64 nnn (nlt (by omega)) nnn (nlt hsm), Int.toNat_natCast, Int.toNat_natCast]
      obtain ⟨b2, hb2⟩ : ∃ b2, b2 = b ||| (l i).toNat <<< (i * n % 8) := ⟨_, rfl⟩
      rw [← hb2] at hor
      have hbit2 : ∀ k, b2.testBit k = (decide (k < i * n % 8 + n) && sb l n (8 * (i * n / 8) + k)) := by
        intro k
        rw [hb2, Nat.testBit_or, hb k, Nat.testBit_shiftLeft]
        by_cases c1 : k < i * n % 8
        · simp only [c1, decide_true, Bool.true_and]
          rw [show decide (k ≥ i * n % 8) = false by simp; omega, show decide (k < i * n % 8 + n) = true by simp; omega]; simp
        · simp only [c1, decide_false, Bool.false_and, Bool.false_or]
          rw [show decide (k ≥ i * n % 8) = true by simp; omega, Bool.true_and]
          by_cases c2 : k < i * n % 8 + n
          · simp only [c2, decide_true, Bool.true_and]
            unfold sb
            have hk : 8 * (i * n / 8) + k = i * n + (k - i * n % 8) := by omega
            have hr : k - i * n % 8 < n := by omega
            rw [hk, (at_div hr).1, (at_div hr).2]
          · simp only [c2, decide_false, Bool.false_and]
            exact Nat.testBit_lt_two_pow (Nat.lt_of_lt_of_le hxn (Nat.pow_le_pow_right (by decide) (by omega)))
      have hin2 : (i + 1) * n = i * n + n := Nat.succ_mul i n
      -- bytes are taken off
      have inner : Ret (loopO steph14_1 ((n : Int), (b2 : Int), ((i * n % 8 : Nat) : Int) + (n : Int), l, (i : Int), LL (i * n / 8) (byteG l n))) fun y => ∃ b3 : Nat, y = ((n : Int), (b3 : Int), (((i + 1) * n % 8 : Nat) : Int), l, (i : Int), LL ((i + 1) * n / 8) (byteG l n)) ∧ ∀ k, b3.testBit k = (decide (k < (i + 1) * n % 8) && sb l n (8 * ((i + 1) * n / 8) + k)) := by
        refine loopO_inv (fun j s => ∃ b3 : Nat, s = ((n : Int), (b3 : Int), ((i * n % 8 + n - 8 * j : Nat) : Int), l, (i : Int), LL (i * n / 8 + j) (byteG l n)) ∧ ∀ k, b3.testBit k = (decide (k < i * n % 8 + n - 8 * j) && sb l n (8 * (i * n / 8 + j) + k))) ((i * n % 8 + n) / 8) ⟨b2, by simp, by simpa using hbit2⟩ ?_ ?_
        · rintro j _ hj ⟨b3, rfl, h3⟩
          have hlt : b3 < 2 ^ 30 := Nat.lt_pow_two_of_testBit _ fun k hk => by
            rw [h3 k, show decide (k < i * n % 8 + n - 8 * j) = false by simp; omega]; rfl
          have e30 : (2 : Nat) ^ 30 = 1073741824 := rfl
          have hbyte : IntKind.u8.wrap (b3 : Int) = byteG l n (i * n / 8 + j) := by
            rw [IntKind.wrap_u8']
            have : b3 % 256 = nat2 (fun e => sb l n (8 * (i * n / 8 + j) + e)) 8 := by
              apply nat2_eq
              intro k
              rw [show (256 : Nat) = 2 ^ 8 from rfl, Nat.testBit_mod_two_pow, h3 k]
              by_cases c : k < 8
              · rw [show decide (k < i * n % 8 + n - 8 * j) = true by simp; omega]; simp [c]
              · simp [c]
            unfold byteG; rw [← this]; omega
          have hok : okBytes ((LL (i * n / 8 + j) (byteG l n)).length + ((List.replicate 1 (0 : Int)).set 0 (IntKind.u8.wrap (b3 : Int))).length) 1 := by
            unfold okBytes; simp; omega
          have hset : (List.replicate 1 (0 : Int)).set 0 (IntKind.u8.wrap (b3 : Int)) = [byteG l n (i * n / 8 + j)] := by rw [hbyte]; rfl
          refine ⟨_, ?_, b3 >>> 8, rfl, ?_⟩
          · simp only [steph14_1]
            rw [if_pos (by simp; omega), if_pos hok, hset, LL_snoc, shr64 nnn (by omega) (by omega), wi64 (by omega) (by omega)]
            simp only [Int.toNat_natCast, Option.some.injEq, Sum.inl.injEq, Prod.mk.injEq, true_and]
            refine ⟨rfl, by omega, ?_⟩
            rw [show i * n / 8 + (j + 1) = i * n / 8 + j + 1 by omega]
          · intro k
            rw [Nat.testBit_shiftRight, h3]
            rw [show 8 * (i * n / 8 + j) + (8 + k) = 8 * (i * n / 8 + (j + 1)) + k by omega]
            congr 1
            apply decide_eq_decide.2; omega
        · rintro _ ⟨b3, rfl, h3⟩
          refine ⟨_, ?_, b3, rfl, ?_⟩
          · simp only [steph14_1]
            rw [if_neg (by simp; omega)]
            simp only [Option.some.injEq, Sum.inr.injEq, Prod.mk.injEq, true_and, Int.natCast_inj]
            rw [hin2]
            refine ⟨by omega, ?_⟩
            rw [show (i * n + n) / 8 = i * n / 8 + (i * n % 8 + n) / 8 by omega]
          · intro k
            rw [h3 k, hin2, show (i * n + n) / 8 = i * n / 8 + (i * n % 8 + n) / 8 by omega]
            congr 1
            apply decide_eq_decide.2; omega
      obtain ⟨y, h1, b3, rfl, h3⟩ := inner
      refine ⟨_, ?_, b3, rfl, h3⟩
      simp only [steph14_0]
      simp (disch := omega) only [decide_eq_true_eq, if_pos, Int.toNat_natCast, hor, wi64, h1, Option.bind_some]
      rfl
    · rintro _ ⟨b, rfl, hb⟩
      refine ⟨_, ?_, rfl⟩
      simp only [steph14_0]
      simp (disch := omega) only [decide_eq_true_eq, if_neg]
      rw [show 256 * n / 8 = 32 * n by omega]
  rw [key.eq, Option.bind_some]

end Go.Abs
