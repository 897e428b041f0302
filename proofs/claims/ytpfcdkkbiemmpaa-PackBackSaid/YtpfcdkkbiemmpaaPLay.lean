/- Polynomials in bits: laid and taken, on both sides. -/
import Derived.Test.YtpfcdkkbiemmpaaP9
import Derived.Test.YtpfcdkkbiemmpaaPKit2
set_option linter.unusedVariables false
set_option linter.unusedSimpArgs false
namespace Go.Abs
open Go.ChangeShapes Go.WideShapes

/-- bit k of numbers of n bits each -/
def sb (l : Nat → Int) (n k : Nat) : Bool := (l (k / n)).toNat.testBit (k % n)
/-- byte j of them -/
def byteG (l : Nat → Int) (n j : Nat) : Int := (nat2 (fun e => sb l n (8 * j + e)) 8 : Nat)

theorem byteG_lt (l : Nat → Int) (n j : Nat) : 0 ≤ byteG l n j ∧ byteG l n j < 256 := by
  have := nat2_lt (fun e => sb l n (8 * j + e)) 8
  unfold byteG
  generalize nat2 _ 8 = q at *
  omega

def InB (l : Nat → Int) (n : Nat) : Prop := ∀ i, i < 256 → 0 ≤ l i ∧ l i < 2 ^ n

theorem InB.nat {l : Nat → Int} {n : Nat} (h : InB l n) {i : Nat} (hi : i < 256) : (l i).toNat < 2 ^ n := by
  have := h i hi
  have e := toNat_pow n
  rw [← e]; omega

theorem shl1_64 (n : Nat) (hn : n ≤ 30) : shlI .u64 1 (n : Int) = 2 ^ n := by
  unfold shlI
  have hm : min (n : Int).toNat IntKind.u64.bits = n := by have : IntKind.u64.bits = 64 := rfl; omega
  have h1 : (2 : Int) ^ n ≤ 2 ^ 30 := ipow_le (by decide) hn
  have h2 : (0 : Int) < 2 ^ n := Int.pow_pos (by decide)
  rw [hm, Int.one_mul, wu64 (by omega) (by rw [show (2 : Int) ^ 30 = 1073741824 from rfl] at h1; omega)]

theorem at_div {i n r : Nat} (h : r < n) : (i * n + r) / n = i ∧ (i * n + r) % n = r := by
  rw [Nat.mul_comm i n, Nat.mul_add_div (by omega), Nat.mul_add_mod, Nat.div_eq_of_lt h, Nat.mod_eq_of_lt h, Nat.add_zero]
  exact ⟨rfl, rfl⟩

theorem lay_spec {l : Nat → Int} {n : Nat} (hn : 1 ≤ n ∧ n ≤ 23) (hl : InB l n) : Fp18 (l, (n : Int)) = some (LL (32 * n) (byteG l n)) := by
  have hcond : 0 ≤ (0 : Int) ∧ (0 : Int) ≤ IntKind.i64.wrap (32 * (n : Int)) ∧ okBytes (IntKind.i64.wrap (32 * (n : Int))).toNat 1 := by
    rw [wi64 (by omega) (by omega)]; unfold okBytes; omega
  simp only [Fp18]
  rw [if_pos hcond]
  have key : Ret (loopO stepp18_0 ((n : Int), 0, 0, l, 0, List.replicate 0 (0 : Int))) (· = LL (32 * n) (byteG l n)) := by
    refine loopO_inv (fun i s => ∃ b : Nat, s = ((n : Int), (b : Int), ((i * n % 8 : Nat) : Int), l, (i : Int), LL (i * n / 8) (byteG l n)) ∧ ∀ k, b.testBit k = (decide (k < i * n % 8) && sb l n (8 * (i * n / 8) + k))) 256 ⟨0, by simp [LL], fun k => by simp⟩ ?_ ?_
    · rintro i _ hi ⟨b, rfl, hb⟩
      have hx := hl i hi
      have hxn := hl.nat hi
      have hp23 : (2 : Nat) ^ n ≤ 2 ^ 23 := Nat.pow_le_pow_right (by decide) hn.2
      have hb7 : b < 2 ^ 7 := Nat.lt_pow_two_of_testBit _ fun k hk => by
        rw [hb k, show decide (k < i * n % 8) = false by simp; omega]; rfl
      have hin : i * n ≤ 255 * 23 := Nat.mul_le_mul (by omega) hn.2
      -- the buffer behind the number
      have hor : bitsOr .u64 (b : Int) (shlI .u64 (IntKind.u64.wrap (l i)) ((i * n % 8 : Nat) : Int)) = ((b ||| (l i).toNat <<< (i * n % 8) : Nat) : Int) := by
        have e23 : (2 : Nat) ^ 23 = 8388608 := rfl
        have e7 : (2 : Nat) ^ 7 = 128 := rfl
        rw [wu64 hx.1 (by omega), shl64 hx.1 (by omega) (by omega), Int.toNat_natCast]
        have hsm : (l i).toNat <<< (i * n % 8) < 2 ^ 64 := by
          rw [Nat.shiftLeft_eq]
          exact Nat.lt_of_lt_of_le (Nat.mul_lt_mul_of_pos_right (show (l i).toNat < 2 ^ 23 by omega) (Nat.pow_pos (by decide))) (by rw [← Nat.pow_add]; exact Nat.pow_le_pow_right (by decide) (by omega))
        rw [Nat.mod_eq_of_lt hsm, or64 nnn (nlt (by omega)) nnn (nlt hsm), Int.toNat_natCast, Int.toNat_natCast]
      obtain ⟨b2, hb2⟩ : ∃ b2, b2 = b ||| (l i).toNat <<< (i * n % 8) := ⟨_, rfl⟩
      rw [← hb2] at hor
      have hbit2 : ∀ k, b2.testBit k = (decide (k < i * n % 8 + n) && sb l n (8 * (i * n / 8) + k)) := by
        intro k
        rw [hb2, Nat.testBit_or, hb k, Nat.testBit_shiftLeft]
        by_cases c1 : k < i * n % 8
        · simp only [c1, decide_true, Bool.true_and]
          rw [show decide (k ≥ i * n % 8) = false by simp; omega, show decide (k < i * n % 8 + n) = true by simp; omega]; simp
        · simp only [c1, decide_false, Bool.false_and, Bool.false_or]
          rw [show decide (k ≥ i * n % 8) = true by simp; omega, Bool.true_and]
          by_cases c2 : k < i * n % 8 + n
          · simp only [c2, decide_true, Bool.true_and]
            unfold sb
            have hk : 8 * (i * n / 8) + k = i * n + (k - i * n % 8) := by omega
            have hr : k - i * n % 8 < n := by omega
            rw [hk, (at_div hr).1, (at_div hr).2]
          · simp only [c2, decide_false, Bool.false_and]
            exact Nat.testBit_lt_two_pow (Nat.lt_of_lt_of_le hxn (Nat.pow_le_pow_right (by decide) (by omega)))
      have hin2 : (i + 1) * n = i * n + n := Nat.succ_mul i n
      -- bytes are taken off
      have inner : Ret (loopO stepp18_1 ((n : Int), (b2 : Int), ((i * n % 8 : Nat) : Int) + (n : Int), l, (i : Int), LL (i * n / 8) (byteG l n))) fun y => ∃ b3 : Nat, y = ((n : Int), (b3 : Int), (((i + 1) * n % 8 : Nat) : Int), l, (i : Int), LL ((i + 1) * n / 8) (byteG l n)) ∧ ∀ k, b3.testBit k = (decide (k < (i + 1) * n % 8) && sb l n (8 * ((i + 1) * n / 8) + k)) := by
        refine loopO_inv (fun j s => ∃ b3 : Nat, s = ((n : Int), (b3 : Int), ((i * n % 8 + n - 8 * j : Nat) : Int), l, (i : Int), LL (i * n / 8 + j) (byteG l n)) ∧ ∀ k, b3.testBit k = (decide (k < i * n % 8 + n - 8 * j) && sb l n (8 * (i * n / 8 + j) + k))) ((i * n % 8 + n) / 8) ⟨b2, by simp, by simpa using hbit2⟩ ?_ ?_
        · rintro j _ hj ⟨b3, rfl, h3⟩
          have hlt : b3 < 2 ^ 30 := Nat.lt_pow_two_of_testBit _ fun k hk => by
            rw [h3 k, show decide (k < i * n % 8 + n - 8 * j) = false by simp; omega]; rfl
          have e30 : (2 : Nat) ^ 30 = 1073741824 := rfl
          have hbyte : IntKind.u8.wrap (b3 : Int) = byteG l n (i * n / 8 + j) := by
            rw [IntKind.wrap_u8']
            have : b3 % 256 = nat2 (fun e => sb l n (8 * (i * n / 8 + j) + e)) 8 := by
              apply nat2_eq
              intro k
              rw [show (256 : Nat) = 2 ^ 8 from rfl, Nat.testBit_mod_two_pow, h3 k]
              by_cases c : k < 8
              · rw [show decide (k < i * n % 8 + n - 8 * j) = true by simp; omega]; simp [c]
              · simp [c]
            unfold byteG; rw [← this]; omega
          have hok : okBytes ((LL (i * n / 8 + j) (byteG l n)).length + ((List.replicate 1 (0 : Int)).set 0 (IntKind.u8.wrap (b3 : Int))).length) 1 := by
            unfold okBytes; simp; omega
          have hset : (List.replicate 1 (0 : Int)).set 0 (IntKind.u8.wrap (b3 : Int)) = [byteG l n (i * n / 8 + j)] := by rw [hbyte]; rfl
          refine ⟨_, ?_, b3 >>> 8, rfl, ?_⟩
          · simp only [stepp18_1]
            rw [if_pos (by simp; omega), if_pos hok, hset, LL_snoc, shr64 nnn (by omega) (by omega), wi64 (by omega) (by omega)]
            simp only [Int.toNat_natCast, Option.some.injEq, Sum.inl.injEq, Prod.mk.injEq, true_and]
            refine ⟨rfl, by omega, ?_⟩
            rw [show i * n / 8 + (j + 1) = i * n / 8 + j + 1 by omega]
          · intro k
            rw [Nat.testBit_shiftRight, h3]
            rw [show 8 * (i * n / 8 + j) + (8 + k) = 8 * (i * n / 8 + (j + 1)) + k by omega]
            congr 1
            apply decide_eq_decide.2; omega
        · rintro _ ⟨b3, rfl, h3⟩
          refine ⟨_, ?_, b3, rfl, ?_⟩
          · simp only [stepp18_1]
            rw [if_neg (by simp; omega)]
            simp only [Option.some.injEq, Sum.inr.injEq, Prod.mk.injEq, true_and, Int.natCast_inj]
            rw [hin2]
            refine ⟨by omega, ?_⟩
            rw [show (i * n + n) / 8 = i * n / 8 + (i * n % 8 + n) / 8 by omega]
          · intro k
            rw [h3 k, hin2, show (i * n + n) / 8 = i * n / 8 + (i * n % 8 + n) / 8 by omega]
            congr 1
            apply decide_eq_decide.2; omega
      obtain ⟨y, h1, b3, rfl, h3⟩ := inner
      refine ⟨_, ?_, b3, rfl, h3⟩
      simp only [stepp18_0]
      simp (disch := omega) only [decide_eq_true_eq, if_pos, Int.toNat_natCast, hor, wi64, h1, Option.bind_some]
      rfl
    · rintro _ ⟨b, rfl, hb⟩
      refine ⟨_, ?_, rfl⟩
      simp only [stepp18_0]
      simp (disch := omega) only [decide_eq_true_eq, if_neg]
      rw [show 256 * n / 8 = 32 * n by omega]
  rw [key.eq, Option.bind_some]

theorem rlay_spec {l : Nat → Int} {n : Nat} (hn : 1 ≤ n ∧ n ≤ 23) (hl : InB l n) : Fp21 (l, (n : Int)) = some (LL (32 * n) (byteG l n)) := by
  have hcond : 0 ≤ IntKind.i64.wrap (32 * (n : Int)) ∧ IntKind.i64.wrap (32 * (n : Int)) ≤ IntKind.i64.wrap (32 * (n : Int)) ∧ okBytes (IntKind.i64.wrap (32 * (n : Int))).toNat 1 := by
    rw [wi64 (by omega) (by omega)]; unfold okBytes; omega
  simp only [Fp21]
  rw [if_pos hcond, wi64 (by omega) (by omega), show (32 * (n : Int)).toNat = 32 * n by omega, LL_zero]
  -- byte j, so far as 'at' bits are laid
  obtain ⟨G, hG⟩ : ∃ G : Nat → Nat → Int, G = fun t j => ((nat2 (fun e => sb l n (8 * j + e)) (min 8 (t - 8 * j)) : Nat) : Int) := ⟨_, rfl⟩
  have hG0 : ∀ j, G 0 j = 0 := fun j => by rw [hG]; simp [nat2]
  have hGlt : ∀ t j, 0 ≤ G t j ∧ G t j < 256 := by
    intro t j
    rw [hG]
    have h := nat2_lt (fun e => sb l n (8 * j + e)) (min 8 (t - 8 * j))
    have h2 : (2 : Nat) ^ (min 8 (t - 8 * j)) ≤ 2 ^ 8 := Nat.pow_le_pow_right (by decide) (by omega)
    have e8 : (2 : Nat) ^ 8 = 256 := rfl
    simp only []
    omega
  have hstep : ∀ t, G (t + 1) = upd (G t) (t / 8) (G t (t / 8) + (if sb l n t = true then 2 ^ (t % 8) else 0)) := by
    intro t
    funext j
    rw [upd_apply]
    by_cases c : j = t / 8
    · rw [if_pos c, hG]; subst c
      simp only []
      rw [show min 8 (t + 1 - 8 * (t / 8)) = t % 8 + 1 by omega, show min 8 (t - 8 * (t / 8)) = t % 8 by omega]
      have hp : sb l n (8 * (t / 8) + t % 8) = sb l n t := by rw [show 8 * (t / 8) + t % 8 = t by omega]
      cases hs : sb l n t <;> rw [hs] at hp <;> simp [nat2, hp]
    · rw [if_neg c, hG]
      simp only []
      rw [show min 8 (t + 1 - 8 * j) = min 8 (t - 8 * j) by omega]
  have key : Ret (loopO stepp21_0 ((n : Int), 0, l, LL (32 * n) (fun _ => 0))) (· = LL (32 * n) (byteG l n)) := by
    refine loopO_inv (fun i s => s = ((n : Int), (i : Int), l, LL (32 * n) (G (i * n)))) 256 ?_ ?_ ?_
    · rw [Nat.zero_mul, show G 0 = fun _ => 0 from funext hG0]; rfl
    · rintro i _ hi rfl
      have hx := hl i hi
      have hin : i * n ≤ 255 * 23 := Nat.mul_le_mul (by omega) hn.2
      have hin3 : i * n ≤ 255 * n := Nat.mul_le_mul (by omega) (Nat.le_refl _)
      have hin2 : (i + 1) * n = i * n + n := Nat.succ_mul i n
      have hp23 : (2 : Int) ^ n ≤ 2 ^ 23 := ipow_le (by decide) hn.2
      have e23 : (2 : Int) ^ 23 = 8388608 := rfl
      have inner : loopO stepp21_1 ((n : Int), (i : Int), l i, 0, l, LL (32 * n) (G (i * n))) = some ((n : Int), (i : Int), l, LL (32 * n) (G ((i + 1) * n))) := by
        apply Ret.eq
        refine loopO_inv (fun j s => s = ((n : Int), (i : Int), (((l i).toNat / 2 ^ j : Nat) : Int), (j : Int), l, LL (32 * n) (G (i * n + j)))) n ?_ ?_ ?_
        · simp; omega
        · rintro j _ hj rfl
          refine ⟨_, ?_, rfl⟩
          have hle : (l i).toNat / 2 ^ j ≤ (l i).toNat := Nat.div_le_self _ _
          have hbit := tb_mod (l i).toNat j
          have hsb : sb l n (i * n + j) = (l i).toNat.testBit j := by
            unfold sb
            rw [(at_div hj).1, (at_div hj).2]
          have hmul : IntKind.i64.wrap ((i : Int) * (n : Int)) = ((i * n : Nat) : Int) := by rw [← Int.natCast_mul, wi64 (by omega) (by omega)]
          have hat : IntKind.i64.wrap (IntKind.i64.wrap ((i : Int) * (n : Int)) + (j : Int)) = ((i * n + j : Nat) : Int) := by rw [hmul, wi64 (by omega) (by omega)]; omega
          have e1 : IntKind.i64.wrap (((i * n + j : Nat) : Int).tdiv 8) = (((i * n + j) / 8 : Nat) : Int) := by rw [tdivP (by omega), wi64 (by omega) (by omega)]; omega
          have e2 : IntKind.u64.wrap (((i * n + j : Nat) : Int).tmod 8) = (((i * n + j) % 8 : Nat) : Int) := by rw [tmodP (by omega), wu64 (by omega) (by omega)]; omega
          have hnext : (((l i).toNat / 2 ^ (j + 1) : Nat) : Int) = ((((l i).toNat / 2 ^ j) / 2 : Nat) : Int) := by rw [Nat.pow_succ, Nat.div_div_eq_div_mul]
          rw [hnext, show i * n + (j + 1) = i * n + j + 1 by omega, hstep]
          generalize hq : (l i).toNat / 2 ^ j = q at *
          have hqm : IntKind.u8.wrap ((q : Int).tmod 2) = ((q % 2 : Nat) : Int) := by rw [tmodP (by omega), wu8 (by omega) (by omega)]; omega
          have hshl : shlI .u8 ((q % 2 : Nat) : Int) (((i * n + j) % 8 : Nat) : Int) = if sb l n (i * n + j) = true then 2 ^ ((i * n + j) % 8) else 0 := by
            unfold shlI
            have hm : min (((i * n + j) % 8 : Nat) : Int).toNat IntKind.u8.bits = (i * n + j) % 8 := by have : IntKind.u8.bits = 8 := rfl; omega
            have h1 : (2 : Int) ^ ((i * n + j) % 8) ≤ 2 ^ 7 := ipow_le (by decide) (by omega)
            have h2 : (0 : Int) < 2 ^ ((i * n + j) % 8) := Int.pow_pos (by decide)
            have e7 : (2 : Int) ^ 7 = 128 := rfl
            rw [hm, hbit, hsb]
            split
            · rw [show ((1 : Nat) : Int) = 1 from rfl, Int.one_mul, wu8 (by omega) (by omega)]
            · rw [show ((0 : Nat) : Int) = 0 from rfl, Int.zero_mul]; rfl
          have hg := hGlt (i * n + j) ((i * n + j) / 8)
          have hg2 := hGlt (i * n + j + 1) ((i * n + j) / 8)
          rw [hstep, upd_same] at hg2
          have hdiv : (i * n + j) / 8 < 32 * n := by omega
          simp only [stepp21_1, hat, e1, e2, LL_length, hqm, hshl]
          rw [if_pos (by simp; omega), if_pos (by omega), if_pos (by omega), if_pos (by omega)]
          simp only [Int.toNat_natCast, LL_getD]
          rw [if_pos hdiv, wu8 hg2.1 hg2.2, LL_upd, tdivP (by omega), wi64 (by omega) (by omega), wi64 (by omega) (by omega)]
          rfl
        · rintro _ rfl
          refine ⟨_, ?_, rfl⟩
          simp only [stepp21_1]
          rw [if_neg (by simp), hin2]
      refine ⟨_, ?_, rfl⟩
      simp only [stepp21_0]
      simp (disch := omega) only [decide_eq_true_eq, if_pos, Int.toNat_natCast, wi64, inner, Option.bind_some]
      rfl
    · rintro _ rfl
      refine ⟨_, ?_, rfl⟩
      simp only [stepp21_0]
      simp (disch := omega) only [decide_eq_true_eq, if_neg]
      congr 2
      apply LL_congr
      intro j hj
      rw [hG]; unfold byteG
      simp only []
      rw [show min 8 (256 * n - 8 * j) = 8 by omega]
  rw [key.eq, Option.bind_some]
end Go.Abs
