/- Quotients and rests on both sides. -/
import Derived.Test.YtamclijpaplnlaaWProd2
set_option linter.unusedVariables false
set_option linter.unusedSimpArgs false
namespace Go.Abs
open Go.ChangeShapes Go.WideShapes

def bN (x : Nat → Int) (i : Nat) : Int := if bt x i = true then 1 else 0
theorem bN_01 (x : Nat → Int) (i : Nat) : bN x i = 0 ∨ bN x i = 1 := by unfold bN; split <;> simp

theorem tb_mod (n i : Nat) : n / 2 ^ i % 2 = if n.testBit i = true then 1 else 0 := by
  rw [Nat.testBit_eq_decide_div_mod_eq]
  by_cases h : n / 2 ^ i % 2 = 1
  · simp [h]
  · simp [h]; omega

/-- the upper part of a number, and its next bit -/
theorem upper {x : Nat → Int} (hx : Dig B64 x 8) {i : Nat} (hi : i < 512) : val B64 x 8 / 2 ^ i = 2 * (val B64 x 8 / 2 ^ (i + 1)) + bN x i := by
  have hb := val_bit (n := 8) hx i (by omega)
  have b1 := val_bound (by decide) hx
  have hm := tb_mod (val B64 x 8).toNat i
  have e : val B64 x 8 = ((val B64 x 8).toNat : Int) := by omega
  have hB : (val 18446744073709551616 x 8).toNat = (val B64 x 8).toNat := rfl
  rw [hB] at hb
  rw [hb] at hm
  have e2 : val B64 x 8 / 2 ^ i % 2 = bN x i := by
    have : ((val B64 x 8).toNat / 2 ^ i % 2 : Nat) = (val B64 x 8 / 2 ^ i % 2 : Int) := by
      rw [Int.natCast_emod, Int.natCast_ediv, ← e]; simp
    rw [← this, hm]; unfold bN; split <;> rfl
  rw [Int.pow_succ, ← Int.ediv_ediv_of_nonneg (Int.le_of_lt (Int.pow_pos (by decide)))]
  omega

/-- one step of the division, by values -/
theorem div_step {x : Nat → Int} (hx : Dig B64 x 8) {M : Int} (hM : 0 < M) {i : Nat} (hi : i < 512) :
    (2 * (val B64 x 8 / 2 ^ (i + 1) % M) + bN x i) % M = val B64 x 8 / 2 ^ i % M ∧
    decide (M ≤ 2 * (val B64 x 8 / 2 ^ (i + 1) % M) + bN x i) = (val B64 x 8 / M).toNat.testBit i := by
  have hu := upper hx hi
  have b1 := val_bound (by decide) hx
  constructor
  · rw [rest_bit, ← hu]
  · rw [Nat.testBit_eq_decide_div_mod_eq]
    have hq0 : 0 ≤ val B64 x 8 / M := Int.ediv_nonneg b1.1 (Int.le_of_lt hM)
    have e : ((val B64 x 8 / M).toNat / 2 ^ i % 2 : Nat) = (val B64 x 8 / M / 2 ^ i % 2 : Int) := by
      rw [Int.natCast_emod, Int.natCast_ediv, Int.toNat_of_nonneg hq0]; simp
    have e2 : val B64 x 8 / M / 2 ^ i = val B64 x 8 / 2 ^ i / M := by
      rw [Int.ediv_ediv_of_nonneg (Int.le_of_lt hM), Int.mul_comm, ← Int.ediv_ediv_of_nonneg (Int.le_of_lt (Int.pow_pos (by decide)))]
    have h01 := bN_01 x i
    have hdm := Int.emod_add_mul_ediv (val B64 x 8 / 2 ^ (i + 1)) M
    have r1 := Int.emod_nonneg (val B64 x 8 / 2 ^ (i + 1)) (Int.ne_of_gt hM)
    have r2 := Int.emod_lt_of_pos (val B64 x 8 / 2 ^ (i + 1)) hM
    rw [e2, hu] at e
    generalize val B64 x 8 / 2 ^ (i + 1) = Y at *
    generalize hR : Y % M = R at *
    generalize hQ : Y / M = Q at *
    have e3 : 2 * Y + bN x i = (2 * R + bN x i) + M * (2 * Q) := by
      rw [← hdm, Int.mul_add, Int.mul_left_comm]; omega
    rw [e3, Int.add_mul_ediv_left _ _ (Int.ne_of_gt hM)] at e
    apply decide_eq_decide.2
    by_cases hc : M ≤ 2 * R + bN x i
    · have : (2 * R + bN x i) / M = 1 := by
        rw [show 2 * R + bN x i = (2 * R + bN x i - M) + M * 1 by omega, Int.add_mul_ediv_left _ _ (Int.ne_of_gt hM), Int.ediv_eq_zero_of_lt (by omega) (by omega)]; rfl
      rw [this] at e
      constructor
      · intro _; omega
      · intro _; exact hc
    · have : (2 * R + bN x i) / M = 0 := Int.ediv_eq_zero_of_lt (by omega) (by omega)
      rw [this] at e
      constructor
      · intro h; exact absurd h hc
      · intro h; omega

theorem or_bit {f : Nat → Int} {i : Nat} {n : Nat} (hf : Dig B64 f n) (hi : i < 64 * n) :
    Dig B64 (upd f (i / 64) (bitsOr .u64 (f (i / 64)) (shlI .u64 1 ((i : Int) % 64)))) n ∧
    ∀ k, k < 64 * n → bt (upd f (i / 64) (bitsOr .u64 (f (i / 64)) (shlI .u64 1 ((i : Int) % 64)))) k = (bt f k || decide (k = i)) := by
  have hw := hf (i / 64) (by omega)
  simp only [B64] at hw
  have e3 : ((i : Int) % 64).toNat = i % 64 := by omega
  have s1 := shl64 (x := 1) (s := (i : Int) % 64) (by omega) (by omega) (by omega)
  rw [e3, show (1 : Int).toNat = 1 from rfl] at s1
  have l1 : 1 <<< (i % 64) % 2 ^ 64 < 18446744073709551616 := Nat.mod_lt _ (by decide)
  rw [s1, or64 hw.1 hw.2 nnn (nlt l1)]
  simp only [Int.toNat_natCast]
  have l3 : (f (i / 64)).toNat ||| 1 <<< (i % 64) % 2 ^ 64 < 2 ^ 64 := Nat.or_lt_two_pow (by omega) l1
  refine ⟨upd_dig hf ⟨nnn, nlt l3⟩, fun k hk => ?_⟩
  unfold bt
  rw [upd_apply]
  by_cases h : k / 64 = i / 64
  · rw [if_pos h, Int.toNat_natCast, Nat.testBit_or, Nat.testBit_mod_two_pow, Nat.testBit_shiftLeft, h]
    congr 1
    have h4 : k % 64 < 64 := Nat.mod_lt _ (by decide)
    simp only [h4, decide_true, Bool.true_and]
    by_cases h5 : k = i
    · subst h5; simp
    · rw [show decide (k = i) = false by simp [h5]]
      by_cases h6 : i % 64 ≤ k % 64
      · have : Nat.testBit 1 (k % 64 - i % 64) = false := by
          apply Nat.testBit_lt_two_pow
          exact Nat.one_lt_two_pow (by omega)
        rw [this, Bool.and_false]
      · simp [h6]
  · rw [if_neg h]
    rw [show decide (k = i) = false by simp; intro e; exact h (by rw [e])]
    simp

theorem bit_of {x : Nat → Int} {n : Nat} (hx : Dig B64 x n) {i : Nat} (hi : i < 64 * n) : bitsAnd .u64 (shrI .u64 (x (i / 64)) ((i : Int) % 64)) 1 = bN x i := by
  have hw := hx (i / 64) (by omega)
  simp only [B64] at hw
  rw [shr64 hw.1 (by omega) (by omega), show ((i : Int) % 64).toNat = i % 64 by omega]
  have hlt : (x (i / 64)).toNat >>> (i % 64) < 18446744073709551616 := by
    rw [Nat.shiftRight_eq_div_pow]; exact Nat.lt_of_le_of_lt (Nat.div_le_self _ _) (by omega)
  have hm := bt_mod (a := x) (m := i)
  rw [← Nat.shiftRight_eq_div_pow] at hm
  generalize (x (i / 64)).toNat >>> (i % 64) = q at *
  rw [and1_64 nnn (nlt hlt)]
  unfold bN
  split at hm <;> rename_i h <;> simp only [h, if_true, Bool.false_eq_true, if_false] <;> omega

theorem two512 : (2 : Int) ^ 512 = B64 ^ 8 := by
  rw [show (B64 : Int) = 2 ^ 64 by decide, ← Int.pow_mul]

theorem div_spec {x m : Nat → Int} (hx : Dig B64 x 8) (hm : Dig B64 m 4) (h0 : 0 < val B64 m 4) :
    Ret (loopO stepw32_0 (511, x, m, (fun _ => 0), (fun _ => 0), (fun _ => 0), (fun _ => 0))) fun y => Dig B64 y.2.2.1 8 ∧ (∀ k, k < 512 → bt y.2.2.1 k = (val B64 x 8 / val B64 m 4).toNat.testBit k) ∧ Dig B64 y.2.2.2 4 ∧ val B64 y.2.2.2 4 = val B64 x 8 % val B64 m 4 := by
  refine loopO_inv (fun j s => ∃ q r, s = (511 - (j : Int), x, m, (fun _ => 0), (fun _ => 0), q, r) ∧ Dig B64 q 8 ∧ (∀ k, k < 512 → bt q k = (decide (512 - j ≤ k) && (val B64 x 8 / val B64 m 4).toNat.testBit k)) ∧ Dig B64 r 4 ∧ val B64 r 4 = val B64 x 8 / 2 ^ (512 - j) % val B64 m 4) 512
    ⟨_, _, rfl, zero_dig (by decide) _, ?_, zero_dig (by decide) _, ?_⟩ ?_ ?_
  · intro k hk
    rw [show decide (512 - 0 ≤ k) = false by simp; omega]; simp [bt]
  · have b := val_bound (by decide) hx
    rw [val_zero, Int.ediv_eq_zero_of_lt b.1 (by rw [Nat.sub_zero, two512]; exact b.2)]; simp
  · rintro j _ hj ⟨q, r, rfl, hq, hb, hr, hv⟩
    have hlt : val B64 r 4 < val B64 m 4 := by rw [hv]; exact Int.emod_lt_of_pos _ h0
    have hds := div_step hx h0 (i := 511 - j) (by omega)
    rw [show 511 - j + 1 = 512 - j by omega, ← hv] at hds
    obtain ⟨⟨r', t⟩, h1, h2, h3, h4⟩ := step_spec (bit := bN x (511 - j)) hr hm (bN_01 _ _) hlt
    simp only at h2 h3 h4
    rw [hds.1] at h3
    rw [hds.2] at h4
    have hbit := bit_of (n := 8) hx (i := 511 - j) (by omega)
    have e1 : ((511 - (j : Int)) / 64).toNat = (511 - j) / 64 := by omega
    have e2 : (511 - (j : Int)) % 64 = ((511 - j : Nat) : Int) % 64 := by omega
    have e3 : 511 - (j : Int) - 1 = 511 - ((j + 1 : Nat) : Int) := by omega
    have e4 : (511 - (j : Int)).tdiv 64 = (511 - (j : Int)) / 64 := tdivP (by omega)
    have e5 : (511 - (j : Int)).tmod 64 = (511 - (j : Int)) % 64 := tmodP (by omega)
    have hwb : IntKind.i64.wrap (bN x (511 - j)) = bN x (511 - j) := by have := bN_01 x (511 - j); exact wi64 (by omega) (by omega)
    have h01 := bN_01 x (511 - j)
    obtain ⟨o1, o2⟩ := or_bit (n := 8) hq (i := 511 - j) (by omega)
    cases t with
    | true =>
      refine ⟨_, ?_, upd q ((511 - j) / 64) (bitsOr .u64 (q ((511 - j) / 64)) (shlI .u64 1 (((511 - j : Nat) : Int) % 64))), r', rfl, o1, ?_, h2, ?_⟩
      · simp only [stepw32_0, e4, e5]
        simp (disch := omega) only [decide_eq_true_eq, if_pos, wi64, e1]
        rw [e2, hbit, hwb, h1, Option.bind_some]
        simp only [if_true, e3]
      · intro k hk
        rw [o2 k hk, hb k hk, show 512 - (j + 1) = 511 - j by omega]
        by_cases c : k = 511 - j
        · subst c; simp [← h4]
        · simp only [c, decide_false, Bool.or_false]
          congr 1
          apply decide_eq_decide.2; omega
      · rw [h3, show 512 - (j + 1) = 511 - j by omega]
    | false =>
      refine ⟨_, ?_, q, r', rfl, hq, ?_, h2, ?_⟩
      · simp only [stepw32_0, e4, e5]
        simp (disch := omega) only [decide_eq_true_eq, if_pos, wi64, e1]
        rw [e2, hbit, hwb, h1, Option.bind_some]
        simp only [Bool.false_eq_true, if_false, e3]
      · intro k hk
        rw [hb k hk, show 512 - (j + 1) = 511 - j by omega]
        by_cases c : k = 511 - j
        · subst c; rw [← h4]; simp
        · congr 1
          apply decide_eq_decide.2; omega
      · rw [h3, show 512 - (j + 1) = 511 - j by omega]
  · rintro _ ⟨q, r, rfl, hq, hb, hr, hv⟩
    refine ⟨((fun _ => 0), (fun _ => 0), q, r), ?_, hq, ?_, hr, ?_⟩
    · simp only [stepw32_0]; simp (disch := omega) only [decide_eq_true_eq, if_neg]
    · intro k hk
      show bt q k = _
      rw [hb k hk]; simp
    · show val B64 r 4 = _
      rw [hv]; simp

/-! ### The document's division: words, digits, bits -/
/-- so far down to bit t -/
def RD (x m : Nat → Int) (t : Nat) (q r : Nat → Int) : Prop :=
  (∀ w, w < 8 → ∃ n : Nat, q w = (n : Int) ∧ ShW (fun k => (val B64 x 8 / val B64 m 4).toNat.testBit k) t w n) ∧ Dig B64 r 4 ∧ val B64 r 4 = val B64 x 8 / 2 ^ t % val B64 m 4

theorem digit_bit {x : Nat → Int} {w i e : Nat} (hx : 0 ≤ x w) (hi : i < 4) (he : e < 16) : x w / B16 ^ i % B16 / 2 ^ e % 2 = bN x (64 * w + (16 * i + e)) := by
  have hm := tb_mod ((x w).toNat / 2 ^ (16 * i) % 2 ^ 16) e
  rw [Nat.testBit_mod_two_pow, ← Nat.shiftRight_eq_div_pow (x w).toNat, Nat.testBit_shiftRight] at hm
  simp only [he, decide_true, Bool.true_and] at hm
  have e1 : x w / B16 ^ i % B16 / 2 ^ e % 2 = (((x w).toNat >>> (16 * i) % 2 ^ 16 / 2 ^ e % 2 : Nat) : Int) := by
    rw [Nat.shiftRight_eq_div_pow]
    simp only [Int.natCast_emod, Int.natCast_ediv, Int.toNat_of_nonneg hx]
    have p1 : (B16 : Int) ^ i = ((2 ^ (16 * i) : Nat) : Int) := by
      rw [Nat.pow_mul]; simp [B16]
    rw [p1]; simp [B16]
  rw [e1, hm]
  unfold bN bt
  rw [show (64 * w + (16 * i + e)) / 64 = w by omega, show (64 * w + (16 * i + e)) % 64 = 16 * i + e by omega]
  split <;> rfl

theorem rdiv_bits {x m : Nat → Int} (hx : Dig B64 x 8) (hm : Dig B64 m 4) (h0 : 0 < val B64 m 4) {w i : Nat} (hw : w < 8) (hi : i < 4) {z1 z2 q r : Nat → Int} {ds : List Int} (hds : ds.length = 4) (hd : ds.getD i 0 = x w / B16 ^ i % B16) (h : RD x m (64 * w + 16 * (i + 1)) q r) :
    Ret (loopO stepw35_2 ((w : Int), (i : Int), 32768, x, m, z1, z2, q, r, ds)) fun y => ∃ q' r', y = ((w : Int), (i : Int), x, m, z1, z2, q', r', ds) ∧ RD x m (64 * w + 16 * i) q' r' := by
  have hdd : 0 ≤ ds.getD i 0 ∧ ds.getD i 0 < 65536 := by rw [hd]; simp only [B16]; omega
  refine loopO_inv (fun j s => ∃ q r, s = ((w : Int), (i : Int), (if j < 16 then 2 ^ (15 - j) else 0), x, m, z1, z2, q, r, ds) ∧ RD x m (64 * w + 16 * (i + 1) - j) q r) 16 ⟨q, r, rfl, h⟩ ?_ ?_
  · rintro j _ hj ⟨q, r, rfl, hq, hr, hv⟩
    have hp : (0 : Int) < 2 ^ (15 - j) := Int.pow_pos (by decide)
    have hp2 : (2 : Int) ^ (15 - j) ≤ 2 ^ 15 := ipow_le (by decide) (by omega)
    have h7 : (2 : Int) ^ 15 = 32768 := rfl
    have hnext : IntKind.u32.wrap (((2 : Int) ^ (15 - j)).tdiv 2) = if j + 1 < 16 then 2 ^ (15 - (j + 1)) else 0 := by
      rw [tdivP (by omega)]
      by_cases h : j + 1 < 16
      · rw [if_pos h, show 15 - j = (15 - (j + 1)) + 1 by omega, Int.pow_succ, Int.mul_ediv_cancel _ (by decide)]
        have hq : (2 : Int) ^ (15 - (j + 1)) ≤ 2 ^ 15 := ipow_le (by decide) (by omega)
        rw [wu32 (Int.le_of_lt (Int.pow_pos (by decide))) (by omega)]
      · rw [if_neg h, show 15 - j = 0 by omega]; rfl
    have h1 : 0 ≤ ds.getD i 0 / 2 ^ (15 - j) := Int.ediv_nonneg hdd.1 (Int.le_of_lt hp)
    have h2 : ds.getD i 0 / 2 ^ (15 - j) ≤ ds.getD i 0 := Int.ediv_le_self _ hdd.1
    obtain ⟨t, ht⟩ : ∃ t, t = 64 * w + (16 * i + (15 - j)) := ⟨_, rfl⟩
    have et : 64 * w + 16 * (i + 1) - j = t + 1 := by omega
    have et2 : 64 * w + 16 * (i + 1) - (j + 1) = t := by omega
    have ew : t / 64 = w := by omega
    have hbit : IntKind.i64.wrap ((IntKind.u32.wrap ((ds.getD i 0).tdiv (2 ^ (15 - j)))).tmod 2) = bN x t := by
      rw [tdivP hdd.1, wu32 h1 (by omega), tmodP h1, wi64 (by omega) (by omega), hd, digit_bit (hx w hw).1 hi (by omega), ht]
    rw [et] at hq hv
    rw [et2]
    have hlt : val B64 r 4 < val B64 m 4 := by rw [hv]; exact Int.emod_lt_of_pos _ h0
    have hds' := div_step hx h0 (i := t) (by omega)
    rw [← hv] at hds'
    obtain ⟨⟨r', tk⟩, k1, k2, k3, k4⟩ := twice_spec (bit := bN x t) hr hm (bN_01 _ _) hlt
    simp only at k2 k3 k4
    rw [hds'.1] at k3
    rw [hds'.2] at k4
    obtain ⟨n, hn, hs⟩ := hq w hw
    have hs2 : ShW (fun k => (val B64 x 8 / val B64 m 4).toNat.testBit k) t w (2 * n + (if (val B64 x 8 / val B64 m 4).toNat.testBit t = true then 1 else 0)) := by
      have := ShW.step (t := t) (q := n) (p := fun k => (val B64 x 8 / val B64 m 4).toNat.testBit k) (by rw [ew]; exact hs)
      rw [ew] at this; exact this
    have hl := hs2.lt64
    rw [← k4] at hs2 hl
    have keep : ∀ v : Int, v = ((2 * n + (if tk = true then 1 else 0) : Nat) : Int) → RD x m t (upd q w v) r' := by
      intro v hv'
      refine ⟨fun w' hw' => ?_, k2, k3⟩
      rw [upd_apply]
      by_cases c : w' = w
      · rw [if_pos c, c]; exact ⟨_, hv', hs2⟩
      · rw [if_neg c]
        obtain ⟨n', e1, e2⟩ := hq w' hw'
        exact ⟨n', e1, e2.keep (by omega)⟩
    cases tk with
    | true =>
      simp only [if_true] at hl keep
      refine ⟨_, ?_, _, r', rfl, keep (IntKind.u64.wrap (IntKind.u64.wrap (2 * q w) + 1)) ?_⟩
      · simp only [stepw35_2]
        rw [if_pos hj]
        simp (disch := omega) only [decide_eq_true_eq, if_pos, Int.toNat_natCast, hbit, k1, Option.bind_some, if_true, hnext]
        have eu : ∀ a b : Int, upd (upd q w a) w b = upd q w b := fun a b => by funext k; rw [upd_apply, upd_apply, upd_apply]; split <;> rfl
        rw [upd_same, eu]
      · rw [hn, wu64 (n := 2 * (n : Int)) (by omega) (by omega), wu64 (by omega) (by omega)]; omega
    | false =>
      simp only [Bool.false_eq_true, if_false, Nat.add_zero] at hl keep
      refine ⟨_, ?_, _, r', rfl, keep (IntKind.u64.wrap (2 * q w)) ?_⟩
      · simp only [stepw35_2]
        rw [if_pos hj]
        simp (disch := omega) only [decide_eq_true_eq, if_pos, Int.toNat_natCast, hbit, k1, Option.bind_some, Bool.false_eq_true, if_false, hnext]
      · rw [hn, wu64 (n := 2 * (n : Int)) (by omega) (by omega)]; omega
  · rintro _ ⟨q, r, rfl, hq⟩
    refine ⟨_, ?_, q, r, rfl, by rw [show 64 * w + 16 * (i + 1) - 16 = 64 * w + 16 * i by omega] at hq; exact hq⟩
    simp only [stepw35_2, Nat.lt_irrefl, if_false]
    simp (disch := omega) only [decide_eq_true_eq, if_neg]

theorem rdiv_word {x m : Nat → Int} (hx : Dig B64 x 8) (hm : Dig B64 m 4) (h0 : 0 < val B64 m 4) {w : Nat} (hw : w < 8) {z1 z2 q r : Nat → Int} {ds : List Int} (hds : ds.length = 4) (hd : ∀ i, i < 4 → ds.getD i 0 = x w / B16 ^ i % B16) (h : RD x m (64 * (w + 1)) q r) :
    Ret (loopO stepw35_1 ((w : Int), 3, x, m, z1, z2, q, r, ds)) fun y => ∃ q' r', y = ((w : Int), x, m, z1, z2, q', r') ∧ RD x m (64 * w) q' r' := by
  refine loopO_inv (fun j s => ∃ q r, s = ((w : Int), 3 - (j : Int), x, m, z1, z2, q, r, ds) ∧ RD x m (64 * w + 16 * (4 - j)) q r) 4 ⟨q, r, rfl, by rw [show 64 * w + 16 * (4 - 0) = 64 * (w + 1) by omega]; exact h⟩ ?_ ?_
  · rintro j _ hj ⟨q, r, rfl, hq⟩
    rw [show 4 - j = (3 - j) + 1 by omega] at hq
    obtain ⟨y, h1, q', r', rfl, h2⟩ := rdiv_bits (z1 := z1) (z2 := z2) hx hm h0 hw (i := 3 - j) (by omega) hds (hd (3 - j) (by omega)) hq
    refine ⟨_, ?_, q', r', rfl, by rw [show 4 - (j + 1) = 3 - j by omega]; exact h2⟩
    simp only [stepw35_1]
    rw [show (3 : Int) - (j : Int) = ((3 - j : Nat) : Int) by omega, h1]
    simp (disch := omega) only [decide_eq_true_eq, if_pos, Option.bind_some, wi64]
    rw [show ((3 - j : Nat) : Int) - 1 = 3 - ((j + 1 : Nat) : Int) by omega]
  · rintro _ ⟨q, r, rfl, hq⟩
    refine ⟨_, ?_, q, r, rfl, by simpa using hq⟩
    simp only [stepw35_1]; simp (disch := omega) only [decide_eq_true_eq, if_neg]

theorem rdiv_spec {x m : Nat → Int} (hx : Dig B64 x 8) (hm : Dig B64 m 4) (h0 : 0 < val B64 m 4) :
    Ret (Fw35 (x, m)) fun y => Dig B64 y.1 8 ∧ (∀ k, k < 512 → bt y.1 k = (val B64 x 8 / val B64 m 4).toNat.testBit k) ∧ Dig B64 y.2 4 ∧ val B64 y.2 4 = val B64 x 8 % val B64 m 4 := by
  simp only [Fw35]
  refine Ret.bind (Q := fun y => RD x m 0 y.2.2.1 y.2.2.2) ?_ ?_
  · refine loopO_inv (fun j s => ∃ q r, s = (7 - (j : Int), x, m, (fun _ => 0), (fun _ => 0), q, r) ∧ RD x m (64 * (8 - j)) q r) 8 ⟨_, _, rfl, ?_, zero_dig (by decide) _, ?_⟩ ?_ ?_
    · intro w hw
      refine ⟨0, rfl, fun k => ?_⟩
      rw [show decide (k < 64 * (w + 1) - max (64 * (8 - 0)) (64 * w)) = false by simp; omega]; simp
    · have b := val_bound (by decide) hx
      rw [val_zero, Int.ediv_eq_zero_of_lt b.1 (by rw [show 64 * (8 - 0) = 512 from rfl, two512]; exact b.2)]; simp
    · rintro j _ hj ⟨q, r, rfl, hq⟩
      have hw7 := hx (7 - j) (by omega)
      have e1 : (7 - (j : Int)).toNat = 7 - j := by omega
      have hsp := digits_spec [x (7 - j)] (by simp) (by
        intro i
        cases i with
        | zero => exact hw7
        | succ i => simp)
      have hdig : ∀ i, i < 4 → (LL (4 * [x (7 - j)].length) (d16 fun i => [x (7 - j)].getD i 0)).getD i 0 = x (7 - j) / B16 ^ i % B16 := by
        intro i hi
        rw [LL_getD, if_pos (by simpa using hi)]
        unfold d16
        rw [show i / 4 = 0 by omega, show i % 4 = i by omega]; rfl
      rw [show 8 - j = (7 - j) + 1 by omega] at hq
      obtain ⟨y, h1, q', r', rfl, h2⟩ := rdiv_word (z1 := fun _ => 0) (z2 := fun _ => 0) hx hm h0 (w := 7 - j) (by omega) (by simp) hdig hq
      refine ⟨_, ?_, q', r', rfl, by rw [show 8 - (j + 1) = 7 - j by omega]; exact h2⟩
      simp only [stepw35_0]
      have hset : (List.replicate 1 (0 : Int)).set 0 (x (7 - j)) = [x (7 - j)] := rfl
      rw [show (7 : Int) - (j : Int) = ((7 - j : Nat) : Int) by omega]
      simp (disch := omega) only [decide_eq_true_eq, if_pos, Int.toNat_natCast, hset, hsp, Option.bind_some, h1, wi64]
      rw [show ((7 - j : Nat) : Int) - 1 = 7 - ((j + 1 : Nat) : Int) by omega]
    · rintro _ ⟨q, r, rfl, hq⟩
      refine ⟨((fun _ => 0), (fun _ => 0), q, r), ?_, by simpa using hq⟩
      simp only [stepw35_0]; simp (disch := omega) only [decide_eq_true_eq, if_neg]
  · rintro ⟨z1, z2, q, r⟩ ⟨hq, hr, hv⟩
    have hq' : ∀ w, w < 8 → ∃ n : Nat, q w = (n : Int) ∧ ShW (fun k => (val B64 x 8 / val B64 m 4).toNat.testBit k) 0 w n := hq
    refine ⟨_, rfl, ?_, ?_, hr, by rw [hv]; simp⟩
    · intro i hi
      obtain ⟨n, h1, h2⟩ := hq' i hi
      show 0 ≤ q i ∧ q i < B64
      rw [h1]; exact ⟨nnn, nlt h2.lt64⟩
    · intro k hk
      obtain ⟨n, h1, h2⟩ := hq' (k / 64) (by omega)
      show (q (k / 64)).toNat.testBit _ = _
      rw [h1, Int.toNat_natCast, h2, show decide (k % 64 < 64 * (k / 64 + 1) - max 0 (64 * (k / 64))) = true by simp; omega, show max 0 (64 * (k / 64)) + k % 64 = k by omega, Bool.true_and]

theorem products_true {a b m : Nat → Int} (ha : Dig B64 a 4) (hb : Dig B64 b 4) (hm : Dig B64 m 4) : Fw8 (a, b, m) = some true := by
  obtain ⟨p, hp, d1, v1⟩ := mul_spec ha hb
  obtain ⟨p', hp', d1', v1'⟩ := rmul_spec ha hb
  have q1 : arrEq 8 p p' = true := val_eq_words d1 d1' (v1.trans v1'.symm)
  simp only [Fw8, Fw33, awake_true, Option.bind_some, hp, hp', q1]
  have z4 : arrEq 4 (fun _ => 0) (fun _ => 0) = true := arrEq_true fun _ _ => rfl
  have z8 : arrEq 8 (fun _ => 0) (fun _ => 0) = true := arrEq_true fun _ _ => rfl
  by_cases h0 : arrEq 4 m (fun _ => 0) = true
  · have h32 : Fw32 (p, m) = some ((fun _ => 0), (fun _ => 0), 42) := by simp only [Fw32, h0, if_true]
    simp only [h32, Option.bind_some, h0, if_true, BEq.rfl, z4, z8, Bool.not_true, Bool.false_eq_true, if_false]
  · have hpos := nonzero hm h0
    obtain ⟨⟨y1, y2, q, r⟩, hy, dq, bq, dr, vr⟩ := div_spec d1 hm hpos
    obtain ⟨⟨q', r'⟩, hy', dq', bq', dr', vr'⟩ := rdiv_spec d1 hm hpos
    simp only at dq bq dr vr dq' bq' dr' vr'
    have h32 : Fw32 (p, m) = some (q, r, 0) := by simp only [Fw32, h0, Bool.false_eq_true, if_false, hy, Option.bind_some]
    have q2 : arrEq 8 q q' = true := arrEq_true (bt_ext dq dq' fun k hk => by rw [bq k hk, bq' k hk])
    have q3 : arrEq 4 r r' = true := val_eq_words dr dr' (vr.trans vr'.symm)
    simp only [h32, hy', Option.bind_some, h0, Bool.false_eq_true, if_false, if_true, BEq.rfl, q2, q3, Bool.not_true]

theorem products_law {x0 x1 x2 : Nat → Int} (h0 : ∀ i, i < 4 → (Lit.int .u64 (x0 i)).wf = true) (h1 : ∀ i, i < 4 → (Lit.int .u64 (x1 i)).wf = true) (h2 : ∀ i, i < 4 → (Lit.int .u64 (x2 i)).wf = true) : Fw8 (x0, x1, x2) = some true :=
  products_true (words_dig h0) (words_dig h1) (words_dig h2)
end Go.Abs
