/- WideReduces, the plain law. -/
import Derived.Test.YtamclijpaplnlaaWStep
set_option linter.unusedVariables false
set_option linter.unusedSimpArgs false
namespace Go.Abs
open Go.ChangeShapes Go.WideShapes

/-- a rest, and a bit more -/
theorem rest_bit {x m b : Int} : (2 * (x % m) + b) % m = (2 * x + b) % m := by
  rw [Int.add_emod, Int.mul_emod, Int.emod_emod, ← Int.mul_emod, ← Int.add_emod]

theorem byte_bits {c : Int} {j : Nat} (hj : j < 8) : c / 2 ^ (8 - (j + 1)) = 2 * (c / 2 ^ (8 - j)) + c / 2 ^ (7 - j) % 2 := by
  rw [show 8 - (j + 1) = 7 - j by omega, show 8 - j = (7 - j) + 1 by omega, Int.pow_succ, ← Int.ediv_ediv_of_nonneg (Int.le_of_lt (Int.pow_pos (by decide)))]
  omega

theorem bit_next {R c : Int} {j : Nat} (hj : j < 8) : 2 * (R * 2 ^ j + c / 2 ^ (8 - j)) + c / 2 ^ (7 - j) % 2 = R * 2 ^ (j + 1) + c / 2 ^ (8 - (j + 1)) := by
  rw [byte_bits hj, Int.pow_succ, ← Int.mul_assoc, Int.mul_comm _ 2, Int.mul_add, Int.add_assoc]

theorem reduce_inner {r m z : Nat → Int} {c : Int} {b : List Int} {l k : Int} (hr : Dig B64 r 4) (hm : Dig B64 m 4) (hc : 0 ≤ c ∧ c < 256) (hlt : val B64 r 4 < val B64 m 4) :
    Ret (loopO stepw28_1 (c, 7, b, l, k, m, z, r)) fun y => ∃ r', y = (b, l, k, m, z, r') ∧ Dig B64 r' 4 ∧ val B64 r' 4 = (val B64 r 4 * 256 + c) % val B64 m 4 := by
  have br := val4_bound hr
  refine loopO_inv (fun j s => ∃ r', s = (c, 7 - (j : Int), b, l, k, m, z, r') ∧ Dig B64 r' 4 ∧ val B64 r' 4 = (val B64 r 4 * 2 ^ j + c / 2 ^ (8 - j)) % val B64 m 4) 8 ⟨r, rfl, hr, ?_⟩ ?_ ?_
  · rw [Int.pow_zero, Int.mul_one, Int.ediv_eq_zero_of_lt hc.1 (by simpa using hc.2), Int.add_zero, Int.emod_eq_of_lt br.1 hlt]
  · rintro j _ hj ⟨r', rfl, hr', hv⟩
    have hbit : IntKind.i64.wrap (bitsAnd .u8 (shrI .u8 c (7 - (j : Int))) 1) = c / 2 ^ (7 - j) % 2 := by
      have e : shrI .u8 c (7 - (j : Int)) = c / 2 ^ (7 - j) := by
        unfold shrI
        have hmn : min (7 - (j : Int)).toNat IntKind.u8.bits = 7 - j := by have : IntKind.u8.bits = 8 := rfl; omega
        rw [hmn, Int.fdiv_eq_ediv_of_nonneg _ (Int.le_of_lt (Int.pow_pos (by decide)))]
      have h1 : 0 ≤ c / 2 ^ (7 - j) := Int.ediv_nonneg hc.1 (Int.le_of_lt (Int.pow_pos (by decide)))
      have h2 : c / 2 ^ (7 - j) ≤ c := Int.ediv_le_self _ hc.1
      rw [e, and1_8 h1 (by omega), wi64 (by omega) (by omega)]
    have hml := val4_bound hm
    have hl' : val B64 r' 4 < val B64 m 4 := by rw [hv]; exact Int.emod_lt_of_pos _ (by omega)
    obtain ⟨⟨y, t⟩, h1, h2, h3, _⟩ := step_spec (bit := c / 2 ^ (7 - j) % 2) hr' hm (by omega) hl'
    refine ⟨_, ?_, y, rfl, h2, ?_⟩
    · simp only [stepw28_1]
      simp (disch := omega) only [decide_eq_true_eq, if_pos, hbit, h1, Option.bind_some, wi64]
      rw [show 7 - (j : Int) - 1 = 7 - ((j + 1 : Nat) : Int) by omega]
    · simp only at h3
      rw [h3, hv, rest_bit, bit_next hj]
  · rintro _ ⟨r', rfl, hr', hv⟩
    refine ⟨_, ?_, r', rfl, hr', ?_⟩
    · simp only [stepw28_1]; simp (disch := omega) only [decide_eq_true_eq, if_neg]
    · rw [hv]; simp

theorem rreduce_inner {r m z : Nat → Int} {b : List Int} {k : Nat} (hr : Dig B64 r 4) (hm : Dig B64 m 4) (hk : k < b.length) (hc : 0 ≤ b.getD k 0 ∧ b.getD k 0 < 256) (hlt : val B64 r 4 < val B64 m 4) :
    Ret (loopO stepw29_1 (b, (k : Int), 128, m, z, r)) fun y => ∃ r', y = (b, (k : Int), m, z, r') ∧ Dig B64 r' 4 ∧ val B64 r' 4 = (val B64 r 4 * 256 + b.getD k 0) % val B64 m 4 := by
  have br := val4_bound hr
  refine loopO_inv (fun j s => ∃ r', s = (b, (k : Int), (if j < 8 then 2 ^ (7 - j) else 0), m, z, r') ∧ Dig B64 r' 4 ∧ val B64 r' 4 = (val B64 r 4 * 2 ^ j + b.getD k 0 / 2 ^ (8 - j)) % val B64 m 4) 8 ⟨r, rfl, hr, ?_⟩ ?_ ?_
  · rw [Int.pow_zero, Int.mul_one, Int.ediv_eq_zero_of_lt hc.1 (by simpa using hc.2), Int.add_zero, Int.emod_eq_of_lt br.1 hlt]
  · rintro j _ hj ⟨r', rfl, hr', hv⟩
    have hp : (0 : Int) < 2 ^ (7 - j) := Int.pow_pos (by decide)
    have hp2 : (2 : Int) ^ (7 - j) ≤ 2 ^ 7 := ipow_le (by decide) (by omega)
    have h7 : (2 : Int) ^ 7 = 128 := rfl
    have hnext : IntKind.u8.wrap (((2 : Int) ^ (7 - j)).tdiv 2) = if j + 1 < 8 then 2 ^ (7 - (j + 1)) else 0 := by
      rw [tdivP (by omega)]
      by_cases h : j + 1 < 8
      · rw [if_pos h, show 7 - j = (7 - (j + 1)) + 1 by omega, Int.pow_succ, Int.mul_ediv_cancel _ (by decide)]
        have hq : (2 : Int) ^ (7 - (j + 1)) ≤ 2 ^ 7 := ipow_le (by decide) (by omega)
        rw [wu8 (Int.le_of_lt (Int.pow_pos (by decide))) (by omega)]
      · rw [if_neg h, show 7 - j = 0 by omega]; rfl
    have h1 : 0 ≤ b.getD k 0 / 2 ^ (7 - j) := Int.ediv_nonneg hc.1 (Int.le_of_lt hp)
    have h2 : b.getD k 0 / 2 ^ (7 - j) ≤ b.getD k 0 := Int.ediv_le_self _ hc.1
    have hbit : IntKind.i64.wrap ((IntKind.u8.wrap ((b.getD k 0).tdiv (2 ^ (7 - j)))).tmod 2) = b.getD k 0 / 2 ^ (7 - j) % 2 := by
      rw [tdivP hc.1, wu8 h1 (by omega), tmodP h1, wi64 (by omega) (by omega)]
    have hml := val4_bound hm
    have hl' : val B64 r' 4 < val B64 m 4 := by rw [hv]; exact Int.emod_lt_of_pos _ (by omega)
    obtain ⟨⟨y, t⟩, h1', h2', h3, _⟩ := twice_spec (bit := b.getD k 0 / 2 ^ (7 - j) % 2) hr' hm (by omega) hl'
    refine ⟨_, ?_, y, rfl, h2', ?_⟩
    · simp only [stepw29_1]
      rw [if_pos hj]
      simp (disch := omega) only [decide_eq_true_eq, if_pos, hbit, h1', Option.bind_some, hnext, Int.toNat_natCast]
    · simp only at h3
      rw [h3, hv, rest_bit, bit_next hj]
  · rintro _ ⟨r', rfl, hr', hv⟩
    refine ⟨_, ?_, r', rfl, hr', ?_⟩
    · simp only [stepw29_1, Nat.lt_irrefl, if_false]
      simp (disch := omega) only [decide_eq_true_eq, if_neg]
    · rw [hv]; simp

/-- the number of the first n bytes -/
def hornL (b : List Int) : Nat → Int
  | 0 => 0
  | n + 1 => hornL b n * 256 + b.getD n 0

theorem rest_byte {x m c : Int} : ((x % m) * 256 + c) % m = (x * 256 + c) % m := by
  rw [Int.add_emod, Int.mul_emod, Int.emod_emod, ← Int.mul_emod, ← Int.add_emod]

theorem reduce_spec {b : List Int} {m : Nat → Int} (hb : ∀ i, 0 ≤ b.getD i 0 ∧ b.getD i 0 < 256) (hl : b.length ≤ 140737488351232) (hm : Dig B64 m 4) (h0 : 0 < val B64 m 4) :
    Ret (loopO stepw28_0 (b, (b.length : Int), 0, m, (fun _ => 0), (fun _ => 0))) fun y => Dig B64 y.2 4 ∧ val B64 y.2 4 = hornL b b.length % val B64 m 4 := by
  refine loopO_inv (fun j s => ∃ r, s = (b, (b.length : Int), (j : Int), m, (fun _ => 0), r) ∧ Dig B64 r 4 ∧ val B64 r 4 = hornL b j % val B64 m 4) b.length ⟨_, rfl, zero_dig (by decide) _, ?_⟩ ?_ ?_
  · simp [hornL, val]
  · rintro j _ hj ⟨r, rfl, hr, hv⟩
    have hlt : val B64 r 4 < val B64 m 4 := by rw [hv]; exact Int.emod_lt_of_pos _ h0
    obtain ⟨y, h1, r', rfl, h2, h3⟩ := reduce_inner (z := fun _ => 0) (b := b) (l := (b.length : Int)) (k := (j : Int)) hr hm (hb j) hlt
    refine ⟨_, ?_, r', rfl, h2, ?_⟩
    · simp only [stepw28_0]
      simp (disch := omega) only [decide_eq_true_eq, if_pos, Int.toNat_natCast, h1, Option.bind_some, wi64]
      rfl
    · rw [h3, hv, rest_byte]; rfl
  · rintro _ ⟨r, rfl, hr, hv⟩
    refine ⟨((fun _ => 0), r), ?_, hr, hv⟩
    simp only [stepw28_0]; simp (disch := omega) only [decide_eq_true_eq, if_neg]

theorem rreduce_spec {b : List Int} {m : Nat → Int} (hb : ∀ i, 0 ≤ b.getD i 0 ∧ b.getD i 0 < 256) (hl : b.length ≤ 140737488351232) (hm : Dig B64 m 4) (h0 : 0 < val B64 m 4) :
    Ret (Fw29 (b, m)) fun y => Dig B64 y 4 ∧ val B64 y 4 = hornL b b.length % val B64 m 4 := by
  simp only [Fw29]
  refine Ret.bind (Q := fun y => Dig B64 y.2 4 ∧ val B64 y.2 4 = hornL b b.length % val B64 m 4) ?_ fun ⟨z1, z2⟩ h => ⟨_, rfl, h⟩
  refine loopO_inv (fun j s => ∃ r, s = (b, (j : Int), m, (fun _ => 0), r) ∧ Dig B64 r 4 ∧ val B64 r 4 = hornL b j % val B64 m 4) b.length ⟨_, rfl, zero_dig (by decide) _, ?_⟩ ?_ ?_
  · simp [hornL, val]
  · rintro j _ hj ⟨r, rfl, hr, hv⟩
    have hlt : val B64 r 4 < val B64 m 4 := by rw [hv]; exact Int.emod_lt_of_pos _ h0
    obtain ⟨y, h1, r', rfl, h2, h3⟩ := rreduce_inner (z := fun _ => 0) hr hm hj (hb j) hlt
    refine ⟨_, ?_, r', rfl, h2, ?_⟩
    · simp only [stepw29_0]
      simp (disch := omega) only [decide_eq_true_eq, if_pos, h1, Option.bind_some, wi64]
      rfl
    · rw [h3, hv, rest_byte]; rfl
  · rintro _ ⟨r, rfl, hr, hv⟩
    refine ⟨((fun _ => 0), r), ?_, hr, hv⟩
    simp only [stepw29_0]; simp (disch := omega) only [decide_eq_true_eq, if_neg]

theorem val_eq_words {f g : Nat → Int} {n : Nat} (hf : Dig B64 f n) (hg : Dig B64 g n) (h : val B64 f n = val B64 g n) : arrEq n f g = true :=
  arrEq_true (val_inj (by decide) hf hg h)

theorem val_zero (n : Nat) : val B64 (fun _ => 0) n = 0 := by
  induction n with
  | zero => rfl
  | succ n ih => simp [val, ih]

theorem nonzero {m : Nat → Int} (hm : Dig B64 m 4) (h : ¬ arrEq 4 m (fun _ => 0) = true) : 0 < val B64 m 4 := by
  have h1 := val4_bound hm
  rcases Int.lt_or_le 0 (val B64 m 4) with h2 | h2
  · exact h2
  · exact absurd (val_eq_words hm (zero_dig (by decide) 4) (by rw [val_zero]; omega)) h

theorem reduces_true {b : List Int} {m : Nat → Int} (hb : ∀ i, 0 ≤ b.getD i 0 ∧ b.getD i 0 < 256) (hl : b.length ≤ 140737488351232) (hm : Dig B64 m 4) : Fw6 (b, m) = some true := by
  have o1 : okBytes ((List.replicate 0 (0 : Int)).length + b.length) 1 := by unfold okBytes; simp; omega
  have hf2 : ((List.replicate 0 (0 : Int)) ++ b) ++ ((List.replicate 1 (0 : Int)).set 0 77) = b ++ [77] := rfl
  have o2 : okBytes (((List.replicate 0 (0 : Int)) ++ b).length + ((List.replicate 1 (0 : Int)).set 0 77).length) 1 := by unfold okBytes; simp; omega
  have htk : (((b ++ [77]).drop 0).take ((b.length : Int).toNat - 0)) = b := by simp
  have h77 : (b ++ [77]).getD b.length 0 = 77 := by simp [List.getD_eq_getElem?_getD]
  have hlen : (b ++ [77]).length = b.length + 1 := by simp
  have loop6 : ∀ (e : Int) (r : Nat → Int), loopO stepw6_0 (b, true, e, true, 0, m, b ++ [77], r) = some (b, true, e, true, m, r) := by
    intro e r
    apply Ret.eq
    refine loopO_inv (fun j s => s = (b, true, e, true, (j : Int), m, b ++ [77], r)) b.length rfl ?_ ?_
    · rintro j _ hj rfl
      refine ⟨_, ?_, rfl⟩
      have : (b ++ [77]).getD j 0 = b.getD j 0 := by simp [List.getD_eq_getElem?_getD, List.getElem?_append, hj]
      simp only [stepw6_0, hlen]
      simp (disch := omega) only [decide_eq_true_eq, if_pos, if_true, Int.toNat_natCast, this, BEq.rfl, wi64]
      rfl
    · rintro _ rfl
      refine ⟨_, ?_, rfl⟩
      simp only [stepw6_0]; simp (disch := omega) only [decide_eq_true_eq, if_neg]
  simp only [Fw6, awake_true, Option.bind_some, hf2, htk]
  rw [if_pos o1, if_pos o2, if_pos (by rw [hlen]; omega)]
  by_cases h0 : arrEq 4 m (fun _ => 0) = true
  · have h28 : Fw28 (b, m) = some ((fun _ => 0), 42) := by simp only [Fw28, h0, if_true]
    rw [h28, Option.bind_some]
    simp only [Int.toNat_natCast]
    rw [if_pos (by rw [hlen]; omega), h77]
    simp only [BEq.rfl, loop6, Option.bind_some, h0, if_true, arrEq_true (n := 4) (f := fun _ => (0 : Int)) (g := fun _ => 0) fun _ _ => rfl]
  · have hp := nonzero hm h0
    obtain ⟨y, hy, d1, v1⟩ := reduce_spec hb hl hm hp
    obtain ⟨r, hr, d2, v2⟩ := rreduce_spec hb hl hm hp
    have h28 : Fw28 (b, m) = some (y.2, 0) := by simp only [Fw28, h0, Bool.false_eq_true, if_false, hy, Option.bind_some]
    rw [h28, Option.bind_some]
    simp only [Int.toNat_natCast]
    rw [if_pos (by rw [hlen]; omega), h77]
    simp only [BEq.rfl, loop6, Option.bind_some, h0, Bool.false_eq_true, if_false, if_true, hr, val_eq_words d1 d2 (v1.trans v2.symm)]

theorem reduces_law {x0 : List Int} {x1 : Nat → Int} (h0 : ∀ y ∈ x0, (Lit.int .u8 y).wf = true) (g0 : x0.length * 1 ≤ 140737488351232) (h1 : ∀ i, i < 4 → (Lit.int .u64 (x1 i)).wf = true) : Fw6 (x0, x1) = some true :=
  reduces_true (bytes_in h0) (by omega) (words_dig h1)
end Go.Abs
