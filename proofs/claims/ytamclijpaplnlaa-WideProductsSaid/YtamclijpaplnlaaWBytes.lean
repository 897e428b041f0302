/- Numbers and their bytes; order; WideBytes, the plain law. -/
import Derived.Test.YtamclijpaplnlaaWShift2
import Derived.OpenShut
set_option linter.unusedVariables false
set_option linter.unusedSimpArgs false
namespace Go.Abs
open Go.ChangeShapes Go.WideShapes

/-- order as a number -/
def sg (x y : Int) : Int := if x < y then -1 else if x > y then 1 else 0

theorem sg_top {B : Int} (hB : 0 < B) {f g : Nat → Int} {n : Nat} (hf : Dig B f n) (hg : Dig B g n) :
    sg (val B f (n + 1)) (val B g (n + 1)) = if f n < g n then -1 else if f n > g n then 1 else sg (val B f n) (val B g n) := by
  obtain ⟨a1, a2⟩ := val_bound hB hf
  obtain ⟨b1, b2⟩ := val_bound hB hg
  have hp : 0 < B ^ n := Int.pow_pos hB
  rw [show val B f (n + 1) = val B f n + f n * B ^ n from rfl, show val B g (n + 1) = val B g n + g n * B ^ n from rfl]
  unfold sg
  by_cases h1 : f n < g n
  · have : (f n + 1) * B ^ n ≤ g n * B ^ n := Int.mul_le_mul_of_nonneg_right (by omega) (Int.le_of_lt hp)
    rw [Int.add_mul, Int.one_mul] at this
    rw [if_pos h1, if_pos (by omega)]
  · rw [if_neg h1]
    by_cases h2 : f n > g n
    · have : (g n + 1) * B ^ n ≤ f n * B ^ n := Int.mul_le_mul_of_nonneg_right (by omega) (Int.le_of_lt hp)
      rw [Int.add_mul, Int.one_mul] at this
      rw [if_pos h2, if_neg (by omega), if_pos (by omega)]
    · rw [if_neg h2]
      have e : f n = g n := by omega
      rw [e]
      by_cases h3 : val B f n < val B g n
      · rw [if_pos h3, if_pos (by omega)]
      · rw [if_neg h3, if_neg (by omega)]
        by_cases h4 : val B f n > val B g n
        · rw [if_pos h4, if_pos (by omega)]
        · rw [if_neg h4, if_neg (by omega)]

theorem compare_spec (x y : Int) : Fw42 (x, y) = some (sg x y) := by
  simp only [Fw42, Fw48, Option.bind_some, bne_self_eq_false, Bool.false_eq_true, if_false, decide_eq_true_eq, sg]
  split
  · rfl
  · split <;> rfl

theorem sub_dig {B : Int} {f : Nat → Int} {n m : Nat} (h : Dig B f n) (hm : m ≤ n) : Dig B f m := fun i hi => h i (by omega)

theorem cmp_spec {a b : Nat → Int} (ha : Dig B64 a 4) (hb : Dig B64 b 4) : Fw26 (a, b) = some (sg (val B64 a 4) (val B64 b 4)) := by
  simp only [Fw26]
  have st : ∀ n : Nat, n < 4 → sg (val B64 a (n + 1)) (val B64 b (n + 1)) = if a n < b n then -1 else if a n > b n then 1 else sg (val B64 a n) (val B64 b n) := fun n hn => sg_top (by decide) (sub_dig ha (by omega)) (sub_dig hb (by omega))
  have h : Ret (loopO stepw26_0 (3, a, b)) fun r => match r with | .inl z => z = sg (val B64 a 4) (val B64 b 4) | .inr (z1, z2) => z1 = a ∧ z2 = b ∧ sg (val B64 a 1) (val B64 b 1) = sg (val B64 a 4) (val B64 b 4) := by
    refine loopO_inv2 (fun j s => s = (3 - (j : Int), a, b) ∧ sg (val B64 a (4 - j)) (val B64 b (4 - j)) = sg (val B64 a 4) (val B64 b 4)) 3 ⟨rfl, rfl⟩ ?_
    rintro j _ hj ⟨rfl, hs⟩
    by_cases h3 : j = 3
    · subst h3
      exact .inr ⟨.inr (a, b), by simp only [stepw26_0]; simp (disch := omega) only [decide_eq_true_eq, if_neg], rfl, rfl, hs⟩
    have e1 : (3 - (j : Int)).toNat = 3 - j := by omega
    have hst := st (3 - j) (by omega)
    rw [show 3 - j + 1 = 4 - j by omega, hs] at hst
    by_cases he : a (3 - j) = b (3 - j)
    · left
      refine ⟨_, by omega, ?_, rfl, ?_⟩
      · simp only [stepw26_0]
        have : ¬ (a (3 - j) != b (3 - j)) = true := by simpa using he
        simp (disch := omega) only [decide_eq_true_eq, if_pos, e1]
        rw [if_neg this, wi64 (by omega) (by omega), show 3 - (j : Int) - 1 = 3 - ((j + 1 : Nat) : Int) by omega]
      · rw [he, if_neg (by omega), if_neg (by omega)] at hst
        rw [show 4 - (j + 1) = 3 - j by omega]; exact hst.symm
    · right
      refine ⟨.inl (sg (a (3 - j)) (b (3 - j))), ?_, ?_⟩
      · simp only [stepw26_0]
        have : (a (3 - j) != b (3 - j)) = true := by simpa using he
        simp (disch := omega) only [decide_eq_true_eq, if_pos, e1, this, compare_spec, Option.bind_some, if_true]
      · show sg _ _ = _
        rw [hst, sg]
        by_cases h1 : a (3 - j) < b (3 - j)
        · rw [if_pos h1, if_pos h1]
        · rw [if_neg h1, if_neg h1, if_pos (by omega), if_pos (by omega)]
  obtain ⟨r, hr, hq⟩ := h
  rw [hr]
  rcases r with z | ⟨z1, z2⟩
  · simp only [Option.bind_some]; rw [hq]
  · obtain ⟨rfl, rfl, hq⟩ := hq
    simp only [Option.bind_some, compare_spec]
    rw [← hq]
    simp [val]

theorem rcmp_spec {a b : Nat → Int} (ha : Dig B64 a 4) (hb : Dig B64 b 4) : Fw27 (a, b) = some (sg (val B64 a 4) (val B64 b 4)) := by
  simp only [Fw27]
  have st : ∀ n : Nat, n < 4 → sg (val B64 a (n + 1)) (val B64 b (n + 1)) = if a n < b n then -1 else if a n > b n then 1 else sg (val B64 a n) (val B64 b n) := fun n hn => sg_top (by decide) (sub_dig ha (by omega)) (sub_dig hb (by omega))
  have h : Ret (loopO stepw27_0 (3, a, b)) fun r => match r with | .inl z => z = sg (val B64 a 4) (val B64 b 4) | .inr _ => 0 = sg (val B64 a 4) (val B64 b 4) := by
    refine loopO_inv2 (fun j s => s = (3 - (j : Int), a, b) ∧ sg (val B64 a (4 - j)) (val B64 b (4 - j)) = sg (val B64 a 4) (val B64 b 4)) 4 ⟨rfl, rfl⟩ ?_
    rintro j _ hj ⟨rfl, hs⟩
    by_cases h3 : j = 4
    · subst h3
      exact .inr ⟨.inr (), by simp only [stepw27_0]; simp (disch := omega) only [decide_eq_true_eq, if_neg], hs⟩
    have e1 : (3 - (j : Int)).toNat = 3 - j := by omega
    have hst := st (3 - j) (by omega)
    rw [show 3 - j + 1 = 4 - j by omega, hs] at hst
    by_cases h1 : a (3 - j) < b (3 - j)
    · right
      refine ⟨.inl (-1), ?_, ?_⟩
      · simp only [stepw27_0]
        simp (disch := omega) only [decide_eq_true_eq, if_pos, e1]
      · rw [hst, if_pos h1]
    by_cases h2 : a (3 - j) > b (3 - j)
    · right
      refine ⟨.inl 1, ?_, ?_⟩
      · simp only [stepw27_0]
        simp (disch := omega) only [decide_eq_true_eq, if_pos, if_neg, e1]
      · rw [hst, if_neg h1, if_pos h2]
    · left
      refine ⟨_, by omega, ?_, rfl, ?_⟩
      · simp only [stepw27_0]
        simp (disch := omega) only [decide_eq_true_eq, if_pos, if_neg, e1]
        rw [wi64 (by omega) (by omega), show 3 - (j : Int) - 1 = 3 - ((j + 1 : Nat) : Int) by omega]
      · rw [show 4 - (j + 1) = 3 - j by omega, hst, if_neg h1, if_neg h2]
  obtain ⟨r, hr, hq⟩ := h
  rw [hr]
  cases r with
  | inl z => simp only [Option.bind_some]; rw [hq]
  | inr z => simp only [Option.bind_some]; rw [← hq]

/-! ### Bytes -/
/-- byte j of a number, from the lowest on -/
def by8 (x : Nat → Int) (j : Nat) : Int := x (j / 8) / 256 ^ (j % 8) % 256
theorem by8_dig (x : Nat → Int) (n : Nat) : Dig 256 (by8 x) n := fun i _ => ⟨Int.emod_nonneg _ (by decide), Int.emod_lt_of_pos _ (by decide)⟩

theorem val_append {B : Int} (f : Nat → Int) (m : Nat) : ∀ k, val B f (m + k) = val B f m + B ^ m * val B (fun i => f (m + i)) k
  | 0 => by simp [val]
  | k + 1 => by
    show val B f (m + k) + f (m + k) * B ^ (m + k) = val B f m + B ^ m * (val B (fun i => f (m + i)) k + f (m + k) * B ^ k)
    rw [val_append f m k, Int.mul_add, Int.pow_add, Int.add_assoc]
    congr 2
    rw [← Int.mul_assoc, ← Int.mul_assoc, Int.mul_comm (f (m + k))]

theorem val_div {B : Int} (hB : 0 < B) (x : Int) : ∀ n, val B (fun k => x / B ^ k % B) n = x % B ^ n
  | 0 => by simp [val, Int.emod_one]
  | n + 1 => by
    show val B (fun k => x / B ^ k % B) n + x / B ^ n % B * B ^ n = x % B ^ (n + 1)
    rw [val_div hB x n]
    have hp : 0 < B ^ n := Int.pow_pos hB
    have h1 := Int.emod_add_mul_ediv x (B ^ n)
    have h2 := Int.emod_add_mul_ediv (x / B ^ n) B
    have r1 := Int.emod_nonneg x (Int.ne_of_gt hp)
    have r2 := Int.emod_lt_of_pos x hp
    have r3 := Int.emod_nonneg (x / B ^ n) (Int.ne_of_gt hB)
    have r4 := Int.emod_lt_of_pos (x / B ^ n) hB
    generalize hr : x % B ^ n = r at *
    generalize hq : x / B ^ n = q at *
    generalize ht : q % B = t at *
    generalize hu : q / B = u at *
    have e : x = (r + t * B ^ n) + B ^ (n + 1) * u := by
      rw [← h1, ← h2, Int.pow_succ, Int.mul_add, Int.mul_comm (B ^ n) t, Int.mul_assoc, Int.add_assoc]
    have b1 : 0 ≤ t * B ^ n := Int.mul_nonneg r3 (Int.le_of_lt hp)
    have b2 : t * B ^ n ≤ (B - 1) * B ^ n := Int.mul_le_mul_of_nonneg_right (by omega) (Int.le_of_lt hp)
    have b3 : (B - 1) * B ^ n = B ^ (n + 1) - B ^ n := by rw [Int.sub_mul, Int.one_mul, Int.pow_succ, Int.mul_comm B]
    rw [e, Int.add_mul_emod_self_left, Int.emod_eq_of_lt (by omega) (by omega)]

theorem val_by8 {x : Nat → Int} : ∀ {n : Nat}, Dig B64 x n → val 256 (by8 x) (8 * n) = val B64 x n := by
  intro n
  induction n with
  | zero => intro _; rfl
  | succ n ih =>
    intro h
    have hx := h n (by omega)
    rw [show 8 * (n + 1) = 8 * n + 8 by omega, val_append, ih (fun i hi => h i (by omega))]
    have e : val 256 (fun i => by8 x (8 * n + i)) 8 = val 256 (fun k => x n / 256 ^ k % 256) 8 := val_congr fun k hk => by
      unfold by8; rw [show (8 * n + k) / 8 = n by omega, show (8 * n + k) % 8 = k by omega]
    rw [e, val_div (by decide), show (256 : Int) ^ 8 = B64 by decide, Int.emod_eq_of_lt hx.1 hx.2]
    have p : (B64 : Int) ^ n = 256 ^ (8 * n) := by rw [show B64 = 256 ^ 8 by decide, ← Int.pow_mul]
    show _ = val B64 x n + x n * B64 ^ n
    rw [p, Int.mul_comm]

/-- the first c bytes of word w, the highest first -/
def horn (b : Nat → Int) (w : Nat) : Nat → Int
  | 0 => 0
  | c + 1 => horn b w c * 256 + b (8 * (3 - w) + c)

theorem horn_bound {b : Nat → Int} {w : Nat} (hw : w < 4) (hb : Dig 256 b 32) : ∀ c, c ≤ 8 → 0 ≤ horn b w c ∧ horn b w c < 256 ^ c := by
  intro c
  induction c with
  | zero => intro _; simp [horn]
  | succ c ih =>
    intro hc
    obtain ⟨h1, h2⟩ := ih (by omega)
    have h3 := hb (8 * (3 - w) + c) (by omega)
    rw [Int.pow_succ]
    simp only [horn]; omega

theorem horn_back {x : Nat → Int} {b : Nat → Int} {w : Nat} (hw : w < 4) (hx : 0 ≤ x w ∧ x w < B64) (hb : ∀ i, i < 32 → b i = by8 x (31 - i)) : ∀ c, c ≤ 8 → horn b w c = x w / 256 ^ (8 - c) := by
  intro c
  induction c with
  | zero => intro _; simp only [horn]; rw [Int.ediv_eq_zero_of_lt hx.1 (by simpa using hx.2)]
  | succ c ih =>
    intro hc
    simp only [horn]
    rw [ih (by omega), hb _ (by omega)]
    unfold by8
    rw [show (31 - (8 * (3 - w) + c)) / 8 = w by omega, show (31 - (8 * (3 - w) + c)) % 8 = 8 - (c + 1) by omega]
    rw [show 8 - c = (8 - (c + 1)) + 1 by omega, Int.pow_succ, ← Int.ediv_ediv_of_nonneg (Int.le_of_lt (Int.pow_pos (by decide)))]
    omega

/-- what is joined lies apart -/
theorem or_add64 {x y : Int} (i : Nat) (h1 : 0 ≤ x) (h2 : x < 18446744073709551616) (h3 : 0 ≤ y) (h4 : y < 18446744073709551616) (hx : x % 2 ^ i = 0) (hy : y < 2 ^ i) : bitsOr .u64 x y = x + y := by
  rw [or64 h1 h2 h3 h4, nat_join i]
  · omega
  · have : ((x.toNat % 2 ^ i : Nat) : Int) = 0 := by
      rw [Int.natCast_emod, show ((x.toNat : Nat) : Int) = x by omega, show ((2 ^ i : Nat) : Int) = 2 ^ i by simp]; exact hx
    omega
  · have : ((y.toNat : Nat) : Int) < ((2 ^ i : Nat) : Int) := by
      rw [show ((y.toNat : Nat) : Int) = y by omega, show ((2 ^ i : Nat) : Int) = 2 ^ i by simp]; exact hy
    omega
theorem or_add64' {x y : Int} (i : Nat) (h1 : 0 ≤ x) (h2 : x < 18446744073709551616) (h3 : 0 ≤ y) (h4 : y < 18446744073709551616) (hx : y % 2 ^ i = 0) (hy : x < 2 ^ i) : bitsOr .u64 x y = x + y := by
  rw [or64 h1 h2 h3 h4, Nat.or_comm, ← or64 h3 h4 h1 h2, or_add64 i h3 h4 h1 h2 hx hy, Int.add_comm]

theorem of_spec {b : List Int} (hl : b.length = 32) (hb : ∀ i, 0 ≤ b.getD i 0 ∧ b.getD i 0 < 256) : Ret (Fw22 b) fun r => r.2 = 0 ∧ ∀ w, w < 4 → r.1 w = horn (fun i => b.getD i 0) w 8 := by
  have hd : Dig 256 (fun i => b.getD i 0) 32 := fun i _ => hb i
  have e : ¬ ((b.length : Int) != 32) = true := by rw [hl]; decide
  simp only [Fw22]
  rw [if_neg e]
  refine Ret.bind (Q := fun z => ∀ w, w < 4 → z.2 w = horn (fun i => b.getD i 0) w 8) ?_ ?_
  · refine loopO_inv (fun j s => ∃ f : Nat → Int, s = (b, 32, (j : Int), (fun _ => 0), f) ∧ ∀ w, w < 4 → f w = horn (fun i => b.getD i 0) w (min 8 (j - 8 * (3 - w))) * 256 ^ (8 - min 8 (j - 8 * (3 - w)))) 32 ?_ ?_ ?_
    · refine ⟨fun _ => 0, by rw [hl]; rfl, fun w hw => ?_⟩
      simp [horn]
    · rintro j _ hj ⟨f, rfl, hf⟩
      simp only [stepw22_0]
      have e1 : (31 - (j : Int)).tdiv 8 = (31 - (j : Int)) / 8 := tdivP (by omega)
      have e2 : (31 - (j : Int)).tmod 8 = (31 - (j : Int)) % 8 := tmodP (by omega)
      have e3 : ((31 - (j : Int)) / 8).toNat = 3 - j / 8 := by omega
      simp (disch := omega) only [decide_eq_true_eq, if_pos, wi64, e1, e2, e3, Int.toNat_natCast]
      have hbj := hb j
      have hc : j - 8 * (3 - (3 - j / 8)) = j % 8 := by omega
      have hfw := hf (3 - j / 8) (by omega)
      rw [hc, show min 8 (j % 8) = j % 8 by omega] at hfw
      obtain ⟨h1, h2⟩ := horn_bound (w := 3 - j / 8) (by omega) hd (j % 8) (by omega)
      have hp : (256 : Int) ^ (j % 8) * 256 ^ (8 - j % 8) = 18446744073709551616 := by rw [← Int.pow_add, show j % 8 + (8 - j % 8) = 8 by omega]; rfl
      have hpp : (0 : Int) < 256 ^ (8 - j % 8) := Int.pow_pos (by decide)
      have hf1 : 0 ≤ f (3 - j / 8) := by rw [hfw]; exact Int.mul_nonneg h1 (Int.le_of_lt hpp)
      have hf2 : f (3 - j / 8) < 18446744073709551616 := by
        rw [hfw, ← hp]; exact Int.mul_lt_mul_of_pos_right h2 hpp
      have hsh : shlI .u64 (IntKind.u64.wrap (b.getD j 0)) (8 * ((31 - (j : Int)) % 8)) = b.getD j 0 * 256 ^ (7 - j % 8) := by
        rw [wu64 (by omega) (by omega)]
        unfold shlI
        have hm : min (8 * ((31 - (j : Int)) % 8)).toNat IntKind.u64.bits = 8 * (7 - j % 8) := by have : IntKind.u64.bits = 64 := rfl; omega
        rw [hm, Int.pow_mul, show (2 : Int) ^ 8 = 256 from rfl]
        have h3 : b.getD j 0 * 256 ^ (7 - j % 8) < 256 * 256 ^ (7 - j % 8) := Int.mul_lt_mul_of_pos_right hbj.2 (Int.pow_pos (by decide))
        have h4 : (256 : Int) * 256 ^ (7 - j % 8) ≤ 18446744073709551616 := by
          rw [Int.mul_comm, ← Int.pow_succ, show (18446744073709551616 : Int) = 256 ^ 8 from rfl]
          exact ipow_le (by decide) (by omega)
        rw [wu64 (Int.mul_nonneg hbj.1 (Int.le_of_lt (Int.pow_pos (by decide)))) (by omega)]
      have hor : bitsOr .u64 (f (3 - j / 8)) (shlI .u64 (IntKind.u64.wrap (b.getD j 0)) (8 * ((31 - (j : Int)) % 8))) = horn (fun i => b.getD i 0) (3 - j / 8) (j % 8 + 1) * 256 ^ (7 - j % 8) := by
        rw [hsh]
        have hq : (256 : Int) ^ (8 - j % 8) = 256 ^ (7 - j % 8) * 256 := by rw [← Int.pow_succ]; congr 1; omega
        have h3 : b.getD j 0 * 256 ^ (7 - j % 8) < 256 * 256 ^ (7 - j % 8) := Int.mul_lt_mul_of_pos_right hbj.2 (Int.pow_pos (by decide))
        have h4 : (2 : Int) ^ (8 * (8 - j % 8)) = 256 ^ (8 - j % 8) := by rw [Int.pow_mul]; rfl
        have h5 : (256 : Int) * 256 ^ (7 - j % 8) ≤ 18446744073709551616 := by
          rw [Int.mul_comm, ← Int.pow_succ, show (18446744073709551616 : Int) = 256 ^ 8 from rfl]
          exact ipow_le (by decide) (by omega)
        rw [or_add64 (8 * (8 - j % 8)) hf1 hf2 (Int.mul_nonneg hbj.1 (Int.le_of_lt (Int.pow_pos (by decide)))) (by omega)]
        · rw [hfw, hq, horn]
          rw [show 8 * (3 - (3 - j / 8)) + j % 8 = j by omega, Int.add_mul, Int.mul_assoc, Int.mul_comm (256 ^ _) 256]
        · rw [h4, hfw]; exact Int.mul_emod_left _ _
        · rw [h4, hq, Int.mul_comm (256 ^ _) 256]; exact h3
      rw [hor]
      refine ⟨_, rfl, _, rfl, fun w hw => ?_⟩
      rw [upd_apply]
      by_cases hw3 : w = 3 - j / 8
      · rw [if_pos hw3]; subst hw3
        rw [show min 8 (j + 1 - 8 * (3 - (3 - j / 8))) = j % 8 + 1 by omega, show 8 - (j % 8 + 1) = 7 - j % 8 by omega]
      · rw [if_neg hw3, hf w hw, show min 8 (j + 1 - 8 * (3 - w)) = min 8 (j - 8 * (3 - w)) by omega]
    · rintro _ ⟨f, rfl, hf⟩
      refine ⟨(fun _ => 0, f), ?_, fun w hw => ?_⟩
      · simp only [stepw22_0]; simp (disch := omega) only [decide_eq_true_eq, if_neg]
      · show f w = _
        rw [hf w hw, show min 8 (32 - 8 * (3 - w)) = 8 by omega]; simp
  · rintro ⟨z1, z2⟩ h
    exact ⟨_, rfl, rfl, h⟩

theorem rof_spec {b : List Int} (hl : b.length = 32) (hb : ∀ i, 0 ≤ b.getD i 0 ∧ b.getD i 0 < 256) : Ret (Fw23 b) fun r => ∀ w, w < 4 → r w = horn (fun i => b.getD i 0) w 8 := by
  have hd : Dig 256 (fun i => b.getD i 0) 32 := fun i _ => hb i
  simp only [Fw23]
  refine Ret.bind (Q := fun z => ∀ w, w < 4 → z.2 w = horn (fun i => b.getD i 0) w 8) ?_ ?_
  · refine loopO_inv (fun j s => ∃ f : Nat → Int, s = (b, (j : Int), (fun _ => 0), f) ∧ ∀ w, w < 4 → f w = horn (fun i => b.getD i 0) w (min 8 (j - 8 * (3 - w)))) 32 ?_ ?_ ?_
    · refine ⟨fun _ => 0, rfl, fun w hw => ?_⟩
      simp [horn]
    · rintro j _ hj ⟨f, rfl, hf⟩
      simp only [stepw23_0]
      have e1 : (j : Int).tdiv 8 = (j : Int) / 8 := tdivP (by omega)
      have e3 : (3 - (j : Int) / 8).toNat = 3 - j / 8 := by omega
      simp (disch := omega) only [decide_eq_true_eq, if_pos, wi64, e1, e3, Int.toNat_natCast, hl]
      have hbj := hb j
      have hc : j - 8 * (3 - (3 - j / 8)) = j % 8 := by omega
      have hfw := hf (3 - j / 8) (by omega)
      rw [hc, show min 8 (j % 8) = j % 8 by omega] at hfw
      obtain ⟨h1, h2⟩ := horn_bound (w := 3 - j / 8) (by omega) hd (j % 8) (by omega)
      have hp : (256 : Int) ^ (j % 8) ≤ 72057594037927936 := by
        rw [show (72057594037927936 : Int) = 256 ^ 7 from rfl]; exact ipow_le (by decide) (by omega)
      refine ⟨_, rfl, _, rfl, fun w hw => ?_⟩
      rw [upd_apply]
      by_cases hw3 : w = 3 - j / 8
      · rw [if_pos hw3]; subst hw3
        rw [show min 8 (j + 1 - 8 * (3 - (3 - j / 8))) = j % 8 + 1 by omega, hfw, horn, show 8 * (3 - (3 - j / 8)) + j % 8 = j by omega]
        simp (disch := omega) only [wu64]
      · rw [if_neg hw3, hf w hw, show min 8 (j + 1 - 8 * (3 - w)) = min 8 (j - 8 * (3 - w)) by omega]
    · rintro _ ⟨f, rfl, hf⟩
      refine ⟨(fun _ => 0, f), ?_, fun w hw => ?_⟩
      · simp only [stepw23_0]; simp (disch := omega) only [decide_eq_true_eq, if_neg]
      · show f w = _
        rw [hf w hw, show min 8 (32 - 8 * (3 - w)) = 8 by omega]
  · rintro ⟨z1, z2⟩ h
    exact ⟨_, rfl, h⟩

theorem by8_of {x : Nat → Int} (hx : Dig B64 x 4) {i : Nat} (hi : i < 32) : by8 x (31 - i) = x ((31 - i) / 8) / 256 ^ ((31 - i) % 8) % 256 := rfl

theorem bytes_spec {x : Nat → Int} (hx : Dig B64 x 4) : Ret (Fw24 x) fun r => ∀ i, i < 32 → r i = by8 x (31 - i) := by
  simp only [Fw24]
  refine Ret.bind (Q := fun z => ∀ i, i < 32 → z.2 i = by8 x (31 - i)) ?_ ?_
  · refine loopO_inv (fun j s => ∃ f : Nat → Int, s = ((j : Int), x, (fun _ => 0), f) ∧ ∀ i, i < j → f i = by8 x (31 - i)) 32 ⟨_, rfl, fun i hi => by omega⟩ ?_ ?_
    · rintro j _ hj ⟨f, rfl, hf⟩
      simp only [stepw24_0]
      have e1 : (31 - (j : Int)).tdiv 8 = (31 - (j : Int)) / 8 := tdivP (by omega)
      have e2 : (31 - (j : Int)).tmod 8 = (31 - (j : Int)) % 8 := tmodP (by omega)
      have e3 : ((31 - (j : Int)) / 8).toNat = (31 - j) / 8 := by omega
      have hw := hx ((31 - j) / 8) (by omega)
      simp (disch := omega) only [decide_eq_true_eq, if_pos, wi64, e1, e2, e3, Int.toNat_natCast]
      refine ⟨_, rfl, _, rfl, fun i hi => ?_⟩
      rw [upd_apply]
      by_cases hc : i = j
      · rw [if_pos hc, hc, IntKind.wrap_u8', shrD (by omega) (by omega)]
        rw [show (8 * ((31 - (j : Int)) % 8)).toNat = 8 * ((31 - j) % 8) by omega, Int.pow_mul]
        rfl
      · rw [if_neg hc]; exact hf i (by omega)
    · rintro _ ⟨f, rfl, hf⟩
      refine ⟨(fun _ => 0, f), ?_, hf⟩
      simp only [stepw24_0]; simp (disch := omega) only [decide_eq_true_eq, if_neg]
  · rintro ⟨z1, z2⟩ h
    exact ⟨_, rfl, h⟩

theorem d16_by8 {x : Nat → Int} {i : Nat} : d16 x i % 256 = by8 x (2 * i) ∧ d16 x i / 256 % 256 = by8 x (2 * i + 1) := by
  unfold d16 by8
  rw [show 2 * i / 8 = i / 4 by omega, show (2 * i + 1) / 8 = i / 4 by omega, show 2 * i % 8 = 2 * (i % 4) by omega, show (2 * i + 1) % 8 = 2 * (i % 4) + 1 by omega]
  rw [Int.pow_succ, ← Int.ediv_ediv_of_nonneg (Int.le_of_lt (Int.pow_pos (by decide))), Int.pow_mul, show (256 : Int) ^ 2 = B16 by decide]
  generalize x (i / 4) / B16 ^ (i % 4) = q
  simp only [B16]
  omega

theorem rbytes_spec {x : Nat → Int} (hx : Dig B64 x 4) : Ret (Fw25 x) fun r => ∀ i, i < 32 → r i = by8 x (31 - i) := by
  simp only [Fw25, Fw38_eq hx, Option.bind_some]
  refine Ret.bind (Q := fun z => ∀ i, i < 32 → z.2 i = by8 x (31 - i)) ?_ ?_
  · refine loopO_inv (fun j s => ∃ f : Nat → Int, s = ((j : Int), (fun _ => 0), f, LL 16 (d16 x)) ∧ ∀ i, i < 32 → 32 - 2 * j ≤ i → f i = by8 x (31 - i)) 16 ⟨_, rfl, fun i hi h => by omega⟩ ?_ ?_
    · rintro j _ hj ⟨f, rfl, hf⟩
      simp only [stepw25_0, LL_length]
      have e3 : (31 - 2 * (j : Int)).toNat = 31 - 2 * j := by omega
      have e4 : (30 - 2 * (j : Int)).toNat = 30 - 2 * j := by omega
      have hd := d16_dig x 16 j hj
      simp only [B16] at hd
      obtain ⟨k1, k2⟩ := d16_by8 (x := x) (i := j)
      simp (disch := omega) only [decide_eq_true_eq, if_pos, wi64, e3, e4, Int.toNat_natCast, LL_getD, tdivP, tmodP, wu32, wu8]
      refine ⟨_, rfl, _, rfl, fun i hi h => ?_⟩
      rw [upd_apply, upd_apply]
      by_cases hc : i = 30 - 2 * j
      · rw [if_pos hc, hc, show 31 - (30 - 2 * j) = 2 * j + 1 by omega, ← k2]; omega
      · rw [if_neg hc]
        by_cases hc2 : i = 31 - 2 * j
        · rw [if_pos hc2, hc2, show 31 - (31 - 2 * j) = 2 * j by omega, ← k1]
        · rw [if_neg hc2]; exact hf i hi (by omega)
    · rintro _ ⟨f, rfl, hf⟩
      refine ⟨(fun _ => 0, f), ?_, fun i hi => hf i hi (by omega)⟩
      simp only [stepw25_0]; simp (disch := omega) only [decide_eq_true_eq, if_neg]
  · rintro ⟨z1, z2⟩ h
    exact ⟨_, rfl, h⟩

/-- the law's loop: order of bytes -/
theorem order_loop {y1 : Bool} {y8 : Int} {x y u v o : Nat → Int} (hx : Dig B64 x 4) (hy : Dig B64 y 4) (hu : ∀ i, i < 32 → u i = by8 x (31 - i)) (hv : ∀ i, i < 32 → v i = by8 y (31 - i)) :
    loopO stepw5_0 (y1, y8, 0, 31, x, y, u, v, o) = some (y1, y8, sg (val B64 x 4) (val B64 y 4), x, y, u, o) := by
  apply Ret.eq
  refine loopO_inv (fun j s => s = (y1, y8, sg (val 256 (by8 x) j) (val 256 (by8 y) j), 31 - (j : Int), x, y, u, v, o)) 32 rfl ?_ ?_
  · rintro j _ hj rfl
    simp only [stepw5_0]
    have e1 : (31 - (j : Int)).toNat = 31 - j := by omega
    have h1 := hu (31 - j) (by omega)
    have h2 := hv (31 - j) (by omega)
    rw [show 31 - (31 - j) = j by omega] at h1 h2
    simp (disch := omega) only [decide_eq_true_eq, if_pos, wi64, e1, h1, h2]
    rw [sg_top (by decide) (by8_dig x j) (by8_dig y j)]
    refine ⟨_, ?_, rfl⟩
    rw [show 31 - ((j + 1 : Nat) : Int) = 31 - (j : Int) - 1 by omega]
    by_cases c1 : by8 x j < by8 y j
    · simp (disch := omega) only [if_pos, if_neg]
    · by_cases c2 : by8 x j > by8 y j
      · simp (disch := omega) only [if_pos, if_neg]
      · simp (disch := omega) only [if_neg]
  · rintro _ rfl
    refine ⟨_, ?_, rfl⟩
    have hx8 := val_by8 hx
    have hy8 := val_by8 hy
    rw [show 8 * 4 = 32 from rfl] at hx8 hy8
    simp only [stepw5_0]
    simp (disch := omega) only [decide_eq_true_eq, if_neg]
    rw [hx8, hy8]

theorem bytes_true {b : List Int} {x y : Nat → Int} (hb : ∀ i, 0 ≤ b.getD i 0 ∧ b.getD i 0 < 256) (hx : Dig B64 x 4) (hy : Dig B64 y 4) : Fw5 (b, x, y) = some true := by
  obtain ⟨u, hu, ku⟩ := bytes_spec hx
  obtain ⟨v, hv, kv⟩ := bytes_spec hy
  obtain ⟨r, hr, kr⟩ := rbytes_spec hx
  have hL : ((List.range 32).map (fun j => u (0 + j))) = LL 32 u := by simp [LL]
  have hLd : ∀ i, 0 ≤ (LL 32 u).getD i 0 ∧ (LL 32 u).getD i 0 < 256 := by
    intro i
    rw [LL_getD]
    split
    · rw [ku i (by assumption)]; exact by8_dig x 32 (31 - i) (by omega)
    · omega
  obtain ⟨⟨o, oe⟩, ho, ho1, ho2⟩ := of_spec (b := LL 32 u) (by simp) hLd
  simp only at ho1 ho2
  subst ho1
  have ho3 : ∀ w, w < 4 → o w = x w := by
    intro w hw
    rw [ho2 w hw, horn_back hw (hx w hw) _ 8 (by omega)]
    · simp
    · intro i hi
      rw [LL_getD, if_pos hi]
      exact ku i hi
  have q1 : arrEq 32 u r = true := arrEq_true fun i hi => by rw [ku i hi, kr i hi]
  have q2 : arrEq 4 o x = true := arrEq_true ho3
  have hol := fun y1 => order_loop (y1 := y1) (y8 := 0) (o := o) hx hy ku kv
  by_cases hl : b.length = 32
  · obtain ⟨⟨z, ze⟩, hz, hz1, hz2⟩ := of_spec hl hb
    obtain ⟨z', hz', hz2'⟩ := rof_spec hl hb
    simp only at hz1 hz2
    subst hz1
    have q3 : arrEq 4 z z' = true := arrEq_true fun w hw => by rw [hz2 w hw, hz2' w hw]
    have c1 : ((b.length : Int) != 32) = false := by rw [hl]; rfl
    have c2 : ((b.length : Int) == 32) = true := by rw [hl]; rfl
    simp only [Fw5, awake_true, Option.bind_some, hz, hz', c1, c2, q3, hu, hv, hL, ho, hol, hr, q1, q2, cmp_spec hx hy, rcmp_spec hx hy, BEq.rfl, if_true, Bool.false_eq_true, if_false, bne_self_eq_false, Bool.not_true]
  · have hz : Fw22 b = some ((fun _ => 0), 41) := by
      simp only [Fw22]
      rw [if_pos (by simpa using (show ((b.length : Int) ≠ 32) by omega))]
    have c1 : ((b.length : Int) != 32) = true := by simpa using (show ((b.length : Int) ≠ 32) by omega)
    have c2 : ((b.length : Int) == 32) = false := by simpa using (show ((b.length : Int) ≠ 32) by omega)
    have q3 : arrEq 4 (fun _ => 0) (fun _ => 0) = true := arrEq_true fun _ _ => rfl
    simp only [Fw5, awake_true, Option.bind_some, hz, c1, c2, q3, hu, hv, hL, ho, hol, hr, q1, q2, cmp_spec hx hy, rcmp_spec hx hy, BEq.rfl, if_true, Bool.false_eq_true, if_false, bne_self_eq_false, Bool.not_true]
end Go.Abs
namespace Go.Abs
open Go.ChangeShapes Go.WideShapes
theorem bytes_in {b : List Int} (h : ∀ y ∈ b, (Lit.int .u8 y).wf = true) (i : Nat) : 0 ≤ b.getD i 0 ∧ b.getD i 0 < 256 := by
  rw [List.getD_eq_getElem?_getD]
  cases e : b[i]? with
  | none => simp
  | some y =>
    have := bounds_u8 (h y (List.mem_of_getElem? e))
    simp; omega
theorem bytes_law {x0 : List Int} {x1 x2 : Nat → Int} (h0 : ∀ y ∈ x0, (Lit.int .u8 y).wf = true) (g0 : x0.length * 1 ≤ 140737488351232) (h1 : ∀ i, i < 4 → (Lit.int .u64 (x1 i)).wf = true) (h2 : ∀ i, i < 4 → (Lit.int .u64 (x2 i)).wf = true) : Fw5 (x0, x1, x2) = some true :=
  bytes_true (bytes_in h0) (words_dig h1) (words_dig h2)
end Go.Abs
