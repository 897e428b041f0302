/- The program's transform and the document's, by stages and values. -/
import Derived.Test.YtancmhkdbckfeaaR8
import Derived.Test.YtancmhkdbckfeaaRMod
set_option linter.unusedVariables false
set_option linter.unusedSimpArgs false
namespace Go.Abs
open Go.ChangeShapes Go.WideShapes

theorem rmod_spec {x : Int} (h1 : -9223372036854775808 ≤ x) (h2 : x < 9223372036854775808) : Fr35 x = some (x % 8380417) := by
  simp only [Fr35, decide_eq_true_eq]
  have e : x.tmod 8380417 = if 0 ≤ x then x % 8380417 else -((-x) % 8380417) := by
    split
    · exact tmodP (by assumption)
    · rw [show x = -(-x) by omega, Int.neg_tmod, tmodP (x := -x) (by omega), Int.neg_neg]
  rw [e]
  by_cases c : 0 ≤ x
  · rw [if_pos c, if_neg (by omega), wi32 (by omega) (by omega)]
  · rw [if_neg c]
    by_cases c2 : -((-x) % 8380417) < 0
    · rw [if_pos c2, wi64 (by omega) (by omega), wi32 (by omega) (by omega)]; congr 1; omega
    · rw [if_neg c2, wi32 (by omega) (by omega)]; congr 1; omega
theorem rmod2_spec {x : Int} (h1 : -9223372036854775808 ≤ x) (h2 : x < 9223372036854775808) : Fr20 x = some (x % 8380417) := rmod_spec h1 h2

def P31 (x : Int) : Prop := -2147483648 ≤ x ∧ x ≤ 2147483648
theorem mul_31 {a b : Int} (ha : P31 a) (hb : P31 b) : -4611686018427387904 ≤ a * b ∧ a * b ≤ 4611686018427387904 := by
  have h : (a.natAbs * b.natAbs : Nat) ≤ 2147483648 * 2147483648 := Nat.mul_le_mul (by unfold P31 at ha; omega) (by unfold P31 at hb; omega)
  have h2 : (a * b).natAbs = a.natAbs * b.natAbs := Int.natAbs_mul a b
  omega

theorem times_spec {a b : Int} (ha : P31 a) (hb : P31 b) : Fr34 (a, b) = some (a * b % 8380417) := by
  have h := mul_31 ha hb
  have ha' := ha
  have hb' := hb
  unfold P31 at ha' hb'
  simp only [Fr34]
  rw [wi64 (n := a) (by omega) (by omega), wi64 (n := b) (by omega) (by omega), wi64 (by omega) (by omega), rmod_spec (by omega) (by omega)]
  rfl
theorem Pq.p31 {p : Nat → Int} (h : Pq p) {i : Nat} (hi : i < 256) : P31 (p i) := by have := h i hi; unfold P31; omega
theorem zm_lt (m : Nat) : 0 ≤ zm m ∧ zm m < 8380417 := mod_Pq _
theorem zm_31 (m : Nat) : P31 (zm m) := by have := zm_lt m; unfold P31; omega

theorem rev_tab : ∀ m : Fin 256, strAt rstr0 (m.val : Int) = (brv m.val : Int) := by decide +kernel
theorem rstr0_size : (rstr0.size : Int) = 256 := by decide +kernel

theorem powers_spec : Ret (Fr33 ()) fun z => ∀ k, k < 256 → z k = zm k := by
  simp only [Fr33]
  refine Ret.bind (Q := fun z => ∀ k, k < 256 → z.2 k = zm k) ?_ fun ⟨z1, z2⟩ h => ⟨_, rfl, h⟩
  refine loopO_inv (fun i s => ∃ z : Nat → Int, s = ((1753 : Int) ^ i % 8380417, (i : Int), (fun _ => 0), z) ∧ ∀ k, k < 256 → brv k < i → z k = zm k) 256 ⟨fun _ => 0, by rfl, fun k _ h => by omega⟩ ?_ ?_
  · rintro i _ hi ⟨z, rfl, hz⟩
    have h41 : Fr41 (IntKind.u8.wrap (i : Int)) = some (brv i : Int) := by
      rw [wu8 (by omega) (by omega)]
      simp only [Fr41, rstr0_size]
      rw [if_pos (by omega), rev_tab ⟨i, hi⟩]
    have hb := brv_lt i
    have hp : P31 ((1753 : Int) ^ i % 8380417) := by have := mod_Pq ((1753 : Int) ^ i); unfold P31; omega
    have e : (1753 : Int) ^ i % 8380417 * 1753 % 8380417 = 1753 ^ (i + 1) % 8380417 := by
      rw [Int.pow_succ]; exact (MQ.mod _).mul (.refl 1753)
    refine ⟨_, ?_, upd z (brv i) (1753 ^ i % 8380417), rfl, ?_⟩
    · rw [← e]
      generalize (1753 : Int) ^ i % 8380417 = T at hp ⊢
      clear e h41
      have h41 : Fr41 (IntKind.u8.wrap (i : Int)) = some (brv i : Int) := by
        rw [wu8 (by omega) (by omega)]
        simp only [Fr41, rstr0_size]
        rw [if_pos (by omega), rev_tab ⟨i, hi⟩]
      unfold stepr33_0
      simp only []
      rw [h41, Option.bind_some]
      rw [if_pos (by rw [decide_eq_true_eq]; omega), if_pos (by omega), times_spec hp (by unfold P31; omega), Option.bind_some, wi64 (by omega) (by omega), Int.toNat_natCast]
      rfl
    · intro k hk hlt
      rw [upd_apply]
      by_cases c : k = brv i
      · rw [if_pos c]; subst c; unfold zm; rw [brv_brv hi]
      · rw [if_neg c]
        refine hz k hk ?_
        by_cases c2 : brv k = i
        · exact absurd (by rw [← c2, brv_brv hk]) c
        · omega
  · rintro _ ⟨z, rfl, hz⟩
    refine ⟨((fun _ => 0), z), ?_, fun k hk => hz k hk (brv_lt k)⟩
    simp only [stepr33_0]; simp (disch := omega) only [decide_eq_true_eq, if_neg]

theorem modsub (x y : Int) : (x - y % 8380417) % 8380417 = (x - y) % 8380417 := (MQ.refl x).sub (.mod y)
theorem modadd (x y : Int) : (x + y % 8380417) % 8380417 = (x + y) % 8380417 := (MQ.refl x).add (.mod y)
theorem modmul (x y : Int) : (x * (y % 8380417)) % 8380417 = (x * y) % 8380417 := (MQ.refl x).mul (.mod y)

/-- one block of a stage there -/
theorem ntt_block {n K C : Nat} (hn : 0 < n) (hC : 2 * n * C = 256) (hK : K < C) (h128 : 128 / n = C) {a r zt z0 : Nat → Int} (ha : Pq a) (hz : ∀ k, k < 256 → zt k = zm k) (hr : ∀ j, j < 256 → r j = if j < 2 * n * K then fwd n a j else a j) :
    Ret (loopO stepr9_2 (((C + K : Nat) : Int), (n : Int), ((2 * n * K : Nat) : Int), ((2 * n * K : Nat) : Int), r, z0, zt)) fun y => ∃ r', y = (((C + K : Nat) : Int), (n : Int), ((2 * n * K : Nat) : Int), r', z0, zt) ∧ ∀ j, j < 256 → r' j = if j < 2 * n * (K + 1) then fwd n a j else a j := by
  have hs : 2 * n * K + 2 * n ≤ 256 := by
    have := Nat.mul_le_mul_left (2 * n) (show K + 1 ≤ C by omega)
    rw [hC, Nat.mul_add, Nat.mul_one] at this; exact this
  have hm : C + K < 256 := by
    have : C ≤ 2 * n * C := Nat.le_mul_of_pos_left C (by omega)
    have h2 : 2 * C ≤ 2 * n * C := Nat.mul_le_mul_right C (by omega)
    omega
  have hblk := fun i (hi : i < n) => blk (n := n) (K := K) hi
  rw [show 2 * n * (K + 1) = 2 * n * K + 2 * n by rw [Nat.mul_add, Nat.mul_one]]
  have flo : ∀ i, i < n → fwd n a (2 * n * K + i) = (a (2 * n * K + i) + zm (C + K) * a (2 * n * K + n + i)) % 8380417 := by
    intro i hi
    obtain ⟨h1, h2, _, _⟩ := hblk i hi
    unfold fwd
    rw [h1, h2, if_pos (by omega), h128, show 2 * n * K + i + n = 2 * n * K + n + i by omega]
  have fhi : ∀ i, i < n → fwd n a (2 * n * K + n + i) = (a (2 * n * K + i) - zm (C + K) * a (2 * n * K + n + i)) % 8380417 := by
    intro i hi
    obtain ⟨_, _, h3, h4⟩ := hblk i hi
    unfold fwd
    rw [h3, h4, if_neg (by omega), h128, show 2 * n * K + n + i - n = 2 * n * K + i by omega]
  generalize hS : 2 * n * K = S at *
  refine loopO_inv (fun i s => ∃ r, s = (((C + K : Nat) : Int), (n : Int), (S : Int), ((S + i : Nat) : Int), r, z0, zt) ∧ ∀ j, j < 256 → r j = if j < S + i ∨ (S + n ≤ j ∧ j < S + n + i) then fwd n a j else a j) n ⟨r, rfl, fun j hj => ?_⟩ ?_ ?_
  · rw [hr j hj]
    by_cases c : j < S
    · rw [if_pos c, if_pos (by omega)]
    · rw [if_neg c, if_neg (by omega)]
  · rintro i _ hi ⟨r, rfl, hr⟩
    have r1 := hr (S + i) (by omega)
    rw [if_neg (by omega)] at r1
    have r2 := hr (S + n + i) (by omega)
    rw [if_neg (by omega)] at r2
    have a1 := ha (S + i) (by omega)
    have a2 := ha (S + n + i) (by omega)
    have e1 : ((((S + i : Nat) : Int)) + (n : Int)).toNat = S + n + i := by omega
    have hq := mod_Pq (zm (C + K) * a (S + n + i))
    refine ⟨_, ?_, upd (upd r (S + n + i) (fwd n a (S + n + i))) (S + i) (fwd n a (S + i)), rfl, ?_⟩
    · simp only [stepr9_2]
      simp (disch := omega) only [decide_eq_true_eq, if_pos, wi64, Int.toNat_natCast, e1]
      rw [r1, r2, hz _ hm, times_spec (zm_31 _) (by unfold P31; omega), Option.bind_some, wi32 (by omega) (by omega), wi64 (by omega) (by omega), rmod_spec (by omega) (by omega), Option.bind_some]
      rw [upd_ne _ _ (by omega), r1, wi32 (by omega) (by omega), wi64 (n := a (S + i) + _) (by omega) (by omega), rmod_spec (by omega) (by omega), Option.bind_some, modsub, modadd, ← fhi i hi, ← flo i hi]
      simp only [Option.some.injEq, Sum.inl.injEq, Prod.mk.injEq, true_and, and_true]
      omega
    · intro j hj
      rw [upd_apply, upd_apply]
      by_cases c1 : j = S + i
      · rw [if_pos c1, if_pos (by omega), c1]
      · rw [if_neg c1]
        by_cases c2 : j = S + n + i
        · rw [if_pos c2, if_pos (by omega), c2]
        · rw [if_neg c2, hr j hj]
          by_cases c3 : j < S + i ∨ (S + n ≤ j ∧ j < S + n + i)
          · rw [if_pos c3, if_pos (by omega)]
          · rw [if_neg c3, if_neg (by omega)]
  · rintro _ ⟨r, rfl, hr⟩
    refine ⟨_, ?_, r, rfl, fun j hj => ?_⟩
    · simp only [stepr9_2]
      rw [wi64 (by omega) (by omega), if_neg (by simp)]
    · rw [hr j hj]
      by_cases c3 : j < S + n ∨ (S + n ≤ j ∧ j < S + n + n)
      · rw [if_pos c3, if_pos (by omega)]
      · rw [if_neg c3, if_neg (by omega)]

theorem ntt_stage {n C : Nat} (hn : 0 < n) (hC : 2 * n * C = 256) (h128 : 128 / n = C) {a zt z0 : Nat → Int} (ha : Pq a) (hz : ∀ k, k < 256 → zt k = zm k) :
    Ret (loopO stepr9_1 (((C - 1 : Nat) : Int), (n : Int), 0, a, z0, zt)) fun y => ∃ r, y = (((2 * C - 1 : Nat) : Int), (n : Int), r, z0, zt) ∧ ∀ j, j < 256 → r j = fwd n a j := by
  have hC0 : 0 < C := by
    rcases Nat.eq_zero_or_pos C with h | h
    · rw [h, Nat.mul_zero] at hC; omega
    · exact h
  have hC2 : 2 * C ≤ 2 * n * C := Nat.mul_le_mul_right C (by omega)
  have hn2 : 2 * n ≤ 2 * n * C := Nat.le_mul_of_pos_right _ hC0
  refine loopO_inv (fun K s => ∃ r, s = (((C - 1 + K : Nat) : Int), (n : Int), ((2 * n * K : Nat) : Int), r, z0, zt) ∧ ∀ j, j < 256 → r j = if j < 2 * n * K then fwd n a j else a j) C ⟨a, by simp, fun j hj => by simp⟩ ?_ ?_
  · rintro K _ hK ⟨r, rfl, hr⟩
    obtain ⟨y, h1, r', rfl, h2⟩ := ntt_block (z0 := z0) hn hC hK h128 ha hz hr
    have hs : 2 * n * K + 2 * n ≤ 256 := by
      have := Nat.mul_le_mul_left (2 * n) (show K + 1 ≤ C by omega)
      rw [hC, Nat.mul_add, Nat.mul_one] at this; exact this
    refine ⟨_, ?_, r', rfl, h2⟩
    rw [show 2 * n * (K + 1) = 2 * n * K + 2 * n by rw [Nat.mul_add, Nat.mul_one]]
    generalize 2 * n * K = S at *
    simp only [stepr9_1]
    rw [if_pos (by simp; omega), wi64 (by omega) (by omega), show ((C - 1 + K : Nat) : Int) + 1 = ((C + K : Nat) : Int) by omega, h1, Option.bind_some]
    simp (disch := omega) only [wi64]
    simp only [Option.some.injEq, Sum.inl.injEq, Prod.mk.injEq, true_and, and_true]
    omega
  · rintro _ ⟨r, rfl, hr⟩
    refine ⟨_, ?_, r, rfl, fun j hj => by rw [hr j hj, hC, if_pos hj]⟩
    simp only [stepr9_1]
    rw [hC, if_neg (by simp), show C - 1 + C = 2 * C - 1 by omega]

theorem widths : ∀ l : Fin 8, 128 / 2 ^ l.val = 2 ^ (7 - l.val) ∧ 128 / 2 ^ (7 - l.val) = 2 ^ l.val ∧ 2 * 2 ^ (7 - l.val) * 2 ^ l.val = 256 ∧ 0 < 2 ^ (7 - l.val) ∧ 2 * 2 ^ l.val = 2 ^ (l.val + 1) ∧ 128 / 2 ^ l.val / 2 = 128 / 2 ^ (l.val + 1) ∧ 256 / 2 ^ l.val = 2 * 2 ^ (7 - l.val) ∧ 2 * 2 ^ l.val * 2 ^ (7 - l.val) = 256 ∧ 128 / 2 ^ (7 - l.val) = 2 ^ l.val := by decide +kernel

theorem fs_Pq {a : Nat → Int} (ha : Pq a) : ∀ l, Pq (fs l a)
  | 0 => ha
  | l + 1 => fwd_Pq _ _
theorem bs_Pq {a : Nat → Int} (ha : Pq a) : ∀ l, Pq (bs l a)
  | 0 => ha
  | l + 1 => bwd_Pq _ _
theorem fwd_congr {l : Nat} (hl : l < 8) {a b : Nat → Int} (h : ∀ i, i < 256 → a i = b i) {j : Nat} (hj : j < 256) : fwd (2 ^ l) a j = fwd (2 ^ l) b j := by
  obtain ⟨p1, p2⟩ := place_lt hl hj
  unfold fwd
  by_cases e : j / 2 ^ l % 2 = 0
  · rw [if_pos e, if_pos e, h j hj, h _ (p1 e)]
  · rw [if_neg e, if_neg e, h j hj, h _ p2]
theorem bwd_congr {l : Nat} (hl : l < 8) {a b : Nat → Int} (h : ∀ i, i < 256 → a i = b i) {j : Nat} (hj : j < 256) : bwd (2 ^ l) a j = bwd (2 ^ l) b j := by
  obtain ⟨p1, p2⟩ := place_lt hl hj
  unfold bwd
  by_cases e : j / 2 ^ l % 2 = 0
  · rw [if_pos e, if_pos e, h j hj, h _ (p1 e)]
  · rw [if_neg e, if_neg e, h j hj, h _ p2]

theorem ntt_loop {a zt z0 : Nat → Int} (ha : Pq a) (hz : ∀ k, k < 256 → zt k = zm k) : Ret (loopO stepr9_0 (0, 128, a, z0, zt)) fun y => ∀ j, j < 256 → y.1 j = fs 8 a j := by
  refine loopO_inv (fun l s => ∃ r, s = (((2 ^ l - 1 : Nat) : Int), ((128 / 2 ^ l : Nat) : Int), r, z0, zt) ∧ ∀ j, j < 256 → r j = fs l a j) 8 ⟨a, rfl, fun j hj => rfl⟩ ?_ ?_
  · rintro l _ hl ⟨r, rfl, hr⟩
    obtain ⟨w1, w2, w3, w4, w5, w6, _⟩ := widths ⟨l, hl⟩
    simp only at w1 w2 w3 w4 w5 w6
    have hrq : Pq r := fun j hj => by rw [hr j hj]; exact fs_Pq ha l j hj
    obtain ⟨y, h1, r', rfl, h2⟩ := ntt_stage (z0 := z0) w4 w3 w2 hrq hz
    have hp : 2 ^ (7 - l) ≤ 2 ^ 7 := Nat.pow_le_pow_right (by decide) (by omega)
    refine ⟨_, ?_, r', rfl, fun j hj => ?_⟩
    · simp only [stepr9_0]
      rw [w1, if_pos (by rw [decide_eq_true_eq]; omega), h1, Option.bind_some]
      have hsh : shrI .i64 ((2 ^ (7 - l) : Nat) : Int) 1 = ((128 / 2 ^ (l + 1) : Nat) : Int) := by
        rw [← w6, w1]
        unfold shrI
        have hm : min (1 : Int).toNat IntKind.i64.bits = 1 := rfl
        rw [hm, Int.fdiv_eq_ediv_of_nonneg _ (by decide)]
        omega
      rw [hsh, w5]
    · rw [h2 j hj]
      exact fwd_congr (by omega) hr hj
  · rintro _ ⟨r, rfl, hr⟩
    refine ⟨(r, z0), ?_, hr⟩
    simp only [stepr9_0]
    rw [if_neg (by simp)]

/-! ### The way back -/
theorem back_block {n K C : Nat} (hn : 0 < n) (hC : 2 * n * C = 256) (hK : K < C) (h256 : 256 / n = 2 * C) {a r zt z0 : Nat → Int} (ha : Pq a) (hz : ∀ k, k < 256 → zt k = zm k) (hr : ∀ j, j < 256 → r j = if j < 2 * n * K then bwd n a j else a j) :
    Ret (loopO stepr10_2 (((2 * C - 1 - K : Nat) : Int), (n : Int), ((2 * n * K : Nat) : Int), ((2 * n * K : Nat) : Int), r, z0, zt)) fun y => ∃ r', y = (((2 * C - 1 - K : Nat) : Int), (n : Int), ((2 * n * K : Nat) : Int), r', z0, zt) ∧ ∀ j, j < 256 → r' j = if j < 2 * n * (K + 1) then bwd n a j else a j := by
  have hs : 2 * n * K + 2 * n ≤ 256 := by
    have := Nat.mul_le_mul_left (2 * n) (show K + 1 ≤ C by omega)
    rw [hC, Nat.mul_add, Nat.mul_one] at this; exact this
  have hm : 2 * C - 1 - K < 256 := by
    have h2 : 2 * C ≤ 2 * n * C := Nat.mul_le_mul_right C (by omega)
    omega
  have hblk := fun i (hi : i < n) => blk (n := n) (K := K) hi
  rw [show 2 * n * (K + 1) = 2 * n * K + 2 * n by rw [Nat.mul_add, Nat.mul_one]]
  have flo : ∀ i, i < n → bwd n a (2 * n * K + i) = (a (2 * n * K + i) + a (2 * n * K + n + i)) % 8380417 := by
    intro i hi
    obtain ⟨h1, h2, _, _⟩ := hblk i hi
    unfold bwd
    rw [h1, if_pos (by omega), show 2 * n * K + i + n = 2 * n * K + n + i by omega]
  have fhi : ∀ i, i < n → bwd n a (2 * n * K + n + i) = (-zm (2 * C - 1 - K) * (a (2 * n * K + i) - a (2 * n * K + n + i))) % 8380417 := by
    intro i hi
    obtain ⟨_, _, h3, h4⟩ := hblk i hi
    unfold bwd
    rw [h3, h4, if_neg (by omega), h256, show 2 * n * K + n + i - n = 2 * n * K + i by omega]
  generalize hS : 2 * n * K = S at *
  refine loopO_inv (fun i s => ∃ r, s = (((2 * C - 1 - K : Nat) : Int), (n : Int), (S : Int), ((S + i : Nat) : Int), r, z0, zt) ∧ ∀ j, j < 256 → r j = if j < S + i ∨ (S + n ≤ j ∧ j < S + n + i) then bwd n a j else a j) n ⟨r, rfl, fun j hj => ?_⟩ ?_ ?_
  · rw [hr j hj]
    by_cases c : j < S
    · rw [if_pos c, if_pos (by omega)]
    · rw [if_neg c, if_neg (by omega)]
  · rintro i _ hi ⟨r, rfl, hr⟩
    have r1 := hr (S + i) (by omega)
    rw [if_neg (by omega)] at r1
    have r2 := hr (S + n + i) (by omega)
    rw [if_neg (by omega)] at r2
    have a1 := ha (S + i) (by omega)
    have a2 := ha (S + n + i) (by omega)
    have hzl := zm_lt (2 * C - 1 - K)
    have e1 : ((((S + i : Nat) : Int)) + (n : Int)).toNat = S + n + i := by omega
    have hq := mod_Pq (a (S + i) - a (S + n + i))
    refine ⟨_, ?_, upd (upd r (S + i) (bwd n a (S + i))) (S + n + i) (bwd n a (S + n + i)), rfl, ?_⟩
    · simp only [stepr10_2]
      simp (disch := omega) only [decide_eq_true_eq, if_pos, wi64, Int.toNat_natCast, e1]
      rw [r1, r2, wi32 (n := a (S + i) + a (S + n + i)) (by omega) (by omega), wi64 (n := a (S + i) + a (S + n + i)) (by omega) (by omega), rmod_spec (by omega) (by omega), Option.bind_some]
      rw [upd_ne _ _ (by omega), r2, wi32 (n := a (S + i) - a (S + n + i)) (by omega) (by omega), wi64 (n := a (S + i) - a (S + n + i)) (by omega) (by omega), rmod_spec (by omega) (by omega), Option.bind_some]
      rw [hz _ hm, wi32 (by omega) (by omega), times_spec (by unfold P31; omega) (by unfold P31; omega), Option.bind_some]
      have e2 : (8380417 - zm (2 * C - 1 - K)) * ((a (S + i) - a (S + n + i)) % 8380417) % 8380417 = bwd n a (S + n + i) := by
        rw [fhi i hi]
        have h1 : MQ (8380417 - zm (2 * C - 1 - K)) (-zm (2 * C - 1 - K)) := by unfold MQ; omega
        exact h1.mul (.mod _)
      rw [e2, ← flo i hi]
      simp only [Option.some.injEq, Sum.inl.injEq, Prod.mk.injEq, true_and, and_true]
      omega
    · intro j hj
      rw [upd_apply, upd_apply]
      by_cases c1 : j = S + n + i
      · rw [if_pos c1, if_pos (by omega), c1]
      · rw [if_neg c1]
        by_cases c2 : j = S + i
        · rw [if_pos c2, if_pos (by omega), c2]
        · rw [if_neg c2, hr j hj]
          by_cases c3 : j < S + i ∨ (S + n ≤ j ∧ j < S + n + i)
          · rw [if_pos c3, if_pos (by omega)]
          · rw [if_neg c3, if_neg (by omega)]
  · rintro _ ⟨r, rfl, hr⟩
    refine ⟨_, ?_, r, rfl, fun j hj => ?_⟩
    · simp only [stepr10_2]
      rw [wi64 (by omega) (by omega), if_neg (by simp)]
    · rw [hr j hj]
      by_cases c3 : j < S + n ∨ (S + n ≤ j ∧ j < S + n + n)
      · rw [if_pos c3, if_pos (by omega)]
      · rw [if_neg c3, if_neg (by omega)]

theorem back_stage {n C : Nat} (hn : 0 < n) (hC : 2 * n * C = 256) (h256 : 256 / n = 2 * C) {a zt z0 : Nat → Int} (ha : Pq a) (hz : ∀ k, k < 256 → zt k = zm k) :
    Ret (loopO stepr10_1 (((2 * C : Nat) : Int), (n : Int), 0, a, z0, zt)) fun y => ∃ r, y = ((C : Int), (n : Int), r, z0, zt) ∧ ∀ j, j < 256 → r j = bwd n a j := by
  have hC0 : 0 < C := by
    rcases Nat.eq_zero_or_pos C with h | h
    · rw [h, Nat.mul_zero] at hC; omega
    · exact h
  have hC2 : 2 * C ≤ 2 * n * C := Nat.mul_le_mul_right C (by omega)
  have hn2 : 2 * n ≤ 2 * n * C := Nat.le_mul_of_pos_right _ hC0
  refine loopO_inv (fun K s => ∃ r, s = (((2 * C - K : Nat) : Int), (n : Int), ((2 * n * K : Nat) : Int), r, z0, zt) ∧ ∀ j, j < 256 → r j = if j < 2 * n * K then bwd n a j else a j) C ⟨a, by simp, fun j hj => by simp⟩ ?_ ?_
  · rintro K _ hK ⟨r, rfl, hr⟩
    obtain ⟨y, h1, r', rfl, h2⟩ := back_block (z0 := z0) hn hC hK h256 ha hz hr
    have hs : 2 * n * K + 2 * n ≤ 256 := by
      have := Nat.mul_le_mul_left (2 * n) (show K + 1 ≤ C by omega)
      rw [hC, Nat.mul_add, Nat.mul_one] at this; exact this
    refine ⟨_, ?_, r', rfl, h2⟩
    rw [show 2 * n * (K + 1) = 2 * n * K + 2 * n by rw [Nat.mul_add, Nat.mul_one]]
    generalize 2 * n * K = S at *
    simp only [stepr10_1]
    rw [if_pos (by simp; omega), wi64 (by omega) (by omega), show ((2 * C - K : Nat) : Int) - 1 = ((2 * C - 1 - K : Nat) : Int) by omega, h1, Option.bind_some]
    simp (disch := omega) only [wi64]
    simp only [Option.some.injEq, Sum.inl.injEq, Prod.mk.injEq, true_and, and_true]
    omega
  · rintro _ ⟨r, rfl, hr⟩
    refine ⟨_, ?_, r, rfl, fun j hj => by rw [hr j hj, hC, if_pos hj]⟩
    simp only [stepr10_1]
    rw [hC, if_neg (by simp), show 2 * C - C = C by omega]

theorem back_loop {a zt z0 : Nat → Int} (ha : Pq a) (hz : ∀ k, k < 256 → zt k = zm k) : Ret (loopO stepr10_0 (256, 1, a, z0, zt)) fun y => ∀ j, j < 256 → y.1 j = bs 8 a j := by
  refine loopO_inv (fun l s => ∃ r, s = (((256 / 2 ^ l : Nat) : Int), ((2 ^ l : Nat) : Int), r, z0, zt) ∧ ∀ j, j < 256 → r j = bs l a j) 8 ⟨a, rfl, fun j hj => rfl⟩ ?_ ?_
  · rintro l _ hl ⟨r, rfl, hr⟩
    obtain ⟨w1, w2, w3, w4, w5, w6, w7, w8, w9⟩ := widths ⟨l, hl⟩
    simp only at w1 w2 w3 w4 w5 w6 w7 w8 w9
    have hrq : Pq r := fun j hj => by rw [hr j hj]; exact bs_Pq ha l j hj
    have hn : 0 < 2 ^ l := Nat.pow_pos (by decide)
    obtain ⟨y, h1, r', rfl, h2⟩ := back_stage (z0 := z0) hn w8 w7 hrq hz
    have hp : 2 ^ l ≤ 2 ^ 7 := Nat.pow_le_pow_right (by decide) (by omega)
    refine ⟨_, ?_, r', rfl, fun j hj => ?_⟩
    · simp only [stepr10_0]
      rw [w7, if_pos (by rw [decide_eq_true_eq]; omega), h1, Option.bind_some]
      have hsh : shlI .i64 ((2 ^ l : Nat) : Int) 1 = ((2 ^ (l + 1) : Nat) : Int) := by
        rw [← w5]
        unfold shlI
        have hm : min (1 : Int).toNat IntKind.i64.bits = 1 := rfl
        rw [hm, show (2 : Int) ^ 1 = 2 from rfl, wi64 (by omega) (by omega)]
        omega
      rw [hsh]
      have hdiv : 256 / 2 ^ (l + 1) = 2 ^ (7 - l) := by rw [← w5, Nat.mul_comm, ← Nat.div_div_eq_div_mul, w7]; omega
      rw [hdiv]
    · rw [h2 j hj]
      exact bwd_congr (by omega) hr hj
  · rintro _ ⟨r, rfl, hr⟩
    refine ⟨(r, z0), ?_, hr⟩
    simp only [stepr10_0]
    rw [if_neg (by simp)]

theorem last_loop {a z0 : Nat → Int} (ha : Pq a) : Ret (loopO stepr10_3 (a, 0, a, z0)) fun y => ∀ j, j < 256 → y.1 j = a j * 8347681 % 8380417 := by
  refine loopO_inv (fun i s => ∃ r, s = (a, (i : Int), r, z0) ∧ ∀ j, j < 256 → r j = if j < i then a j * 8347681 % 8380417 else a j) 256 ⟨a, rfl, fun j hj => by simp⟩ ?_ ?_
  · rintro i _ hi ⟨r, rfl, hr⟩
    refine ⟨_, ?_, upd r i (a i * 8347681 % 8380417), rfl, fun j hj => ?_⟩
    · simp only [stepr10_3]
      simp (disch := omega) only [decide_eq_true_eq, if_pos, wi64, Int.toNat_natCast]
      rw [times_spec (ha.p31 hi) (by unfold P31; omega), Option.bind_some]
      rfl
    · rw [upd_apply]
      by_cases c : j = i
      · rw [if_pos c, if_pos (by omega), c]
      · rw [if_neg c, hr j hj]
        by_cases c2 : j < i
        · rw [if_pos c2, if_pos (by omega)]
        · rw [if_neg c2, if_neg (by omega)]
  · rintro _ ⟨r, rfl, hr⟩
    refine ⟨(r, z0), ?_, fun j hj => by show r j = _; rw [hr j hj, if_pos hj]⟩
    simp only [stepr10_3]
    rw [if_neg (by simp)]
end Go.Abs
