/- The document's values. -/
import Derived.Test.YtancmhkdbckfeaaRParts
set_option linter.unusedVariables false
set_option linter.unusedSimpArgs false
namespace Go.Abs
open Go.ChangeShapes Go.WideShapes

/-! ### The document's values -/
def tn (j : Nat) : Nat → Nat
  | 0 => 0
  | i + 1 => 2 * tn j i + j / 2 ^ i % 2
theorem tn_lt (j : Nat) : ∀ i, tn j i < 2 ^ i
  | 0 => by simp [tn]
  | i + 1 => by
    have := tn_lt j i
    simp only [tn]
    rw [Nat.pow_succ]; omega
theorem tn_tab : ∀ m : Fin 256, tn m.val 8 = brv m.val := by decide +kernel

theorem turned_spec {j : Nat} (hj : j < 256) : Fr37 (j : Int) = some (brv j : Int) := by
  have hl : Ret (loopO stepr37_0 ((j : Int), 0, 0)) (· = (brv j : Int)) := by
    refine loopO_inv (fun i s => s = (((j / 2 ^ i : Nat) : Int), ((tn j i : Nat) : Int), (i : Int))) 8 (by simp [tn]) ?_ ?_
    · rintro i _ hi rfl
      refine ⟨_, ?_, rfl⟩
      have h1 := tn_lt j i
      have h2 : 2 ^ i ≤ 2 ^ 8 := Nat.pow_le_pow_right (by decide) (by omega)
      have h3 : j / 2 ^ i ≤ j := Nat.div_le_self _ _
      have e : j / 2 ^ (i + 1) = j / 2 ^ i / 2 := by rw [Nat.pow_succ, Nat.div_div_eq_div_mul]
      rw [e]
      simp only [tn]
      generalize j / 2 ^ i = t at *
      generalize tn j i = o at *
      rw [show (2 : Nat) ^ 8 = 256 from rfl] at h2
      simp only [stepr37_0]
      rw [if_pos (by rw [decide_eq_true_eq]; omega), tdivP (by omega), tmodP (by omega), wi64 (n := 2 * (o : Int)) (by omega) (by omega), wi64 (n := (i : Int) + 1) (by omega) (by omega), wi64 (n := (t : Int) / 2) (by omega) (by omega), wi64 (by omega) (by omega)]
      simp only [Option.some.injEq, Sum.inl.injEq, Prod.mk.injEq]
      omega
    · rintro _ rfl
      have ht := tn_tab ⟨j, hj⟩
      simp only at ht
      refine ⟨((tn j 8 : Nat) : Int), ?_, by rw [ht]⟩
      simp only [stepr37_0]
      rw [if_neg (by decide)]
  simp only [Fr37, hl.eq, Option.bind_some]

theorem power_spec {e : Nat} (he : e < 1024) : Fr36 (e : Int) = some (1753 ^ e % 8380417) := by
  have hl : Ret (loopO stepr36_0 (1, 1753, (e : Int))) fun y => MQ y (1753 ^ e) ∧ 0 ≤ y ∧ y < 8380417 := by
    refine loopO_inv2 (fun i s => ∃ x b : Int, ∃ n : Nat, s = (x, b, (n : Int)) ∧ n < 1024 / 2 ^ i ∧ MQ (x * b ^ n) (1753 ^ e) ∧ (0 ≤ x ∧ x < 8380417) ∧ 0 ≤ b ∧ b < 8380417) 11 ⟨1, 1753, e, rfl, by simpa using he, .of_eq (by rw [Int.one_mul]), by omega, by omega⟩ ?_
    rintro i _ hi ⟨x, b, n, rfl, hn, hm, hx, hb⟩
    by_cases h0 : n = 0
    · right
      subst h0
      refine ⟨x, ?_, ?_, hx⟩
      · simp only [stepr36_0]; rw [if_neg (by decide)]
      · rw [Int.pow_zero, Int.mul_one] at hm; exact hm
    · left
      have hi10 : i < 11 := by
        rcases Nat.lt_or_ge i 11 with h | h
        · exact h
        · rw [show i = 11 by omega] at hn; simp at hn
      have hbb := mul_31 (a := b) (b := b) (by unfold P31; omega) (by unfold P31; omega)
      have hxb := mul_31 (a := x) (b := b) (by unfold P31; omega) (by unfold P31; omega)
      have nb : 0 ≤ b * b := Int.mul_nonneg hb.1 hb.1
      have nx : 0 ≤ x * b := Int.mul_nonneg hx.1 hb.1
      have hn1024 : n < 1024 := Nat.lt_of_lt_of_le hn (Nat.div_le_self _ _)
      have hhalf : n / 2 < 1024 / 2 ^ (i + 1) := by
        rw [Nat.pow_succ, ← Nat.div_div_eq_div_mul]
        have : ∀ i : Fin 11, 1024 / 2 ^ i.val % 2 = 0 ∨ 1024 / 2 ^ i.val = 1 := by decide +kernel
        rcases this ⟨i, hi10⟩ with h | h <;> simp only at h <;> omega
      have hsq := (MQ.mod (b * b)).pow (n / 2)
      have hpow : (b * b) ^ (n / 2) = b ^ (2 * (n / 2)) := by rw [Int.pow_mul, Int.pow_succ, Int.pow_succ, Int.pow_zero, Int.one_mul]
      by_cases c : n % 2 = 1
      · refine ⟨_, hi10, ?_, x * b % 8380417, b * b % 8380417, n / 2, rfl, hhalf, ?_, mod_Pq _, mod_Pq _⟩
        · simp only [stepr36_0]
          rw [if_pos (by rw [decide_eq_true_eq]; omega), tmodP (x := (n : Int)) (by omega), if_pos (by rw [beq_iff_eq]; omega), wi64 (n := x * b) (by omega) (by omega), wi64 (n := b * b) (by omega) (by omega), tmodP nx, tmodP nb, tdivP (by omega), wi64 (by omega) (by omega)]
          rfl
        · refine (((MQ.mod (x * b)).mul hsq).trans (.of_eq ?_)).trans hm
          rw [hpow, Int.mul_assoc, ← Int.pow_succ']
          congr 2; omega
      · refine ⟨_, hi10, ?_, x, b * b % 8380417, n / 2, rfl, hhalf, ?_, hx, mod_Pq _⟩
        · simp only [stepr36_0]
          rw [if_pos (by rw [decide_eq_true_eq]; omega), tmodP (x := (n : Int)) (by omega), if_neg (by rw [beq_iff_eq]; omega), wi64 (n := b * b) (by omega) (by omega), tmodP nb, tdivP (by omega), wi64 (by omega) (by omega)]
          rfl
        · refine (((MQ.refl x).mul hsq).trans (.of_eq ?_)).trans hm
          rw [hpow]
          congr 2; omega
  obtain ⟨y, h1, h2, h3⟩ := hl
  simp only [Fr36, h1, Option.bind_some]
  rw [h2.trans (MQ.mod _).symm |>.eq h3 (mod_Pq _)]

theorem sm_shift (f : Nat → Int) : ∀ n, sm f (n + 1) = f 0 + sm (fun k => f (k + 1)) n
  | 0 => by simp [sm]
  | n + 1 => by show sm f (n + 1) + f (n + 1) = _; rw [sm_shift f n]; simp only [sm]; omega

theorem ev256 (p : Nat → Int) {j : Nat} (hj : j < 256) : ev 256 p j = sm (fun i => p i * xj j ^ i) 256 := by
  unfold ev
  rw [Nat.div_eq_of_lt hj]
  simp only [Nat.mul_zero, Nat.zero_add]

theorem horner_loop {p z1 z2 : Nat → Int} (hp : Pq p) {j : Nat} {x : Int} (hx : 0 ≤ x ∧ x < 8380417) : Ret (loopO stepr12_1 ((j : Int), x, 0, 255, p, z1, z2)) fun y => ∃ v, y = ((j : Int), v, p, z1, z2) ∧ MQ v (sm (fun i => p i * x ^ i) 256) ∧ 0 ≤ v ∧ v < 8380417 := by
  refine loopO_inv (fun i s => ∃ v, s = ((j : Int), x, v, 255 - (i : Int), p, z1, z2) ∧ MQ v (sm (fun k => p (256 - i + k) * x ^ k) i) ∧ 0 ≤ v ∧ v < 8380417) 256 ⟨0, rfl, .refl _, by omega, by omega⟩ ?_ ?_
  · rintro i _ hi ⟨v, rfl, hm, hv⟩
    have e1 : (255 - (i : Int)).toNat = 255 - i := by omega
    have hpi := hp (255 - i) (by omega)
    have hvx := mul_31 (a := v) (b := x) (by unfold P31; omega) (by unfold P31; omega)
    have nvx : 0 ≤ v * x := Int.mul_nonneg hv.1 hx.1
    refine ⟨_, ?_, (v * x + p (255 - i)) % 8380417, rfl, ?_, mod_Pq _⟩
    · simp only [stepr12_1]
      rw [if_pos (by rw [decide_eq_true_eq]; omega), if_pos (by omega), e1, wi64 (n := v * x) (by omega) (by omega), wi64 (n := p (255 - i)) (by omega) (by omega), wi64 (n := v * x + p (255 - i)) (by omega) (by omega), tmodP (by omega), wi64 (by omega) (by omega)]
      rw [show 255 - (i : Int) - 1 = 255 - ((i + 1 : Nat) : Int) by omega]
    · refine (MQ.mod _).trans ?_
      rw [sm_shift]
      refine ((hm.mul (.refl x)).add (.refl _)).trans (.of_eq ?_)
      rw [Int.pow_zero, Int.mul_one, show 256 - (i + 1) + 0 = 255 - i by omega, Int.mul_comm, ← sm_mul, Int.add_comm]
      congr 1
      apply sm_congr
      intro k hk
      rw [show 256 - (i + 1) + (k + 1) = 256 - i + k by omega, Int.pow_succ]
      grind
  · rintro _ ⟨v, rfl, hm, hv⟩
    refine ⟨_, ?_, v, rfl, ?_, hv⟩
    · simp only [stepr12_1]; rw [if_neg (by decide)]
    · refine hm.trans (.of_eq (sm_congr fun k hk => ?_))
      rw [show 256 - 256 + k = k by omega]

theorem rntt_spec {p : Nat → Int} (hp : Pq p) : Ret (Fr12 p) fun y => ∀ j, j < 256 → y j = fs 8 p j := by
  simp only [Fr12]
  refine Ret.bind (Q := fun y => ∀ j, j < 256 → y.2 j = fs 8 p j) ?_ fun ⟨z1, z2⟩ h => ⟨_, rfl, h⟩
  refine loopO_inv (fun i s => ∃ z : Nat → Int, s = ((i : Int), p, (fun _ => 0), z) ∧ ∀ j, j < i → z j = fs 8 p j) 256 ⟨_, rfl, fun j h => by omega⟩ ?_ ?_
  · rintro i _ hi ⟨z, rfl, hz⟩
    have hb := brv_lt i
    have he : IntKind.i64.wrap (IntKind.i64.wrap (2 * (brv i : Int)) + 1) = ((2 * brv i + 1 : Nat) : Int) := by
      rw [wi64 (n := 2 * (brv i : Int)) (by omega) (by omega), wi64 (by omega) (by omega)]; omega
    have hpw := power_spec (e := 2 * brv i + 1) (by omega)
    have hxm : MQ (1753 ^ (2 * brv i + 1) % 8380417) (xj i) := .mod _
    have hxr := mod_Pq ((1753 : Int) ^ (2 * brv i + 1))
    generalize (1753 : Int) ^ (2 * brv i + 1) % 8380417 = x at hpw hxm hxr
    obtain ⟨y, h1, v, rfl, h2, h3⟩ := horner_loop (z1 := fun _ => 0) (z2 := z) (j := i) hp hxr
    have hv : v = fs 8 p i := by
      refine mq_pq ?_ h3 (fs_Pq hp 8 i hi)
      refine h2.trans (MQ.trans ?_ (fs8_ev p hi).symm)
      rw [ev256 p hi]
      exact sm_mq fun k hk => (MQ.refl _).mul (hxm.pow k)
    refine ⟨_, ?_, upd z i (fs 8 p i), rfl, fun j hj => ?_⟩
    · simp only [stepr12_0]
      rw [if_pos (by rw [decide_eq_true_eq]; omega), turned_spec hi, Option.bind_some, he, hpw, Option.bind_some, h1, Option.bind_some]
      simp only []
      rw [if_pos (by omega), wi64 (by omega) (by omega), wi32 (by omega) (by omega), Int.toNat_natCast, hv]
      rfl
    · rw [upd_apply]
      by_cases c : j = i
      · rw [if_pos c, c]
      · rw [if_neg c]; exact hz j (by omega)
  · rintro _ ⟨z, rfl, hz⟩
    refine ⟨((fun _ => 0), z), ?_, hz⟩
    simp only [stepr12_0]; rw [if_neg (by simp)]

end Go.Abs
