/- Products, quotients and rests by their value; WideProducts, the plain law. -/
import Derived.Test.YtamclijpaplnlaaWReduce
set_option linter.unusedVariables false
set_option linter.unusedSimpArgs false
namespace Go.Abs
open Go.ChangeShapes Go.WideShapes

theorem shr32 {x : Int} : shrI .u64 x 32 = x / 4294967296 := shrD (by omega) (by omega)
theorem and32 {x : Int} (h1 : 0 ≤ x) (h2 : x < 18446744073709551616) : bitsAnd .u64 x 4294967295 = x % 4294967296 := by
  rw [and64 h1 h2 (by omega) (by omega)]
  rw [show (4294967295 : Int).toNat = 2 ^ 32 - 1 from rfl, Nat.and_two_pow_sub_one_eq_mod]; omega

theorem mul_le {a b : Int} {m : Int} (h1 : 0 ≤ a) (h2 : a ≤ m) (h3 : 0 ≤ b) (h4 : b ≤ m) : 0 ≤ a * b ∧ a * b ≤ m * m :=
  ⟨Int.mul_nonneg h1 h3, Int.mul_le_mul h2 h4 h3 (Int.le_trans h1 h2)⟩

theorem mul64_spec {x y : Int} (hx : 0 ≤ x ∧ x < 18446744073709551616) (hy : 0 ≤ y ∧ y < 18446744073709551616) :
    Fw45 (x, y) = some (x * y / 18446744073709551616, x * y % 18446744073709551616) := by
  have e : x * y = x / 4294967296 * (y / 4294967296) * 18446744073709551616 + (x / 4294967296 * (y % 4294967296) + x % 4294967296 * (y / 4294967296)) * 4294967296 + x % 4294967296 * (y % 4294967296) := by
    have hx' := Int.mul_ediv_add_emod x 4294967296
    have hy' := Int.mul_ediv_add_emod y 4294967296
    generalize x / 4294967296 = a at *
    generalize x % 4294967296 = b at *
    generalize y / 4294967296 = c at *
    generalize y % 4294967296 = d at *
    rw [← hx', ← hy']
    rw [Int.add_mul, Int.mul_add, Int.mul_add]
    have k1 : 4294967296 * a * (4294967296 * c) = a * c * 18446744073709551616 := by
      rw [Int.mul_assoc, Int.mul_left_comm a, ← Int.mul_assoc, Int.mul_comm]; rfl
    have k2 : 4294967296 * a * d = a * d * 4294967296 := by rw [Int.mul_assoc, Int.mul_comm]
    have k3 : b * (4294967296 * c) = b * c * 4294967296 := by rw [Int.mul_left_comm, Int.mul_comm]
    rw [k1, k2, k3]; omega
  have p1 := mul_le (a := x / 4294967296) (b := y / 4294967296) (m := 4294967295) (by omega) (by omega) (by omega) (by omega)
  have p2 := mul_le (a := x / 4294967296) (b := y % 4294967296) (m := 4294967295) (by omega) (by omega) (by omega) (by omega)
  have p3 := mul_le (a := x % 4294967296) (b := y / 4294967296) (m := 4294967295) (by omega) (by omega) (by omega) (by omega)
  have p4 := mul_le (a := x % 4294967296) (b := y % 4294967296) (m := 4294967295) (by omega) (by omega) (by omega) (by omega)
  simp only [Fw45, shr32]
  rw [and32 hx.1 hx.2, and32 hy.1 hy.2, IntKind.wrap_u64 (x * y), e]
  generalize x / 4294967296 * (y / 4294967296) = A at *
  generalize x / 4294967296 * (y % 4294967296) = B at *
  generalize x % 4294967296 * (y / 4294967296) = C at *
  generalize x % 4294967296 * (y % 4294967296) = D at *
  clear e
  rw [wu64 (n := D) (by omega) (by omega), wu64 (n := B) (by omega) (by omega), wu64 (n := C) (by omega) (by omega), wu64 (n := A) (by omega) (by omega)]
  rw [wu64 (n := B + D / 4294967296) (by omega) (by omega), and32 (by omega) (by omega)]
  rw [wu64 (n := A + _) (by omega) (by omega), wu64 (n := (B + D / 4294967296) % 4294967296 + C) (by omega) (by omega), wu64 (by omega) (by omega)]
  congr 2
  omega

theorem val_upd {B : Int} {f : Nat → Int} {k : Nat} {v : Int} : ∀ {n : Nat}, k < n → val B (upd f k v) n = val B f n + (v - f k) * B ^ k
  | 0 => fun h => absurd h (Nat.not_lt_zero _)
  | n + 1 => fun h => by
    show val B (upd f k v) n + upd f k v n * B ^ n = val B f n + f n * B ^ n + (v - f k) * B ^ k
    by_cases e : n = k
    · subst e
      rw [upd_same, val_congr (g := f) fun i hi => upd_ne _ _ (by omega), Int.sub_mul]; omega
    · rw [upd_ne _ _ e, val_upd (by omega)]; omega

theorem B64_8 : (B64 : Int) ^ 8 = W256 * W256 := by decide

/-- one row of the product -/
theorem mul_inner {i : Nat} (hi : i < 4) {x : Int} (hx : 0 ≤ x ∧ x < B64) {a b z out : Nat → Int} {t : Int} (hb : Dig B64 b 4) (ho : Dig B64 out 8) :
    Ret (loopO stepw30_1 ((i : Int), x, 0, a, t, b, 0, b, z, out)) fun y => ∃ c f, y = ((i : Int), c, a, t, b, z, f) ∧ Dig B64 f 8 ∧ (0 ≤ c ∧ c < B64) ∧ (∀ k, i + 4 ≤ k → f k = out k) ∧
      val B64 f 8 + c * B64 ^ (i + 4) = val B64 out 8 + x * val B64 b 4 * B64 ^ i := by
  refine loopO_inv (fun j s => ∃ c f, s = ((i : Int), x, c, a, t, b, (j : Int), b, z, f) ∧ Dig B64 f 8 ∧ (0 ≤ c ∧ c < B64) ∧ (∀ k, i + j ≤ k → f k = out k) ∧
      val B64 f 8 + c * B64 ^ (i + j) = val B64 out 8 + x * val B64 b j * B64 ^ i) 4 ⟨0, out, rfl, ho, by decide, fun _ _ => rfl, by simp [val]⟩ ?_ ?_
  · rintro j _ hj ⟨c, f, rfl, hf, hc, hk, hv⟩
    have hbj := hb j hj
    have hfi := hf (i + j) (by omega)
    simp only [B64] at hx hbj hfi hc
    have hp := mul_le (a := x) (b := b j) (m := 18446744073709551615) hx.1 (by omega) hbj.1 (by omega)
    have e1 : ((i : Int) + (j : Int)).toNat = i + j := by omega
    have a1 : add64F (x * b j % 18446744073709551616, f (i + j), 0) = some ((x * b j % 18446744073709551616 + f (i + j) + 0) % B64, (x * b j % 18446744073709551616 + f (i + j) + 0) / B64) := add64F_eq (by omega) hfi.1 (.inl rfl)
    have a2 : add64F ((x * b j % 18446744073709551616 + f (i + j) + 0) % B64, c, 0) = some (((x * b j % 18446744073709551616 + f (i + j) + 0) % B64 + c + 0) % B64, ((x * b j % 18446744073709551616 + f (i + j) + 0) % B64 + c + 0) / B64) := add64F_eq (by simp only [B64]; omega) hc.1 (.inl rfl)
    refine ⟨((i : Int), x, (x * b j + f (i + j) + c) / B64, a, t, b, ((j + 1 : Nat) : Int), b, z, upd f (i + j) ((x * b j + f (i + j) + c) % B64)), ?_, _, _, rfl, ?_, ?_, ?_, ?_⟩
    · simp only [stepw30_1]
      simp (disch := omega) only [decide_eq_true_eq, if_pos, wi64, e1, Int.toNat_natCast, mul64_spec hx hbj, Option.bind_some, a1, a2]
      simp only [B64]
      generalize x * b j = P at *
      generalize f (i + j) = q at *
      have r1 : ((P % 18446744073709551616 + q + 0) % 18446744073709551616 + c + 0) % 18446744073709551616 = (P + q + c) % 18446744073709551616 := by omega
      have r2 : IntKind.u64.wrap (IntKind.u64.wrap (P / 18446744073709551616 + (P % 18446744073709551616 + q + 0) / 18446744073709551616) + ((P % 18446744073709551616 + q + 0) % 18446744073709551616 + c + 0) / 18446744073709551616) = (P + q + c) / 18446744073709551616 := by
        rw [wu64 (n := P / 18446744073709551616 + (P % 18446744073709551616 + q + 0) / 18446744073709551616) (by omega) (by omega), wu64 (by omega) (by omega)]; omega
      rw [r1, r2]; rfl
    · exact upd_dig hf (by simp only [B64]; omega)
    · simp only [B64]; omega
    · intro k h; rw [upd_ne _ _ (by omega)]; exact hk k (by omega)
    · rw [val_upd (by omega)]
      show _ = val B64 out 8 + x * (val B64 b j + b j * B64 ^ j) * B64 ^ i
      have hdm := Int.emod_add_mul_ediv (x * b j + f (i + j) + c) B64
      have e2 : x * (val B64 b j + b j * B64 ^ j) * B64 ^ i = x * val B64 b j * B64 ^ i + x * b j * B64 ^ (i + j) := by
        rw [Int.mul_add, Int.add_mul, ← Int.mul_assoc, Int.mul_assoc (x * b j), ← Int.pow_add, Nat.add_comm j i]
      rw [e2, ← Int.add_assoc, ← hv, show i + (j + 1) = i + j + 1 from rfl, Int.pow_succ]
      generalize B64 ^ (i + j) = q at *
      generalize (x * b j + f (i + j) + c) / B64 = u at *
      generalize (x * b j + f (i + j) + c) % B64 = v at *
      have e3 : u * (q * B64) = B64 * u * q := by rw [Int.mul_comm q, ← Int.mul_assoc, Int.mul_comm u]
      rw [e3, Int.add_assoc, ← Int.add_mul, show v - f (i + j) + B64 * u = x * b j + c by omega, Int.add_mul]; omega
  · rintro _ ⟨c, f, rfl, hf, hc, hk, hv⟩
    refine ⟨_, ?_, c, f, rfl, hf, hc, hk, hv⟩
    simp only [stepw30_1]; simp (disch := omega) only [decide_eq_true_eq, if_neg]

theorem mul_spec {a b : Nat → Int} (ha : Dig B64 a 4) (hb : Dig B64 b 4) : Ret (Fw30 (a, b)) fun y => Dig B64 y 8 ∧ val B64 y 8 = val B64 a 4 * val B64 b 4 := by
  simp only [Fw30]
  refine Ret.bind (Q := fun y => Dig B64 y.2 8 ∧ val B64 y.2 8 = val B64 a 4 * val B64 b 4) ?_ fun ⟨z1, z2⟩ h => ⟨_, rfl, h⟩
  refine loopO_inv (fun j s => ∃ f, s = (a, (j : Int), b, (fun _ => 0), f) ∧ Dig B64 f 8 ∧ (∀ k, j + 4 ≤ k → f k = 0) ∧ val B64 f 8 = val B64 a j * val B64 b 4) 4 ⟨_, rfl, zero_dig (by decide) _, fun _ _ => rfl, ?_⟩ ?_ ?_
  · rw [val_zero]; simp [val]
  · rintro j _ hj ⟨f, rfl, hf, hz, hv⟩
    obtain ⟨y, h1, c, g, rfl, hg, hc, hk, hgv⟩ := mul_inner (a := a) (z := fun _ => 0) (t := (j : Int)) hj (ha j hj) hb hf
    refine ⟨_, ?_, upd g (j + 4) c, rfl, upd_dig hg hc, ?_, ?_⟩
    · simp only [stepw30_0]
      simp (disch := omega) only [decide_eq_true_eq, if_pos, Int.toNat_natCast, h1, Option.bind_some, wi64]
      rw [show ((j : Int) + 4).toNat = j + 4 by omega]; rfl
    · intro k h; rw [upd_ne _ _ (by omega), hk k (by omega)]; exact hz k (by omega)
    · rw [val_upd (by omega), hk _ (by omega), hz _ (by omega), Int.sub_zero, hgv, hv]
      show _ = (val B64 a j + a j * B64 ^ j) * _
      rw [Int.add_mul, Int.mul_assoc, Int.mul_comm (val B64 b 4) (B64 ^ j), Int.mul_assoc]
  · rintro _ ⟨f, rfl, hf, hz, hv⟩
    refine ⟨((fun _ => 0), f), ?_, hf, hv⟩
    simp only [stepw30_0]; simp (disch := omega) only [decide_eq_true_eq, if_neg]
end Go.Abs
