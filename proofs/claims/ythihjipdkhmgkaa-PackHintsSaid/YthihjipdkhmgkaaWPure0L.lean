/- Numbers in digits; loops that count. -/
import Derived.Test.YthihjipdkhmgkaaAbsExecL
import Derived.Laws.BitsAllLaws
import Derived.Laws.BitsLemmas
set_option linter.unusedVariables false
set_option linter.unusedSimpArgs false
namespace Go.Abs
universe u

theorem loopO_run {σ τ : Type} {step : σ → Option (σ ⊕ τ)} (s : Nat → σ) : ∀ (n : Nat) (t : τ), (∀ i, i < n → step (s i) = some (.inl (s (i + 1)))) → step (s n) = some (.inr t) → loopO step (s 0) = some t := by
  intro n t h1 h2
  have key : ∀ k, k ≤ n → loopO step (s (n - k)) = some t := by
    intro k
    induction k with
    | zero => intro _; rw [loopO_eq, Nat.sub_zero, h2]
    | succ k ih =>
      intro hk
      rw [loopO_eq, h1 (n - (k + 1)) (by omega), show n - (k + 1) + 1 = n - k by omega]
      exact ih (by omega)
  simpa using key n (Nat.le_refl _)

/-- the number that these digits make -/
def val (B : Int) (f : Nat → Int) : Nat → Int
  | 0 => 0
  | n + 1 => val B f n + f n * B ^ n

theorem val_congr {B : Int} {f g : Nat → Int} {n : Nat} (h : ∀ i, i < n → f i = g i) : val B f n = val B g n := by
  induction n with
  | zero => rfl
  | succ n ih => simp only [val]; rw [ih (fun i hi => h i (by omega)), h n (by omega)]

def Dig (B : Int) (f : Nat → Int) (n : Nat) : Prop := ∀ i, i < n → 0 ≤ f i ∧ f i < B

theorem val_bound {B : Int} (hB : 0 < B) {f : Nat → Int} : ∀ {n : Nat}, Dig B f n → 0 ≤ val B f n ∧ val B f n < B ^ n := by
  intro n
  induction n with
  | zero => intro _; simp [val]
  | succ n ih =>
    intro h
    obtain ⟨h1, h2⟩ := ih (fun i hi => h i (by omega))
    obtain ⟨h3, h4⟩ := h n (by omega)
    have hp : 0 < B ^ n := Int.pow_pos hB
    have h5 : 0 ≤ f n * B ^ n := Int.mul_nonneg h3 (Int.le_of_lt hp)
    have h6 : f n * B ^ n ≤ (B - 1) * B ^ n := Int.mul_le_mul_of_nonneg_right (by omega) (Int.le_of_lt hp)
    have h7 : (B - 1) * B ^ n = B ^ (n + 1) - B ^ n := by rw [Int.sub_mul, Int.one_mul, Int.pow_succ, Int.mul_comm B]
    simp only [val]
    omega

/-- Digits are told by their number. -/
theorem val_inj {B : Int} (hB : 0 < B) {f g : Nat → Int} : ∀ {n : Nat}, Dig B f n → Dig B g n → val B f n = val B g n → ∀ i, i < n → f i = g i := by
  intro n
  induction n with
  | zero => intro _ _ _ i hi; omega
  | succ n ih =>
    intro hf hg h i hi
    have hf' : Dig B f n := fun i hi => hf i (by omega)
    have hg' : Dig B g n := fun i hi => hg i (by omega)
    obtain ⟨a1, a2⟩ := val_bound hB hf'
    obtain ⟨b1, b2⟩ := val_bound hB hg'
    have hp : 0 < B ^ n := Int.pow_pos hB
    simp only [val] at h
    have hn : f n = g n := by
      have e : (f n - g n) * B ^ n = val B g n - val B f n := by rw [Int.sub_mul]; omega
      rcases Int.lt_trichotomy (f n) (g n) with h' | h' | h'
      · have : (f n - g n) * B ^ n ≤ (-1) * B ^ n := Int.mul_le_mul_of_nonneg_right (by omega) (Int.le_of_lt hp)
        omega
      · exact h'
      · have : 1 * B ^ n ≤ (f n - g n) * B ^ n := Int.mul_le_mul_of_nonneg_right (by omega) (Int.le_of_lt hp)
        omega
    by_cases e : i = n
    · subst e; exact hn
    · exact ih hf' hg' (by rw [hn] at h; omega) i (by omega)

/-- carries of a sum -/
def carry (B : Int) (f g : Nat → Int) : Nat → Int
  | 0 => 0
  | n + 1 => (f n + g n + carry B f g n) / B
def sumD (B : Int) (f g : Nat → Int) (i : Nat) : Int := (f i + g i + carry B f g i) % B

theorem val_sum {B : Int} (f g : Nat → Int) : ∀ n, val B (sumD B f g) n + carry B f g n * B ^ n = val B f n + val B g n := by
  intro n
  induction n with
  | zero => simp [val, carry]
  | succ n ih =>
    simp only [val, carry, sumD]
    have h := Int.emod_add_mul_ediv (f n + g n + carry B f g n) B
    have e : (f n + g n + carry B f g n) % B * B ^ n + (f n + g n + carry B f g n) / B * B ^ (n + 1) = (f n + g n + carry B f g n) * B ^ n := by
      rw [Int.pow_succ, ← Int.mul_assoc, Int.mul_right_comm, ← Int.add_mul]
      rw [Int.mul_comm ((f n + g n + carry B f g n) / B) B, h]
    have e2 : (f n + g n + carry B f g n) * B ^ n = f n * B ^ n + g n * B ^ n + carry B f g n * B ^ n := by rw [Int.add_mul, Int.add_mul]
    omega

/-- borrows of a difference -/
def borrow (B : Int) (f g : Nat → Int) : Nat → Int
  | 0 => 0
  | n + 1 => if f n < g n + borrow B f g n then 1 else 0
def difD (B : Int) (f g : Nat → Int) (i : Nat) : Int := (f i - g i - borrow B f g i) % B

theorem borrow_01 (B : Int) (f g : Nat → Int) (n : Nat) : borrow B f g n = 0 ∨ borrow B f g n = 1 := by
  cases n with
  | zero => exact .inl rfl
  | succ n => simp only [borrow]; split <;> simp

theorem carry_01 {B : Int} (hB : 0 < B) {f g : Nat → Int} : ∀ n, (∀ i, i < n → (0 ≤ f i ∧ f i < B) ∧ 0 ≤ g i ∧ g i < B) → carry B f g n = 0 ∨ carry B f g n = 1 := by
  intro n
  induction n with
  | zero => intro _; exact .inl rfl
  | succ n ih =>
    intro h
    simp only [carry]
    have h1 := ih (fun i hi => h i (by omega))
    have h2 := h n (by omega)
    by_cases e : f n + g n + carry B f g n < B
    · left; exact Int.ediv_eq_zero_of_lt (by omega) e
    · right
      rw [show f n + g n + carry B f g n = (f n + g n + carry B f g n - B) + B * 1 by omega, Int.add_mul_ediv_left _ _ (by omega), Int.ediv_eq_zero_of_lt (by omega) (by omega)]; rfl

theorem val_dif {B : Int} (hB : 0 < B) (f g : Nat → Int) : ∀ n, (∀ i, i < n → (0 ≤ f i ∧ f i < B) ∧ 0 ≤ g i ∧ g i < B) → val B (difD B f g) n - borrow B f g n * B ^ n = val B f n - val B g n := by
  intro n
  induction n with
  | zero => intro _; simp [val, borrow]
  | succ n ih =>
    intro h
    have h1 := ih (fun i hi => h i (by omega))
    have h2 := h n (by omega)
    have h3 := borrow_01 B f g n
    have key : difD B f g n - borrow B f g (n + 1) * B = f n - g n - borrow B f g n := by
      simp only [difD, borrow]
      by_cases e : f n < g n + borrow B f g n
      · rw [if_pos e, Int.one_mul, ← Int.add_emod_right, Int.emod_eq_of_lt (by omega) (by omega)]; omega
      · rw [if_neg e, Int.emod_eq_of_lt (by omega) (by omega)]; omega
    have e2 : (difD B f g n - borrow B f g (n + 1) * B) * B ^ n = difD B f g n * B ^ n - borrow B f g (n + 1) * B ^ (n + 1) := by
      rw [Int.sub_mul, Int.pow_succ, Int.mul_assoc, Int.mul_comm B]
    rw [key] at e2
    have e3 : (f n - g n - borrow B f g n) * B ^ n = f n * B ^ n - g n * B ^ n - borrow B f g n * B ^ n := by rw [Int.sub_mul, Int.sub_mul]
    simp only [val]
    omega
end Go.Abs
