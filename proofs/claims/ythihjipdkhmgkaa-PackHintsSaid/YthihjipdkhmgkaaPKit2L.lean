/- More tools for the plain laws: lists as functions, numbers made of bits. -/
import Derived.Test.YthihjipdkhmgkaaPKitL
import Derived.OpenShut
set_option linter.unusedVariables false
set_option linter.unusedSimpArgs false
namespace Go.Abs
open Go.ChangeShapes Go.WideShapes

def LL (n : Nat) (f : Nat → Int) : List Int := (List.range n).map f
@[simp] theorem LL_length (n : Nat) (f : Nat → Int) : (LL n f).length = n := by simp [LL]
theorem LL_getD (n : Nat) (f : Nat → Int) (i : Nat) : (LL n f).getD i 0 = if i < n then f i else 0 := by
  simp only [LL, List.getD_eq_getElem?_getD, List.getElem?_map]
  by_cases h : i < n
  · rw [if_pos h, List.getElem?_range h]; rfl
  · rw [if_neg h, List.getElem?_eq_none (by simp; omega)]; rfl
theorem LL_get? (n : Nat) (f : Nat → Int) (i : Nat) : (LL n f)[i]? = if i < n then some (f i) else none := by
  simp only [LL, List.getElem?_map]
  by_cases h : i < n
  · rw [if_pos h, List.getElem?_range h]; rfl
  · rw [if_neg h, List.getElem?_eq_none (by simp; omega)]; rfl
theorem LL_congr {n : Nat} {f g : Nat → Int} (h : ∀ i, i < n → f i = g i) : LL n f = LL n g := by
  apply List.map_congr_left
  intro i hi
  exact h i (by simpa using hi)
theorem LL_upd (n : Nat) (f : Nat → Int) (i : Nat) (v : Int) : (LL n f).set i v = LL n (upd f i v) := by
  apply List.ext_getElem?
  intro k
  rw [List.getElem?_set, LL_get?, LL_get?, LL_length, upd_apply]
  by_cases hk : i = k
  · subst hk; simp
  · have hk2 : ¬ k = i := fun h => hk h.symm
    simp [hk, hk2, LL_get?]
theorem LL_zero (n : Nat) : List.replicate n (0 : Int) = LL n (fun _ => 0) := by
  apply List.ext_getElem?
  intro i
  rw [LL_get?, List.getElem?_replicate]
theorem LL_snoc (n : Nat) (f : Nat → Int) : LL n f ++ [f n] = LL (n + 1) f := by simp [LL, List.range_succ]
theorem LL_of (xs : List Int) : LL xs.length (fun i => xs.getD i 0) = xs := by
  apply List.ext_getElem?
  intro i
  rw [LL_get?]
  by_cases h : i < xs.length
  · rw [if_pos h, List.getElem?_eq_getElem h]; simp [List.getD_eq_getElem?_getD, h]
  · rw [if_neg h, List.getElem?_eq_none (by omega)]

/-- the number that these bits make -/
def nat2 (p : Nat → Bool) : Nat → Nat
  | 0 => 0
  | n + 1 => nat2 p n + (if p n = true then 2 ^ n else 0)

theorem nat2_lt (p : Nat → Bool) : ∀ n, nat2 p n < 2 ^ n
  | 0 => by simp [nat2]
  | n + 1 => by
    have := nat2_lt p n
    simp only [nat2]
    rw [Nat.pow_succ]
    split <;> omega
theorem nat2_bit (p : Nat → Bool) : ∀ n k, (nat2 p n).testBit k = (decide (k < n) && p k)
  | 0, k => by simp [nat2]
  | n + 1, k => by
    have h1 := nat2_lt p n
    simp only [nat2]
    have e : nat2 p n + (if p n = true then 2 ^ n else 0) = 2 ^ n * (if p n = true then 1 else 0) + nat2 p n := by split <;> simp; omega
    rw [e, Nat.testBit_two_pow_mul_add _ h1, nat2_bit p n k]
    by_cases c : k < n
    · rw [if_pos c]; simp [c]; intro _; omega
    · rw [if_neg c]
      by_cases c2 : k = n
      · subst c2; simp; cases p k <;> simp
      · have : ¬ k < n + 1 := by omega
        simp only [this, decide_false, Bool.false_and]
        split
        · apply Nat.testBit_lt_two_pow
          exact Nat.one_lt_two_pow (by omega)
        · simp
theorem nat2_congr {p q : Nat → Bool} {n : Nat} (h : ∀ k, k < n → p k = q k) : nat2 p n = nat2 q n := by
  induction n with
  | zero => rfl
  | succ n ih => simp only [nat2]; rw [ih fun k hk => h k (by omega), h n (by omega)]
theorem nat2_self {x n : Nat} (h : x < 2 ^ n) : nat2 x.testBit n = x := by
  apply Nat.eq_of_testBit_eq
  intro k
  rw [nat2_bit]
  by_cases c : k < n
  · simp [c]
  · simp only [c, decide_false, Bool.false_and]
    exact (Nat.testBit_lt_two_pow (Nat.lt_of_lt_of_le h (Nat.pow_le_pow_right (by decide) (by omega)))).symm
theorem nat2_eq {x n : Nat} {p : Nat → Bool} (h : ∀ k, x.testBit k = (decide (k < n) && p k)) : x = nat2 p n :=
  Nat.eq_of_testBit_eq fun k => by rw [h k, nat2_bit]

theorem tb_mod (n i : Nat) : n / 2 ^ i % 2 = if n.testBit i = true then 1 else 0 := by
  rw [Nat.testBit_eq_decide_div_mod_eq]
  by_cases h : n / 2 ^ i % 2 = 1
  · simp [h]
  · simp [h]; omega

theorem ints_in {k : IntKind} {b : List Int} {lo hi : Int} (h0 : lo ≤ 0 ∧ 0 < hi) (hk : ∀ y, (Lit.int k y).wf = true → lo ≤ y ∧ y < hi) (h : ∀ y ∈ b, (Lit.int k y).wf = true) (i : Nat) : lo ≤ b.getD i 0 ∧ b.getD i 0 < hi := by
  rw [List.getD_eq_getElem?_getD]
  cases e : b[i]? with
  | none => exact h0
  | some y => exact hk y (h y (List.mem_of_getElem? e))
theorem bytes_in {b : List Int} (h : ∀ y ∈ b, (Lit.int .u8 y).wf = true) (i : Nat) : 0 ≤ b.getD i 0 ∧ b.getD i 0 < 256 :=
  ints_in (by omega) (fun y hy => by have := bounds_u8 hy; omega) h i
end Go.Abs
