/- Tools for the plain laws: answers that are there, loops by an invariant, numbers that fit, bits of words. -/
import Derived.Test.YthihjipdkhmgkaaWPure0L
set_option linter.unusedVariables false
set_option linter.unusedSimpArgs false
namespace Go.Abs
universe u v

/-- It answers, and the answer is so. -/
def Ret {α : Type u} (o : Option α) (Q : α → Prop) : Prop := ∃ y, o = some y ∧ Q y

theorem Ret.some {α : Type u} {y : α} {Q : α → Prop} (h : Q y) : Ret (Option.some y) Q := ⟨y, rfl, h⟩
theorem Ret.bind {α : Type u} {β : Type v} {o : Option α} {f : α → Option β} {Q : α → Prop} {R : β → Prop} (h : Ret o Q) (k : ∀ y, Q y → Ret (f y) R) : Ret (o.bind f) R := by
  obtain ⟨y, rfl, hy⟩ := h; exact k y hy
theorem Ret.mono {α : Type u} {o : Option α} {Q R : α → Prop} (h : Ret o Q) (k : ∀ y, Q y → R y) : Ret o R := by
  obtain ⟨y, rfl, hy⟩ := h; exact ⟨y, rfl, k y hy⟩
theorem Ret.eq {α : Type u} {o : Option α} {y : α} (h : Ret o (· = y)) : o = Option.some y := by
  obtain ⟨_, rfl, rfl⟩ := h; rfl
theorem Ret.of_eq {α : Type u} {o : Option α} {y : α} (h : o = Option.some y) : Ret o (· = y) := ⟨y, h, rfl⟩

/-- A loop by its invariant, in n rounds. -/
theorem loopO_inv {σ τ : Type} {step : σ → Option (σ ⊕ τ)} (I : Nat → σ → Prop) (n : Nat) {Q : τ → Prop} {s0 : σ} (h0 : I 0 s0)
    (hs : ∀ i s, i < n → I i s → ∃ s', step s = some (.inl s') ∧ I (i + 1) s') (hn : ∀ s, I n s → ∃ t, step s = some (.inr t) ∧ Q t) : Ret (loopO step s0) Q := by
  have key : ∀ k, k ≤ n → ∀ s, I (n - k) s → Ret (loopO step s) Q := by
    intro k
    induction k with
    | zero =>
      intro _ s h
      rw [Nat.sub_zero] at h
      obtain ⟨t, h1, h2⟩ := hn s h
      exact ⟨t, by rw [loopO_eq, h1], h2⟩
    | succ k ih =>
      intro hk s h
      obtain ⟨s', h1, h2⟩ := hs _ s (by omega) h
      rw [show n - (k + 1) + 1 = n - k by omega] at h2
      obtain ⟨t, h3, h4⟩ := ih (by omega) s' h2
      exact ⟨t, by rw [loopO_eq, h1]; exact h3, h4⟩
  exact key n (Nat.le_refl _) s0 (by rw [Nat.sub_self]; exact h0)

/-- A loop by its invariant; in each round it goes on or ends. -/
theorem loopO_inv2 {σ τ : Type} {step : σ → Option (σ ⊕ τ)} (I : Nat → σ → Prop) (n : Nat) {Q : τ → Prop} {s0 : σ} (h0 : I 0 s0)
    (hs : ∀ i s, i ≤ n → I i s → (∃ s', i < n ∧ step s = some (.inl s') ∧ I (i + 1) s') ∨ ∃ t, step s = some (.inr t) ∧ Q t) : Ret (loopO step s0) Q := by
  have key : ∀ k, k ≤ n → ∀ s, I (n - k) s → Ret (loopO step s) Q := by
    intro k
    induction k with
    | zero =>
      intro _ s h
      rw [Nat.sub_zero] at h
      rcases hs n s (Nat.le_refl _) h with ⟨s', h1, _⟩ | ⟨t, h1, h2⟩
      · omega
      · exact ⟨t, by rw [loopO_eq, h1], h2⟩
    | succ k ih =>
      intro hk s h
      rcases hs _ s (by omega) h with ⟨s', _, h1, h2⟩ | ⟨t, h1, h2⟩
      · rw [show n - (k + 1) + 1 = n - k by omega] at h2
        obtain ⟨t, h3, h4⟩ := ih (by omega) s' h2
        exact ⟨t, by rw [loopO_eq, h1]; exact h3, h4⟩
      · exact ⟨t, by rw [loopO_eq, h1], h2⟩
  exact key n (Nat.le_refl _) s0 (by rw [Nat.sub_self]; exact h0)

/-! ### Numbers that fit -/
theorem wi64 {n : Int} (h1 : -9223372036854775808 ≤ n) (h2 : n < 9223372036854775808) : IntKind.i64.wrap n = n := by rw [IntKind.wrap_i64]; omega
theorem wu64 {n : Int} (h1 : 0 ≤ n) (h2 : n < 18446744073709551616) : IntKind.u64.wrap n = n := by rw [IntKind.wrap_u64]; omega
theorem wu32 {n : Int} (h1 : 0 ≤ n) (h2 : n < 4294967296) : IntKind.u32.wrap n = n := by rw [IntKind.wrap_u32]; omega
theorem wu16 {n : Int} (h1 : 0 ≤ n) (h2 : n < 65536) : IntKind.u16.wrap n = n := by rw [IntKind.wrap_u16]; omega
theorem wu8 {n : Int} (h1 : 0 ≤ n) (h2 : n < 256) : IntKind.u8.wrap n = n := by rw [IntKind.wrap_u8']; omega
theorem wi32 {n : Int} (h1 : -2147483648 ≤ n) (h2 : n < 2147483648) : IntKind.i32.wrap n = n := by
  simp only [IntKind.wrap, IntKind.bits, IntKind.signed]; simp; omega
theorem tdivP {x y : Int} (h : 0 ≤ x) : x.tdiv y = x / y := Int.tdiv_eq_ediv_of_nonneg h
theorem tmodP {x y : Int} (h : 0 ≤ x) : x.tmod y = x % y := Int.tmod_eq_emod_of_nonneg h
theorem u64_le (x : Int) : 0 ≤ IntKind.u64.wrap x := by rw [IntKind.wrap_u64]; omega
theorem u64_lt (x : Int) : IntKind.u64.wrap x < 18446744073709551616 := by rw [IntKind.wrap_u64]; omega

theorem upd_apply {α : Type u} (f : Nat → α) (k : Nat) (v : α) (n : Nat) : upd f k v n = if n = k then v else f n := by
  by_cases h : n = k
  · subst h; rw [upd_same, if_pos rfl]
  · rw [upd_ne _ _ h, if_neg h]

theorem arrEq_true {n : Nat} {f g : Nat → Int} (h : ∀ i, i < n → f i = g i) : arrEq n f g = true := by
  simp only [arrEq, List.all_eq_true, List.mem_range, beq_iff_eq]; exact h
theorem arrEq_iff {n : Nat} {f g : Nat → Int} : arrEq n f g = true ↔ ∀ i, i < n → f i = g i := by
  simp only [arrEq, List.all_eq_true, List.mem_range, beq_iff_eq]
theorem arrEq_false {n : Nat} {f g : Nat → Int} (h : ¬ ∀ i, i < n → f i = g i) : arrEq n f g = false := by
  cases e : arrEq n f g
  · rfl
  · exact absurd (arrEq_iff.1 e) h

theorem nlt {n : Nat} (h : n < 18446744073709551616) : ((n : Nat) : Int) < 18446744073709551616 := by omega
theorem nnn {n : Nat} : (0 : Int) ≤ ((n : Nat) : Int) := by omega
theorem zero_dig {B : Int} (hB : 0 < B) (n : Nat) : Dig B (fun _ => 0) n := fun _ _ => ⟨Int.le_refl _, hB⟩

theorem ipow_le {B : Int} (hB : 1 ≤ B) {a b : Nat} (h : a ≤ b) : B ^ a ≤ B ^ b := by
  obtain ⟨k, rfl⟩ := Nat.le.dest h
  rw [Int.pow_add]
  have h1 : 0 < B ^ a := Int.pow_pos (by omega)
  have h2 : 0 < B ^ k := Int.pow_pos (by omega)
  have h3 : B ^ a * 1 ≤ B ^ a * B ^ k := Int.mul_le_mul_of_nonneg_left (by omega) (by omega)
  omega

/-! ### Bits -/
theorem or64 {x y : Int} (h1 : 0 ≤ x) (h2 : x < 18446744073709551616) (h3 : 0 ≤ y) (h4 : y < 18446744073709551616) : bitsOr .u64 x y = ((x.toNat ||| y.toNat : Nat) : Int) := u64_or x y h1 h2 h3 h4
theorem and64 {x y : Int} (h1 : 0 ≤ x) (h2 : x < 18446744073709551616) (h3 : 0 ≤ y) (h4 : y < 18446744073709551616) : bitsAnd .u64 x y = ((x.toNat &&& y.toNat : Nat) : Int) := u64_and x y h1 h2 h3 h4
theorem xor64 {x y : Int} (h1 : 0 ≤ x) (h2 : x < 18446744073709551616) (h3 : 0 ≤ y) (h4 : y < 18446744073709551616) : bitsXor .u64 x y = ((x.toNat ^^^ y.toNat : Nat) : Int) := u64_xor x y h1 h2 h3 h4
theorem and8 {x y : Int} (h1 : 0 ≤ x) (h2 : x < 256) (h3 : 0 ≤ y) (h4 : y < 256) : bitsAnd .u8 x y = ((x.toNat &&& y.toNat : Nat) : Int) := u8_and x y h1 h2 h3 h4
theorem and1_64 {x : Int} (h1 : 0 ≤ x) (h2 : x < 18446744073709551616) : bitsAnd .u64 x 1 = x % 2 := by
  rw [and64 h1 h2 (by omega) (by omega)]
  rw [show (1 : Int).toNat = 1 from rfl, nat_mask1]; omega
theorem and1_8 {x : Int} (h1 : 0 ≤ x) (h2 : x < 256) : bitsAnd .u8 x 1 = x % 2 := by
  rw [and8 h1 h2 (by omega) (by omega)]
  rw [show (1 : Int).toNat = 1 from rfl, nat_mask1]; omega

theorem toNat_pow (s : Nat) : ((2 : Int) ^ s).toNat = 2 ^ s := by
  rw [show (2 : Int) ^ s = ((2 ^ s : Nat) : Int) by simp]; rfl
theorem shrN {k : IntKind} {x s : Int} (h1 : 0 ≤ x) (h3 : 0 ≤ s) (h4 : s ≤ k.bits) : shrI k x s = ((x.toNat >>> s.toNat : Nat) : Int) := by
  unfold shrI
  have hm : min s.toNat k.bits = s.toNat := by omega
  rw [hm, Nat.shiftRight_eq_div_pow, Int.fdiv_eq_ediv_of_nonneg _ (Int.le_of_lt (Int.pow_pos (by decide)))]
  have e : x = (x.toNat : Int) := by omega
  rw [Int.natCast_ediv, show ((2 ^ s.toNat : Nat) : Int) = 2 ^ s.toNat by simp, ← e]
theorem shr64 {x s : Int} (h1 : 0 ≤ x) (h3 : 0 ≤ s) (h4 : s ≤ 64) : shrI .u64 x s = ((x.toNat >>> s.toNat : Nat) : Int) := shrN h1 h3 h4
theorem shl64 {x s : Int} (h1 : 0 ≤ x) (h3 : 0 ≤ s) (h4 : s ≤ 64) : shlI .u64 x s = ((x.toNat <<< s.toNat % 2 ^ 64 : Nat) : Int) := by
  unfold shlI
  have hm : min s.toNat IntKind.u64.bits = s.toNat := by have : IntKind.u64.bits = 64 := rfl; omega
  rw [hm, IntKind.wrap_u64, Nat.shiftLeft_eq, Int.natCast_emod, Int.natCast_mul]
  have e : x = (x.toNat : Int) := by omega
  rw [show ((2 ^ s.toNat : Nat) : Int) = 2 ^ s.toNat by simp, ← e]; rfl

/-- bit m of a row of words -/
def bt (f : Nat → Int) (m : Nat) : Bool := (f (m / 64)).toNat.testBit (m % 64)

theorem bt_ext {f g : Nat → Int} {n : Nat} (hf : Dig 18446744073709551616 f n) (hg : Dig 18446744073709551616 g n) (h : ∀ m, m < 64 * n → bt f m = bt g m) : ∀ i, i < n → f i = g i := by
  intro i hi
  have h1 := hf i hi
  have h2 := hg i hi
  have : (f i).toNat = (g i).toNat := by
    apply Nat.eq_of_testBit_eq
    intro j
    by_cases hj : j < 64
    · have := h (64 * i + j) (by omega)
      unfold bt at this
      rw [show (64 * i + j) / 64 = i by omega, show (64 * i + j) % 64 = j by omega] at this
      exact this
    · have p : (2 : Nat) ^ 64 ≤ 2 ^ j := Nat.pow_le_pow_right (by decide) (by omega)
      have q : (2 : Nat) ^ 64 = 18446744073709551616 := rfl
      rw [Nat.testBit_lt_two_pow (by omega), Nat.testBit_lt_two_pow (by omega)]
  omega

/-- the number that words make, and its bits -/
theorem val_bit {f : Nat → Int} : ∀ {n : Nat}, Dig 18446744073709551616 f n → ∀ m, m < 64 * n → (val 18446744073709551616 f n).toNat.testBit m = bt f m := by
  intro n
  induction n with
  | zero => intro _ m hm; omega
  | succ n ih =>
    intro h m hm
    have h' : Dig 18446744073709551616 f n := fun i hi => h i (by omega)
    obtain ⟨b1, b2⟩ := val_bound (by decide) h'
    have b3 := h n (by omega)
    have e : (val 18446744073709551616 f (n + 1)).toNat = 2 ^ (64 * n) * (f n).toNat + (val 18446744073709551616 f n).toNat := by
      have p : (18446744073709551616 : Int) ^ n = ((2 ^ (64 * n) : Nat) : Int) := by
        rw [show (18446744073709551616 : Int) = 2 ^ 64 from rfl, ← Int.pow_mul]; simp
      simp only [val]
      rw [p]
      have : f n * ((2 ^ (64 * n) : Nat) : Int) = ((2 ^ (64 * n) * (f n).toNat : Nat) : Int) := by
        rw [Int.natCast_mul, Int.mul_comm]; congr 1; omega
      rw [this]; omega
    have hlt : (val 18446744073709551616 f n).toNat < 2 ^ (64 * n) := by
      have p : (18446744073709551616 : Int) ^ n = ((2 ^ (64 * n) : Nat) : Int) := by
        rw [show (18446744073709551616 : Int) = 2 ^ 64 from rfl, ← Int.pow_mul]; simp
      rw [p] at b2; omega
    rw [e, Nat.testBit_two_pow_mul_add _ hlt]
    by_cases hc : m < 64 * n
    · rw [if_pos hc]; exact ih h' m hc
    · rw [if_neg hc]; unfold bt; rw [show m / 64 = n by omega, show m % 64 = m - 64 * n by omega]
end Go.Abs
