/- The law of sums: it answers true. -/
import Derived.Test.YtamclijpaplnlaaWSums
set_option linter.unusedVariables false
set_option linter.unusedSimpArgs false
namespace Go.Abs

theorem carry_congr {B : Int} {f f' g g' : Nat → Int} : ∀ n, (∀ i, i < n → f i = f' i) → (∀ i, i < n → g i = g' i) → carry B f g n = carry B f' g' n := by
  intro n
  induction n with
  | zero => intro _ _; rfl
  | succ n ih =>
    intro h h'
    simp only [carry]
    rw [ih (fun i hi => h i (by omega)) (fun i hi => h' i (by omega)), h n (by omega), h' n (by omega)]

def ones (_ : Nat) : Int := 18446744073709551615
theorem len_ones : Fw40 18446744073709551615 = some 64 := by kernel_rfl
theorem bits_ones (z : Nat → Int) (h : z 3 = 18446744073709551615) : Fw16 z = some 256 := by
  simp only [Fw16]
  rw [loopO_eq]
  have h1 : decide ((3 : Int) ≥ 0) = true := by decide
  have h2 : (0 : Int) ≤ 3 ∧ (3 : Int) < 4 := by decide
  have h3 : (3 : Int).toNat = 3 := rfl
  have h4 : ((18446744073709551615 : Int) != 0) = true := by decide
  simp only [stepw16_0, h1, if_true, h2, h3, h, h4, len_ones, Option.bind_some, and_self]
  rfl

theorem awake_true : Fw9 () = some true := by
  have hb : Dig B64 (upd (fun _ => 0) 0 1) 4 := fun i hi => by
    simp only [upd, B64]
    cases Nat.beq i 0 <;> simp
  obtain ⟨z, hz, hz'⟩ := sub_spec (a := fun _ => 0) (b := upd (fun _ => 0) 0 1) (fun i _ => by simp [B64]) hb
  have hones : ∀ i, i < 4 → z i = 18446744073709551615 := by
    intro i hi
    rw [hz' i hi]
    match i, hi with
    | 0, _ => decide
    | 1, _ => decide
    | 2, _ => decide
    | 3, _ => decide
  have hbor : borrow B64 (fun _ => 0) (upd (fun _ => 0) 0 1) 4 = 1 := by decide
  obtain ⟨y, hy, hy'⟩ := add_spec (a := z) (b := upd (fun _ => 0) 0 1) (fun i hi => by rw [hones i hi]; decide) hb
  have hc : ∀ n, n ≤ 4 → carry B64 z (upd (fun _ => 0) 0 1) n = carry B64 ones (upd (fun _ => 0) 0 1) n := fun n hn => carry_congr n (fun i hi => hones i (by omega)) (fun i _ => rfl)
  have hcar : carry B64 z (upd (fun _ => 0) 0 1) 4 = 1 := by rw [hc 4 (by omega)]; decide
  have hzero : ∀ i, i < 4 → y i = 0 := by
    intro i hi
    rw [hy' i hi]
    unfold sumD
    rw [hc i (by omega), hones i hi]
    match i, hi with
    | 0, _ => decide
    | 1, _ => decide
    | 2, _ => decide
    | 3, _ => decide
  have harr : arrEq 4 y (fun _ => 0) = true := by
    simp only [arrEq, List.all_eq_true, List.mem_range, beq_iff_eq]
    exact hzero
  have e1 : (z 3 == 18446744073709551615) = true := by rw [hones 3 (by omega)]; decide
  simp only [Fw9, hz, Option.bind_some, hy, e1, hbor, hcar, harr, bits_ones z (hones 3 (by omega)), if_true, BEq.rfl]

theorem sums_true {a b : Nat → Int} (ha : Dig B64 a 4) (hb : Dig B64 b 4) : Fw3 (a, b) = some true := by
  obtain ⟨z1, h1, e1⟩ := add_spec ha hb
  obtain ⟨z2, h2, e2⟩ := sub_spec ha hb
  obtain ⟨z3, h3, e3⟩ := radd_spec ha hb
  obtain ⟨z4, h4, e4⟩ := rsub_spec ha hb
  have ab : ∀ i, i < 4 → (0 ≤ a i ∧ a i < B64) ∧ 0 ≤ b i ∧ b i < B64 := fun i hi => ⟨ha i hi, hb i hi⟩
  have ab16 : ∀ i, i < 16 → (0 ≤ d16 a i ∧ d16 a i < B16) ∧ 0 ≤ d16 b i ∧ d16 b i < B16 := fun i hi => ⟨d16_dig a 16 i hi, d16_dig b 16 i hi⟩
  have hp : (B64 : Int) ^ 4 = B16 ^ 16 := by decide
  have va : val B16 (d16 a) 16 = val B64 a 4 := val_d16 ha
  have vb : val B16 (d16 b) 16 = val B64 b 4 := val_d16 hb
  -- sums
  have s1 := val_sum (B := B64) a b 4
  have s2 := val_sum (B := B16) (d16 a) (d16 b) 16
  have w1 := val_words (sumD B16 (d16 a) (d16 b)) 4
  have b1 := val_bound (B := B64) (by decide) (sumD_dig (by decide) a b 4)
  have hw1 := wordOf_dig (n := 4) (sumD_dig (B := B16) (by decide) (d16 a) (d16 b) 16)
  have b2 := val_bound (B := B64) (by decide) hw1
  have c1 := carry_01 (B := B64) (by decide) 4 ab
  have c2 := carry_01 (B := B16) (by decide) 16 ab16
  rw [show 4 * 4 = 16 from rfl] at w1
  rw [← w1, va, vb, ← hp] at s2
  have hpp : (B64 : Int) ^ 4 = 115792089237316195423570985008687907853269984665640564039457584007913129639936 := by decide
  rw [hpp] at s1 s2 b1 b2
  have hcar : carry B64 a b 4 = carry B16 (d16 a) (d16 b) 16 := by
    rcases c1 with c1 | c1 <;> rcases c2 with c2 | c2 <;> rw [c1] at s1 ⊢ <;> rw [c2] at s2 ⊢ <;> omega
  have hsum : val B64 (sumD B64 a b) 4 = val B64 (wordOf (sumD B16 (d16 a) (d16 b))) 4 := by rw [hcar] at s1; omega
  have isum := val_inj (B := B64) (by decide) (sumD_dig (by decide) a b 4) hw1 hsum
  -- differences
  have t1 := val_dif (B := B64) (by decide) a b 4 ab
  have t2 := val_dif (B := B16) (by decide) (d16 a) (d16 b) 16 ab16
  have x1 := val_words (difD B16 (d16 a) (d16 b)) 4
  have b3 := val_bound (B := B64) (by decide) (difD_dig (by decide) a b 4)
  have hw2 := wordOf_dig (n := 4) (difD_dig (B := B16) (by decide) (d16 a) (d16 b) 16)
  have b4 := val_bound (B := B64) (by decide) hw2
  have o1 := borrow_01 B64 a b 4
  have o2 := borrow_01 B16 (d16 a) (d16 b) 16
  rw [show 4 * 4 = 16 from rfl] at x1
  rw [← x1, va, vb, ← hp] at t2
  rw [hpp] at t1 t2 b3 b4
  have hbor : borrow B64 a b 4 = borrow B16 (d16 a) (d16 b) 16 := by
    rcases o1 with o1 | o1 <;> rcases o2 with o2 | o2 <;> rw [o1] at t1 ⊢ <;> rw [o2] at t2 ⊢ <;> omega
  have hdif : val B64 (difD B64 a b) 4 = val B64 (wordOf (difD B16 (d16 a) (d16 b))) 4 := by rw [hbor] at t1; omega
  have idif := val_inj (B := B64) (by decide) (difD_dig (by decide) a b 4) hw2 hdif
  have q1 : arrEq 4 z1 z3 = true := by
    simp only [arrEq, List.all_eq_true, List.mem_range, beq_iff_eq]
    intro i hi
    rw [e1 i hi, e3 i hi, isum i hi]
  have q2 : arrEq 4 z2 z4 = true := by
    simp only [arrEq, List.all_eq_true, List.mem_range, beq_iff_eq]
    intro i hi
    rw [e2 i hi, e4 i hi, idif i hi]
  simp only [Fw3, awake_true, h1, h2, h3, h4, Option.bind_some, if_true, q1, q2, hcar, hbor, BEq.rfl]
end Go.Abs
