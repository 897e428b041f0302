/- Ball, on both sides. -/
import Derived.Test.YtmclgnhhbicelaaSSmallL
set_option linter.unusedVariables false
set_option linter.unusedSimpArgs false
set_option maxRecDepth 100000
namespace Go.Abs
open Go.RowKit

def sbit (s : Nat → Int) (j : Nat) : Bool := (s (j / 8)).toNat.testBit (j % 8)
def sgn (b : Bool) : Int := if b = true then -1 else 1
def blG (s : Nat → Int) (i : Nat) (p : Po) : Po :=
  if 256 ≤ p.1 then p else if s (8 + i) > (p.1 : Int) then p else (p.1 + 1, upd (upd p.2 p.1 (p.2 (s (8 + i)).toNat)) (s (8 + i)).toNat (sgn (sbit s (p.1 - 207))))
def blt (s : Nat → Int) : Nat → Po := itr (207, fun _ => 0) (blG s)
theorem blG_frz (s : Nat → Int) : ∀ i q, 256 ≤ q.1 → blG s i q = q := fun i q h => if_pos h
theorem blt_succ (s : Nat → Int) (i : Nat) : blt s (i + 1) = blG s i (blt s i) := rfl
theorem blt_zero (s : Nat → Int) : blt s 0 = (207, fun _ => 0) := rfl
theorem blt_frz {s : Nat → Int} {i j : Nat} (h : 256 ≤ (blt s i).1) (hij : i ≤ j) : blt s j = blt s i := itr_frz (blG_frz s) h hij
theorem blt_le (s : Nat → Int) : ∀ i, (blt s i).1 ≤ 256 := itr_le (by decide) fun i q h => by
  unfold blG
  split
  · exact h
  · split
    · exact h
    · simp only; omega
theorem blt_ge (s : Nat → Int) : ∀ i, 207 ≤ (blt s i).1 := by
  intro i
  induction i with
  | zero => exact Nat.le_refl _
  | succ i ih =>
    rw [blt_succ]
    unfold blG
    split
    · exact ih
    · split
      · exact ih
      · simp only; omega
theorem blt_in (s : Nat → Int) : ∀ i k, -1 ≤ (blt s i).2 k ∧ (blt s i).2 k ≤ 1 := by
  intro i
  induction i with
  | zero => intro k; exact ⟨show (-1 : Int) ≤ 0 by decide, show (0 : Int) ≤ 1 by decide⟩
  | succ i ih =>
    rw [blt_succ]
    unfold blG
    split
    · exact ih
    · split
      · exact ih
      · intro k
        show -1 ≤ upd _ _ _ k ∧ upd _ _ _ k ≤ 1
        rw [upd_apply]
        split
        · unfold sgn; split <;> decide
        · rw [upd_apply]
          split
          · exact ih _
          · exact ih k
theorem blt_hi {s : Nat → Int} {i : Nat} (h : (blt s i).1 < 256) (hs : s (8 + i) > ((blt s i).1 : Int)) : blt s (i + 1) = blt s i := by
  rw [blt_succ]; unfold blG
  rw [if_neg (by omega), if_pos hs]
theorem blt_lo {s : Nat → Int} {i : Nat} (h : (blt s i).1 < 256) (hs : ¬ s (8 + i) > ((blt s i).1 : Int)) :
    blt s (i + 1) = ((blt s i).1 + 1, upd (upd (blt s i).2 (blt s i).1 ((blt s i).2 (s (8 + i)).toNat)) (s (8 + i)).toNat (sgn (sbit s ((blt s i).1 - 207)))) := by
  rw [blt_succ]; unfold blG
  rw [if_neg (by omega), if_neg hs]
attribute [irreducible] blt

/-! ### the signs -/
def sw (s : Nat → Int) (n : Nat) : Nat := nat2 (sbit s) n
theorem sw_step {s : Nat → Int} {i : Nat} (hi : i < 8) {b : Nat} (hb : s i = (b : Int)) (lb : b < 256) : bitsOr .u64 ((sw s (8 * i) : Nat) : Int) (shlI .u64 (IntKind.u64.wrap (b : Int)) ((8 * i : Nat) : Int)) = ((sw s (8 * (i + 1)) : Nat) : Int) := by
  have l1 : sw s (8 * i) < 2 ^ 64 := Nat.lt_of_lt_of_le (nat2_lt _ _) (Nat.pow_le_pow_right (by decide) (by omega))
  have l2 := shl8_lt lb hi
  rw [wu64 (by omega) (by omega), shl8 lb hi]
  have key : ∀ x y : Nat, x < 2 ^ 64 → y < 2 ^ 64 → bitsOr .u64 (x : Int) (y : Int) = ((x ||| y : Nat) : Int) := fun x y hx hy => by
    rw [or64 (by omega) (by omega) (by omega) (by omega), Int.toNat_natCast, Int.toNat_natCast]
  rw [key _ _ l1 l2]
  congr 1
  refine nat2_eq fun k => ?_
  rw [Nat.testBit_or, Nat.testBit_shiftLeft]
  unfold sw
  rw [nat2_bit]
  by_cases h1 : k < 8 * i
  · rw [show decide (k < 8 * i) = true from decide_eq_true h1, show decide (k < 8 * (i + 1)) = true from decide_eq_true (by omega), show decide (k ≥ 8 * i) = false from decide_eq_false (by omega)]
    simp
  · rw [show decide (k < 8 * i) = false from decide_eq_false h1, show decide (k ≥ 8 * i) = true from decide_eq_true (by omega)]
    simp only [Bool.false_and, Bool.false_or, Bool.true_and]
    by_cases h2 : k < 8 * (i + 1)
    · rw [show decide (k < 8 * (i + 1)) = true from decide_eq_true h2, Bool.true_and]
      unfold sbit
      rw [show k / 8 = i by omega, hb, Int.toNat_natCast, show k % 8 = k - 8 * i by omega]
    · rw [show decide (k < 8 * (i + 1)) = false from decide_eq_false h2, Bool.false_and]
      refine Nat.testBit_lt_two_pow (Nat.lt_of_lt_of_le lb ?_)
      exact (show 2 ^ 8 ≤ 2 ^ (k - 8 * i) from Nat.pow_le_pow_right (by decide) (by omega))

theorem bal_signs {xs : List Int} {m : Int} {h : List Int} {s : Sp} (H : DS 5 136 31 xs 1008 0 m h s) (r2 : Nat → Int) :
    Ret (loopO steps7_0 (0, 0, r2, m, h, (), s)) fun z => ∃ m' h' s', z = (((sw (drw 136 31 xs) 64 : Nat) : Int), r2, m', h', (), s') ∧ DS 5 136 31 xs 1008 8 m' h' s' := by
  refine loopO_inv (fun i z => ∃ m' h' s', z = (((sw (drw 136 31 xs) (8 * i) : Nat) : Int), ((i : Nat) : Int), r2, m', h', (), s') ∧ DS 5 136 31 xs 1008 i m' h' s') 8 ⟨m, h, s, rfl, H⟩ ?_ ?_
  · rintro i z hi ⟨m', h', s', rfl, D⟩
    obtain ⟨m2, h2, s2, e, D2⟩ := draw_one KD (by decide) (by omega) D
    obtain ⟨b, eb, lb⟩ := drwN 136 31 xs i
    have d1 : decide (((i : Nat) : Int) < 8) = true := decide_eq_true (by omega)
    have w1 : IntKind.i64.wrap (8 * ((i : Nat) : Int)) = ((8 * i : Nat) : Int) := by rw [wi64 (by omega) (by omega)]; omega
    have w2 : IntKind.i64.wrap (((i : Nat) : Int) + 1) = ((i + 1 : Nat) : Int) := by rw [wi64 (by omega) (by omega)]; omega
    simp only [steps7_0, d1, if_true, e, Option.bind_some, w1, w2]
    rw [if_pos (by omega), eb, sw_step hi eb lb]
    exact ⟨_, rfl, m2, h2, s2, rfl, D2⟩
  · rintro z ⟨m', h', s', rfl, D⟩
    have d1 : decide (((8 : Nat) : Int) < 8) = false := by decide
    simp only [steps7_0, d1, Bool.false_eq_true, if_false]
    exact ⟨_, rfl, m', h', s', rfl, D⟩

/-! ### the positions, in the program -/
theorem bal_pick {xs : List Int} {N : Nat} (hN : N = 1000) {i : Nat} (hi : i < N) {t : Nat} (ht : t < 256) (hp : (blt (drw 136 31 xs) i).1 = t) {m : Int} {h : List Int} {s : Sp} (t5 : Int) (r2 f : Nat → Int) (H : DS 5 136 31 xs 1008 (8 + i + 1) m h s) :
    Ret (loopO steps7_2 (t5, (t : Int), drw 136 31 xs (8 + i), true, r2, m, h, (), f, s)) fun z =>
      (∃ b m' h' s', z = (t5, (t : Int), b, false, r2, m', h', (), f, s') ∧ blt (drw 136 31 xs) N = blt (drw 136 31 xs) i) ∨
      (∃ i' m' h' s', z = (t5, (t : Int), drw 136 31 xs (8 + i'), true, r2, m', h', (), f, s') ∧ i' < N ∧ blt (drw 136 31 xs) i' = blt (drw 136 31 xs) i ∧ ¬ drw 136 31 xs (8 + i') > (t : Int) ∧ DS 5 136 31 xs 1008 (8 + i' + 1) m' h' s') := by
  refine loopO_inv2 (fun j z => (∃ b m' h' s', z = (t5, (t : Int), b, false, r2, m', h', (), f, s') ∧ blt (drw 136 31 xs) N = blt (drw 136 31 xs) i) ∨
      (∃ m' h' s', z = (t5, (t : Int), drw 136 31 xs (8 + (i + j)), true, r2, m', h', (), f, s') ∧ i + j < N ∧ blt (drw 136 31 xs) (i + j) = blt (drw 136 31 xs) i ∧ DS 5 136 31 xs 1008 (8 + (i + j) + 1) m' h' s')) (N - i) (.inr ⟨m, h, s, rfl, hi, rfl, H⟩) ?_
  rintro j z hj (⟨b, m', h', s', rfl, hb⟩ | ⟨m', h', s', rfl, hij, hb, D⟩)
  · right
    simp only [steps7_2, Bool.false_eq_true, if_false]
    exact ⟨_, rfl, .inl ⟨b, m', h', s', rfl, hb⟩⟩
  · obtain ⟨b1, b2⟩ := drw_lt 136 31 xs (8 + (i + j))
    have w1 : IntKind.i64.wrap (drw 136 31 xs (8 + (i + j))) = drw 136 31 xs (8 + (i + j)) := wi64 (by omega) (by omega)
    by_cases c : drw 136 31 xs (8 + (i + j)) > (t : Int)
    · left
      have hnext : blt (drw 136 31 xs) (i + j + 1) = blt (drw 136 31 xs) i := by
        rw [blt_hi (by rw [hb, hp]; exact ht) (by rw [hb, hp]; exact c), hb]
      simp only [steps7_2, if_true, w1, decide_eq_true c]
      by_cases hl : i + j + 1 < N
      · obtain ⟨m2, h2, s2, e, D2⟩ := draw_one KD (by decide) (by omega) D
        simp only [e, Option.bind_some]
        exact ⟨_, by omega, rfl, .inr ⟨m2, h2, s2, by rw [show 8 + (i + (j + 1)) = 8 + (i + j) + 1 by omega], by omega, by rw [show i + (j + 1) = i + j + 1 by omega]; exact hnext, by rw [show 8 + (i + (j + 1)) + 1 = 8 + (i + j) + 1 + 1 by omega]; exact D2⟩⟩
      · have hl2 : i + j + 1 = N := by omega
        rw [show 8 + (i + j) + 1 = 1008 by omega] at D
        simp only [draw_end D, Option.bind_some]
        exact ⟨_, by omega, rfl, .inl ⟨0, m', h', s', rfl, by rw [← hl2]; exact hnext⟩⟩
    · right
      simp only [steps7_2, if_true, w1, decide_eq_false c, Bool.false_eq_true, if_false]
      exact ⟨_, rfl, .inr ⟨i + j, m', h', s', rfl, hij, hb, c, D⟩⟩

theorem sgn_eq {V j : Nat} (hV : V < 2 ^ 64) : IntKind.i32.wrap (1 - IntKind.i32.wrap (2 * IntKind.i32.wrap (bitsAnd .u64 ((V / 2 ^ j : Nat) : Int) 1))) = sgn (V.testBit j) := by
  have l : V / 2 ^ j < 2 ^ 64 := Nat.lt_of_le_of_lt (Nat.div_le_self _ _) hV
  have e : bitsAnd .u64 ((V / 2 ^ j : Nat) : Int) 1 = ((V / 2 ^ j % 2 : Nat) : Int) := by
    generalize V / 2 ^ j = q at l
    rw [and1_64 (by omega) (by omega)]; rfl
  rw [e, tb_mod]
  unfold sgn
  split <;> decide

theorem bal_loop {xs : List Int} {N : Nat} (hN : N = 1000) {m : Int} {h : List Int} {s : Sp} (H : DS 5 136 31 xs 1008 8 m h s) (r2 : Nat → Int) :
    Ret (loopO steps7_1 (((sw (drw 136 31 xs) 64 : Nat) : Int), 207, r2, m, h, (), (fun _ => 0), s)) fun z =>
      (z = .inl (94, (fun _ => 0)) ∧ (blt (drw 136 31 xs) N).1 < 256) ∨ (z = .inr (r2, (blt (drw 136 31 xs) N).2) ∧ (blt (drw 136 31 xs) N).1 = 256) := by
  have lV : sw (drw 136 31 xs) 64 < 2 ^ 64 := nat2_lt _ _
  generalize hV : sw (drw 136 31 xs) 64 = V at lV
  refine loopO_inv2 (fun j z => ∃ i m' h' s', z = (((V / 2 ^ j : Nat) : Int), ((207 + j : Nat) : Int), r2, m', h', (), (blt (drw 136 31 xs) i).2, s') ∧ i ≤ N ∧ (blt (drw 136 31 xs) i).1 = 207 + j ∧ DS 5 136 31 xs 1008 (8 + i) m' h' s') 49
    ⟨0, m, h, s, by rw [blt_zero, Nat.pow_zero, Nat.div_one]; rfl, Nat.zero_le _, by rw [blt_zero], H⟩ ?_
  rintro j z hj ⟨i, m', h', s', rfl, hi, hp, D⟩
  by_cases hlt : j < 49
  · have d1 : decide (((207 + j : Nat) : Int) < 256) = true := decide_eq_true (by omega)
    have w2 : IntKind.i64.wrap (((207 + j : Nat) : Int) + 1) = ((207 + (j + 1) : Nat) : Int) := by rw [wi64 (by omega) (by omega)]; omega
    by_cases hiN : i < N
    · obtain ⟨m1, h1, s1, e1, D1⟩ := draw_one KD (by decide) (by omega) D
      obtain ⟨z, e2, hz⟩ := bal_pick hN hiN (t := 207 + j) (by omega) hp ((V / 2 ^ j : Nat) : Int) r2 (blt (drw 136 31 xs) i).2 D1
      simp only [steps7_1, d1, if_true, e1, Option.bind_some, e2, w2]
      rcases hz with ⟨b, m2, h2, s2, rfl, hb⟩ | ⟨i', m2, h2, s2, rfl, hi', hb, hc, D2⟩
      · right
        simp only [Bool.not_false, if_true]
        exact ⟨_, rfl, .inl ⟨rfl, by rw [hb, hp]; omega⟩⟩
      · left
        obtain ⟨b, eb, lb⟩ := drwN 136 31 xs (8 + i')
        simp only [Bool.not_true, Bool.false_eq_true, if_false, eb, Int.toNat_natCast]
        rw [eb] at hc
        rw [if_pos (by omega), if_pos (by omega), if_pos (by omega), sgn_eq lV]
        have hn := blt_lo (s := drw 136 31 xs) (i := i') (by rw [hb, hp]; omega) (by rw [hb, hp, eb]; exact hc)
        rw [hb, hp, eb, Int.toNat_natCast] at hn
        have hbit : V.testBit j = sbit (drw 136 31 xs) (207 + j - 207) := by
          rw [← hV, show 207 + j - 207 = j by omega]
          unfold sw
          rw [nat2_bit, show decide (j < 64) = true from decide_eq_true (by omega), Bool.true_and]
        have hsh : shrI .u64 ((V / 2 ^ j : Nat) : Int) 1 = ((V / 2 ^ (j + 1) : Nat) : Int) := by
          have l : V / 2 ^ j < 2 ^ 64 := Nat.lt_of_le_of_lt (Nat.div_le_self _ _) lV
          have e : V / 2 ^ (j + 1) = (V / 2 ^ j) / 2 ^ 1 := by rw [Nat.div_div_eq_div_mul, ← Nat.pow_add]
          rw [e]
          generalize V / 2 ^ j = q at l
          rw [shr64 (by omega) (by decide) (by decide), Int.toNat_natCast, Nat.shiftRight_eq_div_pow]
          rfl
        rw [hsh, hbit]
        refine ⟨_, hlt, rfl, i' + 1, m2, h2, s2, ?_, by omega, by rw [hn]; rfl, by rw [show 8 + (i' + 1) = 8 + i' + 1 by omega]; exact D2⟩
        rw [hn, w2]
    · have hiN : i = N := by omega
      subst hiN
      right
      rw [show 8 + i = 1008 by omega] at D
      simp only [steps7_1, d1, if_true, draw_end D, Option.bind_some]
      have hin : loopO steps7_2 (((V / 2 ^ j : Nat) : Int), ((207 + j : Nat) : Int), 0, false, r2, m', h', (), (blt (drw 136 31 xs) i).2, s') = some (((V / 2 ^ j : Nat) : Int), ((207 + j : Nat) : Int), 0, false, r2, m', h', (), (blt (drw 136 31 xs) i).2, s') := by
        refine loop_inr ?_
        simp only [steps7_2, Bool.false_eq_true, if_false]
      rw [hin]
      simp only [Option.bind_some, Bool.not_false, if_true]
      exact ⟨_, rfl, .inl ⟨rfl, by rw [hp]; omega⟩⟩
  · have hj : j = 49 := by omega
    subst hj
    right
    have hfr : blt (drw 136 31 xs) N = blt (drw 136 31 xs) i := blt_frz (by omega) hi
    have d1 : decide (((207 + 49 : Nat) : Int) < 256) = false := by decide
    simp only [steps7_1, d1, Bool.false_eq_true, if_false]
    exact ⟨_, rfl, .inr ⟨by rw [hfr], by rw [hfr, hp]⟩⟩

theorem bal_prog {xs : List Int} (hx : Byt xs) (hl : xs.length = 48) {N : Nat} (hN : N = 1000) :
    ∃ r, Fs7 xs = some (r, (outc (blt (drw 136 31 xs) N)).2) ∧ ∀ k, k < 256 → r k = rdF (outc (blt (drw 136 31 xs) N)).1 k := by
  obtain ⟨s0, e0, D0⟩ := draw_start KD (M := 1008) hx (by omega)
  obtain ⟨z, e1, m1, h1, s1, rfl, D1⟩ := bal_signs D0 (fun _ => 0)
  obtain ⟨z, e2, hz⟩ := bal_loop hN D1 (fun _ => 0)
  have c0 : (((xs.length : Nat) : Int) != 48) = false := by rw [hl]; rfl
  rw [show ((5 : Nat) : Int) = 5 from rfl] at e0
  simp only [Fs7, c0, Bool.false_eq_true, if_false, show (1008 : Int) = ((1008 : Nat) : Int) from rfl, e0, Option.bind_some, e1, e2]
  unfold outc
  rcases hz with ⟨rfl, h⟩ | ⟨rfl, h⟩
  · rw [if_pos h]
    exact ⟨_, rfl, fun k hk => rfl⟩
  · rw [if_neg (by omega)]
    obtain ⟨r, e3, hr⟩ := reduce_eq (a := (blt (drw 136 31 xs) N).2) (fun k hk => by have := blt_in (drw 136 31 xs) N k; omega)
    simp only [Option.bind_some, e3]
    exact ⟨r, rfl, hr⟩

/-! ### the reference -/
theorem upd_upd (f : Nat → Int) (k : Nat) (a b : Int) : upd (upd f k a) k b = upd f k b := by
  funext j
  rw [upd_apply, upd_apply, upd_apply]
  split <;> rfl

theorem ref_bit {s : Nat → Int} (hs : ∀ d, ∃ n : Nat, s d = (n : Int) ∧ n < 256) {j : Nat} (hj : j < 49) (L : List Int) (hL : ∀ q, q < 8 → L.getD q 0 = s q) :
    ((shrI .u8 (L.getD (j / 8) 0) ((j % 8 : Nat) : Int)).tmod 2 == 1) = sbit s j := by
  rw [hL (j / 8) (by omega)]
  obtain ⟨b, eb, lb⟩ := hs (j / 8)
  unfold sbit
  rw [eb, shrN (by omega) (by omega) (by show ((j % 8 : Nat) : Int) ≤ ((8 : Nat) : Int); omega), Int.toNat_natCast, Int.toNat_natCast, tmodP (Int.natCast_nonneg _), Nat.shiftRight_eq_div_pow]
  have e : ((b / 2 ^ (j % 8) : Nat) : Int) % 2 = ((b / 2 ^ (j % 8) % 2 : Nat) : Int) := rfl
  rw [e, tb_mod]
  cases b.testBit (j % 8) <;> rfl

theorem outs_getD (rt : Nat) (L : Nat → Nat) (q n i : Nat) (hi : i < n) : (outs rt L q n).getD i 0 = (outB rt L (q + i) : Int) := by
  simp [outs, List.getD_eq_getElem?_getD, hi]

theorem bal_ref {xs : List Int} (hx : Byt xs) (hl : xs.length = 48) {N : Nat} (hN : N = 1000) : Fs10 xs = some (rdF (outc (blt (drw 136 31 xs) N)).1, (outc (blt (drw 136 31 xs) N)).2) := by
  obtain ⟨s0, e0, H0⟩ := ref_read KD hx (by omega) (n := 8) (q := 0) (by decide) (by decide) (s := (5, xs, false, 0, (fun _ => 0), 0)) (.inl ⟨rfl, rfl⟩)
  obtain ⟨L, hLd⟩ : ∃ L, L = outs 136 (finN 136 31 (absN 136 (zeroN, 0) (nats xs))) 0 8 := ⟨_, rfl⟩
  rw [← hLd] at e0
  have hL : ∀ q, q < 8 → L.getD q 0 = drw 136 31 xs q := fun q hq => by
    rw [hLd, outs_getD _ _ _ _ _ hq, Nat.zero_add]; rfl
  have hLl : L.length = 8 := by rw [hLd, outs_len]
  have hloop : Ret (loopO steps10_0 (207, 0, (fun _ => 0), (fun _ => 0), s0, L)) fun z => z = (((blt (drw 136 31 xs) N).1 : Int), (fun _ => 0), rdF (blt (drw 136 31 xs) N).2) := by
    refine loopO_inv2 (fun i z => ∃ s, z = (((blt (drw 136 31 xs) i).1 : Int), ((i : Nat) : Int), (fun _ => 0), rdF (blt (drw 136 31 xs) i).2, s, L) ∧ RS9 KD xs (8 + i) s) N ⟨s0, by rw [blt_zero]; rfl, by rw [Nat.zero_add] at H0; exact H0⟩ ?_
    rintro i z hi ⟨s, rfl, H⟩
    have hle := blt_le (drw 136 31 xs) i
    have hge := blt_ge (drw 136 31 xs) i
    by_cases hi2 : i < N
    · have d0 : decide (((i : Nat) : Int) < 1000) = true := decide_eq_true (by omega)
      have w2 : IntKind.i64.wrap (((i : Nat) : Int) + 1) = ((i + 1 : Nat) : Int) := by rw [wi64 (by omega) (by omega)]; omega
      by_cases ht : (blt (drw 136 31 xs) i).1 < 256
      · left
        have d1 : decide (((blt (drw 136 31 xs) i).1 : Int) < 256) = true := decide_eq_true (by omega)
        obtain ⟨s', e, H'⟩ := ref_read KD hx (by omega) (n := 1) (by decide) (by omega) H
        rw [show ((1 : Nat) : Int) = 1 from rfl] at e
        obtain ⟨b, eb, lb⟩ := drwN 136 31 xs (8 + i)
        have hout : outs 136 (finN 136 31 (absN 136 (zeroN, 0) (nats xs))) (8 + i) 1 = [(b : Int)] := by
          rw [outs1, ← eb]; rfl
        rw [hout] at e
        obtain ⟨s1, s2, s3, s4, s5, s6⟩ := s
        have hlo := blt_lo (s := drw 136 31 xs) (i := i) ht
        have hhi := blt_hi (s := drw 136 31 xs) (i := i) ht
        rw [eb, Int.toNat_natCast] at hlo
        rw [eb] at hhi
        generalize blt (drw 136 31 xs) i = p at *
        obtain ⟨t, f⟩ := p
        simp only at ht hle hge d1 hlo hhi
        have g0 : List.getD [(b : Int)] 0 0 = (b : Int) := rfl
        have wb : IntKind.i64.wrap (b : Int) = (b : Int) := wi64 (by omega) (by omega)
        have w1 : IntKind.i64.wrap ((t : Int) + 1) = ((t + 1 : Nat) : Int) := by rw [wi64 (by omega) (by omega)]; omega
        have w7 : IntKind.i64.wrap ((t : Int) - 207) = ((t - 207 : Nat) : Int) := by rw [wi64 (by omega) (by omega)]; omega
        have w8 : IntKind.i64.wrap (((t - 207 : Nat) : Int).tdiv 8) = (((t - 207) / 8 : Nat) : Int) := by rw [tdivP (by omega), wi64 (by omega) (by omega)]; omega
        have w9 : IntKind.u64.wrap (((t - 207 : Nat) : Int).tmod 8) = (((t - 207) % 8 : Nat) : Int) := by rw [tmodP (by omega), wu64 (by omega) (by omega)]; omega
        have hbit := ref_bit (drwN 136 31 xs) (j := t - 207) (by omega) L hL
        simp only [steps10_0, d0, d1, if_true, e, Option.bind_some, g0, wb, w1, w2, w7, w8, w9, Int.toNat_natCast, hbit]
        rw [if_pos (by simp)]
        by_cases c : (b : Int) > (t : Int)
        · rw [if_pos (decide_eq_true c)]
          refine ⟨_, hi2, rfl, s', ?_, by rw [show 8 + (i + 1) = 8 + i + 1 by omega]; exact H'⟩
          rw [hhi c]
        · rw [if_neg (by rw [decide_eq_false c]; decide), if_pos (by omega), if_pos (by omega), if_pos (by omega), if_pos (by rw [hLl]; omega), if_pos (by omega)]
          have hl2 := hlo c
          cases hsb : sbit (drw 136 31 xs) (t - 207) with
          | true =>
            rw [hsb] at hl2
            rw [if_pos rfl, if_pos (by omega)]
            refine ⟨_, hi2, rfl, s', ?_, by rw [show 8 + (i + 1) = 8 + i + 1 by omega]; exact H'⟩
            rw [hl2, rdF_upd, rdF_upd, upd_upd]; rfl
          | false =>
            rw [hsb] at hl2
            rw [if_neg (by decide)]
            refine ⟨_, hi2, rfl, s', ?_, by rw [show 8 + (i + 1) = 8 + i + 1 by omega]; exact H'⟩
            rw [hl2, rdF_upd, rdF_upd]; rfl
      · right
        have hfr : blt (drw 136 31 xs) N = blt (drw 136 31 xs) i := blt_frz (by omega) hi
        have d1 : decide (((blt (drw 136 31 xs) i).1 : Int) < 256) = false := decide_eq_false (by omega)
        simp only [steps10_0, d0, d1, if_true, Bool.false_eq_true, if_false]
        exact ⟨_, rfl, by rw [hfr]⟩
    · have hi3 : i = N := by omega
      subst hi3
      right
      have d0 : decide (((i : Nat) : Int) < 1000) = false := decide_eq_false (by omega)
      simp only [steps10_0, d0, Bool.false_eq_true, if_false]
      exact ⟨_, rfl, rfl⟩
  have e1 := Ret.eq hloop
  have c0 : (((xs.length : Nat) : Int) != 48) = false := by rw [hl]; rfl
  have hle := blt_le (drw 136 31 xs) N
  rw [show ((8 : Nat) : Int) = 8 from rfl] at e0
  obtain ⟨q1, q2, q3, q4, q5, q6⟩ := s0
  simp only [Fs10, c0, Bool.false_eq_true, if_false, e0, Option.bind_some, e1]
  unfold outc
  by_cases h : (blt (drw 136 31 xs) N).1 < 256
  · rw [if_pos (decide_eq_true (by omega)), if_pos h]; rfl
  · rw [if_neg (by rw [decide_eq_false (by omega)]; decide), if_neg h]
end Go.Abs
