/- Unpacking; PackBack, the plain law. -/
import Derived.Test.YtpfcdkkbiemmpaaPLay2
set_option linter.unusedVariables false
set_option linter.unusedSimpArgs false
namespace Go.Abs
open Go.ChangeShapes Go.WideShapes

/-- bit k of some bytes -/
def bb (b : List Int) (k : Nat) : Bool := (b.getD (k / 8) 0).toNat.testBit (k % 8)
/-- number i of n bits each -/
def nthN (b : List Int) (n i : Nat) : Nat := nat2 (fun k => bb b (i * n + k)) n

theorem take_spec {b : List Int} {n : Nat} (hn : 1 ≤ n ∧ n ≤ 23) (hl : b.length = 32 * n) (hb : ∀ i, 0 ≤ b.getD i 0 ∧ b.getD i 0 < 256) : Ret (Fp23 (b, (n : Int))) fun r => ∀ i, i < 256 → r i = (nthN b n i : Int) := by
  simp only [Fp23]
  refine Ret.bind (Q := fun r => ∀ i, i < 256 → r.2 i = (nthN b n i : Int)) ?_ fun ⟨z1, z2⟩ h => ⟨_, rfl, h⟩
  refine loopO_inv (fun i s => ∃ (u : Nat) (f : Nat → Int), s = (b, (n : Int), (u : Int), ((8 * ((i * n + 7) / 8) - i * n : Nat) : Int), (((i * n + 7) / 8 : Nat) : Int), (i : Int), (fun _ => 0), f) ∧
      (∀ k, u.testBit k = (decide (k < 8 * ((i * n + 7) / 8) - i * n) && bb b (i * n + k))) ∧ ∀ k, k < i → f k = (nthN b n k : Int)) 256 ⟨0, fun _ => 0, by simp, fun k => by simp, fun k h => by omega⟩ ?_ ?_
  · rintro i _ hi ⟨u, f, rfl, hu, hf⟩
    have hin : i * n ≤ 255 * n := Nat.mul_le_mul (by omega) (Nat.le_refl _)
    have hin2 : (i + 1) * n = i * n + n := Nat.succ_mul i n
    have inner : Ret (loopO stepp23_1 (b, (n : Int), (u : Int), ((8 * ((i * n + 7) / 8) - i * n : Nat) : Int), (((i * n + 7) / 8 : Nat) : Int), (i : Int), (i : Int), (fun _ => 0), f)) fun y => ∃ v : Nat, y = (b, (n : Int), (v : Int), ((8 * ((i * n + n + 7) / 8) - i * n : Nat) : Int), (((i * n + n + 7) / 8 : Nat) : Int), (i : Int), (i : Int), (fun _ => 0), f) ∧
        ∀ k, v.testBit k = (decide (k < 8 * ((i * n + n + 7) / 8) - i * n) && bb b (i * n + k)) := by
      refine loopO_inv (fun j s => ∃ v : Nat, s = (b, (n : Int), (v : Int), ((8 * ((i * n + 7) / 8 + j) - i * n : Nat) : Int), (((i * n + 7) / 8 + j : Nat) : Int), (i : Int), (i : Int), (fun _ => 0), f) ∧
        ∀ k, v.testBit k = (decide (k < 8 * ((i * n + 7) / 8 + j) - i * n) && bb b (i * n + k))) ((i * n + n + 7) / 8 - (i * n + 7) / 8) ⟨u, rfl, hu⟩ ?_ ?_
      · rintro j _ hj ⟨v, rfl, hv⟩
        obtain ⟨A, hA⟩ : ∃ A, A = (i * n + 7) / 8 + j := ⟨_, rfl⟩
        rw [← hA] at hv ⊢
        have hAn : 8 * A - i * n < n := by omega
        have hbj := hb A
        have hv23 : v < 2 ^ 23 := Nat.lt_pow_two_of_testBit _ fun k hk => by
          rw [hv k, show decide (k < 8 * A - i * n) = false by simp; omega]; rfl
        have e23 : (2 : Nat) ^ 23 = 8388608 := rfl
        have hsm : (b.getD A 0).toNat <<< (8 * A - i * n) < 2 ^ 64 := by
          rw [Nat.shiftLeft_eq]
          exact Nat.lt_of_lt_of_le (Nat.mul_lt_mul_of_pos_right (show (b.getD A 0).toNat < 2 ^ 8 by omega) (Nat.pow_pos (by decide))) (by rw [← Nat.pow_add]; exact Nat.pow_le_pow_right (by decide) (by omega))
        have hor : bitsOr .u64 (v : Int) (shlI .u64 (IntKind.u64.wrap (b.getD A 0)) ((8 * A - i * n : Nat) : Int)) = ((v ||| (b.getD A 0).toNat <<< (8 * A - i * n) : Nat) : Int) := by
          rw [wu64 hbj.1 (by omega), shl64 hbj.1 (by omega) (by omega), Int.toNat_natCast, Nat.mod_eq_of_lt hsm, or64 nnn (nlt (by omega)) nnn (nlt hsm), Int.toNat_natCast, Int.toNat_natCast]
        refine ⟨_, ?_, v ||| (b.getD A 0).toNat <<< (8 * A - i * n), rfl, fun k => ?_⟩
        · simp only [stepp23_1]
          rw [if_pos (by simp; omega), if_pos (by rw [hl]; omega), if_pos (by omega), Int.toNat_natCast, hor, wi64 (by omega) (by omega), wi64 (by omega) (by omega)]
          simp only [Option.some.injEq, Sum.inl.injEq, Prod.mk.injEq, true_and, and_true]
          omega
        · rw [Nat.testBit_or, hv k, Nat.testBit_shiftLeft, show (i * n + 7) / 8 + (j + 1) = A + 1 by omega]
          by_cases c1 : k < 8 * A - i * n
          · rw [show decide (k ≥ 8 * A - i * n) = false by simp; omega, show decide (k < 8 * (A + 1) - i * n) = true by simp; omega]; simp [c1]
          · rw [show decide (k ≥ 8 * A - i * n) = true by simp; omega]
            simp only [c1, decide_false, Bool.false_and, Bool.false_or, Bool.true_and]
            by_cases c2 : k < 8 * (A + 1) - i * n
            · simp only [c2, decide_true, Bool.true_and]
              unfold bb
              rw [show (i * n + k) / 8 = A by omega, show (i * n + k) % 8 = k - (8 * A - i * n) by omega]
            · simp only [c2, decide_false, Bool.false_and]
              exact Nat.testBit_lt_two_pow (Nat.lt_of_lt_of_le (show _ < 2 ^ 8 by omega) (Nat.pow_le_pow_right (by decide) (by omega)))
      · rintro _ ⟨v, rfl, hv⟩
        have e : (i * n + 7) / 8 + ((i * n + n + 7) / 8 - (i * n + 7) / 8) = (i * n + n + 7) / 8 := by omega
        rw [e] at hv ⊢
        refine ⟨_, ?_, v, rfl, hv⟩
        simp only [stepp23_1]
        rw [if_neg (by simp; omega)]
    obtain ⟨y, h1, v, rfl, hv⟩ := inner
    have hv30 : v < 2 ^ 30 := Nat.lt_pow_two_of_testBit _ fun k hk => by
      rw [hv k, show decide (k < 8 * ((i * n + n + 7) / 8) - i * n) = false by simp; omega]; rfl
    have e30 : (2 : Nat) ^ 30 = 1073741824 := rfl
    have hx : IntKind.u32.wrap (bitsAnd .u64 (v : Int) (IntKind.u64.wrap (shlI .u64 1 (n : Int) - 1))) = (nthN b n i : Int) := by
      have hp1 : (2 : Int) ^ n ≤ 2 ^ 30 := ipow_le (by decide) (by omega)
      have hp2 : (0 : Int) < 2 ^ n := Int.pow_pos (by decide)
      have hp3 : (2 : Int) ^ 30 = 1073741824 := rfl
      have hm : ((2 : Int) ^ n - 1).toNat = 2 ^ n - 1 := by have := toNat_pow n; omega
      rw [shl1_64 n (by omega), wu64 (by omega) (by omega), and64 nnn (nlt (by omega)) (by omega) (by omega), Int.toNat_natCast, hm, Nat.and_two_pow_sub_one_eq_mod]
      have : v % 2 ^ n = nthN b n i := by
        unfold nthN
        apply nat2_eq
        intro k
        rw [Nat.testBit_mod_two_pow, hv k]
        by_cases c : k < n
        · rw [show decide (k < 8 * ((i * n + n + 7) / 8) - i * n) = true by simp; omega]; simp [c]
        · simp [c]
      rw [this, wu32 (by omega) (by have := Nat.mod_le v (2 ^ n); omega)]
    refine ⟨_, ?_, v >>> n, upd f i (nthN b n i : Int), rfl, ?_, ?_⟩
    · simp only [stepp23_0]
      rw [if_pos (by simp; omega), h1, Option.bind_some]
      simp only [hx]
      rw [if_pos (by omega), if_pos (by omega), if_pos (by omega), shr64 nnn (by omega) (by omega), wi64 (by omega) (by omega), wi64 (by omega) (by omega)]
      simp only [Int.toNat_natCast, Option.some.injEq, Sum.inl.injEq, Prod.mk.injEq, true_and, and_true]
      rw [hin2]
      refine ⟨by omega, by omega⟩
    · intro k
      rw [Nat.testBit_shiftRight, hv, hin2, show i * n + (n + k) = i * n + n + k by omega]
      congr 1
      apply decide_eq_decide.2; omega
    · intro k hk
      rw [upd_apply]
      by_cases e : k = i
      · rw [if_pos e, e]
      · rw [if_neg e]; exact hf k (by omega)
  · rintro _ ⟨u, f, rfl, hu, hf⟩
    refine ⟨((fun _ => 0), f), ?_, hf⟩
    simp only [stepp23_0]
    rw [if_neg (by simp)]

/-- what is taken is laid as the same bytes -/
theorem lay_take {b : List Int} {n : Nat} (hn : 1 ≤ n) (hl : b.length = 32 * n) (hb : ∀ i, 0 ≤ b.getD i 0 ∧ b.getD i 0 < 256) {l : Nat → Int} (h : ∀ i, i < 256 → l i = (nthN b n i : Int)) : LL (32 * n) (byteG l n) = b := by
  rw [← hl]
  have e := LL_of b
  rw [← e]
  rw [e]
  apply Eq.trans _ e
  apply LL_congr
  intro j hj
  have hbj := hb j
  unfold byteG
  have : nat2 (fun e => sb l n (8 * j + e)) 8 = (b.getD j 0).toNat := by
    have h8 : (b.getD j 0).toNat < 2 ^ 8 := by have : (2 : Nat) ^ 8 = 256 := rfl; omega
    rw [← nat2_self h8]
    apply nat2_congr
    intro k hk
    have hi : (8 * j + k) / n < 256 := Nat.div_lt_of_lt_mul (by omega)
    have hr : (8 * j + k) % n < n := Nat.mod_lt _ hn
    unfold sb
    rw [h _ hi, Int.toNat_natCast]
    unfold nthN
    rw [nat2_bit]
    simp only [hr, decide_true, Bool.true_and]
    unfold bb
    rw [Nat.div_add_mod' (8 * j + k) n, show (8 * j + k) / 8 = j by omega, show (8 * j + k) % 8 = k by omega]
  rw [this]; omega

/-- what is laid is taken as the same numbers -/
theorem take_lay {l : Nat → Int} {n : Nat} (hn : 1 ≤ n) (hl : InB l n) {i : Nat} (hi : i < 256) : (nthN (LL (32 * n) (byteG l n)) n i : Int) = l i := by
  have h := hl i hi
  have hx := hl.nat hi
  have : nthN (LL (32 * n) (byteG l n)) n i = (l i).toNat := by
    unfold nthN
    rw [← nat2_self hx]
    apply nat2_congr
    intro k hk
    have hin : i * n ≤ 255 * n := Nat.mul_le_mul (by omega) (Nat.le_refl _)
    unfold bb
    rw [LL_getD, if_pos (by omega)]
    unfold byteG
    rw [Int.toNat_natCast, nat2_bit]
    rw [show decide ((i * n + k) % 8 < 8) = true by simp; omega, Bool.true_and, show 8 * ((i * n + k) / 8) + (i * n + k) % 8 = i * n + k by omega]
    unfold sb
    rw [(at_div hk).1, (at_div hk).2]
  rw [this]; omega

theorem fromUp_loop {x : Nat → Int} (hx : ∀ i, i < 256 → 0 ≤ x i ∧ x i < 2147483648) :
    Ret (loopO stepp13_0 (x, 0, (fun _ => 0), (fun _ => 0))) fun r => match r with | .inl z => z.1 = 92 | .inr z => (∀ i, i < 256 → x i < 8380417) ∧ ∀ i, i < 256 → z.2 i = x i := by
  refine loopO_inv2 (fun i s => ∃ f : Nat → Int, s = (x, (i : Int), (fun _ => 0), f) ∧ ∀ k, k < i → x k < 8380417 ∧ f k = x k) 256 ⟨_, rfl, fun k h => by omega⟩ ?_
  rintro i _ hi ⟨f, rfl, hf⟩
  by_cases h : i = 256
  · right
    subst h
    refine ⟨.inr ((fun _ => 0), f), ?_, fun k hk => (hf k hk).1, fun k hk => (hf k hk).2⟩
    simp only [stepp13_0]; simp (disch := omega) only [decide_eq_true_eq, if_neg]
  · have hi' : i < 256 := by omega
    have hxi := hx i hi'
    by_cases c2 : x i ≥ 8380417
    · right
      refine ⟨.inl (92, (fun _ => 0)), ?_, rfl⟩
      simp only [stepp13_0]
      simp (disch := omega) only [decide_eq_true_eq, if_pos, Int.toNat_natCast, c2, if_true]
    · left
      refine ⟨_, hi', ?_, upd f i (x i), rfl, fun k hk => ?_⟩
      · simp only [stepp13_0]
        simp (disch := omega) only [decide_eq_true_eq, if_pos, Int.toNat_natCast, c2, if_false, wi64, wi32]
        rfl
      · rw [upd_apply]
        by_cases e : k = i
        · subst e; rw [if_pos rfl]; exact ⟨by omega, rfl⟩
        · rw [if_neg e]; exact hf k (by omega)

theorem nthN_lt {b : List Int} {n : Nat} (hn : n ≤ 23) (i : Nat) : ((nthN b n i : Nat) : Int) < 2 ^ n := by
  have := nat2_lt (fun k => bb b (i * n + k)) n
  have e := toNat_pow n
  have hp : (0 : Int) < 2 ^ n := Int.pow_pos (by decide)
  unfold nthN; omega
theorem nthN_lt2 {b : List Int} {n : Nat} (hn : n ≤ 23) (i : Nat) : ((nthN b n i : Nat) : Int) < 8388608 := by
  have h1 := nthN_lt (b := b) hn i
  have h2 : (2 : Int) ^ n ≤ 2 ^ 23 := ipow_le (by decide) hn
  rw [show (2 : Int) ^ 23 = 8388608 from rfl] at h2; omega

/-- bytes as a polynomial: it fails, or they are such bytes -/
theorem fromUp_spec {b : List Int} {bits : Int} (hbits : -9223372036854775808 ≤ bits ∧ bits < 9223372036854775808) (hb : ∀ i, 0 ≤ b.getD i 0 ∧ b.getD i 0 < 256) : Ret (Fp13 (b, bits)) fun y => y.2 ≠ 0 ∨ (y.2 = 0 ∧ ∃ n : Nat, bits = (n : Int) ∧ (1 ≤ n ∧ n ≤ 23) ∧ b.length = 32 * n ∧ (∀ i, i < 256 → y.1 i = (nthN b n i : Int) ∧ y.1 i < 8380417)) := by
  simp only [Fp13, decide_eq_false_iff_not, decide_eq_true_eq]
  by_cases c1 : bits < 1
  · rw [if_neg (by omega)]; exact ⟨_, rfl, .inl (by decide)⟩
  by_cases c2 : bits > 23
  · rw [if_pos c1, if_pos c2]; exact ⟨_, rfl, .inl (by decide)⟩
  rw [if_pos c1, if_neg c2, wi64 (by omega) (by omega)]
  by_cases c3 : (b.length : Int) = 32 * bits
  · obtain ⟨n, rfl⟩ : ∃ n : Nat, bits = (n : Int) := ⟨bits.toNat, by omega⟩
    have : ¬ ((b.length : Int) != 32 * (n : Int)) = true := by simpa using c3
    rw [if_neg this]
    refine (take_spec (n := n) (by omega) (by omega) hb).bind fun l hl => ?_
    obtain ⟨r, h1, h2⟩ := fromUp_loop (x := l) fun i hi => by
      rw [hl i hi]; have := nthN_lt2 (b := b) (n := n) (by omega) i; omega
    rw [h1, Option.bind_some]
    rcases r with ⟨z1, z2⟩ | ⟨z1, z2⟩
    · exact ⟨_, rfl, .inl (by show z1 ≠ 0; rw [show z1 = 92 from h2]; decide)⟩
    · refine ⟨_, rfl, .inr ⟨rfl, n, rfl, by omega, by omega, fun i hi => ?_⟩⟩
      exact ⟨(h2.2 i hi).trans (hl i hi), by
        have e : z2 i = l i := h2.2 i hi
        show z2 i < _
        rw [e]; exact h2.1 i hi⟩
  · have : ((b.length : Int) != 32 * bits) = true := by simpa using c3
    rw [if_pos this]; exact ⟨_, rfl, .inl (by decide)⟩

theorem fromUp_yes {b : List Int} {n : Nat} (hn : 1 ≤ n ∧ n ≤ 23) (hl : b.length = 32 * n) (hb : ∀ i, 0 ≤ b.getD i 0 ∧ b.getD i 0 < 256) (hq : ∀ i, i < 256 → ((nthN b n i : Nat) : Int) < 8380417) : Ret (Fp13 (b, (n : Int))) fun y => y.2 = 0 ∧ ∀ i, i < 256 → y.1 i = (nthN b n i : Int) := by
  simp only [Fp13, decide_eq_false_iff_not, decide_eq_true_eq]
  rw [if_pos (by omega), if_neg (by omega), wi64 (by omega) (by omega)]
  have : ¬ ((b.length : Int) != 32 * (n : Int)) = true := by simp; omega
  rw [if_neg this]
  refine (take_spec hn hl hb).bind fun l hl => ?_
  obtain ⟨r, h1, h2⟩ := fromUp_loop (x := l) fun i hi => by
    rw [hl i hi]; have := hq i hi; omega
  have hl2 : loopO stepp13_0 (l, 0, (fun _ => 0), (fun _ => 0)) = loopO stepp13_0 (l, 0, (fun _ => 0), (fun _ => 0)) := rfl
  -- it does not fail
  have hr : Ret (loopO stepp13_0 (l, 0, (fun _ => 0), (fun _ => 0))) fun r => match r with | .inl _ => False | .inr z => ∀ i, i < 256 → z.2 i = l i := by
    refine loopO_inv (fun i s => ∃ f : Nat → Int, s = (l, (i : Int), (fun _ => 0), f) ∧ ∀ k, k < i → f k = l k) 256 ⟨_, rfl, fun k h => by omega⟩ ?_ ?_
    · rintro i _ hi ⟨f, rfl, hf⟩
      have hxi := hq i hi
      have hli := hl i hi
      have c2 : ¬ l i ≥ 8380417 := by omega
      refine ⟨_, ?_, upd f i (l i), rfl, fun k hk => ?_⟩
      · simp only [stepp13_0]
        simp (disch := omega) only [decide_eq_true_eq, if_pos, Int.toNat_natCast, c2, if_false, wi64, wi32]
        rfl
      · rw [upd_apply]
        by_cases e : k = i
        · subst e; rw [if_pos rfl]
        · rw [if_neg e]; exact hf k (by omega)
    · rintro _ ⟨f, rfl, hf⟩
      refine ⟨.inr ((fun _ => 0), f), ?_, hf⟩
      simp only [stepp13_0]; simp (disch := omega) only [decide_eq_true_eq, if_neg]
  obtain ⟨r, h1, h2⟩ := hr
  rw [h1, Option.bind_some]
  rcases r with z | ⟨z1, z2⟩
  · exact absurd h2 id
  · exact ⟨_, rfl, rfl, fun i hi => (h2 i hi).trans (hl i hi)⟩

/-! ### Downward -/
theorem pmod_spec {x : Int} (h : -9223372036854775808 ≤ x ∧ x < 9223372036854775808) : Fp26 x = some (x % 8380417) := by
  simp only [Fp26, decide_eq_true_eq]
  have e : x.tmod 8380417 = if 0 ≤ x then x % 8380417 else -((-x) % 8380417) := by
    split
    · exact tmodP (by assumption)
    · rw [show x = -(-x) by omega, Int.neg_tmod, tmodP (x := -x) (by omega), Int.neg_neg]
  rw [e]
  by_cases c : 0 ≤ x
  · rw [if_pos c, if_neg (by omega), wi32 (by omega) (by omega)]
  · rw [if_neg c]
    by_cases c2 : -((-x) % 8380417) < 0
    · rw [if_pos c2, wi64 (by omega) (by omega), wi32 (by omega) (by omega)]; congr 1; omega
    · rw [if_neg c2, wi32 (by omega) (by omega)]; congr 1; omega

theorem rmod_spec {x : Int} (h : -9223372036854775808 ≤ x ∧ x < 9223372036854775808) : Fp22 x = some (x % 8380417) := pmod_spec h

theorem reduce_spec9 {p : Nat → Int} (hp : ∀ i, i < 256 → -2147483648 ≤ p i ∧ p i < 2147483648) : Ret (Fp24 p) fun r => ∀ i, i < 256 → r i = p i % 8380417 := by
  simp only [Fp24]
  refine Ret.bind (Q := fun r => ∀ i, i < 256 → r.1 i = p i % 8380417) ?_ fun ⟨z1, z2⟩ h => ⟨_, rfl, h⟩
  refine loopO_inv (fun i s => ∃ f : Nat → Int, s = (p, (i : Int), f, (fun _ => 0)) ∧ ∀ k, k < i → f k = p k % 8380417) 256 ⟨_, rfl, fun k h => by omega⟩ ?_ ?_
  · rintro i _ hi ⟨f, rfl, hf⟩
    have hpi := hp i hi
    refine ⟨_, ?_, upd f i (p i % 8380417), rfl, fun k hk => ?_⟩
    · simp only [stepp24_0]
      simp (disch := omega) only [decide_eq_true_eq, if_pos, Int.toNat_natCast, wi64]
      rw [pmod_spec (by omega), Option.bind_some]
      rfl
    · rw [upd_apply]
      by_cases e : k = i
      · subst e; rw [if_pos rfl]
      · rw [if_neg e]; exact hf k (by omega)
  · rintro _ ⟨f, rfl, hf⟩
    refine ⟨(f, (fun _ => 0)), ?_, hf⟩
    simp only [stepp24_0]; simp (disch := omega) only [decide_eq_true_eq, if_neg]

theorem rreduce_spec9 {p : Nat → Int} (hp : ∀ i, i < 256 → -2147483648 ≤ p i ∧ p i < 2147483648) : Ret (Fp12 p) fun r => ∀ i, i < 256 → r i = p i % 8380417 := by
  simp only [Fp12]
  refine Ret.bind (Q := fun r => ∀ i, i < 256 → r.2 i = p i % 8380417) ?_ fun ⟨z1, z2⟩ h => ⟨_, rfl, h⟩
  refine loopO_inv (fun i s => ∃ f : Nat → Int, s = ((i : Int), p, (fun _ => 0), f) ∧ ∀ k, k < i → f k = p k % 8380417) 256 ⟨_, rfl, fun k h => by omega⟩ ?_ ?_
  · rintro i _ hi ⟨f, rfl, hf⟩
    have hpi := hp i hi
    refine ⟨_, ?_, upd f i (p i % 8380417), rfl, fun k hk => ?_⟩
    · simp only [stepp12_0]
      simp (disch := omega) only [decide_eq_true_eq, if_pos, Int.toNat_natCast, wi64]
      rw [rmod_spec (by omega), Option.bind_some]
      rfl
    · rw [upd_apply]
      by_cases e : k = i
      · subst e; rw [if_pos rfl]
      · rw [if_neg e]; exact hf k (by omega)
  · rintro _ ⟨f, rfl, hf⟩
    refine ⟨((fun _ => 0), f), ?_, hf⟩
    simp only [stepp12_0]; simp (disch := omega) only [decide_eq_true_eq, if_neg]

theorem fromDown_loop {x : Nat → Int} {top : Int} (ht : 0 ≤ top ∧ top ≤ 4194304) (hx : ∀ i, i < 256 → 0 ≤ x i ∧ x i < 8388608) :
    Ret (loopO stepp14_0 (top, x, 0, (fun _ => 0), (fun _ => 0))) fun r => match r with | .inl z => z.1 = 92 ∧ ¬ (∀ i, i < 256 → -4190208 ≤ top - x i ∧ top - x i ≤ 4190208) | .inr z => (∀ i, i < 256 → -4190208 ≤ top - x i ∧ top - x i ≤ 4190208) ∧ ∀ i, i < 256 → z.2 i = top - x i := by
  refine loopO_inv2 (fun i s => ∃ f : Nat → Int, s = (top, x, (i : Int), (fun _ => 0), f) ∧ ∀ k, k < i → (-4190208 ≤ top - x k ∧ top - x k ≤ 4190208) ∧ f k = top - x k) 256 ⟨_, rfl, fun k h => by omega⟩ ?_
  rintro i _ hi ⟨f, rfl, hf⟩
  by_cases h : i = 256
  · right
    subst h
    refine ⟨.inr ((fun _ => 0), f), ?_, fun k hk => (hf k hk).1, fun k hk => (hf k hk).2⟩
    simp only [stepp14_0]; simp (disch := omega) only [decide_eq_true_eq, if_neg]
  · have hi' : i < 256 := by omega
    have hxi := hx i hi'
    have hw : IntKind.i32.wrap (top - IntKind.i32.wrap (x i)) = top - x i := by rw [wi32 (n := x i) (by omega) (by omega), wi32 (by omega) (by omega)]
    by_cases c1 : top - x i < -4190208
    · right
      refine ⟨.inl (92, (fun _ => 0)), ?_, rfl, fun ho => by have := ho i hi'; omega⟩
      simp only [stepp14_0]
      simp (disch := omega) only [decide_eq_true_eq, if_pos, Int.toNat_natCast, hw, c1, decide_true, Bool.true_eq_false, if_false]
    by_cases c2 : top - x i > 4190208
    · right
      refine ⟨.inl (92, (fun _ => 0)), ?_, rfl, fun ho => by have := ho i hi'; omega⟩
      simp only [stepp14_0]
      simp (disch := omega) only [decide_eq_true_eq, if_pos, Int.toNat_natCast, hw, c1, c2, decide_true, decide_false, if_true]
    · left
      refine ⟨_, hi', ?_, upd f i (top - x i), rfl, fun k hk => ?_⟩
      · simp only [stepp14_0]
        simp (disch := omega) only [decide_eq_true_eq, if_pos, Int.toNat_natCast, hw, c1, c2, decide_true, decide_false, if_true, if_false, Bool.false_eq_true, wi64]
        rfl
      · rw [upd_apply]
        by_cases e : k = i
        · subst e; rw [if_pos rfl]; exact ⟨⟨by omega, by omega⟩, rfl⟩
        · rw [if_neg e]; exact hf k (by omega)

theorem fromDown_spec {b : List Int} {bits top : Int} (hbits : -9223372036854775808 ≤ bits ∧ bits < 9223372036854775808) (ht : 0 ≤ top ∧ top ≤ 4194304) (hb : ∀ i, 0 ≤ b.getD i 0 ∧ b.getD i 0 < 256) : Ret (Fp14 (b, top, bits)) fun y => y.2 ≠ 0 ∨ (y.2 = 0 ∧ ∃ n : Nat, bits = (n : Int) ∧ (1 ≤ n ∧ n ≤ 22) ∧ b.length = 32 * n ∧ (∀ i, i < 256 → (-4190208 ≤ top - (nthN b n i : Int) ∧ top - (nthN b n i : Int) ≤ 4190208) ∧ y.1 i = (top - (nthN b n i : Int)) % 8380417)) := by
  simp only [Fp14]
  by_cases c : bits < 1 ∨ bits > 22
  · have h19 : Fp19 (top, bits) = some true := by
      simp only [Fp19]
      by_cases c1 : bits < 1
      · simp [c1]
      · have c2 : bits > 22 := by omega
        simp [c1, c2]
    rw [h19, Option.bind_some, if_pos rfl]; exact ⟨_, rfl, .inl (by decide)⟩
  obtain ⟨n, rfl⟩ : ∃ n : Nat, bits = (n : Int) := ⟨bits.toNat, by omega⟩
  rw [wrong_no (n := n) (by omega) ht, Option.bind_some, if_neg (by decide), wi64 (by omega) (by omega)]
  by_cases c3 : (b.length : Int) = 32 * (n : Int)
  · have : ¬ ((b.length : Int) != 32 * (n : Int)) = true := by simpa using c3
    rw [if_neg this]
    refine (take_spec (n := n) (by omega) (by omega) hb).bind fun l hl => ?_
    obtain ⟨r, h1, h2⟩ := fromDown_loop (x := l) ht fun i hi => by
      rw [hl i hi]; have := nthN_lt2 (b := b) (n := n) (by omega) i; omega
    rw [h1, Option.bind_some]
    rcases r with ⟨z1, z2⟩ | ⟨z1, z2⟩
    · exact ⟨_, rfl, .inl (by show z1 ≠ 0; rw [show z1 = 92 from h2.1]; decide)⟩
    · obtain ⟨g, h3, h4⟩ := reduce_spec9 (p := z2) fun i hi => by have := h2.1 i hi; have e : z2 i = top - l i := h2.2 i hi; omega
      simp only []
      rw [h3, Option.bind_some]
      refine ⟨_, rfl, .inr ⟨rfl, n, rfl, by omega, by omega, fun i hi => ?_⟩⟩
      have e : z2 i = top - l i := h2.2 i hi
      have e2 := h2.1 i hi
      rw [hl i hi] at e e2
      exact ⟨e2, by show g i = _; rw [h4 i hi, e]⟩
  · have : ((b.length : Int) != 32 * (n : Int)) = true := by simpa using c3
    rw [if_pos this]; exact ⟨_, rfl, .inl (by decide)⟩

theorem fromDown_yes {b : List Int} {top : Int} {n : Nat} (hn : 1 ≤ n ∧ n ≤ 22) (ht : 0 ≤ top ∧ top ≤ 4194304) (hl : b.length = 32 * n) (hb : ∀ i, 0 ≤ b.getD i 0 ∧ b.getD i 0 < 256) (hq : ∀ i, i < 256 → -4190208 ≤ top - (nthN b n i : Int) ∧ top - (nthN b n i : Int) ≤ 4190208) :
    Ret (Fp14 (b, top, (n : Int))) fun y => y.2 = 0 ∧ ∀ i, i < 256 → y.1 i = (top - (nthN b n i : Int)) % 8380417 := by
  simp only [Fp14]
  rw [wrong_no (n := n) (by omega) ht, Option.bind_some, if_neg (by decide), wi64 (by omega) (by omega)]
  have : ¬ ((b.length : Int) != 32 * (n : Int)) = true := by simp; omega
  rw [if_neg this]
  refine (take_spec (n := n) (by omega) (by omega) hb).bind fun l hl => ?_
  obtain ⟨r, h1, h2⟩ := fromDown_loop (x := l) ht fun i hi => by
    rw [hl i hi]; have := nthN_lt2 (b := b) (n := n) (by omega) i; omega
  rw [h1, Option.bind_some]
  rcases r with ⟨z1, z2⟩ | ⟨z1, z2⟩
  · exact absurd (fun i hi => by rw [hl i hi]; exact hq i hi) h2.2
  · obtain ⟨g, h3, h4⟩ := reduce_spec9 (p := z2) fun i hi => by have := h2.1 i hi; have e : z2 i = top - l i := h2.2 i hi; omega
    simp only []
    rw [h3, Option.bind_some]
    refine ⟨_, rfl, rfl, fun i hi => ?_⟩
    have e : z2 i = top - l i := h2.2 i hi
    rw [hl i hi] at e
    show g i = _; rw [h4 i hi, e]

theorem cen_mod {c : Int} (h : -4190208 ≤ c ∧ c ≤ 4190208) : cen (c % 8380417) = c := by unfold cen; split <;> omega
theorem mod_cen {x : Int} (h : 0 ≤ x ∧ x < 8380417) : cen x % 8380417 = x := by unfold cen; split <;> omega

theorem LL_bytes {l : Nat → Int} {n m : Nat} (i : Nat) : 0 ≤ (LL m (byteG l n)).getD i 0 ∧ (LL m (byteG l n)).getD i 0 < 256 := by
  rw [LL_getD]; split
  · exact byteG_lt l n i
  · omega

theorem packBack_true {b : List Int} {p : Nat → Int} {bits : Int} (hb : ∀ i, 0 ≤ b.getD i 0 ∧ b.getD i 0 < 256) (hbl : b.length ≤ 140737488351232) (hp : ∀ i, i < 256 → -2147483648 ≤ p i ∧ p i < 2147483648) (hbits : -9223372036854775808 ≤ bits ∧ bits < 9223372036854775808) : Fp4 (b, p, bits) = some true := by
  obtain ⟨q, hq, kq⟩ := rreduce_spec9 hp
  have kq2 : ∀ i, i < 256 → 0 ≤ q i ∧ q i < 8380417 := fun i hi => by rw [kq i hi]; omega
  obtain ⟨⟨x, e⟩, h1, h2⟩ := fromUp_spec hbits hb
  obtain ⟨⟨y, f⟩, h3, h4⟩ := fromDown_spec (top := 524288) hbits (by omega) hb
  simp only at h2 h4
  -- bytes, there and back
  have same := same_self b hbl
  have u1 : e = 0 → Fp7 (x, bits) = some (b, 0) := by
    intro he
    rcases h2 with h2 | ⟨_, n, rfl, hn, hl, hx⟩
    · exact absurd he h2
    · have hok : OkU x n := fun i hi => by
        obtain ⟨g1, g2⟩ := hx i hi
        exact ⟨by omega, g2, by rw [g1]; exact nthN_lt (by omega) i⟩
      rw [up_yes hn hok, lay_take hn.1 hl hb fun i hi => (hx i hi).1]
  have u2 : f = 0 → Fp8 (y, 524288, bits) = some (b, 0) := by
    intro hf
    rcases h4 with h4 | ⟨_, n, rfl, hn, hl, hx⟩
    · exact absurd hf h4
    · have hdn : ∀ i, i < 256 → dn 524288 y i = (nthN b n i : Int) := fun i hi => by
        obtain ⟨g1, g2⟩ := hx i hi
        unfold dn; rw [g2, cen_mod g1]; omega
      have hok : OkD 524288 y n := ⟨fun i hi => by rw [(hx i hi).2]; omega, fun i hi => by rw [hdn i hi]; exact ⟨by omega, nthN_lt (by omega) i⟩⟩
      rw [down_yes hn (by omega) hok, lay_take hn.1 hl hb hdn]
  -- polynomials, there and back
  have hokq : OkU q 23 := fun i hi => ⟨(kq2 i hi).1, (kq2 i hi).2, by have := kq2 i hi; rw [show (2 : Int) ^ 23 = 8388608 from rfl]; omega⟩
  have v1 := up_yes (n := 23) (by omega) hokq
  rw [show ((23 : Nat) : Int) = 23 from rfl] at v1
  have inq : InB q 23 := hokq.inB fun _ _ => rfl
  obtain ⟨⟨w, g⟩, v2, rfl, v3⟩ := fromUp_yes (n := 23) (b := LL (32 * 23) (byteG q 23)) (by omega) (by simp) LL_bytes fun i hi => by rw [take_lay (by omega) inq hi]; exact (kq2 i hi).2
  rw [show ((23 : Nat) : Int) = 23 from rfl] at v2
  have a1 : arrEq 256 w q = true := arrEq_true fun i hi => by have := v3 i hi; rw [take_lay (by omega) inq hi] at this; exact this
  have len1 : (((LL (32 * 23) (byteG q 23)).length : Int) == 736) = true := by simp
  have down : Fp8 (q, 524288, 20) = some ([], 92) ∨ ∃ m z, Fp8 (q, 524288, 20) = some (m, 0) ∧ ((m.length : Int) != 640) = false ∧ Fp14 (m, 524288, 20) = some (z, 0) ∧ arrEq 256 z q = true := by
    by_cases hok : OkD 524288 q 20
    · right
      have ind : InB (dn 524288 q) 20 := hok.inB fun _ _ => rfl
      have d1 := down_yes (n := 20) (by omega) (by omega) hok
      rw [show ((20 : Nat) : Int) = 20 from rfl] at d1
      have ek : ∀ i, i < 256 → (524288 : Int) - (nthN (LL (32 * 20) (byteG (dn 524288 q) 20)) 20 i : Int) = cen (q i) := fun i hi => by rw [take_lay (by omega) ind hi]; unfold dn; omega
      obtain ⟨⟨z, g⟩, d2, rfl, d3⟩ := fromDown_yes (n := 20) (top := 524288) (b := LL (32 * 20) (byteG (dn 524288 q) 20)) (by omega) (by omega) (by simp) LL_bytes fun i hi => by rw [ek i hi]; exact cen_bound (kq2 i hi)
      rw [show ((20 : Nat) : Int) = 20 from rfl] at d2
      refine ⟨_, z, d1, by simp, d2, arrEq_true fun i hi => ?_⟩
      have := d3 i hi
      rw [ek i hi, mod_cen (kq2 i hi)] at this
      exact this
    · left
      have d1 := down_no (n := 20) (top := 524288) (by omega) (by omega) hok
      exact d1
  have c0 : ((0 : Int) == 0) = true := rfl
  have c1 : ((0 : Int) != 0) = false := rfl
  have c92 : ((92 : Int) == 0) = false := rfl
  by_cases he : e = 0
  · have k1 := u1 he
    subst he
    by_cases hf : f = 0
    · have k2 := u2 hf
      subst hf
      rcases down with hd | ⟨m, z, d1, d2, d3, d4⟩
      · simp only [Fp4, pawake_true, hq, h1, h3, k1, k2, same, v1, v2, hd, Option.bind_some, c0, c1, c92, a1, len1, if_true, Bool.not_true, Bool.false_eq_true, if_false]
      · simp only [Fp4, pawake_true, hq, h1, h3, k1, k2, same, v1, v2, d1, d2, d3, d4, Option.bind_some, c0, c1, c92, a1, len1, if_true, Bool.not_true, Bool.false_eq_true, if_false]
    · have cf : (f == 0) = false := by simpa using hf
      rcases down with hd | ⟨m, z, d1, d2, d3, d4⟩
      · simp only [Fp4, pawake_true, hq, h1, h3, k1, cf, same, v1, v2, hd, Option.bind_some, c0, c1, c92, a1, len1, if_true, Bool.not_true, Bool.false_eq_true, if_false]
      · simp only [Fp4, pawake_true, hq, h1, h3, k1, cf, same, v1, v2, d1, d2, d3, d4, Option.bind_some, c0, c1, c92, a1, len1, if_true, Bool.not_true, Bool.false_eq_true, if_false]
  · have ce : (e == 0) = false := by simpa using he
    by_cases hf : f = 0
    · have k2 := u2 hf
      subst hf
      rcases down with hd | ⟨m, z, d1, d2, d3, d4⟩
      · simp only [Fp4, pawake_true, hq, h1, h3, ce, k2, same, v1, v2, hd, Option.bind_some, c0, c1, c92, a1, len1, if_true, Bool.not_true, Bool.false_eq_true, if_false]
      · simp only [Fp4, pawake_true, hq, h1, h3, ce, k2, same, v1, v2, d1, d2, d3, d4, Option.bind_some, c0, c1, c92, a1, len1, if_true, Bool.not_true, Bool.false_eq_true, if_false]
    · have cf : (f == 0) = false := by simpa using hf
      rcases down with hd | ⟨m, z, d1, d2, d3, d4⟩
      · simp only [Fp4, pawake_true, hq, h1, h3, ce, cf, same, v1, v2, hd, Option.bind_some, c0, c1, c92, a1, len1, if_true, Bool.not_true, Bool.false_eq_true, if_false]
      · simp only [Fp4, pawake_true, hq, h1, h3, ce, cf, same, v1, v2, d1, d2, d3, d4, Option.bind_some, c0, c1, c92, a1, len1, if_true, Bool.not_true, Bool.false_eq_true, if_false]

theorem packBack_law {x0 : List Int} {x1 : Nat → Int} {x2 : Int} (h0 : ∀ y ∈ x0, (Lit.int .u8 y).wf = true) (g0 : x0.length * 1 ≤ 140737488351232) (h1 : ∀ i, i < 256 → (Lit.int .i32 (x1 i)).wf = true) (h2 : (Lit.int .i64 x2).wf = true) : Fp4 (x0, x1, x2) = some true :=
  packBack_true (bytes_in h0) (by omega) (fun i hi => by have := bounds_i32 (h1 i hi); omega) (by have := bounds_i64 h2; omega)
end Go.Abs
