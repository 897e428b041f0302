/- Sums and differences: the plain law. -/
import Derived.Test.YtamclijpaplnlaaW1
import Derived.Test.YtamclijpaplnlaaWPure0
set_option linter.unusedVariables false
set_option linter.unusedSimpArgs false
namespace Go.Abs

abbrev B64 : Int := 18446744073709551616
abbrev B16 : Int := 65536

theorem mix (f g : Nat → Int) (i : Nat) : upd (fun k => if k < i then f k else g k) i (f i) = fun k => if k < i + 1 then f k else g k := by
  funext k
  by_cases h : k = i
  · subst h; simp [upd]
  · have hb : Nat.beq k i = false := by
      cases hb : Nat.beq k i
      · rfl
      · exact absurd (Nat.eq_of_beq_eq_true hb) h
    simp only [upd, hb, cond_false]
    by_cases h1 : k < i
    · rw [if_pos h1, if_pos (by omega)]
    · rw [if_neg h1, if_neg (by omega)]
theorem mix0 (f g : Nat → Int) : (fun k => if k < 0 then f k else g k) = g := by funext k; simp

theorem wrap64 {n : Int} (h : -9223372036854775808 ≤ n ∧ n < 9223372036854775808) : IntKind.i64.wrap n = n := by rw [IntKind.wrap_i64]; omega

theorem add64F_eq {x y c : Int} (hx : 0 ≤ x) (hy : 0 ≤ y) (hc : c = 0 ∨ c = 1) : add64F (x, y, c) = some ((x + y + c) % B64, (x + y + c) / B64) := by
  have h : c.toNat ≤ 1 := by omega
  simp only [add64F, h, if_true, Option.some.injEq, Prod.mk.injEq, B64]
  omega
theorem sub64F_eq {x y c : Int} (hx : 0 ≤ x ∧ x < 18446744073709551616) (hy : 0 ≤ y ∧ y < 18446744073709551616) (hc : c = 0 ∨ c = 1) : sub64F (x, y, c) = some ((x - y - c) % B64, if x < y + c then 1 else 0) := by
  have h : c.toNat ≤ 1 := by omega
  simp only [sub64F, h, if_true, Option.some.injEq, Prod.mk.injEq, B64]
  refine ⟨by omega, ?_⟩
  by_cases h1 : x < y + c
  · rw [if_pos h1, if_pos (by omega)]
  · rw [if_neg h1, if_neg (by omega)]

theorem add_spec {a b : Nat → Int} (ha : Dig B64 a 4) (hb : Dig B64 b 4) : ∃ z, Fw10 (a, b) = some (z, carry B64 a b 4) ∧ ∀ i, i < 4 → z i = sumD B64 a b i := by
  have hc : ∀ n, n ≤ 4 → carry B64 a b n = 0 ∨ carry B64 a b n = 1 := fun n hn => carry_01 (by decide) n fun i hi => ⟨ha i (by omega), hb i (by omega)⟩
  refine ⟨fun k => if k < 4 then sumD B64 a b k else a k, ?_, fun i hi => if_pos hi⟩
  have h := loopO_run (step := stepw10_0) (fun i : Nat => (carry B64 a b i, (i : Int), (fun k => if k < i then sumD B64 a b k else a k), b, (fun _ => (0 : Int)))) 4 (carry B64 a b 4, (fun k => if k < 4 then sumD B64 a b k else a k), (fun _ => 0)) ?_ ?_
  · have hm := mix0 (sumD B64 a b) a
    simp only [hm] at h
    have h4 := hc 4 (by omega)
    simp only [Fw10]
    have h' : loopO stepw10_0 (0, 0, a, b, fun _ => 0) = _ := h
    rw [h']
    simp only [Option.bind_some]
    rw [wrap64 (by omega)]
  · intro i hi
    have h1 : ((i : Int) < 4) := by omega
    have h2 : (0 : Int) ≤ (i : Int) := by omega
    simp only [stepw10_0, h1, h2, decide_true, if_true, and_self, Int.toNat_natCast, Nat.lt_irrefl, if_false]
    rw [add64F_eq (ha i hi).1 (hb i hi).1 (hc i (by omega))]
    simp only [Option.bind_some, h1, h2, and_self, if_true]
    rw [wrap64 (by omega)]
    have := mix (sumD B64 a b) a i
    rw [show sumD B64 a b i = (a i + b i + carry B64 a b i) % B64 from rfl] at this
    rw [this]
    rfl
  · simp [stepw10_0]

theorem sub_spec {a b : Nat → Int} (ha : Dig B64 a 4) (hb : Dig B64 b 4) : ∃ z, Fw11 (a, b) = some (z, borrow B64 a b 4) ∧ ∀ i, i < 4 → z i = difD B64 a b i := by
  have hc : ∀ n, borrow B64 a b n = 0 ∨ borrow B64 a b n = 1 := borrow_01 B64 a b
  refine ⟨fun k => if k < 4 then difD B64 a b k else a k, ?_, fun i hi => if_pos hi⟩
  have h := loopO_run (step := stepw11_0) (fun i : Nat => (borrow B64 a b i, (i : Int), (fun k => if k < i then difD B64 a b k else a k), b, (fun _ => (0 : Int)))) 4 (borrow B64 a b 4, (fun k => if k < 4 then difD B64 a b k else a k), (fun _ => 0)) ?_ ?_
  · have hm := mix0 (difD B64 a b) a
    simp only [hm] at h
    have h4 := hc 4
    simp only [Fw11]
    have h' : loopO stepw11_0 (0, 0, a, b, fun _ => 0) = _ := h
    rw [h']
    simp only [Option.bind_some]
    rw [wrap64 (by omega)]
  · intro i hi
    have h1 : ((i : Int) < 4) := by omega
    have h2 : (0 : Int) ≤ (i : Int) := by omega
    simp only [stepw11_0, h1, h2, decide_true, if_true, and_self, Int.toNat_natCast, Nat.lt_irrefl, if_false]
    rw [sub64F_eq (ha i hi) (hb i hi) (hc i)]
    simp only [Option.bind_some, h1, h2, and_self, if_true]
    rw [wrap64 (by omega)]
    have := mix (difD B64 a b) a i
    rw [show difD B64 a b i = (a i - b i - borrow B64 a b i) % B64 from rfl] at this
    rw [this]
    rfl
  · simp [stepw11_0]

/-! ### The document's digits -/
/-- the 16 digits of a number of four words -/
def d16 (a : Nat → Int) (i : Nat) : Int := a (i / 4) / B16 ^ (i % 4) % B16

theorem tdiv16 {x : Int} (h : 0 ≤ x) : x.tdiv 65536 = x / 65536 := Int.tdiv_eq_ediv_of_nonneg h
theorem tmod16 {x : Int} (h : 0 ≤ x) : x.tmod 65536 = x % 65536 := Int.tmod_eq_emod_of_nonneg h

theorem digits_inner (xs : List Int) (k : Int) (x : Int) (hx : 0 ≤ x ∧ x < 18446744073709551616) (r : List Int) (hr : r.length ≤ 1000) :
    loopO stepw47_1 (xs, k, x, 0, r) = some (xs, k, r ++ [x % 65536, x / 65536 % 65536, x / 65536 / 65536 % 65536, x / 65536 / 65536 / 65536 % 65536]) := by
  have key : ∀ (x : Int) (i : Int) (r : List Int), 0 ≤ x ∧ x < 18446744073709551616 → 0 ≤ i ∧ i < 4 → r.length ≤ 1010 →
      stepw47_1 (xs, k, x, i, r) = some (.inl (xs, k, x / 65536, i + 1, r ++ [x % 65536])) := by
    intro x i r hx hi hr
    have h1 : x.tmod 65536 = x % 65536 := tmod16 hx.1
    have h2 : x.tdiv 65536 = x / 65536 := tdiv16 hx.1
    have h3 : IntKind.u32.wrap (x % 65536) = x % 65536 := by rw [IntKind.wrap_u32]; omega
    have h4 : IntKind.u64.wrap (x / 65536) = x / 65536 := by rw [IntKind.wrap_u64]; omega
    have h5 : okBytes (r.length + 1) 4 := by unfold okBytes; omega
    have h6 : (List.replicate 1 (0 : Int)).set 0 (x % 65536) = [x % 65536] := rfl
    have h7 : decide (i < 4) = true := decide_eq_true hi.2
    simp only [stepw47_1, h7, if_true, h1, h2, h3, h4, h6, List.length_singleton, h5]
    rw [wrap64 (by omega)]
  rw [loopO_eq, key x 0 r hx (by omega) (by omega)]
  simp only []
  rw [loopO_eq, key _ _ _ (by omega) (by omega) (by simp; omega)]
  simp only []
  rw [loopO_eq, key _ _ _ (by omega) (by omega) (by simp; omega)]
  simp only []
  rw [loopO_eq, key _ _ _ (by omega) (by omega) (by simp; omega)]
  simp only []
  rw [loopO_eq]
  simp [stepw47_1]

theorem d16_at (F : Nat → Int) (i j : Nat) (hj : j < 4) : d16 F (4 * i + j) = F i / B16 ^ j % B16 := by
  unfold d16
  rw [show (4 * i + j) / 4 = i by omega, show (4 * i + j) % 4 = j by omega]

def LL (n : Nat) (f : Nat → Int) : List Int := (List.range n).map f
@[simp] theorem LL_length (n : Nat) (f : Nat → Int) : (LL n f).length = n := by simp [LL]
theorem LL_getD (n : Nat) (f : Nat → Int) (i : Nat) : (LL n f).getD i 0 = if i < n then f i else 0 := by
  simp only [LL, List.getD_eq_getElem?_getD, List.getElem?_map]
  by_cases h : i < n
  · rw [if_pos h, List.getElem?_range h]; rfl
  · rw [if_neg h, List.getElem?_eq_none (by simp; omega)]; rfl
theorem LL_set (n : Nat) (f : Nat → Int) (i : Nat) (v : Int) : (LL n f).set i v = LL n (fun k => if k = i then v else f k) := by
  apply List.ext_getElem?
  intro k
  simp only [LL, List.getElem?_set, List.getElem?_map]
  by_cases hk : i = k
  · subst hk
    by_cases h : i < n
    · simp [h]
    · simp [h]
  · rw [if_neg hk]
    by_cases h : k < n
    · rw [List.getElem?_range h]; simp; intro e; exact absurd e.symm hk
    · rw [List.getElem?_eq_none (by simp; omega)]; rfl
theorem LL_congr {n : Nat} {f g : Nat → Int} (h : ∀ i, i < n → f i = g i) : LL n f = LL n g := by
  apply List.map_congr_left
  intro i hi
  exact h i (by simpa using hi)

theorem d16_dig (F : Nat → Int) (n : Nat) : Dig B16 (d16 F) n := fun i _ => ⟨Int.emod_nonneg _ (by decide), Int.emod_lt_of_pos _ (by decide)⟩

theorem digits_spec (xs : List Int) (hl : xs.length ≤ 200) (hd : ∀ i, 0 ≤ xs.getD i 0 ∧ xs.getD i 0 < 18446744073709551616) :
    Fw47 xs = some (LL (4 * xs.length) (d16 fun i => xs.getD i 0)) := by
  have h := loopO_run (step := stepw47_0) (fun i : Nat => (xs, (i : Int), LL (4 * i) (d16 fun i => xs.getD i 0))) xs.length (LL (4 * xs.length) (d16 fun i => xs.getD i 0)) ?_ ?_
  · have h' : loopO stepw47_0 (xs, 0, []) = _ := h
    simp only [Fw47, h', Option.bind_some]
  · intro i hi
    have h1 : ((i : Int) < (xs.length : Int)) := by omega
    have h2 : (0 : Int) ≤ (i : Int) := by omega
    simp only [stepw47_0, h1, h2, decide_true, if_true, and_self, Int.toNat_natCast]
    rw [digits_inner xs i _ (hd i) _ (by simp; omega)]
    simp only [Option.bind_some, Option.some.injEq, Sum.inl.injEq, Prod.mk.injEq, true_and]
    refine ⟨by rw [wrap64 (by omega)]; rfl, ?_⟩
    have e : ∀ j, j < 4 → d16 (fun i => xs.getD i 0) (4 * i + j) = xs.getD i 0 / B16 ^ j % B16 := fun j hj => d16_at _ i j hj
    have e0 := e 0 (by omega); have e1 := e 1 (by omega); have e2 := e 2 (by omega); have e3 := e 3 (by omega)
    simp only [LL, show 4 * (i + 1) = 4 * i + 1 + 1 + 1 + 1 by omega, List.range_succ, List.map_append, List.map_cons, List.map_nil, List.append_assoc, List.cons_append, List.nil_append]
    rw [Nat.add_zero] at e0
    rw [show 4 * i + 1 + 1 = 4 * i + 2 by omega, show 4 * i + 2 + 1 = 4 * i + 3 by omega, e0, e1, e2, e3]
    have p2 : ∀ x : Int, x / B16 ^ 2 = x / 65536 / 65536 := fun x => by rw [Int.ediv_ediv_of_nonneg (by decide)]; rfl
    have p3 : ∀ x : Int, x / B16 ^ 3 = x / 65536 / 65536 / 65536 := fun x => by rw [Int.ediv_ediv_of_nonneg (by decide), Int.ediv_ediv_of_nonneg (by decide)]; rfl
    rw [p2, p3]
    simp [B16]
  · simp [stepw47_0]

theorem Fw38_eq {a : Nat → Int} (ha : Dig B64 a 4) : Fw38 a = some (LL 16 (d16 a)) := by
  have hx : (List.range 4).map (fun j => a (0 + j)) = [a 0, a 1, a 2, a 3] := rfl
  simp only [Fw38, hx]
  rw [digits_spec _ (by simp) ?_]
  · simp only [Option.bind_some, Option.some.injEq]
    refine LL_congr fun i hi => ?_
    unfold d16
    have : i / 4 < 4 := by simp at hi; omega
    have e : ∀ j, j < 4 → [a 0, a 1, a 2, a 3].getD j 0 = a j := by
      intro j hj
      match j, hj with
      | 0, _ => rfl
      | 1, _ => rfl
      | 2, _ => rfl
      | 3, _ => rfl
    show [a 0, a 1, a 2, a 3].getD (i / 4) 0 / B16 ^ (i % 4) % B16 = _
    rw [e _ this]
  · intro i
    match i with
    | 0 => exact ha 0 (by omega)
    | 1 => exact ha 1 (by omega)
    | 2 => exact ha 2 (by omega)
    | 3 => exact ha 3 (by omega)
    | n + 4 => simp

/-- a word out of four digits -/
def wordOf (D : Nat → Int) (i : Nat) : Int := D (4 * i) + D (4 * i + 1) * 65536 + D (4 * i + 2) * 4294967296 + D (4 * i + 3) * 281474976710656

theorem word_step (xs : List Int) (hd : ∀ i, 0 ≤ xs.getD i 0 ∧ xs.getD i 0 < 65536) (i : Nat) (hi : i ≤ 1000000) (hl : xs.length ≤ 1000000) (t : Int) (j : Nat) (hj : j < 4) (ht : 0 ≤ t ∧ t < 281474976710656) :
    stepw46_0 (xs, (i : Int), t, (j : Int)) = some (.inl (xs, (i : Int), t * 65536 + xs.getD (4 * i + j) 0, (j : Int) - 1)) := by
  have h1 : decide ((j : Int) ≥ 0) = true := decide_eq_true (by omega)
  have h2 : IntKind.i64.wrap (4 * (i : Int)) = 4 * (i : Int) := wrap64 (by omega)
  have h3 : IntKind.i64.wrap (4 * (i : Int) + j) = ((4 * i + j : Nat) : Int) := by rw [wrap64 (by omega)]; omega
  have h4 : IntKind.i64.wrap ((j : Int) - 1) = (j : Int) - 1 := wrap64 (by omega)
  have h5 : IntKind.u64.wrap (t * 65536) = t * 65536 := by rw [IntKind.wrap_u64]; omega
  simp only [stepw46_0, h1, if_true, h2, h3, h4, h5, Int.toNat_natCast]
  have h6 := hd (4 * i + j)
  by_cases h : ((4 * i + j : Nat) : Int) < (xs.length : Int)
  · have h7 : (0 : Int) ≤ ((4 * i + j : Nat) : Int) := by omega
    simp only [h, decide_true, if_true, h7, and_self]
    have h8 : IntKind.u64.wrap (xs.getD (4 * i + j) 0) = xs.getD (4 * i + j) 0 := by rw [IntKind.wrap_u64]; omega
    rw [h8]
    have h9 : IntKind.u64.wrap (t * 65536 + xs.getD (4 * i + j) 0) = t * 65536 + xs.getD (4 * i + j) 0 := by rw [IntKind.wrap_u64]; omega
    rw [h9]
  · have h7 : xs.getD (4 * i + j) 0 = 0 := by rw [List.getD_eq_getElem?_getD, List.getElem?_eq_none (by omega)]; rfl
    have h8 : decide (((4 * i + j : Nat) : Int) < (xs.length : Int)) = false := decide_eq_false h
    simp only [h8, Bool.false_eq_true, if_false, h7, Int.add_zero]

theorem word_spec (xs : List Int) (hd : ∀ i, 0 ≤ xs.getD i 0 ∧ xs.getD i 0 < 65536) (i : Nat) (hi : i ≤ 1000000) (hl : xs.length ≤ 1000000) : Fw46 (xs, (i : Int)) = some (wordOf (fun k => xs.getD k 0) i) := by
  have e := fun t j hj ht => word_step xs hd i hi hl t j hj ht
  have d0 := hd (4 * i); have d1 := hd (4 * i + 1); have d2 := hd (4 * i + 2); have d3 := hd (4 * i + 3)
  simp only [Fw46]
  have s3 := e 0 3 (by omega) (by omega)
  rw [loopO_eq, show (3 : Int) = ((3 : Nat) : Int) from rfl, s3]
  simp only [show (((3 : Nat) : Int) - 1) = ((2 : Nat) : Int) from rfl]
  rw [loopO_eq, e _ 2 (by omega) (by omega)]
  simp only [show (((2 : Nat) : Int) - 1) = ((1 : Nat) : Int) from rfl]
  rw [loopO_eq, e _ 1 (by omega) (by omega)]
  simp only [show (((1 : Nat) : Int) - 1) = ((0 : Nat) : Int) from rfl]
  rw [loopO_eq, e _ 0 (by omega) (by omega)]
  simp only []
  rw [loopO_eq]
  have h1 : decide (((0 : Nat) : Int) - 1 ≥ 0) = false := by decide
  simp only [stepw46_0, h1, Bool.false_eq_true, if_false, Option.bind_some, Option.some.injEq, wordOf, Nat.add_zero]
  omega

theorem Fw39_eq (xs : List Int) (hd : ∀ i, 0 ≤ xs.getD i 0 ∧ xs.getD i 0 < 65536) (hl : xs.length ≤ 1000000) : ∃ z, Fw39 xs = some z ∧ ∀ i, i < 4 → z i = wordOf (fun k => xs.getD k 0) i := by
  have w0 := word_spec xs hd 0 (by omega) hl
  have w1 := word_spec xs hd 1 (by omega) hl
  have w2 := word_spec xs hd 2 (by omega) hl
  have w3 := word_spec xs hd 3 (by omega) hl
  simp only [Fw39]
  rw [show (0 : Int) = ((0 : Nat) : Int) from rfl, w0, show (1 : Int) = ((1 : Nat) : Int) from rfl, w1, show (2 : Int) = ((2 : Nat) : Int) from rfl, w2, show (3 : Int) = ((3 : Nat) : Int) from rfl, w3]
  simp only [Option.bind_some]
  refine ⟨_, rfl, fun i hi => ?_⟩
  match i, hi with
  | 0, _ => rfl
  | 1, _ => rfl
  | 2, _ => rfl
  | 3, _ => rfl

/-- words of digits make the same number -/
theorem val_words (D : Nat → Int) : ∀ n, val B64 (wordOf D) n = val B16 D (4 * n) := by
  intro n
  induction n with
  | zero => rfl
  | succ n ih =>
    rw [show 4 * (n + 1) = 4 * n + 1 + 1 + 1 + 1 by omega]
    simp only [val]
    rw [ih]
    have e : (B64 : Int) ^ n = B16 ^ (4 * n) := by
      rw [show B64 = B16 ^ 4 by decide, ← Int.pow_mul]
    rw [e]
    have p1 : (B16 : Int) ^ (4 * n + 1) = B16 ^ (4 * n) * 65536 := Int.pow_succ _ _
    have p2 : (B16 : Int) ^ (4 * n + 1 + 1) = B16 ^ (4 * n) * 4294967296 := by rw [Int.pow_succ, p1, Int.mul_assoc]; rfl
    have p3 : (B16 : Int) ^ (4 * n + 1 + 1 + 1) = B16 ^ (4 * n) * 281474976710656 := by rw [Int.pow_succ, p2, Int.mul_assoc]; rfl
    rw [p1, p2, p3, wordOf]
    generalize B16 ^ (4 * n) = q
    simp only [Int.add_mul, Int.mul_assoc]
    rw [Int.mul_comm 65536 q, Int.mul_comm 4294967296 q, Int.mul_comm 281474976710656 q]
    omega

theorem wordOf_d16 {a : Nat → Int} {i : Nat} (h : 0 ≤ a i ∧ a i < 18446744073709551616) : wordOf (d16 a) i = a i := by
  have e := fun j hj => d16_at a i j hj
  have e0 := e 0 (by omega); have e1 := e 1 (by omega); have e2 := e 2 (by omega); have e3 := e 3 (by omega)
  rw [Nat.add_zero] at e0
  unfold wordOf
  rw [e0, e1, e2, e3]
  have p2 : ∀ x : Int, x / B16 ^ 2 = x / 65536 / 65536 := fun x => by rw [Int.ediv_ediv_of_nonneg (by decide)]; rfl
  have p3 : ∀ x : Int, x / B16 ^ 3 = x / 65536 / 65536 / 65536 := fun x => by rw [Int.ediv_ediv_of_nonneg (by decide), Int.ediv_ediv_of_nonneg (by decide)]; rfl
  rw [p2, p3]
  simp only [B16, Int.pow_zero, Int.ediv_one]
  rw [show (65536 : Int) ^ 1 = 65536 from rfl]
  omega

theorem val_d16 {a : Nat → Int} {n : Nat} (h : Dig B64 a n) : val B16 (d16 a) (4 * n) = val B64 a n := by
  rw [← val_words]
  exact val_congr fun i hi => wordOf_d16 (h i hi)

theorem wordOf_dig {D : Nat → Int} {n : Nat} (h : Dig B16 D (4 * n)) : Dig B64 (wordOf D) n := by
  intro i hi
  have h0 := h (4 * i) (by omega); have h1 := h (4 * i + 1) (by omega); have h2 := h (4 * i + 2) (by omega); have h3 := h (4 * i + 3) (by omega)
  simp only [B16] at h0 h1 h2 h3
  simp only [wordOf, B64]
  omega

theorem LL_mix (n : Nat) (f g : Nat → Int) (i : Nat) : (LL n (fun k => if k < i then f k else g k)).set i (f i) = LL n (fun k => if k < i + 1 then f k else g k) := by
  rw [LL_set]
  congr 1
  have := mix f g i
  funext k
  have h := congrFun this k
  rw [← h]
  simp only [upd]
  by_cases e : k = i
  · subst e; simp
  · have hb : Nat.beq k i = false := by
      cases hb : Nat.beq k i
      · rfl
      · exact absurd (Nat.eq_of_beq_eq_true hb) e
    rw [hb, if_neg e]; rfl

theorem sumD_dig {B : Int} (hB : 0 < B) (f g : Nat → Int) (n : Nat) : Dig B (sumD B f g) n := fun i _ => ⟨Int.emod_nonneg _ (by omega), Int.emod_lt_of_pos _ hB⟩
theorem difD_dig {B : Int} (hB : 0 < B) (f g : Nat → Int) (n : Nat) : Dig B (difD B f g) n := fun i _ => ⟨Int.emod_nonneg _ (by omega), Int.emod_lt_of_pos _ hB⟩

theorem LL_dig {f : Nat → Int} {n : Nat} (h : Dig B16 f n) : ∀ i, 0 ≤ (LL n f).getD i 0 ∧ (LL n f).getD i 0 < 65536 := by
  intro i
  rw [LL_getD]
  by_cases hi : i < n
  · rw [if_pos hi]; exact h i hi
  · rw [if_neg hi]; omega

theorem radd_spec {a b : Nat → Int} (ha : Dig B64 a 4) (hb : Dig B64 b 4) : ∃ z, Fw12 (a, b) = some (z, carry B16 (d16 a) (d16 b) 16) ∧ ∀ i, i < 4 → z i = wordOf (sumD B16 (d16 a) (d16 b)) i := by
  have hc : ∀ n, n ≤ 16 → carry B16 (d16 a) (d16 b) n = 0 ∨ carry B16 (d16 a) (d16 b) n = 1 := fun n hn => carry_01 (by decide) n fun i hi => ⟨d16_dig a 16 i (by omega), d16_dig b 16 i (by omega)⟩
  have h := loopO_run (step := stepw12_0) (fun i : Nat => (carry B16 (d16 a) (d16 b) i, (i : Int), (fun _ => (0 : Int)), LL 16 (fun k => if k < i then sumD B16 (d16 a) (d16 b) k else d16 a k), LL 16 (d16 b))) 16
    (carry B16 (d16 a) (d16 b) 16, (fun _ => 0), LL 16 (fun k => if k < 16 then sumD B16 (d16 a) (d16 b) k else d16 a k)) ?_ ?_
  · have hm := mix0 (sumD B16 (d16 a) (d16 b)) (d16 a)
    simp only [hm] at h
    have h' : loopO stepw12_0 (0, 0, (fun _ => 0), LL 16 (d16 a), LL 16 (d16 b)) = _ := h
    have h4 := hc 16 (by omega)
    have hL : LL 16 (fun k => if k < 16 then sumD B16 (d16 a) (d16 b) k else d16 a k) = LL 16 (sumD B16 (d16 a) (d16 b)) := LL_congr fun i hi => if_pos hi
    rw [hL] at h'
    obtain ⟨z, hz, hz'⟩ := Fw39_eq (LL 16 (sumD B16 (d16 a) (d16 b))) (LL_dig (sumD_dig (by decide) _ _ _)) (by simp)
    refine ⟨z, ?_, fun i hi => ?_⟩
    · simp only [Fw12, Fw38_eq ha, Fw38_eq hb, Option.bind_some, h', hz]
      rw [wrap64 (by omega)]
    · rw [hz' i hi]
      simp only [wordOf, LL_getD]
      rw [if_pos (by omega), if_pos (by omega), if_pos (by omega), if_pos (by omega)]
  · intro i hi
    have h1 : ((i : Int) < 16) := by omega
    have h2 : (0 : Int) ≤ (i : Int) := by omega
    have a1 := d16_dig a 16 i hi
    have b1 := d16_dig b 16 i hi
    have c1 := hc i (by omega)
    simp only [B16] at a1 b1
    have h3 : ((i : Int) < ((16 : Nat) : Int)) := by omega
    simp only [stepw12_0, h1, h2, h3, decide_true, if_true, and_self, Int.toNat_natCast, LL_length, LL_getD, hi, Nat.lt_irrefl, if_false]
    have e1 : IntKind.u32.wrap (d16 a i + d16 b i) = d16 a i + d16 b i := by rw [IntKind.wrap_u32]; omega
    rw [e1]
    have e2 : IntKind.u32.wrap (d16 a i + d16 b i + carry B16 (d16 a) (d16 b) i) = d16 a i + d16 b i + carry B16 (d16 a) (d16 b) i := by rw [IntKind.wrap_u32]; omega
    rw [e2, tdiv16 (by omega), tmod16 (by omega)]
    have e3 : IntKind.u32.wrap ((d16 a i + d16 b i + carry B16 (d16 a) (d16 b) i) / 65536) = (d16 a i + d16 b i + carry B16 (d16 a) (d16 b) i) / 65536 := by rw [IntKind.wrap_u32]; omega
    rw [e3, wrap64 (by omega)]
    have := LL_mix 16 (sumD B16 (d16 a) (d16 b)) (d16 a) i
    rw [show sumD B16 (d16 a) (d16 b) i = (d16 a i + d16 b i + carry B16 (d16 a) (d16 b) i) % 65536 from rfl] at this
    rw [this]
    rfl
  · simp [stepw12_0]

theorem rsub_spec {a b : Nat → Int} (ha : Dig B64 a 4) (hb : Dig B64 b 4) : ∃ z, Fw13 (a, b) = some (z, borrow B16 (d16 a) (d16 b) 16) ∧ ∀ i, i < 4 → z i = wordOf (difD B16 (d16 a) (d16 b)) i := by
  have hc := borrow_01 B16 (d16 a) (d16 b)
  have h := loopO_run (step := stepw13_0) (fun i : Nat => (borrow B16 (d16 a) (d16 b) i, (i : Int), (fun _ => (0 : Int)), LL 16 (fun k => if k < i then difD B16 (d16 a) (d16 b) k else d16 a k), LL 16 (d16 b))) 16
    (borrow B16 (d16 a) (d16 b) 16, (fun _ => 0), LL 16 (fun k => if k < 16 then difD B16 (d16 a) (d16 b) k else d16 a k)) ?_ ?_
  · have hm := mix0 (difD B16 (d16 a) (d16 b)) (d16 a)
    simp only [hm] at h
    have h' : loopO stepw13_0 (0, 0, (fun _ => 0), LL 16 (d16 a), LL 16 (d16 b)) = _ := h
    have h4 := hc 16
    have hL : LL 16 (fun k => if k < 16 then difD B16 (d16 a) (d16 b) k else d16 a k) = LL 16 (difD B16 (d16 a) (d16 b)) := LL_congr fun i hi => if_pos hi
    rw [hL] at h'
    obtain ⟨z, hz, hz'⟩ := Fw39_eq (LL 16 (difD B16 (d16 a) (d16 b))) (LL_dig (difD_dig (by decide) _ _ _)) (by simp)
    refine ⟨z, ?_, fun i hi => ?_⟩
    · simp only [Fw13, Fw38_eq ha, Fw38_eq hb, Option.bind_some, h', hz]
      rw [wrap64 (by omega)]
    · rw [hz' i hi]
      simp only [wordOf, LL_getD]
      rw [if_pos (by omega), if_pos (by omega), if_pos (by omega), if_pos (by omega)]
  · intro i hi
    have h1 : ((i : Int) < 16) := by omega
    have h2 : (0 : Int) ≤ (i : Int) := by omega
    have a1 := d16_dig a 16 i hi
    have b1 := d16_dig b 16 i hi
    have c1 := hc i
    simp only [B16] at a1 b1
    have h3 : ((i : Int) < ((16 : Nat) : Int)) := by omega
    simp only [stepw13_0, h1, h2, h3, decide_true, if_true, and_self, Int.toNat_natCast, LL_length, LL_getD, hi, Nat.lt_irrefl, if_false]
    have e0 : IntKind.u32.wrap (d16 a i + 65536) = d16 a i + 65536 := by rw [IntKind.wrap_u32]; omega
    rw [e0]
    have e1 : IntKind.u32.wrap (d16 a i + 65536 - d16 b i) = d16 a i + 65536 - d16 b i := by rw [IntKind.wrap_u32]; omega
    rw [e1]
    have e2 : IntKind.u32.wrap (d16 a i + 65536 - d16 b i - borrow B16 (d16 a) (d16 b) i) = d16 a i + 65536 - d16 b i - borrow B16 (d16 a) (d16 b) i := by rw [IntKind.wrap_u32]; omega
    rw [e2, tdiv16 (by omega), tmod16 (by omega)]
    have e3 : IntKind.u32.wrap (1 - IntKind.u32.wrap ((d16 a i + 65536 - d16 b i - borrow B16 (d16 a) (d16 b) i) / 65536)) = borrow B16 (d16 a) (d16 b) (i + 1) := by
      rw [IntKind.wrap_u32, IntKind.wrap_u32]
      simp only [borrow]
      split <;> omega
    rw [e3, wrap64 (by omega)]
    have := LL_mix 16 (difD B16 (d16 a) (d16 b)) (d16 a) i
    rw [show difD B16 (d16 a) (d16 b) i = (d16 a i + 65536 - d16 b i - borrow B16 (d16 a) (d16 b) i) % 65536 by
      simp only [difD, B16]; omega] at this
    rw [this]
    rfl
  · simp [stepw13_0]
end Go.Abs
