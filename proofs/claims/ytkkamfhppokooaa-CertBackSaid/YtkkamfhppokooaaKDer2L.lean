import Derived.Test.YtkkamfhppokooaaKDer1L
/- Bits, numbers, bools: read and written in one form. -/
set_option linter.unusedVariables false
set_option linter.unusedSimpArgs false
namespace Go.Abs

def plainO (t : Tree) (k : Int) : Int := if t.tag ≠ k then 123 else if t.kids ≠ [] ∨ t.body = [] then 127 else 0
theorem plainO_tag {t : Tree} {k : Int} (h : t.tag ≠ k) : plainO t k = 123 := if_pos h
theorem plainO_bad {t : Tree} {k : Int} (h : t.tag = k) (h2 : t.kids ≠ [] ∨ t.body = []) : plainO t k = 127 := by unfold plainO; rw [if_neg (by simpa using h), if_pos h2]
theorem plainO_ok {t : Tree} {k : Int} (h : t.tag = k) (h2 : t.kids = []) (h3 : t.body ≠ []) : plainO t k = 0 := by unfold plainO; rw [if_neg (by simpa using h), if_neg (by simp [h2, h3])]

theorem plain_eq {t : Tree} {k : Int} : Fc88 (t, k) = some (plainO t k) := by
  simp only [Fc88]
  by_cases h1 : t.tag = k
  · have d1 : (t.tag != k) = false := by simpa using h1
    rw [d1]
    by_cases h2 : t.kids = []
    · have d2 : decide ((t.kids.length : Int) > 0) = false := decide_eq_false (by rw [h2]; simp)
      rw [d2]
      by_cases h3 : t.body = []
      · have d3 : ((t.body.length : Int) == 0) = true := by rw [h3]; rfl
        rw [plainO_bad h1 (.inr h3), d3]; rfl
      · have := List.length_pos_iff.2 h3
        have d3 : ((t.body.length : Int) == 0) = false := beq_eq_false_iff_ne.2 (by omega)
        rw [plainO_ok h1 h2 h3, d3]; rfl
    · have := List.length_pos_iff.2 h2
      have d2 : decide ((t.kids.length : Int) > 0) = true := decide_eq_true (by omega)
      rw [plainO_bad h1 (.inl h2), d2]; rfl
  · have d : (t.tag != k) = true := by simpa using h1
    rw [plainO_tag h1, d]; rfl

/-! ### bits -/
def bitsO (t : Tree) : List Int × Int :=
  if t.tag ≠ 3 then ([], 123) else if t.kids ≠ [] ∨ t.body = [] ∨ t.body.getD 0 0 ≠ 0 then ([], 127) else (t.body.drop 1, 0)
theorem bitsO_tag {t : Tree} (h : t.tag ≠ 3) : bitsO t = ([], 123) := if_pos h
theorem bitsO_bad {t : Tree} (h : t.tag = 3) (h2 : t.kids ≠ [] ∨ t.body = [] ∨ t.body.getD 0 0 ≠ 0) : bitsO t = ([], 127) := by unfold bitsO; rw [if_neg (by simpa using h), if_pos h2]
theorem bitsO_ok {t : Tree} (h : t.tag = 3) (h2 : t.kids = []) (h3 : t.body ≠ []) (h4 : t.body.getD 0 0 = 0) : bitsO t = (t.body.drop 1, 0) := by
  unfold bitsO
  rw [if_neg (by simpa using h), if_neg]
  rintro (e | e | e)
  · exact e h2
  · exact h3 e
  · exact e h4

theorem bits_eq {t : Tree} (ht : TreeOk t) : Fc53 t = some (bitsO t) := by
  have hlen := ht.len.1
  simp only [Fc53]
  rw [Tree.eta, plain_eq]
  simp only [Option.bind_some]
  by_cases h1 : t.tag = 3
  · by_cases h2 : t.kids ≠ [] ∨ t.body = []
    · rw [plainO_bad h1 h2, bitsO_bad h1 (by rcases h2 with h | h; exact .inl h; exact .inr (.inl h))]; rfl
    · have hk : t.kids = [] := by
        by_cases hk : t.kids = []
        · exact hk
        · exact absurd (.inl hk) h2
      have hb : t.body ≠ [] := fun h => h2 (.inr h)
      have hp := List.length_pos_iff.2 hb
      rw [plainO_ok h1 hk hb, if_neg (by decide), if_pos ⟨by omega, by omega⟩]
      by_cases h3 : t.body.getD 0 0 = 0
      · have d : (t.body.getD 0 0 != 0) = false := by simpa using h3
        rw [bitsO_ok h1 hk hb h3, d, if_neg (by decide), if_pos ⟨by omega, by omega⟩]
        have e44 : Fc50 (t.body.drop 1) = some (t.body.drop 1) := by
          unfold Fc50
          rw [if_pos (okB1 (by simp only [List.length_drop]; omega))]
        rw [e44]; rfl
      · have d : (t.body.getD 0 0 != 0) = true := by simpa using h3
        rw [bitsO_bad h1 (.inr (.inr h3)), d, if_pos rfl]
  · rw [plainO_tag h1, bitsO_tag h1]; rfl

/-! ### numbers -/
theorem orU {a b : Int} (h1 : 0 ≤ a) (h3 : 0 ≤ b) (h4 : b < 256) (h5 : 256 * a + b < 18446744073709551616) : bitsOr .u64 (shlI .u64 a 8) (IntKind.u64.wrap b) = 256 * a + b := by
  have e1 : shlI .u64 a 8 = 256 * a := by
    unfold shlI
    rw [show min (8 : Int).toNat IntKind.u64.bits = 8 from rfl, wu64 (by omega) (by omega)]; omega
  rw [e1, wu64 (by omega) (by omega), or64 (by omega) (by omega) (by omega) (by omega)]
  have e2 : (256 * a).toNat = 2 ^ 8 * a.toNat := by omega
  rw [e2, ← Nat.two_pow_add_eq_or_of_lt (by omega : b.toNat < 2 ^ 8)]
  omega

def numF (acc : Int) (l : List Int) : Int := List.foldl (fun a x => 256 * a + x) acc l
theorem numF_cons (acc x : Int) (l : List Int) : numF acc (x :: l) = numF (256 * acc + x) l := rfl
theorem num_numF (l : List Int) : num l = numF 0 l := rfl
theorem numF_ge : ∀ {l : List Int} {acc : Int}, By l → 0 ≤ acc → acc ≤ numF acc l := by
  intro l
  induction l with
  | nil => intro acc _ _; exact Int.le_refl _
  | cons x l ih =>
    intro acc hb h0
    obtain ⟨hx, hb⟩ := By.cons.1 hb
    have := ih (acc := 256 * acc + x) hb (by omega)
    rw [numF_cons]; omega
theorem numF_lt : ∀ {l : List Int} {acc : Int} {n : Nat}, By l → 0 ≤ acc → l.length = n → numF acc l < (acc + 1) * 256 ^ n := by
  intro l
  induction l with
  | nil => intro acc n _ _ hn; subst hn; simp only [numF, List.foldl_nil, List.length_nil, Int.pow_zero]; omega
  | cons x l ih =>
    intro acc n hb h0 hn
    obtain ⟨hx, hb⟩ := By.cons.1 hb
    subst hn
    have h1 := ih (acc := 256 * acc + x) hb (by omega) rfl
    rw [numF_cons, List.length_cons, Int.pow_succ]
    have h2 : (256 * acc + x + 1) * 256 ^ l.length ≤ ((acc + 1) * 256) * 256 ^ l.length := Int.mul_le_mul_of_nonneg_right (by omega) (Int.le_of_lt (Int.pow_pos (by omega)))
    have h3 : (acc + 1) * 256 * 256 ^ l.length = (acc + 1) * (256 ^ l.length * 256) := by rw [Int.mul_assoc, Int.mul_comm 256]
    omega

theorem num_loop24 {xs : List Int} (hb : By xs) (hl : xs.length ≤ 100) : ∀ (j k : Nat) (acc : Int), j = xs.length - k → k ≤ xs.length → 0 ≤ acc → numF acc (xs.drop k) < 18446744073709551616 →
    loopO stepc52_0 (acc, xs, (xs.length : Int), (k : Int)) = some (numF acc (xs.drop k)) := by
  intro j
  induction j with
  | zero =>
    intro k acc hj hk h0 h1
    have e : k = xs.length := by omega
    subst e
    rw [loopO_eq]
    simp only [stepc52_0, Int.lt_irrefl, decide_false, Bool.false_eq_true, if_false, List.drop_length]
    rfl
  | succ j ih =>
    intro k acc hj hk h0 h1
    have hkl : k < xs.length := by omega
    have hdrop : xs.drop k = xs[k] :: xs.drop (k + 1) := List.drop_eq_getElem_cons hkl
    have hx := hb xs[k] (List.getElem_mem hkl)
    rw [hdrop, numF_cons] at h1 ⊢
    have h2 := numF_ge (hb.drop (k + 1)) (acc := 256 * acc + xs[k]) (by omega)
    have d1 : decide (((k : Nat) : Int) < (xs.length : Int)) = true := decide_eq_true (by omega)
    rw [loopO_eq]
    simp only [stepc52_0, d1, if_true]
    rw [if_pos (by omega), getD_at hkl, orU h0 hx.1 hx.2 (by omega), wi64 (by omega) (by omega)]
    have ek : ((k : Nat) : Int) + 1 = ((k + 1 : Nat) : Int) := by omega
    rw [ek]
    exact ih (k + 1) _ (by omega) (by omega) (by omega) h1

def badU (b : List Int) : Prop := 128 ≤ b.getD 0 0 ∨ (b.getD 0 0 = 0 ∧ 1 < b.length ∧ b.getD 1 0 < 128) ∨ 9 < b.length ∨ (b.length = 9 ∧ b.getD 0 0 ≠ 0)
instance (b : List Int) : Decidable (badU b) := inferInstanceAs (Decidable (_ ∨ _))
def uintO (t : Tree) : Int × Int :=
  if t.tag ≠ 2 then (0, 123) else if t.kids ≠ [] ∨ t.body = [] then (0, 127) else if badU t.body then (0, 127) else (num t.body, 0)

theorem num_small {b : List Int} (hb : By b) (h0 : b ≠ []) (h : ¬ badU b) : num b < 18446744073709551616 := by
  unfold badU at h
  cases b with
  | nil => exact absurd rfl h0
  | cons x r =>
    obtain ⟨hx, hr⟩ := By.cons.1 hb
    simp only [List.getD_cons_zero, List.length_cons, not_or, not_and, List.getD_cons_succ] at h
    obtain ⟨h1, h2, h3, h4⟩ := h
    by_cases h8 : r.length ≤ 7
    · have h5 := numF_lt hb (acc := 0) (Int.le_refl _) rfl
      rw [num_numF]
      have h6 : (256 : Int) ^ (x :: r).length ≤ 256 ^ 8 := by rw [List.length_cons]; exact ipow_le (by omega) (by omega)
      have h7 : (256 : Int) ^ 8 = 18446744073709551616 := rfl
      omega
    · have hr8 : r.length = 8 := by omega
      have hx0 : x = 0 := by
        by_cases hx0 : x = 0
        · exact hx0
        · exact absurd hx0 (fun h => by have := h4 (by omega); exact this h)
      subst hx0
      have h5 := numF_lt hr (acc := 0) (Int.le_refl _) hr8
      have h7 : (256 : Int) ^ 8 = 18446744073709551616 := rfl
      show numF (256 * 0 + 0) r < _
      simp only [Int.mul_zero, Int.add_zero]
      omega

theorem uintO_tag {t : Tree} (h : t.tag ≠ 2) : uintO t = (0, 123) := if_pos h
theorem uintO_form {t : Tree} (h : t.tag = 2) (h2 : t.kids ≠ [] ∨ t.body = []) : uintO t = (0, 127) := by unfold uintO; rw [if_neg (by simpa using h), if_pos h2]
theorem uintO_bad {t : Tree} (h : t.tag = 2) (h2 : t.kids = []) (h3 : t.body ≠ []) (h4 : badU t.body) : uintO t = (0, 127) := by unfold uintO; rw [if_neg (by simpa using h), if_neg (by simp [h2, h3]), if_pos h4]
theorem uintO_ok {t : Tree} (h : t.tag = 2) (h2 : t.kids = []) (h3 : t.body ≠ []) (h4 : ¬ badU t.body) : uintO t = (num t.body, 0) := by unfold uintO; rw [if_neg (by simpa using h), if_neg (by simp [h2, h3]), if_neg h4]
theorem ite_t {α : Type} {b : Bool} {x y : α} (h : b = true) : (if b = true then x else y) = x := if_pos h
theorem ite_f {α : Type} {b : Bool} {x y : α} (h : b = false) : (if b = true then x else y) = y := if_neg (by rw [h]; decide)
theorem itf_t {α : Type} {b : Bool} {x y : α} (h : b = true) : (if b = false then x else y) = y := if_neg (by rw [h]; decide)
theorem itf_f {α : Type} {b : Bool} {x y : α} (h : b = false) : (if b = false then x else y) = x := if_pos h

theorem uint_eq {t : Tree} (ht : TreeOk t) : Fc52 t = some (uintO t) := by
  simp only [Fc52]
  rw [Tree.eta, plain_eq]
  simp only [Option.bind_some]
  have hlen := ht.len.1
  have hby := By.of ht.byt
  by_cases h1 : t.tag = 2
  · by_cases h2 : t.kids ≠ [] ∨ t.body = []
    · rw [plainO_bad h1 h2, uintO_form h1 h2]; rfl
    · have hk : t.kids = [] := by
        by_cases hk : t.kids = []
        · exact hk
        · exact absurd (.inl hk) h2
      have hb : t.body ≠ [] := fun h => h2 (.inr h)
      have hp := List.length_pos_iff.2 hb
      rw [plainO_ok h1 hk hb, ite_f (b := ((0 : Int) != 0)) rfl]
      have hloop : ¬ badU t.body → loopO stepc52_0 (0, t.body, (t.body.length : Int), 0) = some (num t.body) := by
        intro hbad
        have hs := num_small hby hb hbad
        have hle : t.body.length ≤ 9 := by unfold badU at hbad; omega
        exact num_loop24 hby (by omega) _ 0 0 rfl (Nat.zero_le _) (Int.le_refl _) hs
      rw [if_pos ⟨by omega, by omega⟩]
      generalize hL : loopO stepc52_0 (0, t.body, (t.body.length : Int), 0) = L at hloop ⊢
      by_cases c1 : 128 ≤ t.body.getD 0 0
      · rw [uintO_bad h1 hk hb (.inl c1), itf_t (decide_eq_true (by omega))]
      · rw [itf_f (decide_eq_false (by omega)), if_pos ⟨by omega, by omega⟩]
        by_cases c2 : t.body.getD 0 0 = 0
        · rw [ite_t (beq_iff_eq.2 c2)]
          by_cases c3 : 1 < t.body.length
          · rw [ite_t (decide_eq_true (by omega)), if_pos ⟨by omega, by omega⟩]
            by_cases c4 : t.body.getD 1 0 < 128
            · rw [uintO_bad h1 hk hb (.inr (.inl ⟨c2, c3, c4⟩)), itf_t (decide_eq_true c4)]
            · rw [itf_f (decide_eq_false c4)]
              by_cases c5 : 9 < t.body.length
              · rw [uintO_bad h1 hk hb (.inr (.inr (.inl c5))), itf_t (decide_eq_true (by omega))]
              · have hg : ¬ badU t.body := by unfold badU; omega
                rw [uintO_ok h1 hk hb hg, itf_f (decide_eq_false (by omega)), hloop hg]
                by_cases c6 : t.body.length = 9
                · rw [ite_t (beq_iff_eq.2 (by omega)), if_pos ⟨by omega, by omega⟩, ite_f (by rw [c2]; rfl)]; rfl
                · rw [ite_f (beq_eq_false_iff_ne.2 (by omega))]; rfl
          · have hg : ¬ badU t.body := by unfold badU; omega
            rw [ite_f (decide_eq_false (by omega)), uintO_ok h1 hk hb hg, itf_f (decide_eq_false (by omega)), hloop hg, ite_f (beq_eq_false_iff_ne.2 (by omega))]; rfl
        · rw [ite_f (beq_eq_false_iff_ne.2 c2)]
          by_cases c5 : 9 < t.body.length
          · rw [uintO_bad h1 hk hb (.inr (.inr (.inl c5))), itf_t (decide_eq_true (by omega))]
          · rw [itf_f (decide_eq_false (by omega))]
            by_cases c6 : t.body.length = 9
            · have d : (t.body.getD 0 0 != 0) = true := by simpa using c2
              rw [uintO_bad h1 hk hb (.inr (.inr (.inr ⟨c6, c2⟩))), ite_t (beq_iff_eq.2 (by omega)), if_pos ⟨by omega, by omega⟩, ite_t d]
            · have hg : ¬ badU t.body := by unfold badU; omega
              rw [uintO_ok h1 hk hb hg, ite_f (beq_eq_false_iff_ne.2 (by omega)), hloop hg]; rfl
  · rw [plainO_tag h1, uintO_tag h1]; rfl

theorem num_zero (r : List Int) : num (0 :: r) = num r := rfl

end Go.Abs

/- Bools, and the numbers' items. -/
set_option linter.unusedVariables false
set_option linter.unusedSimpArgs false
namespace Go.Abs

/-! ### bools -/
def boolO (t : Tree) : Bool × Int :=
  if t.tag ≠ 1 then (false, 123) else if t.kids ≠ [] ∨ t.body.length ≠ 1 ∨ (t.body.getD 0 0 ≠ 0 ∧ t.body.getD 0 0 ≠ 255) then (false, 127) else (t.body.getD 0 0 != 0, 0)
theorem boolO_tag {t : Tree} (h : t.tag ≠ 1) : boolO t = (false, 123) := if_pos h
theorem boolO_bad {t : Tree} (h : t.tag = 1) (h2 : t.kids ≠ [] ∨ t.body.length ≠ 1 ∨ (t.body.getD 0 0 ≠ 0 ∧ t.body.getD 0 0 ≠ 255)) : boolO t = (false, 127) := by unfold boolO; rw [if_neg (by simpa using h), if_pos h2]
theorem boolO_ok {t : Tree} (h : t.tag = 1) (h2 : t.kids = []) (h3 : t.body.length = 1) (h4 : t.body.getD 0 0 = 0 ∨ t.body.getD 0 0 = 255) : boolO t = (t.body.getD 0 0 != 0, 0) := by
  unfold boolO
  rw [if_neg (by simpa using h), if_neg]
  rintro (e | e | e)
  · exact e h2
  · exact e h3
  · rcases h4 with h | h
    · exact e.1 h
    · exact e.2 h

theorem bool_eq {t : Tree} (ht : TreeOk t) : Fc105 t = some (boolO t) := by
  simp only [Fc105]
  rw [Tree.eta, plain_eq]
  simp only [Option.bind_some]
  have hlen := ht.len.1
  by_cases h1 : t.tag = 1
  · by_cases h2 : t.kids ≠ [] ∨ t.body = []
    · rw [plainO_bad h1 h2, boolO_bad h1 (by rcases h2 with h | h; exact .inl h; exact .inr (.inl (by rw [h]; decide)))]; rfl
    · have hk : t.kids = [] := by
        by_cases hk : t.kids = []
        · exact hk
        · exact absurd (.inl hk) h2
      have hb : t.body ≠ [] := fun h => h2 (.inr h)
      have hp := List.length_pos_iff.2 hb
      rw [plainO_ok h1 hk hb, ite_f (b := ((0 : Int) != 0)) rfl]
      by_cases h3 : t.body.length = 1
      · rw [itf_f (by rw [h3]; rfl), if_pos ⟨by omega, by omega⟩]
        by_cases h4 : t.body.getD 0 0 = 0
        · have d : (t.body.getD 0 0 != 0) = false := by rw [h4]; rfl
          rw [boolO_ok h1 hk h3 (.inl h4), ite_f d, if_pos ⟨by omega, by omega⟩]
        · have d : (t.body.getD 0 0 != 0) = true := bne_iff_ne.2 h4
          rw [ite_t d, if_pos ⟨by omega, by omega⟩]
          by_cases h5 : t.body.getD 0 0 = 255
          · have d2 : (t.body.getD 0 0 != 255) = false := by rw [h5]; rfl
            rw [boolO_ok h1 hk h3 (.inr h5), ite_f d2, if_pos ⟨by omega, by omega⟩]
          · rw [boolO_bad h1 (.inr (.inr ⟨h4, h5⟩)), ite_t (bne_iff_ne.2 h5)]
      · rw [boolO_bad h1 (.inr (.inl h3)), itf_t (bne_iff_ne.2 (by omega))]
  · rw [plainO_tag h1, boolO_tag h1]; rfl

/-! ### a number's bytes -/
/-- the lowest first, none of a 0 -/
def dgs : Nat → Nat → List Int
  | 0, _ => []
  | f + 1, n => if n = 0 then [] else ((n % 256 : Nat) : Int) :: dgs f (n / 256)
def dg (n : Nat) : List Int := ((n % 256 : Nat) : Int) :: dgs 7 (n / 256)

theorem dgs_len : ∀ (f n : Nat), (dgs f n).length ≤ f := by
  intro f
  induction f with
  | zero => intro n; simp [dgs]
  | succ f ih =>
    intro n
    unfold dgs
    split
    · simp
    · have := ih (n / 256); simp only [List.length_cons]; omega
theorem dgs_by : ∀ (f n : Nat), By (dgs f n) := by
  intro f
  induction f with
  | zero => intro n; exact By.nil
  | succ f ih =>
    intro n
    unfold dgs
    split
    · exact By.nil
    · exact By.cons.2 ⟨by omega, ih _⟩
theorem dg_by (n : Nat) : By (dg n) := By.cons.2 ⟨by omega, dgs_by _ _⟩
theorem dg_len (n : Nat) : 1 ≤ (dg n).length ∧ (dg n).length ≤ 8 := by
  have := dgs_len 7 (n / 256)
  unfold dg
  simp only [List.length_cons]; omega

theorem set1 (x : Int) : (List.replicate 1 (0 : Int)).set 0 x = [x] := rfl

theorem of_loop {a : Int × Unit × Unit} : ∀ (f n : Nat) (acc : List Int), n < 256 ^ f → f ≤ 8 → acc.length + f ≤ 100 → loopO stepc83_0 ((n : Int), a, acc) = some (a, acc ++ dgs f n) := by
  intro f
  induction f with
  | zero =>
    intro n acc hn _ _
    have : n = 0 := by simpa using hn
    subst this
    rw [loopO_eq]
    obtain ⟨a1, _, _⟩ := a
    simp [stepc83_0, dgs]
  | succ f ih =>
    intro n acc hn hf ha
    rw [loopO_eq]
    obtain ⟨a1, _, _⟩ := a
    by_cases h : n = 0
    · subst h
      simp [stepc83_0, dgs]
    · have hlt : n < 18446744073709551616 := by
        have h1 : 256 ^ (f + 1) ≤ 256 ^ 8 := Nat.pow_le_pow_right (by omega) (by omega)
        have h2 : (256 : Nat) ^ 8 = 18446744073709551616 := rfl
        omega
      have d1 : decide (((n : Nat) : Int) > 0) = true := decide_eq_true (by omega)
      simp only [stepc83_0, d1, if_true, set1, IntKind.wrap_u8']
      rw [if_pos (okB1 (by simp only [List.length_cons, List.length_nil]; omega)), shrN (by omega) (by omega) (by decide)]
      have e1 : ((((n : Int)).toNat >>> (8 : Int).toNat : Nat) : Int) = ((n / 256 : Nat) : Int) := by
        show (((n >>> 8 : Nat)) : Int) = _
        rw [Nat.shiftRight_eq_div_pow]
      have e2 : (n : Int) % 256 = ((n % 256 : Nat) : Int) := by omega
      rw [e1, e2]
      show loopO stepc83_0 (((n / 256 : Nat) : Int), (a1, (), ()), acc ++ [((n % 256 : Nat) : Int)]) = _
      rw [ih (n / 256) _ (by rw [Nat.pow_succ] at hn; exact Nat.div_lt_of_lt_mul (by rw [Nat.mul_comm]; exact hn)) (by omega) (by simp only [List.length_append, List.length_cons, List.length_nil]; omega)]
      have e3 : dgs (f + 1) n = ((n % 256 : Nat) : Int) :: dgs f (n / 256) := by
        show (if n = 0 then [] else _) = _
        rw [if_neg h]
      rw [e3]; simp

/-! ### Reverse -/
theorem rev_get {l : List Int} {n i : Nat} (h : i < n) (hl : l.length = n) : l.reverse.getD i 0 = l.getD (n - 1 - i) 0 := by
  subst hl
  simp only [List.getD_eq_getElem?_getD]
  rw [List.getElem?_reverse h]

/-- a part of a row, turned about -/
theorem rev_loop {pre l : List Int} {n : Nat} (hn : l.length = n) (hs : n ≤ 1000000) : ∀ (j k : Nat) (row : List Int), j = n / 2 - k → k ≤ n / 2 → row.length = pre.length + n →
    (∀ i, i < pre.length → row.getD i 0 = pre.getD i 0) → (∀ i, i < n → row.getD (pre.length + i) 0 = if i < k ∨ n - 1 - i < k then l.getD (n - 1 - i) 0 else l.getD i 0) →
    loopO stepc107_0 ((pre.length, n), (k : Int), (n : Int) - 1 - k, row) = some (pre ++ l.reverse) := by
  intro j
  induction j with
  | zero =>
    intro k row hj hk hr hp hc
    rw [loopO_eq]
    have d1 : decide (((k : Nat) : Int) < (n : Int) - 1 - k) = false := decide_eq_false (by omega)
    simp only [stepc107_0, d1, Bool.false_eq_true, if_false]
    congr 1
    apply List.ext_getElem?
    intro i
    by_cases h1 : i < pre.length
    · have := hp i h1
      rw [List.getElem?_append_left h1]
      simp only [List.getD_eq_getElem?_getD] at this
      rw [List.getElem?_eq_getElem (by omega), List.getElem?_eq_getElem h1] at this ⊢
      simpa using this
    · rw [List.getElem?_append_right (by omega)]
      by_cases h2 : i < pre.length + n
      · have := hc (i - pre.length) (by omega)
        rw [show pre.length + (i - pre.length) = i by omega] at this
        rw [List.getElem?_reverse (by omega), hn]
        simp only [List.getD_eq_getElem?_getD] at this
        rw [List.getElem?_eq_getElem (by omega)] at this ⊢
        rw [List.getElem?_eq_getElem (by omega)]
        simp only [Option.getD_some] at this
        rw [this]
        split
        · rw [List.getElem?_eq_getElem (by omega)]; rfl
        · rename_i h3
          have e : i - pre.length = n - 1 - (i - pre.length) := by omega
          rw [List.getElem?_eq_getElem (by omega)]
          simp only [Option.getD_some]
          congr 1
          simp only [← e]
      · rw [List.getElem?_eq_none (by omega), List.getElem?_eq_none (by simp; omega)]
  | succ j ih =>
    intro k row hj hk hr hp hc
    rw [loopO_eq]
    have d1 : decide (((k : Nat) : Int) < (n : Int) - 1 - k) = true := decide_eq_true (by omega)
    simp only [stepc107_0, d1, if_true]
    have hx : ((n : Int) - 1 - (k : Int)).toNat = n - 1 - k := by omega
    have hk2 : ((k : Nat) : Int).toNat = k := rfl
    rw [if_pos (by omega), if_pos (by omega), if_pos (by omega), if_pos (by omega), hx, hk2, wi64 (by omega) (by omega), wi64 (by omega) (by omega)]
    have ek : ((k : Nat) : Int) + 1 = ((k + 1 : Nat) : Int) := by omega
    have ej : (n : Int) - 1 - (k : Int) - 1 = (n : Int) - 1 - ((k + 1 : Nat) : Int) := by omega
    rw [ek, ej]
    refine ih (k + 1) _ (by omega) (by omega) (by simpa using hr) ?_ ?_
    · intro i hi
      rw [← hp i hi]
      simp only [List.getD_eq_getElem?_getD]
      rw [List.getElem?_set_ne (by omega), List.getElem?_set_ne (by omega)]
    · intro i hi
      have h1 := hc i hi
      by_cases c1 : i = n - 1 - k
      · subst c1
        rw [if_pos (by omega)]
        have e : (List.set (row.set (pre.length + k) (row.getD (pre.length + (n - 1 - k)) 0)) (pre.length + (n - 1 - k)) (row.getD (pre.length + k) 0)).getD (pre.length + (n - 1 - k)) 0 = row.getD (pre.length + k) 0 := by
          simp only [List.getD_eq_getElem?_getD]
          rw [List.getElem?_set_self (by simp; omega)]; rfl
        rw [e, hc k (by omega), if_neg (by omega)]
        congr 1; omega
      · by_cases c2 : i = k
        · subst c2
          rw [if_pos (by omega)]
          have e : (List.set (row.set (pre.length + i) (row.getD (pre.length + (n - 1 - i)) 0)) (pre.length + (n - 1 - i)) (row.getD (pre.length + i) 0)).getD (pre.length + i) 0 = row.getD (pre.length + (n - 1 - i)) 0 := by
            simp only [List.getD_eq_getElem?_getD]
            rw [List.getElem?_set_ne (by omega), List.getElem?_set_self (by omega)]; rfl
          rw [e, hc (n - 1 - i) (by omega), if_neg (by omega)]
        · have e : (List.set (row.set (pre.length + k) (row.getD (pre.length + (n - 1 - k)) 0)) (pre.length + (n - 1 - k)) (row.getD (pre.length + k) 0)).getD (pre.length + i) 0 = row.getD (pre.length + i) 0 := by
            simp only [List.getD_eq_getElem?_getD]
            rw [List.getElem?_set_ne (by omega), List.getElem?_set_ne (by omega)]
          rw [e, h1]
          by_cases c3 : i < k ∨ n - 1 - i < k
          · rw [if_pos c3, if_pos (by omega)]
          · rw [if_neg c3, if_neg (by omega)]

theorem rev_part {pre l : List Int} (hs : l.length ≤ 1000000) : Fc107 (pre ++ l, (pre.length, l.length)) = some (pre ++ l.reverse) := by
  simp only [Fc107]
  rw [wi64 (by omega) (by omega)]
  have h := rev_loop (pre := pre) (l := l) rfl hs _ 0 (pre ++ l) rfl (Nat.zero_le _) (by simp) (fun i hi => by simp only [List.getD_eq_getElem?_getD]; rw [List.getElem?_append_left hi]) (fun i hi => by
    rw [if_neg (by omega)]
    simp only [List.getD_eq_getElem?_getD]
    rw [List.getElem?_append_right (by omega), show pre.length + i - pre.length = i by omega])
  have e0 : ((0 : Nat) : Int) = 0 := rfl
  rw [e0, Int.sub_zero] at h
  show (loopO stepc107_0 ((pre.length, l.length), 0, (l.length : Int) - 1, pre ++ l)).bind _ = _
  rw [h]; rfl

theorem reverse_eq {l : List Int} (hs : l.length ≤ 1000000) : Fc107 (l, (0, l.length)) = some l.reverse := by
  have := rev_part (pre := []) hs
  simpa using this
end Go.Abs

/- A number's item: written in the one form that is read again. -/
set_option linter.unusedVariables false
set_option linter.unusedSimpArgs false
namespace Go.Abs

def beO (n : Nat) : List Int := if 128 ≤ (dg n).reverse.getD 0 0 then 0 :: (dg n).reverse else (dg n).reverse

theorem ofUint_eq {n : Nat} (hn : n < 18446744073709551616) : Fc83 (n : Int) = some (.node 2 (beO n) []) := by
  simp only [Fc83, IntKind.wrap_u8']
  rw [shrN (by omega) (by omega) (by decide)]
  have e1 : ((((n : Int)).toNat >>> (8 : Int).toNat : Nat) : Int) = ((n / 256 : Nat) : Int) := by
    show (((n >>> 8 : Nat)) : Int) = _
    rw [Nat.shiftRight_eq_div_pow]
  have e2 : (n : Int) % 256 = ((n % 256 : Nat) : Int) := by omega
  have h7 : (256 : Nat) ^ 7 = 72057594037927936 := rfl
  rw [e1, e2]
  have hl := of_loop (a := (0, (), ())) 7 (n / 256) [((n % 256 : Nat) : Int)] (by omega) (by omega) (by simp)
  have edg : [((n % 256 : Nat) : Int)] ++ dgs 7 (n / 256) = dg n := rfl
  rw [edg] at hl
  obtain ⟨l1, l2⟩ := dg_len n
  show (loopO stepc83_0 (((n / 256 : Nat) : Int), (0, (), ()), [((n % 256 : Nat) : Int)])).bind _ = _
  rw [hl]
  simp only [Option.bind_some]
  rw [wi64 (by omega) (by omega), if_pos (by omega)]
  have eh : (dg n).getD (((dg n).length : Int) - 1).toNat 0 = (dg n).reverse.getD 0 0 := by
    rw [rev_get (by omega) rfl]
    congr 1
    omega
  rw [eh]
  unfold beO
  by_cases h : 128 ≤ (dg n).reverse.getD 0 0
  · rw [if_pos h, ite_t (decide_eq_true (by omega)), if_pos (okB1 (by show (dg n).length + 1 ≤ _; omega))]
    show ((Fc107 (dg n ++ [0], (0, (dg n ++ [0]).length))).bind fun y5 => some (Tree.node 2 y5 ([] : List Tree))) = _
    rw [reverse_eq (by simp only [List.length_append, List.length_cons, List.length_nil]; omega)]
    simp
  · rw [if_neg h, ite_f (decide_eq_false (by omega)), reverse_eq (by omega)]
    rfl

/-! ### what it stands for -/
def numR : List Int → Int
  | [] => 0
  | x :: r => x + 256 * numR r
theorem num_snoc (l : List Int) (x : Int) : num (l ++ [x]) = 256 * num l + x := by simp [num, List.foldl_append]
theorem num_rev : ∀ l : List Int, num l.reverse = numR l := by
  intro l
  induction l with
  | nil => rfl
  | cons x l ih => rw [List.reverse_cons, num_snoc, ih]; simp only [numR]; omega
theorem num_numR (l : List Int) : num l = numR l.reverse := by rw [← num_rev, List.reverse_reverse]

theorem numR_dgs : ∀ (f n : Nat), n < 256 ^ f → numR (dgs f n) = n := by
  intro f
  induction f with
  | zero => intro n hn; have : n = 0 := by simpa using hn
            subst this; rfl
  | succ f ih =>
    intro n hn
    unfold dgs
    split
    · rename_i h; subst h; rfl
    · simp only [numR]
      rw [ih (n / 256) (by rw [Nat.pow_succ] at hn; exact Nat.div_lt_of_lt_mul (by rw [Nat.mul_comm]; exact hn))]
      omega
theorem numR_dg {n : Nat} (hn : n < 18446744073709551616) : numR (dg n) = n := by
  have h7 : (256 : Nat) ^ 7 = 72057594037927936 := rfl
  unfold dg
  simp only [numR]
  rw [numR_dgs 7 (n / 256) (by omega)]
  omega

/-- its highest is none of 0 -/
theorem dgs_last : ∀ (f n : Nat), n < 256 ^ f → ∀ x, (dgs f n).getLast? = some x → x ≠ 0 := by
  intro f
  induction f with
  | zero => intro n _ x h; simp [dgs] at h
  | succ f ih =>
    intro n hn x h
    have hn2 : n / 256 < 256 ^ f := by rw [Nat.pow_succ] at hn; exact Nat.div_lt_of_lt_mul (by rw [Nat.mul_comm]; exact hn)
    unfold dgs at h
    split at h
    · simp at h
    · rename_i h0
      cases hd : dgs f (n / 256) with
      | nil =>
        rw [hd] at h
        simp at h
        have hz : n / 256 = 0 := by
          cases f with
          | zero => simpa using hn2
          | succ f =>
            unfold dgs at hd
            split at hd
            · rename_i h1; exact h1
            · simp at hd
        omega
      | cons y r =>
        rw [hd, List.getLast?_cons_cons, ← hd] at h
        exact ih (n / 256) hn2 x h

theorem numR_pos : ∀ {l : List Int}, By l → (∀ x, l.getLast? = some x → x ≠ 0) → l ≠ [] → 0 < numR l := by
  intro l
  induction l with
  | nil => intro _ _ h; exact absurd rfl h
  | cons x l ih =>
    intro hb hl _
    obtain ⟨hx, hb⟩ := By.cons.1 hb
    cases l with
    | nil => have := hl x (by simp); simp only [numR]; omega
    | cons y r =>
      have := ih hb (fun z hz => hl z (by rw [List.getLast?_cons_cons]; exact hz)) (by simp)
      simp only [numR] at this ⊢; omega
theorem numR_ge : ∀ {l : List Int}, By l → 0 ≤ numR l := by
  intro l
  induction l with
  | nil => intro _; exact Int.le_refl _
  | cons x l ih =>
    intro hb
    obtain ⟨hx, hb⟩ := By.cons.1 hb
    have := ih hb
    simp only [numR]; omega

theorem dgs_num : ∀ (f : Nat) (l : List Int), By l → l.length ≤ f → (∀ x, l.getLast? = some x → x ≠ 0) → dgs f (numR l).toNat = l := by
  intro f
  induction f with
  | zero =>
    intro l _ hl _
    have : l = [] := List.eq_nil_of_length_eq_zero (by omega)
    subst this; rfl
  | succ f ih =>
    intro l hb hl hlast
    cases l with
    | nil => rfl
    | cons x r =>
      have hp := numR_pos hb hlast (by simp)
      obtain ⟨hx, hr⟩ := By.cons.1 hb
      have h0 := numR_ge hr
      have hrl : ∀ z, r.getLast? = some z → z ≠ 0 := by
        intro z hz
        cases r with
        | nil => simp at hz
        | cons y r => exact hlast z (by rw [List.getLast?_cons_cons]; exact hz)
      have h1 := ih r hr (by simp only [List.length_cons] at hl; omega) hrl
      have e : numR (x :: r) = x + 256 * numR r := rfl
      rw [e] at hp ⊢
      unfold dgs
      rw [if_neg (by omega)]
      have e1 : (x + 256 * numR r).toNat / 256 = (numR r).toNat := by omega
      have e2 : (((x + 256 * numR r).toNat % 256 : Nat) : Int) = x := by omega
      rw [e1, e2, h1]

theorem dg_num {l : List Int} (hb : By l) (h0 : l ≠ []) (hl : l.length ≤ 8) (hlast : l.length = 1 ∨ ∀ x, l.getLast? = some x → x ≠ 0) : dg (numR l).toNat = l := by
  cases l with
  | nil => exact absurd rfl h0
  | cons x r =>
    obtain ⟨hx, hr⟩ := By.cons.1 hb
    have hg := numR_ge hr
    have hrl : ∀ z, r.getLast? = some z → z ≠ 0 := by
      intro z hz
      cases r with
      | nil => simp at hz
      | cons y r =>
        rcases hlast with h | h
        · simp at h
        · exact h z (by rw [List.getLast?_cons_cons]; exact hz)
    have h1 := dgs_num 7 r hr (by simp only [List.length_cons] at hl; omega) hrl
    have e : numR (x :: r) = x + 256 * numR r := rfl
    rw [e]
    unfold dg
    have e1 : (x + 256 * numR r).toNat / 256 = (numR r).toNat := by omega
    have e2 : (((x + 256 * numR r).toNat % 256 : Nat) : Int) = x := by omega
    rw [e1, e2, h1]

theorem rev_head {l : List Int} : ∀ x, l.reverse.getLast? = some x → l.head? = some x := by
  intro x h
  rw [List.getLast?_reverse] at h; exact h

theorem be_num {b : List Int} (hb : By b) (h0 : b ≠ []) (hbad : ¬ badU b) : beO (num b).toNat = b := by
  have hrb : ∀ {l : List Int}, By l → By l.reverse := fun h y hy => h y (by simpa using hy)
  unfold badU at hbad
  cases b with
  | nil => exact absurd rfl h0
  | cons x r =>
    obtain ⟨hx, hr⟩ := By.cons.1 hb
    simp only [List.getD_cons_zero, List.length_cons, not_or, not_and, List.getD_cons_succ] at hbad
    obtain ⟨h1, h2, h3, h4⟩ := hbad
    by_cases hx0 : x = 0 ∧ 1 ≤ r.length
    · obtain ⟨rfl, hrl⟩ := hx0
      have h5 := h2 rfl (by omega)
      have hrn : r ≠ [] := List.length_pos_iff.1 (by omega)
      have e : dg (num (0 :: r)).toNat = r.reverse := by
        rw [num_zero, num_numR]
        refine dg_num (hrb hr) (by simpa using hrn) (by rw [List.length_reverse]; omega) (.inr fun z hz => ?_)
        have hz := rev_head z hz
        cases r with
        | nil => exact absurd rfl hrn
        | cons y r =>
          simp only [List.head?_cons, Option.some.injEq] at hz
          simp only [List.getD_cons_zero] at h5
          omega
      unfold beO
      rw [e, List.reverse_reverse, if_pos (by omega)]
    · have hlen : r.length ≤ 7 := by
        by_cases h8 : r.length = 8
        · have := h4 (by omega)
          exact absurd ⟨Classical.not_not.1 this, by omega⟩ hx0
        · omega
      have e : dg (num (x :: r)).toNat = (x :: r).reverse := by
        rw [num_numR]
        refine dg_num (hrb hb) (by simp) (by rw [List.length_reverse, List.length_cons]; omega) ?_
        by_cases hr0 : r.length = 0
        · left; rw [List.length_reverse, List.length_cons]; omega
        · right
          intro z hz
          have hz := rev_head z hz
          simp only [List.head?_cons, Option.some.injEq] at hz
          subst hz
          exact fun hx => hx0 ⟨hx, by omega⟩
      unfold beO
      rw [e, List.reverse_reverse, if_neg (by rw [List.getD_cons_zero]; omega)]

theorem be_ok {n : Nat} (hn : n < 18446744073709551616) : By (beO n) ∧ beO n ≠ [] ∧ ¬ badU (beO n) ∧ num (beO n) = n ∧ (beO n).length ≤ 9 := by
  have hrb : By (dg n).reverse := fun y hy => dg_by n y (by simpa using hy)
  obtain ⟨l1, l2⟩ := dg_len n
  have hne : (dg n).reverse ≠ [] := by
    intro h
    have := congrArg List.length h
    simp at this
    rw [this] at l1; simp at l1
  have hnum : num (dg n).reverse = n := by rw [num_rev, numR_dg hn]
  have hlast : (dg n).length = 1 ∨ (dg n).reverse.getD 0 0 ≠ 0 := by
    by_cases h1 : (dg n).length = 1
    · exact .inl h1
    · right
      have h7 : (256 : Nat) ^ 7 = 72057594037927936 := rfl
      have hd : dgs 7 (n / 256) ≠ [] := by
        intro h
        unfold dg at h1
        rw [h] at h1; exact h1 rfl
      have e : (dg n).reverse = (dgs 7 (n / 256)).reverse ++ [((n % 256 : Nat) : Int)] := by unfold dg; simp
      rw [e]
      cases hd2 : (dgs 7 (n / 256)).reverse with
      | nil => exact absurd (by simpa using hd2) hd
      | cons y r =>
        simp only [List.cons_append, List.getD_cons_zero]
        refine dgs_last 7 (n / 256) (by omega) y ?_
        have : (dgs 7 (n / 256)).reverse.head? = some y := by rw [hd2]; rfl
        rw [List.head?_reverse] at this
        exact this
  unfold beO
  by_cases h : 128 ≤ (dg n).reverse.getD 0 0
  · rw [if_pos h]
    refine ⟨By.cons.2 ⟨by omega, hrb⟩, by simp, ?_, by rw [num_zero]; exact hnum, by simp; omega⟩
    unfold badU
    simp only [List.getD_cons_zero, List.getD_cons_succ, List.length_cons, List.length_reverse]
    omega
  · rw [if_neg h]
    refine ⟨hrb, hne, ?_, hnum, by simp; omega⟩
    unfold badU
    simp only [List.length_reverse]
    omega

theorem treeOk_bytes {t : Int} {b : List Int} (h1 : 0 ≤ t ∧ t < 256) (hb : By b) (hl : b.length ≤ 65536) : TreeOk (.node t b []) := TreeOk.mk h1 hb hl (by simp) (by simp)

end Go.Abs

/- Objects' names: figures in groups of 7 bits, there and back. -/
set_option linter.unusedVariables false
set_option linter.unusedSimpArgs false
namespace Go.Abs

/-- the higher groups, the lowest of them first -/
def hi (n : Nat) : List Int := if h : n = 0 then [] else ((n % 128 + 128 : Nat) : Int) :: hi (n / 128)
termination_by n
decreasing_by exact Nat.div_lt_self (by omega) (by omega)
theorem hi_zero : hi 0 = [] := by rw [hi]; rfl
theorem hi_pos {n : Nat} (h : n ≠ 0) : hi n = ((n % 128 + 128 : Nat) : Int) :: hi (n / 128) := by rw [hi, dif_neg h]
def fig (v : Nat) : List Int := (hi (v / 128)).reverse ++ [((v % 128 : Nat) : Int)]

theorem hi_len : ∀ (f n : Nat), n < 128 ^ f → (hi n).length ≤ f := by
  intro f
  induction f with
  | zero => intro n hn; have : n = 0 := by simpa using hn
            subst this; rw [hi_zero]; simp
  | succ f ih =>
    intro n hn
    by_cases h : n = 0
    · subst h; rw [hi_zero]; simp
    · rw [hi_pos h]
      have := ih (n / 128) (by rw [Nat.pow_succ] at hn; exact Nat.div_lt_of_lt_mul (by rw [Nat.mul_comm]; exact hn))
      simp only [List.length_cons]; omega
theorem hi_by : ∀ (n : Nat), By (hi n) := by
  intro n
  induction n using Nat.strongRecOn with
  | _ n ih =>
    by_cases h : n = 0
    · subst h; rw [hi_zero]; exact By.nil
    · rw [hi_pos h]
      exact By.cons.2 ⟨by omega, ih (n / 128) (by omega)⟩
theorem fig_by (n : Nat) : By (fig n) := By.append.2 ⟨fun y hy => hi_by _ y (by simpa using hy), By.cons.2 ⟨by omega, By.nil⟩⟩
theorem fig_len {n : Nat} (h : n < 4294967296) : 1 ≤ (fig n).length ∧ (fig n).length ≤ 5 := by
  have h4 : (128 : Nat) ^ 4 = 268435456 := rfl
  have := hi_len 4 (n / 128) (by omega)
  unfold fig
  simp only [List.length_append, List.length_reverse, List.length_cons, List.length_nil]; omega

/-! ### figures are written -/
theorem or128 (n : Nat) : bitsOr .u8 (IntKind.u8.wrap (n : Int)) 128 = ((n % 128 + 128 : Nat) : Int) := by
  have : ∀ m : Fin 256, bitsOr .u8 ((m.val : Nat) : Int) 128 = ((m.val % 128 + 128 : Nat) : Int) := by decide +kernel
  have h := this ⟨n % 256, by omega⟩
  rw [IntKind.wrap_u8']
  have e : (n : Int) % 256 = ((n % 256 : Nat) : Int) := by omega
  rw [e]
  simp only at h
  rw [h]
  congr 2
  omega
theorem and127' {n : Nat} (h : n < 18446744073709551616) : IntKind.u8.wrap (bitsAnd .u64 (n : Int) 127) = ((n % 128 : Nat) : Int) := by
  rw [and64 (by omega) (by omega) (by omega) (by omega)]
  have e : ((n : Int)).toNat &&& (127 : Int).toNat = n % 128 := by
    show n &&& (2 ^ 7 - 1) = n % 2 ^ 7
    exact Nat.and_two_pow_sub_one_eq_mod n 7
  rw [e, IntKind.wrap_u8']
  omega
theorem shr7 {n : Nat} (h : n < 18446744073709551616) : shrI .u64 (n : Int) 7 = ((n / 128 : Nat) : Int) := by
  rw [shrN (by omega) (by omega) (by decide)]
  show (((n >>> 7 : Nat)) : Int) = _
  rw [Nat.shiftRight_eq_div_pow]

theorem loop34_1 {a b : List Int} {x y z : Int} {w : Int × Unit × Unit} : ∀ (f n : Nat) (acc : List Int), n < 128 ^ f → f ≤ 5 → acc.length + f ≤ 10000 → loopO stepc108_1 (a, (n : Int), x, b, y, z, w, acc) = some (a, x, b, y, z, w, acc ++ hi n) := by
  intro f
  induction f with
  | zero =>
    intro n acc hn _ _
    have : n = 0 := by simpa using hn
    subst this
    obtain ⟨w1, _, _⟩ := w
    rw [loopO_eq, hi_zero]
    simp [stepc108_1]
  | succ f ih =>
    intro n acc hn hf ha
    have h5 : (128 : Nat) ^ (f + 1) ≤ 128 ^ 5 := Nat.pow_le_pow_right (by omega) (by omega)
    have h6 : (128 : Nat) ^ 5 = 34359738368 := rfl
    obtain ⟨w1, u1, u2⟩ := w
    rw [loopO_eq]
    by_cases h : n = 0
    · subst h
      rw [hi_zero]
      simp [stepc108_1]
    · have d1 : decide (((n : Nat) : Int) > 0) = true := decide_eq_true (by omega)
      simp only [stepc108_1, d1, if_true]
      rw [or128, if_pos (okB1 (by show acc.length + 1 ≤ _; omega)), shr7 (by omega)]
      show loopO stepc108_1 (a, ((n / 128 : Nat) : Int), x, b, y, z, (w1, (), ()), acc ++ [((n % 128 + 128 : Nat) : Int)]) = _
      rw [ih (n / 128) _ (by rw [Nat.pow_succ] at hn; exact Nat.div_lt_of_lt_mul (by rw [Nat.mul_comm]; exact hn)) (by omega) (by simp only [List.length_append, List.length_cons, List.length_nil]; omega), hi_pos h]
      simp

def figs (l : List Int) : List Int := l.flatMap fun v => fig v.toNat
theorem figs_cons (x : Int) (l : List Int) : figs (x :: l) = fig x.toNat ++ figs l := rfl
def W64 (l : List Int) : Prop := ∀ y ∈ l, 0 ≤ y ∧ y < 18446744073709551616

theorem loop34 {l : List Int} (hw : W64 l) (hl : l.length ≤ 20) : ∀ (j k : Nat) (acc : List Int), j = (l.drop 1).length - k → 1 ≤ k → k ≤ (l.drop 1).length → acc.length ≤ 5 * k →
    loopO stepc108_0 (l, l.drop 1, ((l.drop 1).length : Int), (k : Int), (0, (), ()), acc) = some (if ∀ y ∈ (l.drop 1).drop k, y ≤ 4294967295 then .inr ((0, (), ()), acc ++ figs ((l.drop 1).drop k)) else .inl (127, (0, (), ()))) := by
  have hml : (l.drop 1).length ≤ 20 := by simp only [List.length_drop]; omega
  have hmw : W64 (l.drop 1) := fun y hy => hw y (List.mem_of_mem_drop hy)
  generalize l.drop 1 = m at *
  intro j
  induction j with
  | zero =>
    intro k acc hj h1 hk ha
    have e : k = m.length := by omega
    subst e
    rw [loopO_eq]
    simp only [stepc108_0, Int.lt_irrefl, decide_false, Bool.false_eq_true, if_false, List.drop_length]
    rw [if_pos (by simp)]
    simp [figs]
  | succ j ih =>
    intro k acc hj h1 hk ha
    have hkl : k < m.length := by omega
    have hdrop : m.drop k = m[k] :: m.drop (k + 1) := List.drop_eq_getElem_cons hkl
    have hx := hmw m[k] (List.getElem_mem hkl)
    have d1 : decide (((k : Nat) : Int) < (m.length : Int)) = true := decide_eq_true (by omega)
    have d2 : (((k : Nat) : Int) == 0) = false := beq_eq_false_iff_ne.2 (by omega)
    rw [loopO_eq]
    simp only [stepc108_0, d1, d2, if_true, Bool.false_eq_true, if_false]
    rw [if_pos (by omega), getD_at hkl]
    by_cases h : m[k] ≤ 4294967295
    · obtain ⟨n, hn⟩ : ∃ n : Nat, m[k] = (n : Int) := ⟨m[k].toNat, by omega⟩
      rw [hdrop]
      rw [hn] at h hx ⊢
      have h5 : (128 : Nat) ^ 5 = 34359738368 := rfl
      have hl5 := hi_len 5 (n / 128) (by omega)
      have hfl := fig_len (n := n) (by omega)
      rw [ite_f (decide_eq_false (by omega)), and127' (by omega), shr7 (by omega), if_pos (okB1 (by show acc.length + 1 ≤ _; omega))]
      simp only [set1]
      rw [loop34_1 5 (n / 128) _ (by omega) (by omega) (by simp only [List.length_append, List.length_cons, List.length_nil]; omega)]
      simp only [Option.bind_some]
      rw [if_pos ⟨by omega, by simp only [List.length_append, List.length_cons, List.length_nil]; omega⟩]
      have e : acc ++ [((n % 128 : Nat) : Int)] ++ hi (n / 128) = acc ++ (((n % 128 : Nat) : Int) :: hi (n / 128)) := by simp
      have e2 : ((acc.length : Int)).toNat = acc.length := by omega
      have e3 : (acc ++ (((n % 128 : Nat) : Int) :: hi (n / 128))).length - acc.length = (((n % 128 : Nat) : Int) :: hi (n / 128)).length := by simp
      rw [e, e2, e3, rev_part (by simp only [List.length_cons]; omega)]
      simp only [Option.bind_some]
      have e4 : acc ++ (((n % 128 : Nat) : Int) :: hi (n / 128)).reverse = acc ++ fig n := by unfold fig; simp
      have ek : ((k : Nat) : Int) + 1 = ((k + 1 : Nat) : Int) := by omega
      rw [e4, wi64 (by omega) (by omega), ek, ih (k + 1) (acc ++ fig n) (by omega) (by omega) (by omega) (by simp only [List.length_append]; omega)]
      have hq : (∀ y ∈ (n : Int) :: m.drop (k + 1), y ≤ 4294967295) ↔ ∀ y ∈ m.drop (k + 1), y ≤ 4294967295 := by
        constructor
        · intro H y hy; exact H y (by simp [hy])
        · intro H y hy
          rcases List.mem_cons.1 hy with rfl | hy
          · exact h
          · exact H y hy
      simp only [hq, figs_cons]
      have e6 : ((n : Int)).toNat = n := by omega
      rw [e6, List.append_assoc]
    · rw [ite_t (decide_eq_true (by omega)), hdrop]
      rw [if_neg (fun H => h (H _ List.mem_cons_self))]

/-! ### OfOID -/
def okOf (l : List Int) : Prop := 2 ≤ l.length ∧ l.length ≤ 20 ∧ l.getD 0 0 ≤ 2 ∧ (l.getD 0 0 < 2 → l.getD 1 0 < 40) ∧ l.getD 1 0 ≤ 4294967295 - 40 * l.getD 0 0 ∧ ∀ y ∈ l.drop 2, y ≤ 4294967295
open Classical in
noncomputable def ofO (l : List Int) : Tree × Int := if okOf l then (.node 6 (fig (40 * l.getD 0 0 + l.getD 1 0).toNat ++ figs (l.drop 2)) [], 0) else (.node 0 [] [], 127)
theorem ofO_ok {l : List Int} (h : okOf l) : ofO l = (.node 6 (fig (40 * l.getD 0 0 + l.getD 1 0).toNat ++ figs (l.drop 2)) [], 0) := if_pos h
theorem ofO_bad {l : List Int} (h : ¬ okOf l) : ofO l = (.node 0 [] [], 127) := if_neg h

theorem w64_getD {l : List Int} (hw : W64 l) (i : Nat) : 0 ≤ l.getD i 0 ∧ l.getD i 0 < 18446744073709551616 := by
  rw [List.getD_eq_getElem?_getD]
  cases e : l[i]? with
  | none => exact ⟨by decide, by decide⟩
  | some y => exact hw y (List.mem_of_getElem? e)

theorem first34 {l : List Int} (hw : W64 l) (h2 : 2 ≤ l.length) (hl : l.length ≤ 20) (h0 : l.getD 0 0 ≤ 2) (h1 : l.getD 1 0 ≤ 4294967295 - 40 * l.getD 0 0) :
    loopO stepc108_0 (l, l.drop 1, ((l.drop 1).length : Int), 0, (0, (), ()), []) = some (if ∀ y ∈ l.drop 2, y ≤ 4294967295 then .inr ((0, (), ()), fig (40 * l.getD 0 0 + l.getD 1 0).toNat ++ figs (l.drop 2)) else .inl (127, (0, (), ()))) := by
  have hL := loop34 hw hl
  have hm1 : (l.drop 1).getD 0 0 = l.getD 1 0 := by simp [List.getD_eq_getElem?_getD]
  have hml : (l.drop 1).length = l.length - 1 := by simp
  have hdd : (l.drop 1).drop 1 = l.drop 2 := by rw [List.drop_drop]
  have hw0 := w64_getD hw 0
  have hw1 := w64_getD hw 1
  rw [← hdd]
  generalize hm : l.drop 1 = m at *
  generalize ha : l.getD 0 0 = a at *
  generalize hb : l.getD 1 0 = b at *
  obtain ⟨n, hn⟩ : ∃ n : Nat, 40 * a + b = (n : Int) := ⟨(40 * a + b).toNat, by omega⟩
  have h5 : (128 : Nat) ^ 5 = 34359738368 := rfl
  have hl5 := hi_len 5 (n / 128) (by omega)
  have hfl := fig_len (n := n) (by omega)
  rw [loopO_eq]
  have d1 : decide ((0 : Int) < (m.length : Int)) = true := decide_eq_true (by omega)
  have t0 : (0 : Int).toNat = 0 := rfl
  simp only [stepc108_0, d1, if_true, t0]
  rw [if_pos (by omega), ite_t (beq_self_eq_true _), if_pos ⟨by omega, by omega⟩, hm1, ha, wu64 (n := 40 * a) (by omega) (by omega), wu64 (by omega) (by omega), show b + 40 * a = (n : Int) by omega]
  rw [ite_f (decide_eq_false (by omega)), and127' (by omega), shr7 (by omega), if_pos (okB1 (by show 0 + 1 ≤ _; omega))]
  simp only [set1]
  rw [loop34_1 5 (n / 128) _ (by omega) (by omega) (by simp only [List.length_append, List.length_cons, List.length_nil]; omega)]
  simp only [Option.bind_some]
  have ez : ((([] : List Int).length : Nat) : Int) = 0 := rfl
  rw [ez, if_pos ⟨by omega, by simp only [List.length_append, List.length_cons, List.length_nil]; omega⟩]
  have e : ([] : List Int) ++ [((n % 128 : Nat) : Int)] ++ hi (n / 128) = ((n % 128 : Nat) : Int) :: hi (n / 128) := by simp
  have e3 : (((n % 128 : Nat) : Int) :: hi (n / 128)).length - (0 : Int).toNat = (((n % 128 : Nat) : Int) :: hi (n / 128)).length := by simp
  rw [e, e3, t0, reverse_eq (by simp only [List.length_cons]; omega)]
  simp only [Option.bind_some]
  have e4 : (((n % 128 : Nat) : Int) :: hi (n / 128)).reverse = fig n := by unfold fig; simp
  rw [e4, wi64 (by omega) (by omega)]
  have h := hL _ 1 (fig n) rfl (by omega) (by omega) (by omega)
  have e1 : ((1 : Nat) : Int) = 0 + 1 := rfl
  rw [e1] at h
  rw [h, hn]
  have e6 : ((n : Int)).toNat = n := by omega
  rw [e6]

theorem ofOid_eq {l : List Int} (hw : W64 l) : Fc108 l = some (ofO l) := by
  have w0 := w64_getD hw 0
  have w1 := w64_getD hw 1
  have bad : ¬ okOf l → ∀ r : Option (Tree × Int), r = some (Tree.node 0 [] [], 127) → r = some (ofO l) := fun h r e => by rw [ofO_bad h]; exact e
  simp only [Fc108]
  by_cases h1 : l.length < 2
  · refine bad (fun h => by have := h.1; omega) _ ?_
    rw [itf_t (decide_eq_true (by omega))]
  · rw [itf_f (decide_eq_false (by omega))]
    by_cases h2 : 20 < l.length
    · refine bad (fun h => by have := h.2.1; omega) _ ?_
      rw [itf_t (decide_eq_true (by omega))]
    · rw [itf_f (decide_eq_false (by omega)), if_pos ⟨by omega, by omega⟩]
      by_cases h3 : 2 < l.getD 0 0
      · refine bad (fun h => by have := h.2.2.1; omega) _ ?_
        rw [itf_t (decide_eq_true (by omega))]
      · rw [itf_f (decide_eq_false (by omega)), if_pos ⟨by omega, by omega⟩]
        have tail : (l.getD 0 0 < 2 → l.getD 1 0 < 40) →
            ((if (0 : Int) ≤ (1 : Int) ∧ (1 : Int) < (l.length : Int) then
                  if (0 : Int) ≤ (0 : Int) ∧ (0 : Int) < (l.length : Int) then
                    let x26 : Int := (IntKind.u64.wrap (4294967295 - (IntKind.u64.wrap (40 * (l.getD 0 0)))))
                    if (decide ((l.getD 1 0) > x26)) = true then
                      some ((Tree.node 0 ([] : List Int) ([] : List Tree)), 127)
                    else
                      if (0 : Int) ≤ (1 : Int) ∧ (1 : Int) ≤ (l.length : Int) then
                        (loopO stepc108_0 (l, (l.drop 1), ((l.drop 1).length : Int), 0, (0, (), ()), ([] : List Int))).bind fun
                          | (.inl (z27, z28)) =>
                            some ((Tree.node z28.1 ([] : List Int) ([] : List Tree)), z27)
                          | (.inr (z29, z30)) =>
                            some ((Tree.node 6 z30 ([] : List Tree)), 0)
                      else none
                  else none
                else none : Option (Tree × Int))) = some (ofO l) := by
          intro h4
          rw [if_pos ⟨by omega, by omega⟩, if_pos ⟨by omega, by omega⟩, wu64 (n := 40 * l.getD 0 0) (by omega) (by omega), wu64 (by omega) (by omega)]
          by_cases h5 : l.getD 1 0 ≤ 4294967295 - 40 * l.getD 0 0
          · rw [ite_f (decide_eq_false (by omega)), if_pos ⟨by omega, by omega⟩, first34 hw (by omega) (by omega) (by omega) h5]
            by_cases h6 : ∀ y ∈ l.drop 2, y ≤ 4294967295
            · rw [if_pos h6, ofO_ok ⟨by omega, by omega, by omega, h4, h5, h6⟩]; rfl
            · rw [if_neg h6, ofO_bad (fun h => h6 h.2.2.2.2.2)]; rfl
          · refine bad (fun h => h5 h.2.2.2.2.1) _ ?_
            rw [ite_t (decide_eq_true (by omega))]
        by_cases h4 : l.getD 0 0 < 2
        · rw [ite_t (decide_eq_true h4), if_pos ⟨by omega, by omega⟩]
          by_cases h5 : l.getD 1 0 < 40
          · rw [itf_f (decide_eq_false (by omega))]
            exact tail (fun _ => h5)
          · refine bad (fun h => h5 (h.2.2.2.1 h4)) _ ?_
            rw [itf_t (decide_eq_true (by omega))]
        · rw [ite_f (decide_eq_false h4)]
          exact tail (fun h => absurd h h4)

/-! ### the document's -/
end Go.Abs

/- Objects' names: read, by the code and by the document; the law. -/
set_option linter.unusedVariables false
set_option linter.unusedSimpArgs false
namespace Go.Abs

def mx : Int := 4294967295
/-- figures read: those that are whole, each in its one form -/
def rdF : Bool → Int → List Int → Option (List Int)
  | fresh, _, [] => if fresh = true then some [] else none
  | fresh, v, c :: s => if fresh = true ∧ c = 128 then none else if 128 * v + c % 128 > mx then none else
    if 128 ≤ c then rdF false (128 * v + c % 128) s else (rdF true 0 s).map (fun l => (128 * v + c % 128) :: l)
theorem rdF_cons (fresh : Bool) (v c : Int) (s : List Int) : rdF fresh v (c :: s) = if fresh = true ∧ c = 128 then none else if 128 * v + c % 128 > mx then none else
    if 128 ≤ c then rdF false (128 * v + c % 128) s else (rdF true 0 s).map (fun l => (128 * v + c % 128) :: l) := rfl

/-! ### figures that were written are read -/
theorem rdF_hi : ∀ (n : Nat) (s : List Int), (n : Int) ≤ mx → rdF true 0 ((hi n).reverse ++ s) = if n = 0 then rdF true 0 s else rdF false n s := by
  intro n
  induction n using Nat.strongRecOn with
  | _ n ih =>
    intro s hn
    unfold mx at hn
    by_cases h : n = 0
    · subst h; rw [hi_zero, if_pos rfl]; rfl
    · rw [if_neg h, hi_pos h, List.reverse_cons, List.append_assoc]
      rw [ih (n / 128) (by omega) _ (by unfold mx; omega)]
      show (if n / 128 = 0 then rdF true 0 (((n % 128 + 128 : Nat) : Int) :: s) else rdF false ((n / 128 : Nat) : Int) (((n % 128 + 128 : Nat) : Int) :: s)) = _
      by_cases h1 : n / 128 = 0
      · rw [if_pos h1, rdF_cons, if_neg (by omega)]
        have e : 128 * (0 : Int) + ((n % 128 + 128 : Nat) : Int) % 128 = (n : Int) := by omega
        rw [e, if_neg (by unfold mx; omega), if_pos (by omega)]
      · rw [if_neg h1, rdF_cons, if_neg (by simp)]
        have e : 128 * ((n / 128 : Nat) : Int) + ((n % 128 + 128 : Nat) : Int) % 128 = (n : Int) := by omega
        rw [e, if_neg (by unfold mx; omega), if_pos (by omega)]

theorem rdF_fig {n : Nat} (hn : (n : Int) ≤ mx) (s : List Int) : rdF true 0 (fig n ++ s) = (rdF true 0 s).map (fun l => (n : Int) :: l) := by
  have hn' := hn
  unfold mx at hn'
  unfold fig
  rw [List.append_assoc, rdF_hi _ _ (by unfold mx; omega)]
  show (if n / 128 = 0 then rdF true 0 (((n % 128 : Nat) : Int) :: s) else rdF false ((n / 128 : Nat) : Int) (((n % 128 : Nat) : Int) :: s)) = _
  by_cases h : n / 128 = 0
  · rw [if_pos h, rdF_cons, if_neg (by omega)]
    have e : 128 * (0 : Int) + ((n % 128 : Nat) : Int) % 128 = (n : Int) := by omega
    rw [e, if_neg (by unfold mx; omega), if_neg (by omega)]
  · rw [if_neg h, rdF_cons, if_neg (by simp)]
    have e : 128 * ((n / 128 : Nat) : Int) + ((n % 128 : Nat) : Int) % 128 = (n : Int) := by omega
    rw [e, if_neg (by unfold mx; omega), if_neg (by omega)]

theorem rdF_figs : ∀ (l : List Int), (∀ y ∈ l, 0 ≤ y ∧ y ≤ mx) → rdF true 0 (figs l) = some l := by
  intro l
  induction l with
  | nil => intro _; rfl
  | cons x l ih =>
    intro h
    have hx := h x (by simp)
    have e : ((x.toNat : Nat) : Int) = x := by omega
    rw [figs_cons, rdF_fig (by omega), ih (fun y hy => h y (by simp [hy])), e]; rfl

/-! ### what is read is the figures' one form -/
theorem rdF_spec : ∀ (s : List Int), By s → (∀ vals, rdF true 0 s = some vals → s = figs vals ∧ ∀ y ∈ vals, 0 ≤ y ∧ y ≤ mx) ∧
    (∀ (n : Nat) vals, 0 < n → (n : Int) ≤ mx → rdF false n s = some vals → (hi n).reverse ++ s = figs vals ∧ ∀ y ∈ vals, 0 ≤ y ∧ y ≤ mx) := by
  intro s
  induction s with
  | nil =>
    intro _
    refine ⟨fun vals h => ?_, fun n vals _ _ h => by cases h⟩
    cases h; exact ⟨rfl, by simp⟩
  | cons c s ih =>
    intro hb
    obtain ⟨hc, hs⟩ := By.cons.1 hb
    obtain ⟨i1, i2⟩ := ih hs
    refine ⟨fun vals h => ?_, fun n vals hn hm h => ?_⟩
    · rw [rdF_cons] at h
      split at h
      · cases h
      · rename_i h1
        split at h
        · cases h
        · rename_i h2
          split at h
          · rename_i h3
            have hx : 128 * (0 : Int) + c % 128 = (((c - 128).toNat : Nat) : Int) := by omega
            rw [hx] at h h2
            have hne : c ≠ 128 := fun e => h1 ⟨rfl, e⟩
            obtain ⟨e1, e2⟩ := i2 (c - 128).toNat vals (by omega) (by omega) h
            refine ⟨?_, e2⟩
            rw [← e1, hi_pos (by omega), show (c - 128).toNat / 128 = 0 by omega, hi_zero]
            have : (((c - 128).toNat % 128 + 128 : Nat) : Int) = c := by omega
            rw [this]; rfl
          · rename_i h3
            cases hr : rdF true 0 s with
            | none => rw [hr] at h; cases h
            | some vs =>
              rw [hr] at h
              simp only [Option.map_some, Option.some.injEq] at h
              obtain ⟨e1, e2⟩ := i1 vs hr
              subst h
              have hx : 128 * (0 : Int) + c % 128 = c := by omega
              refine ⟨?_, ?_⟩
              · rw [hx, figs_cons, ← e1]
                unfold fig
                rw [show c.toNat / 128 = 0 by omega, hi_zero]
                have : ((c.toNat % 128 : Nat) : Int) = c := by omega
                rw [this]; rfl
              · intro y hy
                rcases List.mem_cons.1 hy with rfl | hy
                · exact ⟨by omega, by omega⟩
                · exact e2 y hy
    · rw [rdF_cons] at h
      rw [if_neg (by simp)] at h
      split at h
      · cases h
      · rename_i h2
        have hx : 128 * ((n : Nat) : Int) + c % 128 = ((128 * n + c.toNat % 128 : Nat) : Int) := by omega
        split at h
        · rename_i h3
          rw [hx] at h h2
          obtain ⟨e1, e2⟩ := i2 _ vals (by omega) (by omega) h
          refine ⟨?_, e2⟩
          rw [← e1, hi_pos (n := 128 * n + c.toNat % 128) (by omega), show (128 * n + c.toNat % 128) / 128 = n by omega, List.reverse_cons, List.append_assoc]
          have : (((128 * n + c.toNat % 128) % 128 + 128 : Nat) : Int) = c := by omega
          rw [this]; rfl
        · rename_i h3
          cases hr : rdF true 0 s with
          | none => rw [hr] at h; cases h
          | some vs =>
            rw [hr] at h
            simp only [Option.map_some, Option.some.injEq] at h
            obtain ⟨e1, e2⟩ := i1 vs hr
            subst h
            rw [hx] at h2 ⊢
            refine ⟨?_, ?_⟩
            · rw [figs_cons, ← e1]
              unfold fig
              have e3 : (((128 * n + c.toNat % 128 : Nat) : Int)).toNat = 128 * n + c.toNat % 128 := by omega
              rw [e3, show (128 * n + c.toNat % 128) / 128 = n by omega, List.append_assoc]
              have : (((128 * n + c.toNat % 128) % 128 : Nat) : Int) = c := by omega
              rw [this]; rfl
            · intro y hy
              rcases List.mem_cons.1 hy with rfl | hy
              · exact ⟨by omega, by omega⟩
              · exact e2 y hy

/-! ### the list of numbers -/
def fst2 (x : Int) : Int := if x / 40 ≤ 2 then x / 40 else 2
/-- figures as numbers, behind these -/
def ext (r : List Int) : List Int → List Int
  | [] => r
  | x :: xs => if r = [] then fst2 x :: (x - 40 * fst2 x) :: xs else r ++ x :: xs
theorem fst2_eq {x : Int} (h0 : 0 ≤ x) (h1 : x < 18446744073709551616) : (if 2 < IntKind.u64.wrap (x.tdiv 40) then 2 else IntKind.u64.wrap (x.tdiv 40)) = fst2 x := by
  rw [tdivP h0, wu64 (by omega) (by omega)]
  unfold fst2
  split <;> split <;> omega
theorem fst2_bd {x : Int} (h0 : 0 ≤ x) : 0 ≤ fst2 x ∧ fst2 x ≤ 2 ∧ 40 * fst2 x ≤ x ∧ (fst2 x < 2 → x - 40 * fst2 x < 40) := by
  unfold fst2
  split <;> omega

theorem or7 {a c : Int} (h1 : 0 ≤ a) (h2 : a ≤ mx) (h3 : 0 ≤ c) (h4 : c < 256) : bitsOr .u64 (shlI .u64 a 7) (IntKind.u64.wrap (bitsAnd .u8 c 127)) = 128 * a + c % 128 := by
  unfold mx at h2
  have e0 : bitsAnd .u8 c 127 = c % 128 := by
    have : ∀ m : Fin 256, bitsAnd .u8 ((m.val : Nat) : Int) 127 = ((m.val : Nat) : Int) % 128 := by decide +kernel
    have h := this ⟨c.toNat, by omega⟩
    have e : ((c.toNat : Nat) : Int) = c := by omega
    simp only [e] at h
    exact h
  have e1 : shlI .u64 a 7 = 128 * a := by
    unfold shlI
    rw [show min (7 : Int).toNat IntKind.u64.bits = 7 from rfl, wu64 (by omega) (by omega)]; omega
  rw [e0, e1, wu64 (by omega) (by omega), or64 (by omega) (by omega) (by omega) (by omega)]
  have e2 : (128 * a).toNat = 2 ^ 7 * a.toNat := by omega
  rw [e2, ← Nat.two_pow_add_eq_or_of_lt (by omega : (c % 128).toNat < 2 ^ 7)]
  omega

theorem ext_nil (r : List Int) : ext r [] = r := rfl
theorem ext_step {r : List Int} {x : Int} {xs : List Int} : ext (if r = [] then [fst2 x, x - 40 * fst2 x] else r ++ [x]) xs = ext r (x :: xs) := by
  by_cases h : r = []
  · rw [if_pos h]
    cases xs with
    | nil => simp [ext, h]
    | cons y ys => simp [ext, h]
  · rw [if_neg h]
    cases xs with
    | nil => simp [ext, h]
    | cons y ys => simp [ext, h]

noncomputable def t32 (v : Int) (b : List Int) (n k : Int) (r : List Int) : Option ((Int × Bool × (List Int) × Int × Int × List Int) ⊕ ((Int × List Int) ⊕ (Bool × List Int))) :=
  let x5 : Int := (bitsOr .u64 (shlI .u64 v 7) (IntKind.u64.wrap (bitsAnd .u8 (b.getD k.toNat 0) 127)))
  if (decide (x5 > 4294967295)) = true then
    some (.inr (.inl (127, ([] : List Int))))
  else
    if (!(decide ((b.getD k.toNat 0) < 128))) = true then
      some (.inl (x5, (decide ((b.getD k.toNat 0) < 128)), b, n, (IntKind.i64.wrap (k + 1)), r))
    else
      if ((r.length : Int) == 0) = true then
        let x6 : Int := (if 2 < (IntKind.u64.wrap (x5.tdiv 40)) then 2 else (IntKind.u64.wrap (x5.tdiv 40)))
        if okBytes (r.length + ((List.replicate 1 (0 : Int)).set 0 x6).length) 8 then
          let f7 : List Int := ((List.replicate 1 (0 : Int)).set 0 (IntKind.u64.wrap (x5 - (IntKind.u64.wrap (40 * x6)))))
          if okBytes ((r ++ ((List.replicate 1 (0 : Int)).set 0 x6)).length + f7.length) 8 then
            some (.inl (0, (decide ((b.getD k.toNat 0) < 128)), b, n, (IntKind.i64.wrap (k + 1)), ((r ++ ((List.replicate 1 (0 : Int)).set 0 x6)) ++ f7)))
          else none
        else none
      else
        if okBytes (r.length + ((List.replicate 1 (0 : Int)).set 0 x5).length) 8 then
          some (.inl (0, (decide ((b.getD k.toNat 0) < 128)), b, n, (IntKind.i64.wrap (k + 1)), (r ++ ((List.replicate 1 (0 : Int)).set 0 x5))))
        else none
theorem step32_eq (v : Int) (fresh : Bool) (b : List Int) (n k : Int) (r : List Int) : stepc102_0 (v, fresh, b, n, k, r) = if (decide (k < n)) = true then
      if (0 : Int) ≤ k ∧ k < (b.length : Int) then
        if fresh = true then
          if ((b.getD k.toNat 0) == 128) = true then
            some (.inr (.inl (127, ([] : List Int))))
          else t32 v b n k r
        else t32 v b n k r
      else none
    else
      some (.inr (.inr (fresh, r))) := rfl

def put32 (r : List Int) (x : Int) : List Int := if r = [] then [fst2 x, x - 40 * fst2 x] else r ++ [x]
theorem put32_len (r : List Int) (x : Int) : (put32 r x).length ≤ r.length + 2 := by
  unfold put32
  split
  · simp
  · simp
theorem t32_eq {v : Int} {b r : List Int} {n : Int} {k : Nat} (hb : By b) (hkl : k < b.length) (hl : b.length ≤ 65536) (h0 : 0 ≤ v) (h1 : v ≤ mx) (hr : r.length ≤ 100000) :
    t32 v b n (k : Int) r = if 128 * v + b[k] % 128 > mx then some (.inr (.inl (127, []))) else if 128 ≤ b[k] then some (.inl (128 * v + b[k] % 128, false, b, n, ((k + 1 : Nat) : Int), r)) else
      some (.inl (0, true, b, n, ((k + 1 : Nat) : Int), put32 r (128 * v + b[k] % 128))) := by
  have hx := hb b[k] (List.getElem_mem hkl)
  have ek : ((k : Nat) : Int) + 1 = ((k + 1 : Nat) : Int) := by omega
  unfold t32
  simp only []
  rw [getD_at hkl, or7 h0 h1 hx.1 hx.2]
  unfold mx at h1
  by_cases c1 : 128 * v + b[k] % 128 > mx
  · have c1' := c1
    unfold mx at c1'
    rw [if_pos c1, ite_t (decide_eq_true (by omega))]
  · have c1' := c1
    unfold mx at c1'
    have hge : 0 ≤ 128 * v + b[k] % 128 := by omega
    rw [if_neg c1, ite_f (decide_eq_false (by omega)), wi64 (by omega) (by omega), ek]
    by_cases c2 : 128 ≤ b[k]
    · have d2 : decide (b[k] < 128) = false := decide_eq_false (by omega)
      rw [if_pos c2, d2]
      rfl
    · have d2 : decide (b[k] < 128) = true := decide_eq_true (by omega)
      have hfb := fst2_bd hge
      rw [if_neg c2, d2, ite_f (b := !true) rfl, fst2_eq hge (by omega), wu64 (n := 40 * fst2 (128 * v + b[k] % 128)) (by omega) (by omega), wu64 (n := _ - _) (by omega) (by omega)]
      unfold put32
      by_cases hr0 : r = []
      · have d3 : ((r.length : Int) == 0) = true := by rw [hr0]; rfl
        rw [ite_t d3, if_pos (okB8 (by show r.length + 1 ≤ _; omega)), if_pos (okB8 (by show (r ++ [_]).length + 1 ≤ _; rw [List.length_append]; simp only [List.length_cons, List.length_nil]; omega)), if_pos hr0, hr0]
        rfl
      · have hp := List.length_pos_iff.2 hr0
        have d3 : ((r.length : Int) == 0) = false := beq_eq_false_iff_ne.2 (by omega)
        rw [ite_f d3, if_pos (okB8 (by show r.length + 1 ≤ _; omega)), if_neg hr0]
        rfl

noncomputable def thenO {σ τ : Type} (step : σ → Option (σ ⊕ τ)) : Option (σ ⊕ τ) → Option τ
  | none => none
  | some (.inl s) => loopO step s
  | some (.inr t) => some t
theorem loopO_thenO {σ τ : Type} (step : σ → Option (σ ⊕ τ)) (s : σ) : loopO step s = thenO step (step s) := by
  rw [loopO_eq]
  cases step s with
  | none => rfl
  | some x => cases x <;> rfl

/-- der.OID's loop -/
theorem loop32 {b : List Int} (hb : By b) (hl : b.length ≤ 65536) : ∀ (j k : Nat) (v : Int) (fresh : Bool) (r : List Int), j = b.length - k → k ≤ b.length → 0 ≤ v → v ≤ mx → r.length ≤ k + 1 →
    Ret (α := (Int × List Int) ⊕ (Bool × List Int)) (loopO stepc102_0 (v, fresh, b, (b.length : Int), (k : Int), r)) fun z =>
      (rdF fresh v (b.drop k) = none → z = .inl (127, []) ∨ ∃ r', z = .inr (false, r')) ∧ ∀ vals, rdF fresh v (b.drop k) = some vals → z = .inr (true, ext r vals) := by
  intro j
  induction j with
  | zero =>
    intro k v fresh r hj hk h0 h1 hr
    have e : k = b.length := by omega
    subst e
    refine ⟨.inr (fresh, r), ?_, ?_, ?_⟩
    · rw [loopO_eq]
      simp only [stepc102_0, Int.lt_irrefl, decide_false, Bool.false_eq_true, if_false]
    · rw [List.drop_length]
      intro h
      cases fresh with
      | true => cases h
      | false => exact .inr ⟨r, rfl⟩
    · rw [List.drop_length]
      intro vals h
      cases fresh with
      | true => cases h; rfl
      | false => cases h
  | succ j ih =>
    intro k v fresh r hj hk h0 h1 hr
    have hkl : k < b.length := by omega
    have hdrop : b.drop k = b[k] :: b.drop (k + 1) := List.drop_eq_getElem_cons hkl
    have hx := hb b[k] (List.getElem_mem hkl)
    have d1 : decide (((k : Nat) : Int) < (b.length : Int)) = true := decide_eq_true (by omega)
    rw [loopO_thenO, hdrop, step32_eq, ite_t d1, if_pos (by omega), getD_at hkl, rdF_cons]
    have tail : Ret (α := (Int × List Int) ⊕ (Bool × List Int)) (thenO stepc102_0 (t32 v b (b.length : Int) (k : Int) r)) fun z =>
      ((if 128 * v + b[k] % 128 > mx then none else if 128 ≤ b[k] then rdF false (128 * v + b[k] % 128) (b.drop (k + 1)) else (rdF true 0 (b.drop (k + 1))).map (fun l => (128 * v + b[k] % 128) :: l)) = none → z = .inl (127, []) ∨ ∃ r', z = .inr (false, r')) ∧
        ∀ vals, (if 128 * v + b[k] % 128 > mx then none else if 128 ≤ b[k] then rdF false (128 * v + b[k] % 128) (b.drop (k + 1)) else (rdF true 0 (b.drop (k + 1))).map (fun l => (128 * v + b[k] % 128) :: l)) = some vals → z = .inr (true, ext r vals) := by
      rw [t32_eq hb hkl hl h0 h1 (by omega)]
      by_cases c1 : 128 * v + b[k] % 128 > mx
      · rw [if_pos c1, if_pos c1]
        exact ⟨_, rfl, fun _ => .inl rfl, fun vals h => by cases h⟩
      · rw [if_neg c1, if_neg c1]
        by_cases c2 : 128 ≤ b[k]
        · rw [if_pos c2, if_pos c2]
          exact ih (k + 1) _ false r (by omega) (by omega) (by omega) (by omega) (by omega)
        · rw [if_neg c2, if_neg c2]
          have hpl := put32_len r (128 * v + b[k] % 128)
          have hpl2 : (put32 r (128 * v + b[k] % 128)).length ≤ k + 2 := by
            unfold put32
            split
            · simp
            · simp; omega
          obtain ⟨z, hz, z1, z2⟩ := ih (k + 1) 0 true (put32 r (128 * v + b[k] % 128)) (by omega) (by omega) (Int.le_refl _) (by unfold mx; omega) (by omega)
          refine ⟨z, hz, fun h => z1 (by
            cases hq : rdF true 0 (b.drop (k + 1)) with
            | none => rfl
            | some l => rw [hq] at h; cases h), fun vals h => ?_⟩
          cases hq : rdF true 0 (b.drop (k + 1)) with
          | none => rw [hq] at h; cases h
          | some l =>
            rw [hq] at h
            simp only [Option.map_some, Option.some.injEq] at h
            subst h
            rw [z2 l hq]
            unfold put32
            rw [ext_step]
    by_cases hfr : fresh = true
    · rw [if_pos hfr]
      by_cases c0 : b[k] = 128
      · rw [ite_t (beq_iff_eq.2 c0), if_pos ⟨hfr, c0⟩]
        exact ⟨_, rfl, fun _ => .inl rfl, fun vals h => by cases h⟩
      · rw [ite_f (beq_eq_false_iff_ne.2 c0), if_neg (fun h => c0 h.2)]
        exact tail
    · rw [if_neg hfr, if_neg (fun h => hfr h.1)]
      exact tail
end Go.Abs

/- Objects' names: the document's reader, and the law. -/
set_option linter.unusedVariables false
set_option linter.unusedSimpArgs false
namespace Go.Abs

def oidO (t : Tree) : List Int × Int :=
  if t.tag ≠ 6 then ([], 123) else if t.kids ≠ [] ∨ t.body = [] then ([], 127) else match rdF true 0 t.body with
    | none => ([], 127)
    | some vals => if 20 < (ext [] vals).length then ([], 127) else (ext [] vals, 0)
theorem oidO_tag {t : Tree} (h : t.tag ≠ 6) : oidO t = ([], 123) := if_pos h
theorem oidO_form {t : Tree} (h : t.tag = 6) (h2 : t.kids ≠ [] ∨ t.body = []) : oidO t = ([], 127) := by unfold oidO; rw [if_neg (by simpa using h), if_pos h2]
theorem oidO_body {t : Tree} (h : t.tag = 6) (h2 : t.kids = []) (h3 : t.body ≠ []) : oidO t = match rdF true 0 t.body with
    | none => ([], 127)
    | some vals => if 20 < (ext [] vals).length then ([], 127) else (ext [] vals, 0) := by unfold oidO; rw [if_neg (by simpa using h), if_neg (by simp [h2, h3])]
theorem oidO_none {t : Tree} (h : t.tag = 6) (h2 : t.kids = []) (h3 : t.body ≠ []) (h4 : rdF true 0 t.body = none) : oidO t = ([], 127) := by rw [oidO_body h h2 h3, h4]
theorem oidO_long {t : Tree} {vals : List Int} (h : t.tag = 6) (h2 : t.kids = []) (h3 : t.body ≠ []) (h4 : rdF true 0 t.body = some vals) (h5 : 20 < (ext [] vals).length) : oidO t = ([], 127) := by
  rw [oidO_body h h2 h3, h4]; exact if_pos h5
theorem oidO_ok {t : Tree} {vals : List Int} (h : t.tag = 6) (h2 : t.kids = []) (h3 : t.body ≠ []) (h4 : rdF true 0 t.body = some vals) (h5 : ¬ 20 < (ext [] vals).length) : oidO t = (ext [] vals, 0) := by
  rw [oidO_body h h2 h3, h4]; exact if_neg h5

theorem oid_eq {t : Tree} (ht : TreeOk t) (hz : t.body.length ≤ 65536) : Fc102 t = some (oidO t) := by
  simp only [Fc102]
  rw [Tree.eta, plain_eq]
  simp only [Option.bind_some]
  have hby := By.of ht.byt
  by_cases h1 : t.tag = 6
  · by_cases h2 : t.kids ≠ [] ∨ t.body = []
    · rw [plainO_bad h1 h2, oidO_form h1 h2]; rfl
    · have hk : t.kids = [] := by
        by_cases hk : t.kids = []
        · exact hk
        · exact absurd (.inl hk) h2
      have hb : t.body ≠ [] := fun h => h2 (.inr h)
      rw [plainO_ok h1 hk hb, ite_f (b := ((0 : Int) != 0)) rfl]
      obtain ⟨z, hz, z1, z2⟩ := loop32 hby hz _ 0 0 true [] rfl (Nat.zero_le _) (Int.le_refl _) (by unfold mx; omega) (by simp)
      have hz : loopO stepc102_0 (0, true, t.body, (t.body.length : Int), 0, []) = some z := hz
      rw [List.drop_zero] at z1 z2
      rw [hz]
      simp only [Option.bind_some]
      cases hr : rdF true 0 t.body with
      | none =>
        rw [oidO_none h1 hk hb hr]
        rcases z1 hr with e | ⟨r', e⟩
        · subst e; rfl
        · subst e; rfl
      | some vals =>
        have e := z2 vals hr
        subst e
        by_cases h5 : 20 < (ext [] vals).length
        · rw [oidO_long h1 hk hb hr h5]
          show (if (!true) = false then (if (decide (((ext [] vals).length : Int) > 20)) = true then some (([] : List Int), (127 : Int)) else some (ext [] vals, 0)) else some ([], 127)) = _
          rw [itf_f (b := !true) rfl, ite_t (decide_eq_true (by omega))]
        · rw [oidO_ok h1 hk hb hr h5]
          show (if (!true) = false then (if (decide (((ext [] vals).length : Int) > 20)) = true then some (([] : List Int), (127 : Int)) else some (ext [] vals, 0)) else some ([], 127)) = _
          rw [itf_f (b := !true) rfl, ite_f (decide_eq_false (by omega))]
  · rw [plainO_tag h1, oidO_tag h1]; rfl

/-! ### the document's loop -/
theorem put32_w64 {r : List Int} {x : Int} (hr : W64 r) (h0 : 0 ≤ x) (h1 : x < 18446744073709551616) : W64 (put32 r x) := by
  have hf := fst2_bd h0
  unfold put32
  split
  · intro y hy
    simp only [List.mem_cons, List.not_mem_nil, or_false] at hy
    rcases hy with rfl | rfl <;> omega
  · intro y hy
    rcases List.mem_append.1 hy with hy | hy
    · exact hr y hy
    · simp only [List.mem_cons, List.not_mem_nil, or_false] at hy
      subst hy; exact ⟨h0, h1⟩

/-! ### there and back -/
theorem list2 {l : List Int} (h : 2 ≤ l.length) : l = l.getD 0 0 :: l.getD 1 0 :: l.drop 2 := by
  match l, h with
  | [], h => simp at h
  | [a], h => simp at h
  | a :: b :: r, _ => rfl

theorem oid_of {l : List Int} (hw : W64 l) (h : okOf l) : oidO (ofO l).1 = (l, 0) := by
  have w0 := w64_getD hw 0
  have w1 := w64_getD hw 1
  obtain ⟨h1, h2, h3, h4, h5, h6⟩ := h
  rw [ofO_ok ⟨h1, h2, h3, h4, h5, h6⟩]
  obtain ⟨n, hn⟩ : ∃ n : Nat, 40 * l.getD 0 0 + l.getD 1 0 = (n : Int) := ⟨(40 * l.getD 0 0 + l.getD 1 0).toNat, by omega⟩
  have e6 : ((n : Int)).toNat = n := by omega
  have hr : rdF true 0 (fig n ++ figs (l.drop 2)) = some ((n : Int) :: l.drop 2) := by
    rw [rdF_fig (by unfold mx; omega), rdF_figs _ (fun y hy => ⟨(hw y (List.mem_of_mem_drop hy)).1, by unfold mx; exact h6 y hy⟩)]; rfl
  have hf : fst2 (n : Int) = l.getD 0 0 := by
    unfold fst2
    split <;> omega
  have hext : ext [] ((n : Int) :: l.drop 2) = l := by
    show fst2 (n : Int) :: ((n : Int) - 40 * fst2 (n : Int)) :: l.drop 2 = l
    rw [hf, ← hn, show 40 * l.getD 0 0 + l.getD 1 0 - 40 * l.getD 0 0 = l.getD 1 0 by omega]
    exact (list2 h1).symm
  have hfl := fig_len (n := n) (by omega)
  rw [hn, e6]
  rw [oidO_ok (t := .node 6 (fig n ++ figs (l.drop 2)) []) (vals := (n : Int) :: l.drop 2) rfl rfl (by
    show fig n ++ figs (l.drop 2) ≠ []
    intro h
    have := congrArg List.length h
    simp only [List.length_append, List.length_nil] at this
    omega) hr (by rw [hext]; omega), hext]

theorem of_oid {t : Tree} (ht : TreeOk t) (h : (oidO t).2 = 0) : ofO (oidO t).1 = (t, 0) ∧ W64 (oidO t).1 ∧ (oidO t).1.length ≤ 20 ∧ t.tag = 6 := by
  have hby := By.of ht.byt
  have h1 : t.tag = 6 := by
    by_cases h1 : t.tag = 6
    · exact h1
    · rw [oidO_tag h1] at h; simp at h
  have hform : ¬ (t.kids ≠ [] ∨ t.body = []) := by
    intro h2; rw [oidO_form h1 h2] at h; simp at h
  have hk : t.kids = [] := by
    by_cases hk : t.kids = []
    · exact hk
    · exact absurd (.inl hk) hform
  have hb : t.body ≠ [] := fun h => hform (.inr h)
  cases hr : rdF true 0 t.body with
  | none => rw [oidO_none h1 hk hb hr] at h; simp at h
  | some vals =>
    by_cases h5 : 20 < (ext [] vals).length
    · rw [oidO_long h1 hk hb hr h5] at h; simp at h
    · rw [oidO_ok h1 hk hb hr h5]
      obtain ⟨e1, e2⟩ := (rdF_spec t.body hby).1 vals hr
      cases vals with
      | nil => exact absurd e1 hb
      | cons x xs =>
        have hx := e2 x (by simp)
        have hfb := fst2_bd hx.1
        have hx' := hx
        unfold mx at hx'
        have e : ext [] (x :: xs) = fst2 x :: (x - 40 * fst2 x) :: xs := rfl
        rw [e] at h5 ⊢
        simp only [List.length_cons] at h5
        have hok : okOf (fst2 x :: (x - 40 * fst2 x) :: xs) := by
          refine ⟨by simp, by simp only [List.length_cons]; omega, by simp only [List.getD_cons_zero]; omega, fun h => ?_, ?_, fun y hy => ?_⟩
          · simp only [List.getD_cons_zero, List.getD_cons_succ] at h ⊢; omega
          · simp only [List.getD_cons_zero, List.getD_cons_succ]; omega
          · have := e2 y (by simp only [List.mem_cons]; exact .inr hy)
            unfold mx at this; omega
        refine ⟨?_, ?_, by simp only [List.length_cons]; omega, h1⟩
        · rw [ofO_ok hok]
          simp only [List.getD_cons_zero, List.getD_cons_succ]
          have e3 : 40 * fst2 x + (x - 40 * fst2 x) = x := by omega
          have e4 : (fst2 x :: (x - 40 * fst2 x) :: xs).drop 2 = xs := rfl
          rw [e3, e4, ← figs_cons, ← e1, ← h1, ← hk]
          rw [t.eta]
        · intro y hy
          simp only [List.mem_cons] at hy
          rcases hy with rfl | rfl | hy
          · omega
          · omega
          · have := e2 y (by simp [hy])
            unfold mx at this; omega

theorem ofO_tree {l : List Int} (hw : W64 l) : TreeOk (ofO l).1 := by
  by_cases h : okOf l
  · rw [ofO_ok h]
    have w0 := w64_getD hw 0
    have w1 := w64_getD hw 1
    obtain ⟨h1, h2, h3, h4, h5, h6⟩ := h
    have key : ∀ m : List Int, (∀ y ∈ m, y ≤ 4294967295) → By (figs m) ∧ (figs m).length ≤ 5 * m.length := by
      intro m
      induction m with
      | nil => intro _; exact ⟨By.nil, by simp [figs]⟩
      | cons x m ih =>
        intro hm
        obtain ⟨i1, i2⟩ := ih fun y hy => hm y (by simp [hy])
        have := fig_len (n := x.toNat) (by have := hm x (by simp); omega)
        rw [figs_cons]
        exact ⟨By.append.2 ⟨fig_by _, i1⟩, by simp only [List.length_append, List.length_cons]; omega⟩
    obtain ⟨k1, k2⟩ := key _ h6
    have := fig_len (n := (40 * l.getD 0 0 + l.getD 1 0).toNat) (by omega)
    refine treeOk_bytes (by omega) (By.append.2 ⟨fig_by _, k1⟩) ?_
    simp only [List.length_append, List.length_drop] at k2 ⊢
    omega
  · rw [ofO_bad h]; exact treeOk_zero

open Classical in
/-! ### sameWords, and the law -/
end Go.Abs

