/- Bits, numbers, bools: read and written in one form. -/
import Derived.Test.YtmfdbnhknaemdaaXSameL
set_option linter.unusedVariables false
set_option linter.unusedSimpArgs false
namespace Go.Abs

def plainO (t : Tree) (k : Int) : Int := if t.tag ≠ k then 123 else if t.kids ≠ [] ∨ t.body = [] then 127 else 0
theorem plainO_tag {t : Tree} {k : Int} (h : t.tag ≠ k) : plainO t k = 123 := if_pos h
theorem plainO_bad {t : Tree} {k : Int} (h : t.tag = k) (h2 : t.kids ≠ [] ∨ t.body = []) : plainO t k = 127 := by unfold plainO; rw [if_neg (by simpa using h), if_pos h2]
theorem plainO_ok {t : Tree} {k : Int} (h : t.tag = k) (h2 : t.kids = []) (h3 : t.body ≠ []) : plainO t k = 0 := by unfold plainO; rw [if_neg (by simpa using h), if_neg (by simp [h2, h3])]

theorem plain_eq {t : Tree} {k : Int} : Fd43 (t, k) = some (plainO t k) := by
  simp only [Fd43]
  by_cases h1 : t.tag = k
  · have d1 : (t.tag != k) = false := by simpa using h1
    rw [d1]
    by_cases h2 : t.kids = []
    · have d2 : decide ((t.kids.length : Int) > 0) = false := decide_eq_false (by rw [h2]; simp)
      rw [d2]
      by_cases h3 : t.body = []
      · have d3 : ((t.body.length : Int) == 0) = true := by rw [h3]; rfl
        rw [plainO_bad h1 (.inr h3), d3]; rfl
      · have := List.length_pos_iff.2 h3
        have d3 : ((t.body.length : Int) == 0) = false := beq_eq_false_iff_ne.2 (by omega)
        rw [plainO_ok h1 h2 h3, d3]; rfl
    · have := List.length_pos_iff.2 h2
      have d2 : decide ((t.kids.length : Int) > 0) = true := decide_eq_true (by omega)
      rw [plainO_bad h1 (.inl h2), d2]; rfl
  · have d : (t.tag != k) = true := by simpa using h1
    rw [plainO_tag h1, d]; rfl

/-! ### bits -/
def bitsO (t : Tree) : List Int × Int :=
  if t.tag ≠ 3 then ([], 123) else if t.kids ≠ [] ∨ t.body = [] ∨ t.body.getD 0 0 ≠ 0 then ([], 127) else (t.body.drop 1, 0)
theorem bitsO_tag {t : Tree} (h : t.tag ≠ 3) : bitsO t = ([], 123) := if_pos h
theorem bitsO_bad {t : Tree} (h : t.tag = 3) (h2 : t.kids ≠ [] ∨ t.body = [] ∨ t.body.getD 0 0 ≠ 0) : bitsO t = ([], 127) := by unfold bitsO; rw [if_neg (by simpa using h), if_pos h2]
theorem bitsO_ok {t : Tree} (h : t.tag = 3) (h2 : t.kids = []) (h3 : t.body ≠ []) (h4 : t.body.getD 0 0 = 0) : bitsO t = (t.body.drop 1, 0) := by
  unfold bitsO
  rw [if_neg (by simpa using h), if_neg]
  rintro (e | e | e)
  · exact e h2
  · exact h3 e
  · exact e h4

theorem bits_eq {t : Tree} (ht : TreeOk t) : Fd17 t = some (bitsO t) := by
  have hlen := ht.len.1
  simp only [Fd17]
  rw [Tree.eta, plain_eq]
  simp only [Option.bind_some]
  by_cases h1 : t.tag = 3
  · by_cases h2 : t.kids ≠ [] ∨ t.body = []
    · rw [plainO_bad h1 h2, bitsO_bad h1 (by rcases h2 with h | h; exact .inl h; exact .inr (.inl h))]; rfl
    · have hk : t.kids = [] := by
        by_cases hk : t.kids = []
        · exact hk
        · exact absurd (.inl hk) h2
      have hb : t.body ≠ [] := fun h => h2 (.inr h)
      have hp := List.length_pos_iff.2 hb
      rw [plainO_ok h1 hk hb, if_neg (by decide), if_pos ⟨by omega, by omega⟩]
      by_cases h3 : t.body.getD 0 0 = 0
      · have d : (t.body.getD 0 0 != 0) = false := by simpa using h3
        rw [bitsO_ok h1 hk hb h3, d, if_neg (by decide), if_pos ⟨by omega, by omega⟩]
        have e44 : Fd44 (t.body.drop 1) = some (t.body.drop 1) := by
          unfold Fd44
          rw [if_pos (okB1 (by simp only [List.length_drop]; omega))]
        rw [e44]; rfl
      · have d : (t.body.getD 0 0 != 0) = true := by simpa using h3
        rw [bitsO_bad h1 (.inr (.inr h3)), d, if_pos rfl]
  · rw [plainO_tag h1, bitsO_tag h1]; rfl

theorem refBits_eq {t : Tree} (ht : TreeOk t) : Fd18 t = some (bitsO t) := by
  have hlen := ht.len.1
  simp only [Fd18]
  by_cases h1 : t.tag = 3
  · have d1 : (t.tag != 3) = false := by simpa using h1
    rw [d1, if_neg (by decide)]
    by_cases hb : t.body = []
    · have d2 : ((t.body.length : Int) == 0) = true := by rw [hb]; rfl
      rw [bitsO_bad h1 (.inr (.inl hb)), d2]; rfl
    · have hp := List.length_pos_iff.2 hb
      have d2 : ((t.body.length : Int) == 0) = false := beq_eq_false_iff_ne.2 (by omega)
      rw [d2, if_pos rfl, if_pos ⟨by omega, by omega⟩]
      by_cases h3 : t.body.getD 0 0 = 0
      · have d : (t.body.getD 0 0 != 0) = false := by simpa using h3
        rw [d, if_pos rfl]
        by_cases h2 : t.kids = []
        · have d3 : decide ((t.kids.length : Int) > 0) = false := decide_eq_false (by rw [h2]; simp)
          rw [bitsO_ok h1 h2 hb h3, d3, if_neg (by decide), if_pos ⟨by omega, by omega⟩, if_pos (okB1 (by simp only [List.length_drop, List.length_replicate]; omega))]
          rfl
        · have := List.length_pos_iff.2 h2
          have d3 : decide ((t.kids.length : Int) > 0) = true := decide_eq_true (by omega)
          rw [bitsO_bad h1 (.inl h2), d3, if_pos rfl]
      · have d : (t.body.getD 0 0 != 0) = true := by simpa using h3
        rw [bitsO_bad h1 (.inr (.inr h3)), d, if_neg (by decide)]
  · have d1 : (t.tag != 3) = true := by simpa using h1
    rw [bitsO_tag h1, d1, if_pos rfl]

theorem bits_law {t : Tree} {b : List Int} (ht : TreeOk t) (hb : By b) (hl : b.length ≤ 140737488351232) : Fd4 (t, b) = some true := by
  simp only [Fd4]
  rw [Tree.eta, great_eq ht]
  simp only [Option.bind_some]
  by_cases hg : 65536 < t.sz
  · rw [if_pos (decide_eq_true hg), alive]; rfl
  · rw [if_neg (by simpa using hg), bits_eq ht, refBits_eq ht]
    simp only [Option.bind_some]
    have hlen := ht.len.1
    have hl1 : (bitsO t).1.length ≤ 9000000000000000 := by
      unfold bitsO
      split
      · simp
      · split
        · simp
        · simp only [List.length_drop]; omega
    have e19 : Fd19 b = some (.node 3 (0 :: b) []) := by
      simp only [Fd19]
      rw [if_pos (okB1 (by simp only [List.length_set, List.length_replicate]; omega))]; rfl
    have e20 : Fd20 b = some (.node 3 (0 :: b) []) := by
      simp only [Fd20]
      rw [if_pos (okB1 (by simp only [List.length_set, List.length_replicate]; omega))]; rfl
    rw [same_eq hl1, e19, e20]
    simp only [Option.bind_some]
    have hc : (0 :: b).length * 1 ≤ 140737488351233 := by simp only [List.length_cons]; omega
    -- the item of these bytes: its body may have one byte more than any that came in
    have e12 : Fd12 (Tree.node 3 (0 :: b) [], Tree.node 3 (0 :: b) []) = some true := by
      show FRd12 (Tree.rank (.node 3 (0 :: b) []) + 1) _ = _
      show Bd12 _ (Tree.node 3 (0 :: b) [], Tree.node 3 (0 :: b) []) = _
      simp only [Bd12]
      rw [if_pos (by simp), if_pos (by simp), if_neg (by simp)]
      have e0 : (0 : Int) = ((0 : Nat) : Int) := rfl
      have h1 := same12_loop0 (G := FRd12 (Tree.rank (.node 3 (0 :: b) []))) (a := .node 3 (0 :: b) []) (b := .node 3 (0 :: b) []) rfl (by simp only [Tree.body, List.length_cons]; omega) _ 0 rfl (Nat.zero_le _)
      rw [if_pos rfl] at h1
      have h1 : loopO (stepd12_0 (FRd12 (Tree.rank (.node 3 (0 :: b) [])))) (0, (3, 0 :: b, []), (3, 0 :: b, [])) = some (.inr ((3, 0 :: b, []), (3, 0 :: b, []))) := h1
      show (loopO (stepd12_0 (FRd12 (Tree.rank (.node 3 (0 :: b) [])))) (0, (3, 0 :: b, []), (3, 0 :: b, []))).bind _ = _
      rw [h1]
      simp only [Option.bind_some]
      rw [loopO_eq]
      rfl
    have e17 : Fd17 (Tree.node 3 (0 :: b) []) = some (b, 0) := by
      simp only [Fd17]
      have p0 : plainO (Tree.node 3 (0 :: b) []) 3 = 0 := plainO_ok rfl rfl (by simp [Tree.body])
      rw [Tree.eta, plain_eq, p0]
      simp only [Option.bind_some]
      rw [if_neg (by decide), if_pos ⟨by omega, by simp only [Tree.body, List.length_cons]; omega⟩, if_neg (by simp [Tree.body]), if_pos ⟨by omega, by simp only [Tree.body, List.length_cons]; omega⟩]
      have e44 : Fd44 ((Tree.node 3 (0 :: b) []).body.drop 1) = some b := by
        show Fd44 b = _
        unfold Fd44
        rw [if_pos (okB1 (by omega))]
      rw [e44]; rfl
    rw [Tree.eta, e12, e17]
    simp only [Option.bind_some]
    rw [same_eq (by omega), alive]
    simp

/-! ### numbers -/
theorem orU {a b : Int} (h1 : 0 ≤ a) (h3 : 0 ≤ b) (h4 : b < 256) (h5 : 256 * a + b < 18446744073709551616) : bitsOr .u64 (shlI .u64 a 8) (IntKind.u64.wrap b) = 256 * a + b := by
  have e1 : shlI .u64 a 8 = 256 * a := by
    unfold shlI
    rw [show min (8 : Int).toNat IntKind.u64.bits = 8 from rfl, wu64 (by omega) (by omega)]; omega
  rw [e1, wu64 (by omega) (by omega), or64 (by omega) (by omega) (by omega) (by omega)]
  have e2 : (256 * a).toNat = 2 ^ 8 * a.toNat := by omega
  rw [e2, ← Nat.two_pow_add_eq_or_of_lt (by omega : b.toNat < 2 ^ 8)]
  omega

def numF (acc : Int) (l : List Int) : Int := List.foldl (fun a x => 256 * a + x) acc l
theorem numF_cons (acc x : Int) (l : List Int) : numF acc (x :: l) = numF (256 * acc + x) l := rfl
theorem num_numF (l : List Int) : num l = numF 0 l := rfl
theorem numF_ge : ∀ {l : List Int} {acc : Int}, By l → 0 ≤ acc → acc ≤ numF acc l := by
  intro l
  induction l with
  | nil => intro acc _ _; exact Int.le_refl _
  | cons x l ih =>
    intro acc hb h0
    obtain ⟨hx, hb⟩ := By.cons.1 hb
    have := ih (acc := 256 * acc + x) hb (by omega)
    rw [numF_cons]; omega
theorem numF_lt : ∀ {l : List Int} {acc : Int} {n : Nat}, By l → 0 ≤ acc → l.length = n → numF acc l < (acc + 1) * 256 ^ n := by
  intro l
  induction l with
  | nil => intro acc n _ _ hn; subst hn; simp only [numF, List.foldl_nil, List.length_nil, Int.pow_zero]; omega
  | cons x l ih =>
    intro acc n hb h0 hn
    obtain ⟨hx, hb⟩ := By.cons.1 hb
    subst hn
    have h1 := ih (acc := 256 * acc + x) hb (by omega) rfl
    rw [numF_cons, List.length_cons, Int.pow_succ]
    have h2 : (256 * acc + x + 1) * 256 ^ l.length ≤ ((acc + 1) * 256) * 256 ^ l.length := Int.mul_le_mul_of_nonneg_right (by omega) (Int.le_of_lt (Int.pow_pos (by omega)))
    have h3 : (acc + 1) * 256 * 256 ^ l.length = (acc + 1) * (256 ^ l.length * 256) := by rw [Int.mul_assoc, Int.mul_comm 256]
    omega

theorem num_loop24 {xs : List Int} (hb : By xs) (hl : xs.length ≤ 100) : ∀ (j k : Nat) (acc : Int), j = xs.length - k → k ≤ xs.length → 0 ≤ acc → numF acc (xs.drop k) < 18446744073709551616 →
    loopO stepd24_0 (acc, xs, (xs.length : Int), (k : Int)) = some (numF acc (xs.drop k)) := by
  intro j
  induction j with
  | zero =>
    intro k acc hj hk h0 h1
    have e : k = xs.length := by omega
    subst e
    rw [loopO_eq]
    simp only [stepd24_0, Int.lt_irrefl, decide_false, Bool.false_eq_true, if_false, List.drop_length]
    rfl
  | succ j ih =>
    intro k acc hj hk h0 h1
    have hkl : k < xs.length := by omega
    have hdrop : xs.drop k = xs[k] :: xs.drop (k + 1) := List.drop_eq_getElem_cons hkl
    have hx := hb xs[k] (List.getElem_mem hkl)
    rw [hdrop, numF_cons] at h1 ⊢
    have h2 := numF_ge (hb.drop (k + 1)) (acc := 256 * acc + xs[k]) (by omega)
    have d1 : decide (((k : Nat) : Int) < (xs.length : Int)) = true := decide_eq_true (by omega)
    rw [loopO_eq]
    simp only [stepd24_0, d1, if_true]
    rw [if_pos (by omega), getD_at hkl, orU h0 hx.1 hx.2 (by omega), wi64 (by omega) (by omega)]
    have ek : ((k : Nat) : Int) + 1 = ((k + 1 : Nat) : Int) := by omega
    rw [ek]
    exact ih (k + 1) _ (by omega) (by omega) (by omega) h1

theorem num_loop26 {xs : List Int} (hb : By xs) (hl : xs.length ≤ 100) : ∀ (j k : Nat) (acc : Int), j = xs.length - k → k ≤ xs.length → 0 ≤ acc → numF acc (xs.drop k) < 18446744073709551616 →
    loopO stepd26_0 (xs, acc, (k : Int)) = some (numF acc (xs.drop k)) := by
  intro j
  induction j with
  | zero =>
    intro k acc hj hk h0 h1
    have e : k = xs.length := by omega
    subst e
    rw [loopO_eq]
    simp only [stepd26_0, Int.lt_irrefl, decide_false, Bool.false_eq_true, if_false, List.drop_length]
    rfl
  | succ j ih =>
    intro k acc hj hk h0 h1
    have hkl : k < xs.length := by omega
    have hdrop : xs.drop k = xs[k] :: xs.drop (k + 1) := List.drop_eq_getElem_cons hkl
    have hx := hb xs[k] (List.getElem_mem hkl)
    rw [hdrop, numF_cons] at h1 ⊢
    have h2 := numF_ge (hb.drop (k + 1)) (acc := 256 * acc + xs[k]) (by omega)
    have d1 : decide (((k : Nat) : Int) < (xs.length : Int)) = true := decide_eq_true (by omega)
    rw [loopO_eq]
    simp only [stepd26_0, d1, if_true]
    rw [if_pos (by omega), getD_at hkl, wu64 (n := 256 * acc) (by omega) (by omega), wu64 (n := xs[k]) (by omega) (by omega), wu64 (by omega) (by omega), wi64 (by omega) (by omega)]
    have ek : ((k : Nat) : Int) + 1 = ((k + 1 : Nat) : Int) := by omega
    rw [ek]
    exact ih (k + 1) _ (by omega) (by omega) (by omega) h1

/-- what der.Uint answers -/
def badU (b : List Int) : Prop := 128 ≤ b.getD 0 0 ∨ (b.getD 0 0 = 0 ∧ 1 < b.length ∧ b.getD 1 0 < 128) ∨ 9 < b.length ∨ (b.length = 9 ∧ b.getD 0 0 ≠ 0)
instance (b : List Int) : Decidable (badU b) := inferInstanceAs (Decidable (_ ∨ _))
def uintO (t : Tree) : Int × Int :=
  if t.tag ≠ 2 then (0, 123) else if t.kids ≠ [] ∨ t.body = [] then (0, 127) else if badU t.body then (0, 127) else (num t.body, 0)

theorem num_small {b : List Int} (hb : By b) (h0 : b ≠ []) (h : ¬ badU b) : num b < 18446744073709551616 := by
  unfold badU at h
  cases b with
  | nil => exact absurd rfl h0
  | cons x r =>
    obtain ⟨hx, hr⟩ := By.cons.1 hb
    simp only [List.getD_cons_zero, List.length_cons, not_or, not_and, List.getD_cons_succ] at h
    obtain ⟨h1, h2, h3, h4⟩ := h
    by_cases h8 : r.length ≤ 7
    · have h5 := numF_lt hb (acc := 0) (Int.le_refl _) rfl
      rw [num_numF]
      have h6 : (256 : Int) ^ (x :: r).length ≤ 256 ^ 8 := by rw [List.length_cons]; exact ipow_le (by omega) (by omega)
      have h7 : (256 : Int) ^ 8 = 18446744073709551616 := rfl
      omega
    · have hr8 : r.length = 8 := by omega
      have hx0 : x = 0 := by
        by_cases hx0 : x = 0
        · exact hx0
        · exact absurd hx0 (fun h => by have := h4 (by omega); exact this h)
      subst hx0
      have h5 := numF_lt hr (acc := 0) (Int.le_refl _) hr8
      have h7 : (256 : Int) ^ 8 = 18446744073709551616 := rfl
      show numF (256 * 0 + 0) r < _
      simp only [Int.mul_zero, Int.add_zero]
      omega

theorem uintO_tag {t : Tree} (h : t.tag ≠ 2) : uintO t = (0, 123) := if_pos h
theorem uintO_form {t : Tree} (h : t.tag = 2) (h2 : t.kids ≠ [] ∨ t.body = []) : uintO t = (0, 127) := by unfold uintO; rw [if_neg (by simpa using h), if_pos h2]
theorem uintO_bad {t : Tree} (h : t.tag = 2) (h2 : t.kids = []) (h3 : t.body ≠ []) (h4 : badU t.body) : uintO t = (0, 127) := by unfold uintO; rw [if_neg (by simpa using h), if_neg (by simp [h2, h3]), if_pos h4]
theorem uintO_ok {t : Tree} (h : t.tag = 2) (h2 : t.kids = []) (h3 : t.body ≠ []) (h4 : ¬ badU t.body) : uintO t = (num t.body, 0) := by unfold uintO; rw [if_neg (by simpa using h), if_neg (by simp [h2, h3]), if_neg h4]
theorem ite_t {α : Type} {b : Bool} {x y : α} (h : b = true) : (if b = true then x else y) = x := if_pos h
theorem ite_f {α : Type} {b : Bool} {x y : α} (h : b = false) : (if b = true then x else y) = y := if_neg (by rw [h]; decide)
theorem itf_t {α : Type} {b : Bool} {x y : α} (h : b = true) : (if b = false then x else y) = y := if_neg (by rw [h]; decide)
theorem itf_f {α : Type} {b : Bool} {x y : α} (h : b = false) : (if b = false then x else y) = x := if_pos h

theorem uint_eq {t : Tree} (ht : TreeOk t) : Fd24 t = some (uintO t) := by
  simp only [Fd24]
  rw [Tree.eta, plain_eq]
  simp only [Option.bind_some]
  have hlen := ht.len.1
  have hby := By.of ht.byt
  by_cases h1 : t.tag = 2
  · by_cases h2 : t.kids ≠ [] ∨ t.body = []
    · rw [plainO_bad h1 h2, uintO_form h1 h2]; rfl
    · have hk : t.kids = [] := by
        by_cases hk : t.kids = []
        · exact hk
        · exact absurd (.inl hk) h2
      have hb : t.body ≠ [] := fun h => h2 (.inr h)
      have hp := List.length_pos_iff.2 hb
      rw [plainO_ok h1 hk hb, ite_f (b := ((0 : Int) != 0)) rfl]
      have hloop : ¬ badU t.body → loopO stepd24_0 (0, t.body, (t.body.length : Int), 0) = some (num t.body) := by
        intro hbad
        have hs := num_small hby hb hbad
        have hle : t.body.length ≤ 9 := by unfold badU at hbad; omega
        exact num_loop24 hby (by omega) _ 0 0 rfl (Nat.zero_le _) (Int.le_refl _) hs
      rw [if_pos ⟨by omega, by omega⟩]
      generalize hL : loopO stepd24_0 (0, t.body, (t.body.length : Int), 0) = L at hloop ⊢
      by_cases c1 : 128 ≤ t.body.getD 0 0
      · rw [uintO_bad h1 hk hb (.inl c1), itf_t (decide_eq_true (by omega))]
      · rw [itf_f (decide_eq_false (by omega)), if_pos ⟨by omega, by omega⟩]
        by_cases c2 : t.body.getD 0 0 = 0
        · rw [ite_t (beq_iff_eq.2 c2)]
          by_cases c3 : 1 < t.body.length
          · rw [ite_t (decide_eq_true (by omega)), if_pos ⟨by omega, by omega⟩]
            by_cases c4 : t.body.getD 1 0 < 128
            · rw [uintO_bad h1 hk hb (.inr (.inl ⟨c2, c3, c4⟩)), itf_t (decide_eq_true c4)]
            · rw [itf_f (decide_eq_false c4)]
              by_cases c5 : 9 < t.body.length
              · rw [uintO_bad h1 hk hb (.inr (.inr (.inl c5))), itf_t (decide_eq_true (by omega))]
              · have hg : ¬ badU t.body := by unfold badU; omega
                rw [uintO_ok h1 hk hb hg, itf_f (decide_eq_false (by omega)), hloop hg]
                by_cases c6 : t.body.length = 9
                · rw [ite_t (beq_iff_eq.2 (by omega)), if_pos ⟨by omega, by omega⟩, ite_f (by rw [c2]; rfl)]; rfl
                · rw [ite_f (beq_eq_false_iff_ne.2 (by omega))]; rfl
          · have hg : ¬ badU t.body := by unfold badU; omega
            rw [ite_f (decide_eq_false (by omega)), uintO_ok h1 hk hb hg, itf_f (decide_eq_false (by omega)), hloop hg, ite_f (beq_eq_false_iff_ne.2 (by omega))]; rfl
        · rw [ite_f (beq_eq_false_iff_ne.2 c2)]
          by_cases c5 : 9 < t.body.length
          · rw [uintO_bad h1 hk hb (.inr (.inr (.inl c5))), itf_t (decide_eq_true (by omega))]
          · rw [itf_f (decide_eq_false (by omega))]
            by_cases c6 : t.body.length = 9
            · have d : (t.body.getD 0 0 != 0) = true := by simpa using c2
              rw [uintO_bad h1 hk hb (.inr (.inr (.inr ⟨c6, c2⟩))), ite_t (beq_iff_eq.2 (by omega)), if_pos ⟨by omega, by omega⟩, ite_t d]
            · have hg : ¬ badU t.body := by unfold badU; omega
              rw [uintO_ok h1 hk hb hg, ite_f (beq_eq_false_iff_ne.2 (by omega)), hloop hg]; rfl
  · rw [plainO_tag h1, uintO_tag h1]; rfl

theorem num_zero (r : List Int) : num (0 :: r) = num r := rfl

theorem refUint_eq {t : Tree} (ht : TreeOk t) : Fd26 t = some (uintO t) := by
  simp only [Fd26]
  have hlen := ht.len.1
  have hby := By.of ht.byt
  by_cases h1 : t.tag = 2
  · rw [ite_f (b := (t.tag != 2)) (by simpa using h1)]
    by_cases hb : t.body = []
    · rw [uintO_form h1 (.inr hb), itf_t (by rw [hb]; rfl)]
    · have hp := List.length_pos_iff.2 hb
      rw [itf_f (beq_eq_false_iff_ne.2 (by omega))]
      by_cases hk : t.kids = []
      · rw [itf_f (decide_eq_false (by rw [hk]; simp)), if_pos ⟨by omega, by omega⟩]
        have hloop : ¬ badU t.body → loopO stepd26_0 (t.body, 0, 0) = some (num t.body) := by
          intro hbad
          have hs := num_small hby hb hbad
          have hle : t.body.length ≤ 9 := by unfold badU at hbad; omega
          exact num_loop26 hby (by omega) _ 0 0 rfl (Nat.zero_le _) (Int.le_refl _) hs
        have hloop1 : ¬ badU t.body → t.body.getD 0 0 = 0 → loopO stepd26_0 (t.body.drop 1, 0, 0) = some (num t.body) := by
          intro hbad h0
          have hs := num_small hby hb hbad
          have hle : t.body.length ≤ 9 := by unfold badU at hbad; omega
          have e : num t.body = numF 0 ((t.body.drop 1).drop 0) := by
            cases hc : t.body with
            | nil => exact absurd hc hb
            | cons x r =>
              rw [hc] at h0
              have h0 : x = 0 := h0
              subst h0; rfl
          rw [e] at hs ⊢
          exact num_loop26 (hby.drop 1) (by simp only [List.length_drop]; omega) _ 0 0 rfl (Nat.zero_le _) (Int.le_refl _) hs
        have l1 : ((t.body.drop 1).length : Int) = (t.body.length : Int) - 1 := by simp only [List.length_drop]; omega
        generalize hL : loopO stepd26_0 (t.body, 0, 0) = L at hloop ⊢
        generalize hL1 : loopO stepd26_0 (t.body.drop 1, 0, 0) = L1 at hloop1 ⊢
        by_cases c1 : 128 ≤ t.body.getD 0 0
        · rw [uintO_bad h1 hk hb (.inl c1), itf_t (decide_eq_true (by omega))]
        · rw [itf_f (decide_eq_false (by omega))]
          by_cases c3 : 1 < t.body.length
          · rw [ite_t (decide_eq_true (by omega)), if_pos ⟨by omega, by omega⟩]
            by_cases c2 : t.body.getD 0 0 = 0
            · rw [ite_t (beq_iff_eq.2 c2), if_pos ⟨by omega, by omega⟩]
              by_cases c4 : t.body.getD 1 0 < 128
              · rw [uintO_bad h1 hk hb (.inr (.inl ⟨c2, c3, c4⟩)), ite_t (decide_eq_true c4)]
              · rw [ite_f (decide_eq_false c4), if_pos ⟨by omega, by omega⟩, ite_t (beq_iff_eq.2 c2), if_pos ⟨by omega, by omega⟩, l1]
                by_cases c5 : 9 < t.body.length
                · rw [uintO_bad h1 hk hb (.inr (.inr (.inl c5))), ite_t (decide_eq_true (by omega))]
                · have hg : ¬ badU t.body := by unfold badU; omega
                  rw [uintO_ok h1 hk hb hg, ite_f (decide_eq_false (by omega)), hloop1 hg c2]; rfl
            · rw [ite_f (beq_eq_false_iff_ne.2 c2), if_pos ⟨by omega, by omega⟩, ite_f (beq_eq_false_iff_ne.2 c2)]
              by_cases c5 : 8 < t.body.length
              · have hbd : badU t.body := by unfold badU; omega
                rw [uintO_bad h1 hk hb hbd, ite_t (decide_eq_true (by omega))]
              · have hg : ¬ badU t.body := by unfold badU; omega
                rw [uintO_ok h1 hk hb hg, ite_f (decide_eq_false (by omega)), hloop hg]; rfl
          · have hg : ¬ badU t.body := by unfold badU; omega
            rw [uintO_ok h1 hk hb hg, ite_f (decide_eq_false (by omega)), if_pos ⟨by omega, by omega⟩]
            by_cases c2 : t.body.getD 0 0 = 0
            · rw [ite_t (beq_iff_eq.2 c2), if_pos ⟨by omega, by omega⟩, l1, ite_f (decide_eq_false (by omega)), hloop1 hg c2]; rfl
            · rw [ite_f (beq_eq_false_iff_ne.2 c2), ite_f (decide_eq_false (by omega)), hloop hg]; rfl
      · have := List.length_pos_iff.2 hk
        rw [uintO_form h1 (.inl hk), itf_t (decide_eq_true (by omega))]
  · have d1 : (t.tag != 2) = true := by simpa using h1
    rw [uintO_tag h1, ite_t d1]
end Go.Abs
