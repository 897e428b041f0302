/- Bools, and the numbers' items. -/
import Derived.Test.YtmfdbnhknaemdaaXValsL
set_option linter.unusedVariables false
set_option linter.unusedSimpArgs false
namespace Go.Abs

/-! ### bools -/
def boolO (t : Tree) : Bool × Int :=
  if t.tag ≠ 1 then (false, 123) else if t.kids ≠ [] ∨ t.body.length ≠ 1 ∨ (t.body.getD 0 0 ≠ 0 ∧ t.body.getD 0 0 ≠ 255) then (false, 127) else (t.body.getD 0 0 != 0, 0)
theorem boolO_tag {t : Tree} (h : t.tag ≠ 1) : boolO t = (false, 123) := if_pos h
theorem boolO_bad {t : Tree} (h : t.tag = 1) (h2 : t.kids ≠ [] ∨ t.body.length ≠ 1 ∨ (t.body.getD 0 0 ≠ 0 ∧ t.body.getD 0 0 ≠ 255)) : boolO t = (false, 127) := by unfold boolO; rw [if_neg (by simpa using h), if_pos h2]
theorem boolO_ok {t : Tree} (h : t.tag = 1) (h2 : t.kids = []) (h3 : t.body.length = 1) (h4 : t.body.getD 0 0 = 0 ∨ t.body.getD 0 0 = 255) : boolO t = (t.body.getD 0 0 != 0, 0) := by
  unfold boolO
  rw [if_neg (by simpa using h), if_neg]
  rintro (e | e | e)
  · exact e h2
  · exact e h3
  · rcases h4 with h | h
    · exact e.1 h
    · exact e.2 h

theorem bool_eq {t : Tree} (ht : TreeOk t) : Fd25 t = some (boolO t) := by
  simp only [Fd25]
  rw [Tree.eta, plain_eq]
  simp only [Option.bind_some]
  have hlen := ht.len.1
  by_cases h1 : t.tag = 1
  · by_cases h2 : t.kids ≠ [] ∨ t.body = []
    · rw [plainO_bad h1 h2, boolO_bad h1 (by rcases h2 with h | h; exact .inl h; exact .inr (.inl (by rw [h]; decide)))]; rfl
    · have hk : t.kids = [] := by
        by_cases hk : t.kids = []
        · exact hk
        · exact absurd (.inl hk) h2
      have hb : t.body ≠ [] := fun h => h2 (.inr h)
      have hp := List.length_pos_iff.2 hb
      rw [plainO_ok h1 hk hb, ite_f (b := ((0 : Int) != 0)) rfl]
      by_cases h3 : t.body.length = 1
      · rw [itf_f (by rw [h3]; rfl), if_pos ⟨by omega, by omega⟩]
        by_cases h4 : t.body.getD 0 0 = 0
        · have d : (t.body.getD 0 0 != 0) = false := by rw [h4]; rfl
          rw [boolO_ok h1 hk h3 (.inl h4), ite_f d, if_pos ⟨by omega, by omega⟩]
        · have d : (t.body.getD 0 0 != 0) = true := bne_iff_ne.2 h4
          rw [ite_t d, if_pos ⟨by omega, by omega⟩]
          by_cases h5 : t.body.getD 0 0 = 255
          · have d2 : (t.body.getD 0 0 != 255) = false := by rw [h5]; rfl
            rw [boolO_ok h1 hk h3 (.inr h5), ite_f d2, if_pos ⟨by omega, by omega⟩]
          · rw [boolO_bad h1 (.inr (.inr ⟨h4, h5⟩)), ite_t (bne_iff_ne.2 h5)]
      · rw [boolO_bad h1 (.inr (.inl h3)), itf_t (bne_iff_ne.2 (by omega))]
  · rw [plainO_tag h1, boolO_tag h1]; rfl

theorem refBool_eq {t : Tree} (ht : TreeOk t) : Fd27 t = some (boolO t) := by
  simp only [Fd27]
  have hlen := ht.len.1
  by_cases h1 : t.tag = 1
  · rw [ite_f (b := (t.tag != 1)) (by rw [h1]; rfl)]
    by_cases h3 : t.body.length = 1
    · rw [itf_f (by rw [h3]; rfl)]
      by_cases hk : t.kids = []
      · rw [itf_f (decide_eq_false (by rw [hk]; simp)), if_pos ⟨by omega, by omega⟩]
        by_cases h4 : t.body.getD 0 0 = 0
        · have d : (t.body.getD 0 0 != 0) = false := by rw [h4]; rfl
          rw [boolO_ok h1 hk h3 (.inl h4), ite_f d, if_pos ⟨by omega, by omega⟩, d, h4]; rfl
        · have d : (t.body.getD 0 0 != 0) = true := bne_iff_ne.2 h4
          rw [ite_t d, if_pos ⟨by omega, by omega⟩]
          by_cases h5 : t.body.getD 0 0 = 255
          · have d2 : (t.body.getD 0 0 != 255) = false := by rw [h5]; rfl
            rw [boolO_ok h1 hk h3 (.inr h5), ite_f d2, if_pos ⟨by omega, by omega⟩, d, h5]; rfl
          · rw [boolO_bad h1 (.inr (.inr ⟨h4, h5⟩)), ite_t (bne_iff_ne.2 h5)]
      · have := List.length_pos_iff.2 hk
        rw [boolO_bad h1 (.inl hk), itf_t (decide_eq_true (by omega))]
    · rw [boolO_bad h1 (.inr (.inl h3)), itf_t (bne_iff_ne.2 (by omega))]
  · rw [boolO_tag h1, ite_t (bne_iff_ne.2 h1)]

/-! ### a number's bytes -/
/-- the lowest first, none of a 0 -/
def dgs : Nat → Nat → List Int
  | 0, _ => []
  | f + 1, n => if n = 0 then [] else ((n % 256 : Nat) : Int) :: dgs f (n / 256)
def dg (n : Nat) : List Int := ((n % 256 : Nat) : Int) :: dgs 7 (n / 256)

theorem dgs_len : ∀ (f n : Nat), (dgs f n).length ≤ f := by
  intro f
  induction f with
  | zero => intro n; simp [dgs]
  | succ f ih =>
    intro n
    unfold dgs
    split
    · simp
    · have := ih (n / 256); simp only [List.length_cons]; omega
theorem dgs_by : ∀ (f n : Nat), By (dgs f n) := by
  intro f
  induction f with
  | zero => intro n; exact By.nil
  | succ f ih =>
    intro n
    unfold dgs
    split
    · exact By.nil
    · exact By.cons.2 ⟨by omega, ih _⟩
theorem dg_by (n : Nat) : By (dg n) := By.cons.2 ⟨by omega, dgs_by _ _⟩
theorem dg_len (n : Nat) : 1 ≤ (dg n).length ∧ (dg n).length ≤ 8 := by
  have := dgs_len 7 (n / 256)
  unfold dg
  simp only [List.length_cons]; omega

theorem set1 (x : Int) : (List.replicate 1 (0 : Int)).set 0 x = [x] := rfl

theorem of_loop {a : Int × Unit × Unit} : ∀ (f n : Nat) (acc : List Int), n < 256 ^ f → f ≤ 8 → acc.length + f ≤ 100 → loopO stepd28_0 ((n : Int), a, acc) = some (a, acc ++ dgs f n) := by
  intro f
  induction f with
  | zero =>
    intro n acc hn _ _
    have : n = 0 := by simpa using hn
    subst this
    rw [loopO_eq]
    obtain ⟨a1, _, _⟩ := a
    simp [stepd28_0, dgs]
  | succ f ih =>
    intro n acc hn hf ha
    rw [loopO_eq]
    obtain ⟨a1, _, _⟩ := a
    by_cases h : n = 0
    · subst h
      simp [stepd28_0, dgs]
    · have hlt : n < 18446744073709551616 := by
        have h1 : 256 ^ (f + 1) ≤ 256 ^ 8 := Nat.pow_le_pow_right (by omega) (by omega)
        have h2 : (256 : Nat) ^ 8 = 18446744073709551616 := rfl
        omega
      have d1 : decide (((n : Nat) : Int) > 0) = true := decide_eq_true (by omega)
      simp only [stepd28_0, d1, if_true, set1, IntKind.wrap_u8']
      rw [if_pos (okB1 (by simp only [List.length_cons, List.length_nil]; omega)), shrN (by omega) (by omega) (by decide)]
      have e1 : ((((n : Int)).toNat >>> (8 : Int).toNat : Nat) : Int) = ((n / 256 : Nat) : Int) := by
        show (((n >>> 8 : Nat)) : Int) = _
        rw [Nat.shiftRight_eq_div_pow]
      have e2 : (n : Int) % 256 = ((n % 256 : Nat) : Int) := by omega
      rw [e1, e2]
      show loopO stepd28_0 (((n / 256 : Nat) : Int), (a1, (), ()), acc ++ [((n % 256 : Nat) : Int)]) = _
      rw [ih (n / 256) _ (by rw [Nat.pow_succ] at hn; exact Nat.div_lt_of_lt_mul (by rw [Nat.mul_comm]; exact hn)) (by omega) (by simp only [List.length_append, List.length_cons, List.length_nil]; omega)]
      have e3 : dgs (f + 1) n = ((n % 256 : Nat) : Int) :: dgs f (n / 256) := by
        show (if n = 0 then [] else _) = _
        rw [if_neg h]
      rw [e3]; simp

theorem of_loop30 {a : Int × Unit × Unit} : ∀ (f n : Nat) (acc : List Int), acc ≠ [] → n < 256 ^ f → f ≤ 8 → acc.length + f ≤ 100 → loopO stepd30_0 ((n : Int), a, acc) = some (a, (dgs f n).reverse ++ acc) := by
  intro f
  induction f with
  | zero =>
    intro n acc h0 hn _ _
    have : n = 0 := by simpa using hn
    subst this
    rw [loopO_eq]
    obtain ⟨a1, _, _⟩ := a
    have hp := List.length_pos_iff.2 h0
    have d2 : ((acc.length : Int) == 0) = false := beq_eq_false_iff_ne.2 (by omega)
    simp [stepd30_0, dgs, d2, h0]
  | succ f ih =>
    intro n acc h0 hn hf ha
    rw [loopO_eq]
    obtain ⟨a1, _, _⟩ := a
    by_cases h : n = 0
    · subst h
      have hp := List.length_pos_iff.2 h0
      have d2 : ((acc.length : Int) == 0) = false := beq_eq_false_iff_ne.2 (by omega)
      simp [stepd30_0, dgs, d2, h0]
    · have hlt : n < 18446744073709551616 := by
        have h1 : 256 ^ (f + 1) ≤ 256 ^ 8 := Nat.pow_le_pow_right (by omega) (by omega)
        have h2 : (256 : Nat) ^ 8 = 18446744073709551616 := rfl
        omega
      have d1 : decide (((n : Nat) : Int) > 0) = true := decide_eq_true (by omega)
      simp only [stepd30_0, d1, set1, IntKind.wrap_u8']
      rw [if_neg (by decide), if_pos (okB1 (by simp only [List.length_cons, List.length_nil]; omega)), tdivP (by omega), tmodP (by omega), wu64 (by omega) (by omega)]
      have e1 : (n : Int) / 256 = ((n / 256 : Nat) : Int) := by omega
      have e2 : (n : Int) % 256 % 256 = ((n % 256 : Nat) : Int) := by omega
      rw [e1, e2]
      show loopO stepd30_0 (((n / 256 : Nat) : Int), (a1, (), ()), [((n % 256 : Nat) : Int)] ++ acc) = _
      rw [ih (n / 256) _ (by simp) (by rw [Nat.pow_succ] at hn; exact Nat.div_lt_of_lt_mul (by rw [Nat.mul_comm]; exact hn)) (by omega) (by simp only [List.length_append, List.length_cons, List.length_nil]; omega)]
      have e3 : dgs (f + 1) n = ((n % 256 : Nat) : Int) :: dgs f (n / 256) := by
        show (if n = 0 then [] else _) = _
        rw [if_neg h]
      rw [e3]; simp

/-! ### Reverse -/
theorem rev_get {l : List Int} {n i : Nat} (h : i < n) (hl : l.length = n) : l.reverse.getD i 0 = l.getD (n - 1 - i) 0 := by
  subst hl
  simp only [List.getD_eq_getElem?_getD]
  rw [List.getElem?_reverse h]

/-- a part of a row, turned about -/
theorem rev_loop {pre l : List Int} {n : Nat} (hn : l.length = n) (hs : n ≤ 1000000) : ∀ (j k : Nat) (row : List Int), j = n / 2 - k → k ≤ n / 2 → row.length = pre.length + n →
    (∀ i, i < pre.length → row.getD i 0 = pre.getD i 0) → (∀ i, i < n → row.getD (pre.length + i) 0 = if i < k ∨ n - 1 - i < k then l.getD (n - 1 - i) 0 else l.getD i 0) →
    loopO stepd50_0 ((pre.length, n), (k : Int), (n : Int) - 1 - k, row) = some (pre ++ l.reverse) := by
  intro j
  induction j with
  | zero =>
    intro k row hj hk hr hp hc
    rw [loopO_eq]
    have d1 : decide (((k : Nat) : Int) < (n : Int) - 1 - k) = false := decide_eq_false (by omega)
    simp only [stepd50_0, d1, Bool.false_eq_true, if_false]
    congr 1
    apply List.ext_getElem?
    intro i
    by_cases h1 : i < pre.length
    · have := hp i h1
      rw [List.getElem?_append_left h1]
      simp only [List.getD_eq_getElem?_getD] at this
      rw [List.getElem?_eq_getElem (by omega), List.getElem?_eq_getElem h1] at this ⊢
      simpa using this
    · rw [List.getElem?_append_right (by omega)]
      by_cases h2 : i < pre.length + n
      · have := hc (i - pre.length) (by omega)
        rw [show pre.length + (i - pre.length) = i by omega] at this
        rw [List.getElem?_reverse (by omega), hn]
        simp only [List.getD_eq_getElem?_getD] at this
        rw [List.getElem?_eq_getElem (by omega)] at this ⊢
        rw [List.getElem?_eq_getElem (by omega)]
        simp only [Option.getD_some] at this
        rw [this]
        split
        · rw [List.getElem?_eq_getElem (by omega)]; rfl
        · rename_i h3
          have e : i - pre.length = n - 1 - (i - pre.length) := by omega
          rw [List.getElem?_eq_getElem (by omega)]
          simp only [Option.getD_some]
          congr 1
          simp only [← e]
      · rw [List.getElem?_eq_none (by omega), List.getElem?_eq_none (by simp; omega)]
  | succ j ih =>
    intro k row hj hk hr hp hc
    rw [loopO_eq]
    have d1 : decide (((k : Nat) : Int) < (n : Int) - 1 - k) = true := decide_eq_true (by omega)
    simp only [stepd50_0, d1, if_true]
    have hx : ((n : Int) - 1 - (k : Int)).toNat = n - 1 - k := by omega
    have hk2 : ((k : Nat) : Int).toNat = k := rfl
    rw [if_pos (by omega), if_pos (by omega), if_pos (by omega), if_pos (by omega), hx, hk2, wi64 (by omega) (by omega), wi64 (by omega) (by omega)]
    have ek : ((k : Nat) : Int) + 1 = ((k + 1 : Nat) : Int) := by omega
    have ej : (n : Int) - 1 - (k : Int) - 1 = (n : Int) - 1 - ((k + 1 : Nat) : Int) := by omega
    rw [ek, ej]
    refine ih (k + 1) _ (by omega) (by omega) (by simpa using hr) ?_ ?_
    · intro i hi
      rw [← hp i hi]
      simp only [List.getD_eq_getElem?_getD]
      rw [List.getElem?_set_ne (by omega), List.getElem?_set_ne (by omega)]
    · intro i hi
      have h1 := hc i hi
      by_cases c1 : i = n - 1 - k
      · subst c1
        rw [if_pos (by omega)]
        have e : (List.set (row.set (pre.length + k) (row.getD (pre.length + (n - 1 - k)) 0)) (pre.length + (n - 1 - k)) (row.getD (pre.length + k) 0)).getD (pre.length + (n - 1 - k)) 0 = row.getD (pre.length + k) 0 := by
          simp only [List.getD_eq_getElem?_getD]
          rw [List.getElem?_set_self (by simp; omega)]; rfl
        rw [e, hc k (by omega), if_neg (by omega)]
        congr 1; omega
      · by_cases c2 : i = k
        · subst c2
          rw [if_pos (by omega)]
          have e : (List.set (row.set (pre.length + i) (row.getD (pre.length + (n - 1 - i)) 0)) (pre.length + (n - 1 - i)) (row.getD (pre.length + i) 0)).getD (pre.length + i) 0 = row.getD (pre.length + (n - 1 - i)) 0 := by
            simp only [List.getD_eq_getElem?_getD]
            rw [List.getElem?_set_ne (by omega), List.getElem?_set_self (by omega)]; rfl
          rw [e, hc (n - 1 - i) (by omega), if_neg (by omega)]
        · have e : (List.set (row.set (pre.length + k) (row.getD (pre.length + (n - 1 - k)) 0)) (pre.length + (n - 1 - k)) (row.getD (pre.length + k) 0)).getD (pre.length + i) 0 = row.getD (pre.length + i) 0 := by
            simp only [List.getD_eq_getElem?_getD]
            rw [List.getElem?_set_ne (by omega), List.getElem?_set_ne (by omega)]
          rw [e, h1]
          by_cases c3 : i < k ∨ n - 1 - i < k
          · rw [if_pos c3, if_pos (by omega)]
          · rw [if_neg c3, if_neg (by omega)]

theorem rev_part {pre l : List Int} (hs : l.length ≤ 1000000) : Fd50 (pre ++ l, (pre.length, l.length)) = some (pre ++ l.reverse) := by
  simp only [Fd50]
  rw [wi64 (by omega) (by omega)]
  have h := rev_loop (pre := pre) (l := l) rfl hs _ 0 (pre ++ l) rfl (Nat.zero_le _) (by simp) (fun i hi => by simp only [List.getD_eq_getElem?_getD]; rw [List.getElem?_append_left hi]) (fun i hi => by
    rw [if_neg (by omega)]
    simp only [List.getD_eq_getElem?_getD]
    rw [List.getElem?_append_right (by omega), show pre.length + i - pre.length = i by omega])
  have e0 : ((0 : Nat) : Int) = 0 := rfl
  rw [e0, Int.sub_zero] at h
  show (loopO stepd50_0 ((pre.length, l.length), 0, (l.length : Int) - 1, pre ++ l)).bind _ = _
  rw [h]; rfl

theorem reverse_eq {l : List Int} (hs : l.length ≤ 1000000) : Fd50 (l, (0, l.length)) = some l.reverse := by
  have := rev_part (pre := []) hs
  simpa using this
end Go.Abs
