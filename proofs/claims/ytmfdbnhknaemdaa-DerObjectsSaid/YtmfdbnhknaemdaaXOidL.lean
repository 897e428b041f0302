/- Objects' names: figures in groups of 7 bits, there and back. -/
import Derived.Test.YtmfdbnhknaemdaaXVals3L
set_option linter.unusedVariables false
set_option linter.unusedSimpArgs false
namespace Go.Abs

/-- the higher groups, the lowest of them first -/
def hi (n : Nat) : List Int := if h : n = 0 then [] else ((n % 128 + 128 : Nat) : Int) :: hi (n / 128)
termination_by n
decreasing_by exact Nat.div_lt_self (by omega) (by omega)
theorem hi_zero : hi 0 = [] := by rw [hi]; rfl
theorem hi_pos {n : Nat} (h : n ≠ 0) : hi n = ((n % 128 + 128 : Nat) : Int) :: hi (n / 128) := by rw [hi, dif_neg h]
def fig (v : Nat) : List Int := (hi (v / 128)).reverse ++ [((v % 128 : Nat) : Int)]

theorem hi_len : ∀ (f n : Nat), n < 128 ^ f → (hi n).length ≤ f := by
  intro f
  induction f with
  | zero => intro n hn; have : n = 0 := by simpa using hn
            subst this; rw [hi_zero]; simp
  | succ f ih =>
    intro n hn
    by_cases h : n = 0
    · subst h; rw [hi_zero]; simp
    · rw [hi_pos h]
      have := ih (n / 128) (by rw [Nat.pow_succ] at hn; exact Nat.div_lt_of_lt_mul (by rw [Nat.mul_comm]; exact hn))
      simp only [List.length_cons]; omega
theorem hi_by : ∀ (n : Nat), By (hi n) := by
  intro n
  induction n using Nat.strongRecOn with
  | _ n ih =>
    by_cases h : n = 0
    · subst h; rw [hi_zero]; exact By.nil
    · rw [hi_pos h]
      exact By.cons.2 ⟨by omega, ih (n / 128) (by omega)⟩
theorem fig_by (n : Nat) : By (fig n) := By.append.2 ⟨fun y hy => hi_by _ y (by simpa using hy), By.cons.2 ⟨by omega, By.nil⟩⟩
theorem fig_len {n : Nat} (h : n < 4294967296) : 1 ≤ (fig n).length ∧ (fig n).length ≤ 5 := by
  have h4 : (128 : Nat) ^ 4 = 268435456 := rfl
  have := hi_len 4 (n / 128) (by omega)
  unfold fig
  simp only [List.length_append, List.length_reverse, List.length_cons, List.length_nil]; omega

/-! ### figures are written -/
theorem loop51 : ∀ (f n : Nat) (acc : List Int), n < 128 ^ f → f ≤ 5 → acc.length + f ≤ 100 → loopO stepd51_0 ((n : Int), acc) = some ((hi n).reverse ++ acc) := by
  intro f
  induction f with
  | zero =>
    intro n acc hn _ _
    have : n = 0 := by simpa using hn
    subst this
    rw [loopO_eq, hi_zero]
    simp [stepd51_0]
  | succ f ih =>
    intro n acc hn hf ha
    have h5 : (128 : Nat) ^ (f + 1) ≤ 128 ^ 5 := Nat.pow_le_pow_right (by omega) (by omega)
    have h6 : (128 : Nat) ^ 5 = 34359738368 := rfl
    rw [loopO_eq]
    by_cases h : n = 0
    · subst h
      rw [hi_zero]
      simp [stepd51_0]
    · have d1 : decide (((n : Nat) : Int) > 0) = true := decide_eq_true (by omega)
      simp only [stepd51_0, d1, if_true, IntKind.wrap_u8']
      rw [if_pos (okB1 (by show 1 + acc.length ≤ _; omega)), tdivP (by omega), tmodP (by omega), wu64 (by omega) (by omega)]
      have e1 : (n : Int) / 128 = ((n / 128 : Nat) : Int) := by omega
      have e2 : ((n : Int) % 128 % 256 + 128) % 256 = ((n % 128 + 128 : Nat) : Int) := by omega
      rw [e1, e2]
      show loopO stepd51_0 (((n / 128 : Nat) : Int), ((n % 128 + 128 : Nat) : Int) :: acc) = _
      rw [ih (n / 128) _ (by rw [Nat.pow_succ] at hn; exact Nat.div_lt_of_lt_mul (by rw [Nat.mul_comm]; exact hn)) (by omega) (by simp only [List.length_cons]; omega), hi_pos h]
      simp

theorem figure_eq {n : Nat} (hn : n < 4294967296) : Fd51 (n : Int) = some (fig n) := by
  simp only [Fd51, IntKind.wrap_u8']
  rw [tdivP (by omega), tmodP (by omega), wu64 (by omega) (by omega)]
  have e1 : (n : Int) / 128 = ((n / 128 : Nat) : Int) := by omega
  have e2 : (n : Int) % 128 % 256 = ((n % 128 : Nat) : Int) := by omega
  have h5 : (128 : Nat) ^ 5 = 34359738368 := rfl
  rw [e1, e2]
  show (loopO stepd51_0 (((n / 128 : Nat) : Int), [((n % 128 : Nat) : Int)])).bind _ = _
  rw [loop51 5 (n / 128) _ (by omega) (by omega) (by simp)]
  rfl

theorem or128 (n : Nat) : bitsOr .u8 (IntKind.u8.wrap (n : Int)) 128 = ((n % 128 + 128 : Nat) : Int) := by
  have : ∀ m : Fin 256, bitsOr .u8 ((m.val : Nat) : Int) 128 = ((m.val % 128 + 128 : Nat) : Int) := by decide +kernel
  have h := this ⟨n % 256, by omega⟩
  rw [IntKind.wrap_u8']
  have e : (n : Int) % 256 = ((n % 256 : Nat) : Int) := by omega
  rw [e]
  simp only at h
  rw [h]
  congr 2
  omega
theorem and127' {n : Nat} (h : n < 18446744073709551616) : IntKind.u8.wrap (bitsAnd .u64 (n : Int) 127) = ((n % 128 : Nat) : Int) := by
  rw [and64 (by omega) (by omega) (by omega) (by omega)]
  have e : ((n : Int)).toNat &&& (127 : Int).toNat = n % 128 := by
    show n &&& (2 ^ 7 - 1) = n % 2 ^ 7
    exact Nat.and_two_pow_sub_one_eq_mod n 7
  rw [e, IntKind.wrap_u8']
  omega
theorem shr7 {n : Nat} (h : n < 18446744073709551616) : shrI .u64 (n : Int) 7 = ((n / 128 : Nat) : Int) := by
  rw [shrN (by omega) (by omega) (by decide)]
  show (((n >>> 7 : Nat)) : Int) = _
  rw [Nat.shiftRight_eq_div_pow]

theorem loop34_1 {a b : List Int} {x y z : Int} {w : Int × Unit × Unit} : ∀ (f n : Nat) (acc : List Int), n < 128 ^ f → f ≤ 5 → acc.length + f ≤ 10000 → loopO stepd34_1 (a, (n : Int), x, b, y, z, w, acc) = some (a, x, b, y, z, w, acc ++ hi n) := by
  intro f
  induction f with
  | zero =>
    intro n acc hn _ _
    have : n = 0 := by simpa using hn
    subst this
    obtain ⟨w1, _, _⟩ := w
    rw [loopO_eq, hi_zero]
    simp [stepd34_1]
  | succ f ih =>
    intro n acc hn hf ha
    have h5 : (128 : Nat) ^ (f + 1) ≤ 128 ^ 5 := Nat.pow_le_pow_right (by omega) (by omega)
    have h6 : (128 : Nat) ^ 5 = 34359738368 := rfl
    obtain ⟨w1, u1, u2⟩ := w
    rw [loopO_eq]
    by_cases h : n = 0
    · subst h
      rw [hi_zero]
      simp [stepd34_1]
    · have d1 : decide (((n : Nat) : Int) > 0) = true := decide_eq_true (by omega)
      simp only [stepd34_1, d1, if_true]
      rw [or128, if_pos (okB1 (by show acc.length + 1 ≤ _; omega)), shr7 (by omega)]
      show loopO stepd34_1 (a, ((n / 128 : Nat) : Int), x, b, y, z, (w1, (), ()), acc ++ [((n % 128 + 128 : Nat) : Int)]) = _
      rw [ih (n / 128) _ (by rw [Nat.pow_succ] at hn; exact Nat.div_lt_of_lt_mul (by rw [Nat.mul_comm]; exact hn)) (by omega) (by simp only [List.length_append, List.length_cons, List.length_nil]; omega), hi_pos h]
      simp

def figs (l : List Int) : List Int := l.flatMap fun v => fig v.toNat
theorem figs_cons (x : Int) (l : List Int) : figs (x :: l) = fig x.toNat ++ figs l := rfl
def W64 (l : List Int) : Prop := ∀ y ∈ l, 0 ≤ y ∧ y < 18446744073709551616

theorem loop34 {l : List Int} (hw : W64 l) (hl : l.length ≤ 20) : ∀ (j k : Nat) (acc : List Int), j = (l.drop 1).length - k → 1 ≤ k → k ≤ (l.drop 1).length → acc.length ≤ 5 * k →
    loopO stepd34_0 (l, l.drop 1, ((l.drop 1).length : Int), (k : Int), (0, (), ()), acc) = some (if ∀ y ∈ (l.drop 1).drop k, y ≤ 4294967295 then .inr ((0, (), ()), acc ++ figs ((l.drop 1).drop k)) else .inl (127, (0, (), ()))) := by
  have hml : (l.drop 1).length ≤ 20 := by simp only [List.length_drop]; omega
  have hmw : W64 (l.drop 1) := fun y hy => hw y (List.mem_of_mem_drop hy)
  generalize l.drop 1 = m at *
  intro j
  induction j with
  | zero =>
    intro k acc hj h1 hk ha
    have e : k = m.length := by omega
    subst e
    rw [loopO_eq]
    simp only [stepd34_0, Int.lt_irrefl, decide_false, Bool.false_eq_true, if_false, List.drop_length]
    rw [if_pos (by simp)]
    simp [figs]
  | succ j ih =>
    intro k acc hj h1 hk ha
    have hkl : k < m.length := by omega
    have hdrop : m.drop k = m[k] :: m.drop (k + 1) := List.drop_eq_getElem_cons hkl
    have hx := hmw m[k] (List.getElem_mem hkl)
    have d1 : decide (((k : Nat) : Int) < (m.length : Int)) = true := decide_eq_true (by omega)
    have d2 : (((k : Nat) : Int) == 0) = false := beq_eq_false_iff_ne.2 (by omega)
    rw [loopO_eq]
    simp only [stepd34_0, d1, d2, if_true, Bool.false_eq_true, if_false]
    rw [if_pos (by omega), getD_at hkl]
    by_cases h : m[k] ≤ 4294967295
    · obtain ⟨n, hn⟩ : ∃ n : Nat, m[k] = (n : Int) := ⟨m[k].toNat, by omega⟩
      rw [hdrop]
      rw [hn] at h hx ⊢
      have h5 : (128 : Nat) ^ 5 = 34359738368 := rfl
      have hl5 := hi_len 5 (n / 128) (by omega)
      have hfl := fig_len (n := n) (by omega)
      rw [ite_f (decide_eq_false (by omega)), and127' (by omega), shr7 (by omega), if_pos (okB1 (by show acc.length + 1 ≤ _; omega))]
      simp only [set1]
      rw [loop34_1 5 (n / 128) _ (by omega) (by omega) (by simp only [List.length_append, List.length_cons, List.length_nil]; omega)]
      simp only [Option.bind_some]
      rw [if_pos ⟨by omega, by simp only [List.length_append, List.length_cons, List.length_nil]; omega⟩]
      have e : acc ++ [((n % 128 : Nat) : Int)] ++ hi (n / 128) = acc ++ (((n % 128 : Nat) : Int) :: hi (n / 128)) := by simp
      have e2 : ((acc.length : Int)).toNat = acc.length := by omega
      have e3 : (acc ++ (((n % 128 : Nat) : Int) :: hi (n / 128))).length - acc.length = (((n % 128 : Nat) : Int) :: hi (n / 128)).length := by simp
      rw [e, e2, e3, rev_part (by simp only [List.length_cons]; omega)]
      simp only [Option.bind_some]
      have e4 : acc ++ (((n % 128 : Nat) : Int) :: hi (n / 128)).reverse = acc ++ fig n := by unfold fig; simp
      have ek : ((k : Nat) : Int) + 1 = ((k + 1 : Nat) : Int) := by omega
      rw [e4, wi64 (by omega) (by omega), ek, ih (k + 1) (acc ++ fig n) (by omega) (by omega) (by omega) (by simp only [List.length_append]; omega)]
      have hq : (∀ y ∈ (n : Int) :: m.drop (k + 1), y ≤ 4294967295) ↔ ∀ y ∈ m.drop (k + 1), y ≤ 4294967295 := by
        constructor
        · intro H y hy; exact H y (by simp [hy])
        · intro H y hy
          rcases List.mem_cons.1 hy with rfl | hy
          · exact h
          · exact H y hy
      simp only [hq, figs_cons]
      have e6 : ((n : Int)).toNat = n := by omega
      rw [e6, List.append_assoc]
    · rw [ite_t (decide_eq_true (by omega)), hdrop]
      rw [if_neg (fun H => h (H _ List.mem_cons_self))]

/-! ### OfOID -/
def okOf (l : List Int) : Prop := 2 ≤ l.length ∧ l.length ≤ 20 ∧ l.getD 0 0 ≤ 2 ∧ (l.getD 0 0 < 2 → l.getD 1 0 < 40) ∧ l.getD 1 0 ≤ 4294967295 - 40 * l.getD 0 0 ∧ ∀ y ∈ l.drop 2, y ≤ 4294967295
open Classical in
noncomputable def ofO (l : List Int) : Tree × Int := if okOf l then (.node 6 (fig (40 * l.getD 0 0 + l.getD 1 0).toNat ++ figs (l.drop 2)) [], 0) else (.node 0 [] [], 127)
theorem ofO_ok {l : List Int} (h : okOf l) : ofO l = (.node 6 (fig (40 * l.getD 0 0 + l.getD 1 0).toNat ++ figs (l.drop 2)) [], 0) := if_pos h
theorem ofO_bad {l : List Int} (h : ¬ okOf l) : ofO l = (.node 0 [] [], 127) := if_neg h

theorem w64_getD {l : List Int} (hw : W64 l) (i : Nat) : 0 ≤ l.getD i 0 ∧ l.getD i 0 < 18446744073709551616 := by
  rw [List.getD_eq_getElem?_getD]
  cases e : l[i]? with
  | none => exact ⟨by decide, by decide⟩
  | some y => exact hw y (List.mem_of_getElem? e)

theorem first34 {l : List Int} (hw : W64 l) (h2 : 2 ≤ l.length) (hl : l.length ≤ 20) (h0 : l.getD 0 0 ≤ 2) (h1 : l.getD 1 0 ≤ 4294967295 - 40 * l.getD 0 0) :
    loopO stepd34_0 (l, l.drop 1, ((l.drop 1).length : Int), 0, (0, (), ()), []) = some (if ∀ y ∈ l.drop 2, y ≤ 4294967295 then .inr ((0, (), ()), fig (40 * l.getD 0 0 + l.getD 1 0).toNat ++ figs (l.drop 2)) else .inl (127, (0, (), ()))) := by
  have hL := loop34 hw hl
  have hm1 : (l.drop 1).getD 0 0 = l.getD 1 0 := by simp [List.getD_eq_getElem?_getD]
  have hml : (l.drop 1).length = l.length - 1 := by simp
  have hdd : (l.drop 1).drop 1 = l.drop 2 := by rw [List.drop_drop]
  have hw0 := w64_getD hw 0
  have hw1 := w64_getD hw 1
  rw [← hdd]
  generalize hm : l.drop 1 = m at *
  generalize ha : l.getD 0 0 = a at *
  generalize hb : l.getD 1 0 = b at *
  obtain ⟨n, hn⟩ : ∃ n : Nat, 40 * a + b = (n : Int) := ⟨(40 * a + b).toNat, by omega⟩
  have h5 : (128 : Nat) ^ 5 = 34359738368 := rfl
  have hl5 := hi_len 5 (n / 128) (by omega)
  have hfl := fig_len (n := n) (by omega)
  rw [loopO_eq]
  have d1 : decide ((0 : Int) < (m.length : Int)) = true := decide_eq_true (by omega)
  have t0 : (0 : Int).toNat = 0 := rfl
  simp only [stepd34_0, d1, if_true, t0]
  rw [if_pos (by omega), ite_t (beq_self_eq_true _), if_pos ⟨by omega, by omega⟩, hm1, ha, wu64 (n := 40 * a) (by omega) (by omega), wu64 (by omega) (by omega), show b + 40 * a = (n : Int) by omega]
  rw [ite_f (decide_eq_false (by omega)), and127' (by omega), shr7 (by omega), if_pos (okB1 (by show 0 + 1 ≤ _; omega))]
  simp only [set1]
  rw [loop34_1 5 (n / 128) _ (by omega) (by omega) (by simp only [List.length_append, List.length_cons, List.length_nil]; omega)]
  simp only [Option.bind_some]
  have ez : ((([] : List Int).length : Nat) : Int) = 0 := rfl
  rw [ez, if_pos ⟨by omega, by simp only [List.length_append, List.length_cons, List.length_nil]; omega⟩]
  have e : ([] : List Int) ++ [((n % 128 : Nat) : Int)] ++ hi (n / 128) = ((n % 128 : Nat) : Int) :: hi (n / 128) := by simp
  have e3 : (((n % 128 : Nat) : Int) :: hi (n / 128)).length - (0 : Int).toNat = (((n % 128 : Nat) : Int) :: hi (n / 128)).length := by simp
  rw [e, e3, t0, reverse_eq (by simp only [List.length_cons]; omega)]
  simp only [Option.bind_some]
  have e4 : (((n % 128 : Nat) : Int) :: hi (n / 128)).reverse = fig n := by unfold fig; simp
  rw [e4, wi64 (by omega) (by omega)]
  have h := hL _ 1 (fig n) rfl (by omega) (by omega) (by omega)
  have e1 : ((1 : Nat) : Int) = 0 + 1 := rfl
  rw [e1] at h
  rw [h, hn]
  have e6 : ((n : Int)).toNat = n := by omega
  rw [e6]

theorem ofOid_eq {l : List Int} (hw : W64 l) : Fd34 l = some (ofO l) := by
  have w0 := w64_getD hw 0
  have w1 := w64_getD hw 1
  have bad : ¬ okOf l → ∀ r : Option (Tree × Int), r = some (Tree.node 0 [] [], 127) → r = some (ofO l) := fun h r e => by rw [ofO_bad h]; exact e
  simp only [Fd34]
  by_cases h1 : l.length < 2
  · refine bad (fun h => by have := h.1; omega) _ ?_
    rw [itf_t (decide_eq_true (by omega))]
  · rw [itf_f (decide_eq_false (by omega))]
    by_cases h2 : 20 < l.length
    · refine bad (fun h => by have := h.2.1; omega) _ ?_
      rw [itf_t (decide_eq_true (by omega))]
    · rw [itf_f (decide_eq_false (by omega)), if_pos ⟨by omega, by omega⟩]
      by_cases h3 : 2 < l.getD 0 0
      · refine bad (fun h => by have := h.2.2.1; omega) _ ?_
        rw [itf_t (decide_eq_true (by omega))]
      · rw [itf_f (decide_eq_false (by omega)), if_pos ⟨by omega, by omega⟩]
        have tail : (l.getD 0 0 < 2 → l.getD 1 0 < 40) →
            ((if (0 : Int) ≤ (1 : Int) ∧ (1 : Int) < (l.length : Int) then
                  if (0 : Int) ≤ (0 : Int) ∧ (0 : Int) < (l.length : Int) then
                    let x26 : Int := (IntKind.u64.wrap (4294967295 - (IntKind.u64.wrap (40 * (l.getD 0 0)))))
                    if (decide ((l.getD 1 0) > x26)) = true then
                      some ((Tree.node 0 ([] : List Int) ([] : List Tree)), 127)
                    else
                      if (0 : Int) ≤ (1 : Int) ∧ (1 : Int) ≤ (l.length : Int) then
                        (loopO stepd34_0 (l, (l.drop 1), ((l.drop 1).length : Int), 0, (0, (), ()), ([] : List Int))).bind fun
                          | (.inl (z27, z28)) =>
                            some ((Tree.node z28.1 ([] : List Int) ([] : List Tree)), z27)
                          | (.inr (z29, z30)) =>
                            some ((Tree.node 6 z30 ([] : List Tree)), 0)
                      else none
                  else none
                else none : Option (Tree × Int))) = some (ofO l) := by
          intro h4
          rw [if_pos ⟨by omega, by omega⟩, if_pos ⟨by omega, by omega⟩, wu64 (n := 40 * l.getD 0 0) (by omega) (by omega), wu64 (by omega) (by omega)]
          by_cases h5 : l.getD 1 0 ≤ 4294967295 - 40 * l.getD 0 0
          · rw [ite_f (decide_eq_false (by omega)), if_pos ⟨by omega, by omega⟩, first34 hw (by omega) (by omega) (by omega) h5]
            by_cases h6 : ∀ y ∈ l.drop 2, y ≤ 4294967295
            · rw [if_pos h6, ofO_ok ⟨by omega, by omega, by omega, h4, h5, h6⟩]; rfl
            · rw [if_neg h6, ofO_bad (fun h => h6 h.2.2.2.2.2)]; rfl
          · refine bad (fun h => h5 h.2.2.2.2.1) _ ?_
            rw [ite_t (decide_eq_true (by omega))]
        by_cases h4 : l.getD 0 0 < 2
        · rw [ite_t (decide_eq_true h4), if_pos ⟨by omega, by omega⟩]
          by_cases h5 : l.getD 1 0 < 40
          · rw [itf_f (decide_eq_false (by omega))]
            exact tail (fun _ => h5)
          · refine bad (fun h => h5 (h.2.2.2.1 h4)) _ ?_
            rw [itf_t (decide_eq_true (by omega))]
        · rw [ite_f (decide_eq_false h4)]
          exact tail (fun h => absurd h h4)

/-! ### the document's -/
theorem loop35 {l : List Int} (hw : W64 l) (hl : l.length ≤ 20) : ∀ (j k : Nat) (acc : List Int), j = l.length - k → 1 ≤ k → k ≤ l.length → acc.length ≤ 5 * k →
    loopO stepd35_0 (l, (k : Int), (0, (), ()), acc) = some (if ∀ y ∈ l.drop k, y ≤ 4294967295 then .inr ((0, (), ()), acc ++ figs (l.drop k)) else .inl (127, (0, (), ()))) := by
  intro j
  induction j with
  | zero =>
    intro k acc hj h1 hk ha
    have e : k = l.length := by omega
    subst e
    rw [loopO_eq]
    simp only [stepd35_0, Int.lt_irrefl, decide_false, Bool.false_eq_true, if_false, List.drop_length]
    rw [if_pos (by simp)]
    simp [figs]
  | succ j ih =>
    intro k acc hj h1 hk ha
    have hkl : k < l.length := by omega
    have hdrop : l.drop k = l[k] :: l.drop (k + 1) := List.drop_eq_getElem_cons hkl
    have hx := hw l[k] (List.getElem_mem hkl)
    have d1 : decide (((k : Nat) : Int) < (l.length : Int)) = true := decide_eq_true (by omega)
    rw [loopO_eq]
    simp only [stepd35_0, d1, if_true]
    rw [if_pos (by omega), getD_at hkl]
    by_cases h : l[k] ≤ 4294967295
    · obtain ⟨n, hn⟩ : ∃ n : Nat, l[k] = (n : Int) := ⟨l[k].toNat, by omega⟩
      rw [hdrop]
      rw [hn] at h hx ⊢
      have hfl := fig_len (n := n) (by omega)
      rw [ite_f (decide_eq_false (by omega)), if_pos (by omega), figure_eq (by omega)]
      simp only [Option.bind_some]
      have ek : ((k : Nat) : Int) + 1 = ((k + 1 : Nat) : Int) := by omega
      rw [if_pos (okB1 (by omega)), wi64 (by omega) (by omega), ek]
      show loopO stepd35_0 (l, ((k + 1 : Nat) : Int), (0, (), ()), acc ++ fig n) = _
      rw [ih (k + 1) (acc ++ fig n) (by omega) (by omega) (by omega) (by simp only [List.length_append]; omega)]
      have hq : (∀ y ∈ (n : Int) :: l.drop (k + 1), y ≤ 4294967295) ↔ ∀ y ∈ l.drop (k + 1), y ≤ 4294967295 := by
        constructor
        · intro H y hy; exact H y (by simp [hy])
        · intro H y hy
          rcases List.mem_cons.1 hy with rfl | hy
          · exact h
          · exact H y hy
      simp only [hq, figs_cons]
      have e6 : ((n : Int)).toNat = n := by omega
      rw [e6, List.append_assoc]
    · rw [ite_t (decide_eq_true (by omega)), hdrop]
      rw [if_neg (fun H => h (H _ List.mem_cons_self))]

theorem loop35r {l : List Int} (hw : W64 l) (hl : l.length ≤ 20) : ∀ (j k : Nat) (acc : List Int), j = l.length - k → 1 ≤ k → k ≤ l.length → acc.length ≤ 5 * k →
    loopO stepd35r_0 ((k : Int), l, (0, (), ()), acc) = some (if ∀ y ∈ l.drop k, y ≤ 4294967295 then .inr ((0, (), ()), acc ++ figs (l.drop k), l) else .inl (127, (0, (), ()), l)) := by
  intro j
  induction j with
  | zero =>
    intro k acc hj h1 hk ha
    have e : k = l.length := by omega
    subst e
    rw [loopO_eq]
    simp only [stepd35r_0, Int.lt_irrefl, decide_false, Bool.false_eq_true, if_false, List.drop_length]
    rw [if_pos (by simp)]
    simp [figs]
  | succ j ih =>
    intro k acc hj h1 hk ha
    have hkl : k < l.length := by omega
    have hdrop : l.drop k = l[k] :: l.drop (k + 1) := List.drop_eq_getElem_cons hkl
    have hx := hw l[k] (List.getElem_mem hkl)
    have d1 : decide (((k : Nat) : Int) < (l.length : Int)) = true := decide_eq_true (by omega)
    rw [loopO_eq]
    simp only [stepd35r_0, d1, if_true]
    rw [if_pos (by omega), getD_at hkl]
    by_cases h : l[k] ≤ 4294967295
    · obtain ⟨n, hn⟩ : ∃ n : Nat, l[k] = (n : Int) := ⟨l[k].toNat, by omega⟩
      rw [hdrop]
      rw [hn] at h hx ⊢
      have hfl := fig_len (n := n) (by omega)
      rw [ite_f (decide_eq_false (by omega)), if_pos (by omega), figure_eq (by omega)]
      simp only [Option.bind_some]
      have ek : ((k : Nat) : Int) + 1 = ((k + 1 : Nat) : Int) := by omega
      rw [if_pos (okB1 (by omega)), wi64 (by omega) (by omega), ek]
      show loopO stepd35r_0 (((k + 1 : Nat) : Int), l, (0, (), ()), acc ++ fig n) = _
      rw [ih (k + 1) (acc ++ fig n) (by omega) (by omega) (by omega) (by simp only [List.length_append]; omega)]
      have hq : (∀ y ∈ (n : Int) :: l.drop (k + 1), y ≤ 4294967295) ↔ ∀ y ∈ l.drop (k + 1), y ≤ 4294967295 := by
        constructor
        · intro H y hy; exact H y (by simp [hy])
        · intro H y hy
          rcases List.mem_cons.1 hy with rfl | hy
          · exact h
          · exact H y hy
      simp only [hq, figs_cons]
      have e6 : ((n : Int)).toNat = n := by omega
      rw [e6, List.append_assoc]
    · rw [ite_t (decide_eq_true (by omega)), hdrop]
      rw [if_neg (fun H => h (H _ List.mem_cons_self))]

theorem refOfOid_eq {l : List Int} (hw : W64 l) : Fd35 l = some (ofO l) := by
  have w0 := w64_getD hw 0
  have w1 := w64_getD hw 1
  have bad : ¬ okOf l → ∀ r : Option (Tree × Int), r = some (Tree.node 0 [] [], 127) → r = some (ofO l) := fun h r e => by rw [ofO_bad h]; exact e
  simp only [Fd35]
  by_cases h1 : l.length < 2
  · refine bad (fun h => by have := h.1; omega) _ ?_
    rw [itf_t (decide_eq_true (by omega))]
  · rw [itf_f (decide_eq_false (by omega))]
    by_cases h2 : 20 < l.length
    · refine bad (fun h => by have := h.2.1; omega) _ ?_
      rw [itf_t (decide_eq_true (by omega))]
    · rw [itf_f (decide_eq_false (by omega)), if_pos ⟨by omega, by omega⟩]
      by_cases h3 : 2 < l.getD 0 0
      · refine bad (fun h => by have := h.2.2.1; omega) _ ?_
        rw [itf_t (decide_eq_true (by omega))]
      · rw [itf_f (decide_eq_false (by omega)), if_pos ⟨by omega, by omega⟩]
        have tail : (l.getD 0 0 < 2 → l.getD 1 0 < 40) →
            ((if (0 : Int) ≤ (1 : Int) ∧ (1 : Int) < (l.length : Int) then
                  if (0 : Int) ≤ (0 : Int) ∧ (0 : Int) < (l.length : Int) then
                    let x9 : Int := (IntKind.u64.wrap (4294967295 - (IntKind.u64.wrap (40 * (l.getD 0 0)))))
                    if (decide ((l.getD 1 0) > x9)) = true then
                      some ((Tree.node 0 ([] : List Int) ([] : List Tree)), 127)
                    else
                      if (0 : Int) ≤ (0 : Int) ∧ (0 : Int) < (l.length : Int) then
                        if (0 : Int) ≤ (1 : Int) ∧ (1 : Int) < (l.length : Int) then
                          let x10 : Int := (IntKind.u64.wrap ((IntKind.u64.wrap (40 * (l.getD 0 0))) + (l.getD 1 0)))
                          (Fd51 x10).bind fun y11 =>
                            (loopO stepd35_0 (l, 2, (0, (), ()), y11)).bind fun
                              | (.inl (z12, z13)) =>
                                some ((Tree.node z13.1 ([] : List Int) ([] : List Tree)), z12)
                              | (.inr (z14, z15)) =>
                                some ((Tree.node 6 z15 ([] : List Tree)), 0)
                        else none
                      else none
                  else none
                else none : Option (Tree × Int))) = some (ofO l) := by
          intro h4
          rw [if_pos ⟨by omega, by omega⟩, if_pos ⟨by omega, by omega⟩, wu64 (n := 40 * l.getD 0 0) (by omega) (by omega), wu64 (by omega) (by omega)]
          by_cases h5 : l.getD 1 0 ≤ 4294967295 - 40 * l.getD 0 0
          · obtain ⟨n, hn⟩ : ∃ n : Nat, 40 * l.getD 0 0 + l.getD 1 0 = (n : Int) := ⟨(40 * l.getD 0 0 + l.getD 1 0).toNat, by omega⟩
            have hfl := fig_len (n := n) (by omega)
            have hL := loop35 hw (by omega) _ 2 (fig n) rfl (by omega) (by omega) (by omega)
            have e2 : ((2 : Nat) : Int) = 2 := rfl
            rw [e2] at hL
            rw [ite_f (decide_eq_false (by omega)), if_pos ⟨by omega, by omega⟩, if_pos ⟨by omega, by omega⟩, wu64 (by omega) (by omega), hn]
            simp only [figure_eq (n := n) (by omega), Option.bind_some]
            rw [hL]
            have e6 : ((n : Int)).toNat = n := by omega
            by_cases h6 : ∀ y ∈ l.drop 2, y ≤ 4294967295
            · rw [if_pos h6, ofO_ok ⟨by omega, by omega, by omega, h4, h5, h6⟩, hn, e6]; rfl
            · rw [if_neg h6, ofO_bad (fun h => h6 h.2.2.2.2.2)]; rfl
          · refine bad (fun h => h5 h.2.2.2.2.1) _ ?_
            rw [ite_t (decide_eq_true (by omega))]
        by_cases h4 : l.getD 0 0 < 2
        · rw [ite_t (decide_eq_true h4), if_pos ⟨by omega, by omega⟩]
          by_cases h5 : l.getD 1 0 < 40
          · rw [itf_f (decide_eq_false (by omega))]
            exact tail (fun _ => h5)
          · refine bad (fun h => h5 (h.2.2.2.1 h4)) _ ?_
            rw [itf_t (decide_eq_true (by omega))]
        · rw [ite_f (decide_eq_false h4)]
          exact tail (fun h => absurd h h4)

theorem refOfOidR_eq {l : List Int} (hw : W64 l) : Fd35r l = some ((ofO l).1, (ofO l).2, l) := by
  have w0 := w64_getD hw 0
  have w1 := w64_getD hw 1
  have bad : ¬ okOf l → ∀ r : Option (Tree × Int × List Int), r = some (Tree.node 0 [] [], 127, l) → r = some ((ofO l).1, (ofO l).2, l) := fun h r e => by rw [ofO_bad h]; exact e
  simp only [Fd35r]
  by_cases h1 : l.length < 2
  · refine bad (fun h => by have := h.1; omega) _ ?_
    rw [itf_t (decide_eq_true (by omega))]
  · rw [itf_f (decide_eq_false (by omega))]
    by_cases h2 : 20 < l.length
    · refine bad (fun h => by have := h.2.1; omega) _ ?_
      rw [itf_t (decide_eq_true (by omega))]
    · rw [itf_f (decide_eq_false (by omega)), if_pos ⟨by omega, by omega⟩]
      by_cases h3 : 2 < l.getD 0 0
      · refine bad (fun h => by have := h.2.2.1; omega) _ ?_
        rw [itf_t (decide_eq_true (by omega))]
      · rw [itf_f (decide_eq_false (by omega)), if_pos ⟨by omega, by omega⟩]
        have tail : (l.getD 0 0 < 2 → l.getD 1 0 < 40) →
            ((if (0 : Int) ≤ (1 : Int) ∧ (1 : Int) < (l.length : Int) then
                  if (0 : Int) ≤ (0 : Int) ∧ (0 : Int) < (l.length : Int) then
                    let x9 : Int := (IntKind.u64.wrap (4294967295 - (IntKind.u64.wrap (40 * (l.getD 0 0)))))
                    if (decide ((l.getD 1 0) > x9)) = true then
                      some ((Tree.node 0 ([] : List Int) ([] : List Tree)), 127, l)
                    else
                      if (0 : Int) ≤ (0 : Int) ∧ (0 : Int) < (l.length : Int) then
                        if (0 : Int) ≤ (1 : Int) ∧ (1 : Int) < (l.length : Int) then
                          let x10 : Int := (IntKind.u64.wrap ((IntKind.u64.wrap (40 * (l.getD 0 0))) + (l.getD 1 0)))
                          (Fd51 x10).bind fun y11 =>
                            (loopO stepd35r_0 (2, l, (0, (), ()), y11)).bind fun
                              | (.inl (z12, z13, z16)) =>
                                some ((Tree.node z13.1 ([] : List Int) ([] : List Tree)), z12, z16)
                              | (.inr (z14, z15, z17)) =>
                                some ((Tree.node 6 z15 ([] : List Tree)), 0, z17)
                        else none
                      else none
                  else none
                else none : Option (Tree × Int × List Int))) = some ((ofO l).1, (ofO l).2, l) := by
          intro h4
          rw [if_pos ⟨by omega, by omega⟩, if_pos ⟨by omega, by omega⟩, wu64 (n := 40 * l.getD 0 0) (by omega) (by omega), wu64 (by omega) (by omega)]
          by_cases h5 : l.getD 1 0 ≤ 4294967295 - 40 * l.getD 0 0
          · obtain ⟨n, hn⟩ : ∃ n : Nat, 40 * l.getD 0 0 + l.getD 1 0 = (n : Int) := ⟨(40 * l.getD 0 0 + l.getD 1 0).toNat, by omega⟩
            have hfl := fig_len (n := n) (by omega)
            have hL := loop35r hw (by omega) _ 2 (fig n) rfl (by omega) (by omega) (by omega)
            have e2 : ((2 : Nat) : Int) = 2 := rfl
            rw [e2] at hL
            rw [ite_f (decide_eq_false (by omega)), if_pos ⟨by omega, by omega⟩, if_pos ⟨by omega, by omega⟩, wu64 (by omega) (by omega), hn]
            simp only [figure_eq (n := n) (by omega), Option.bind_some]
            rw [hL]
            have e6 : ((n : Int)).toNat = n := by omega
            by_cases h6 : ∀ y ∈ l.drop 2, y ≤ 4294967295
            · rw [if_pos h6, ofO_ok ⟨by omega, by omega, by omega, h4, h5, h6⟩, hn, e6]; rfl
            · rw [if_neg h6, ofO_bad (fun h => h6 h.2.2.2.2.2)]; rfl
          · refine bad (fun h => h5 h.2.2.2.2.1) _ ?_
            rw [ite_t (decide_eq_true (by omega))]
        by_cases h4 : l.getD 0 0 < 2
        · rw [ite_t (decide_eq_true h4), if_pos ⟨by omega, by omega⟩]
          by_cases h5 : l.getD 1 0 < 40
          · rw [itf_f (decide_eq_false (by omega))]
            exact tail (fun _ => h5)
          · refine bad (fun h => h5 (h.2.2.2.1 h4)) _ ?_
            rw [itf_t (decide_eq_true (by omega))]
        · rw [ite_f (decide_eq_false h4)]
          exact tail (fun h => absurd h h4)
end Go.Abs
