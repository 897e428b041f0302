/- A number's item: written in the one form that is read again. -/
import Derived.Test.YtmfdbnhknaemdaaXVals2L
set_option linter.unusedVariables false
set_option linter.unusedSimpArgs false
namespace Go.Abs

def beO (n : Nat) : List Int := if 128 ≤ (dg n).reverse.getD 0 0 then 0 :: (dg n).reverse else (dg n).reverse

theorem ofUint_eq {n : Nat} (hn : n < 18446744073709551616) : Fd28 (n : Int) = some (.node 2 (beO n) []) := by
  simp only [Fd28, IntKind.wrap_u8']
  rw [shrN (by omega) (by omega) (by decide)]
  have e1 : ((((n : Int)).toNat >>> (8 : Int).toNat : Nat) : Int) = ((n / 256 : Nat) : Int) := by
    show (((n >>> 8 : Nat)) : Int) = _
    rw [Nat.shiftRight_eq_div_pow]
  have e2 : (n : Int) % 256 = ((n % 256 : Nat) : Int) := by omega
  have h7 : (256 : Nat) ^ 7 = 72057594037927936 := rfl
  rw [e1, e2]
  have hl := of_loop (a := (0, (), ())) 7 (n / 256) [((n % 256 : Nat) : Int)] (by omega) (by omega) (by simp)
  have edg : [((n % 256 : Nat) : Int)] ++ dgs 7 (n / 256) = dg n := rfl
  rw [edg] at hl
  obtain ⟨l1, l2⟩ := dg_len n
  show (loopO stepd28_0 (((n / 256 : Nat) : Int), (0, (), ()), [((n % 256 : Nat) : Int)])).bind _ = _
  rw [hl]
  simp only [Option.bind_some]
  rw [wi64 (by omega) (by omega), if_pos (by omega)]
  have eh : (dg n).getD (((dg n).length : Int) - 1).toNat 0 = (dg n).reverse.getD 0 0 := by
    rw [rev_get (by omega) rfl]
    congr 1
    omega
  rw [eh]
  unfold beO
  by_cases h : 128 ≤ (dg n).reverse.getD 0 0
  · rw [if_pos h, ite_t (decide_eq_true (by omega)), if_pos (okB1 (by show (dg n).length + 1 ≤ _; omega))]
    show ((Fd50 (dg n ++ [0], (0, (dg n ++ [0]).length))).bind fun y5 => some (Tree.node 2 y5 ([] : List Tree))) = _
    rw [reverse_eq (by simp only [List.length_append, List.length_cons, List.length_nil]; omega)]
    simp
  · rw [if_neg h, ite_f (decide_eq_false (by omega)), reverse_eq (by omega)]
    rfl

theorem refOfUint_eq {n : Nat} (hn : n < 18446744073709551616) : Fd30 (n : Int) = some (.node 2 (beO n) []) := by
  simp only [Fd30]
  have h7 : (256 : Nat) ^ 7 = 72057594037927936 := rfl
  have hstep : loopO stepd30_0 ((n : Int), (0, (), ()), []) = some ((0, (), ()), (dg n).reverse) := by
    rw [loopO_eq]
    have e : stepd30_0 ((n : Int), (0, (), ()), []) = some (.inl (((n / 256 : Nat) : Int), (0, (), ()), [((n % 256 : Nat) : Int)])) := by
      simp only [stepd30_0, set1, IntKind.wrap_u8']
      rw [tdivP (by omega), tmodP (by omega), wu64 (by omega) (by omega)]
      have e1 : (n : Int) / 256 = ((n / 256 : Nat) : Int) := by omega
      have e2 : (n : Int) % 256 % 256 = ((n % 256 : Nat) : Int) := by omega
      rw [e1, e2]
      by_cases h : n = 0
      · subst h; rfl
      · rw [itf_t (decide_eq_true (by omega)), if_pos (okB1 (by simp))]; rfl
    rw [e]
    show loopO stepd30_0 (((n / 256 : Nat) : Int), (0, (), ()), [((n % 256 : Nat) : Int)]) = _
    rw [of_loop30 7 (n / 256) _ (by simp) (by omega) (by omega) (by simp)]
    unfold dg; simp
  rw [hstep]
  obtain ⟨l1, l2⟩ := dg_len n
  simp only [Option.bind_some]
  rw [if_pos ⟨by omega, by rw [List.length_reverse]; omega⟩]
  unfold beO
  by_cases h : 128 ≤ (dg n).reverse.getD 0 0
  · rw [if_pos h, ite_t (decide_eq_true (by omega)), if_pos (okB1 (by show 1 + (dg n).reverse.length ≤ _; rw [List.length_reverse]; omega))]
    rfl
  · rw [if_neg h, ite_f (decide_eq_false (by omega))]

/-! ### what it stands for -/
def numR : List Int → Int
  | [] => 0
  | x :: r => x + 256 * numR r
theorem num_snoc (l : List Int) (x : Int) : num (l ++ [x]) = 256 * num l + x := by simp [num, List.foldl_append]
theorem num_rev : ∀ l : List Int, num l.reverse = numR l := by
  intro l
  induction l with
  | nil => rfl
  | cons x l ih => rw [List.reverse_cons, num_snoc, ih]; simp only [numR]; omega
theorem num_numR (l : List Int) : num l = numR l.reverse := by rw [← num_rev, List.reverse_reverse]

theorem numR_dgs : ∀ (f n : Nat), n < 256 ^ f → numR (dgs f n) = n := by
  intro f
  induction f with
  | zero => intro n hn; have : n = 0 := by simpa using hn
            subst this; rfl
  | succ f ih =>
    intro n hn
    unfold dgs
    split
    · rename_i h; subst h; rfl
    · simp only [numR]
      rw [ih (n / 256) (by rw [Nat.pow_succ] at hn; exact Nat.div_lt_of_lt_mul (by rw [Nat.mul_comm]; exact hn))]
      omega
theorem numR_dg {n : Nat} (hn : n < 18446744073709551616) : numR (dg n) = n := by
  have h7 : (256 : Nat) ^ 7 = 72057594037927936 := rfl
  unfold dg
  simp only [numR]
  rw [numR_dgs 7 (n / 256) (by omega)]
  omega

/-- its highest is none of 0 -/
theorem dgs_last : ∀ (f n : Nat), n < 256 ^ f → ∀ x, (dgs f n).getLast? = some x → x ≠ 0 := by
  intro f
  induction f with
  | zero => intro n _ x h; simp [dgs] at h
  | succ f ih =>
    intro n hn x h
    have hn2 : n / 256 < 256 ^ f := by rw [Nat.pow_succ] at hn; exact Nat.div_lt_of_lt_mul (by rw [Nat.mul_comm]; exact hn)
    unfold dgs at h
    split at h
    · simp at h
    · rename_i h0
      cases hd : dgs f (n / 256) with
      | nil =>
        rw [hd] at h
        simp at h
        have hz : n / 256 = 0 := by
          cases f with
          | zero => simpa using hn2
          | succ f =>
            unfold dgs at hd
            split at hd
            · rename_i h1; exact h1
            · simp at hd
        omega
      | cons y r =>
        rw [hd, List.getLast?_cons_cons, ← hd] at h
        exact ih (n / 256) hn2 x h

theorem numR_pos : ∀ {l : List Int}, By l → (∀ x, l.getLast? = some x → x ≠ 0) → l ≠ [] → 0 < numR l := by
  intro l
  induction l with
  | nil => intro _ _ h; exact absurd rfl h
  | cons x l ih =>
    intro hb hl _
    obtain ⟨hx, hb⟩ := By.cons.1 hb
    cases l with
    | nil => have := hl x (by simp); simp only [numR]; omega
    | cons y r =>
      have := ih hb (fun z hz => hl z (by rw [List.getLast?_cons_cons]; exact hz)) (by simp)
      simp only [numR] at this ⊢; omega
theorem numR_ge : ∀ {l : List Int}, By l → 0 ≤ numR l := by
  intro l
  induction l with
  | nil => intro _; exact Int.le_refl _
  | cons x l ih =>
    intro hb
    obtain ⟨hx, hb⟩ := By.cons.1 hb
    have := ih hb
    simp only [numR]; omega

theorem dgs_num : ∀ (f : Nat) (l : List Int), By l → l.length ≤ f → (∀ x, l.getLast? = some x → x ≠ 0) → dgs f (numR l).toNat = l := by
  intro f
  induction f with
  | zero =>
    intro l _ hl _
    have : l = [] := List.eq_nil_of_length_eq_zero (by omega)
    subst this; rfl
  | succ f ih =>
    intro l hb hl hlast
    cases l with
    | nil => rfl
    | cons x r =>
      have hp := numR_pos hb hlast (by simp)
      obtain ⟨hx, hr⟩ := By.cons.1 hb
      have h0 := numR_ge hr
      have hrl : ∀ z, r.getLast? = some z → z ≠ 0 := by
        intro z hz
        cases r with
        | nil => simp at hz
        | cons y r => exact hlast z (by rw [List.getLast?_cons_cons]; exact hz)
      have h1 := ih r hr (by simp only [List.length_cons] at hl; omega) hrl
      have e : numR (x :: r) = x + 256 * numR r := rfl
      rw [e] at hp ⊢
      unfold dgs
      rw [if_neg (by omega)]
      have e1 : (x + 256 * numR r).toNat / 256 = (numR r).toNat := by omega
      have e2 : (((x + 256 * numR r).toNat % 256 : Nat) : Int) = x := by omega
      rw [e1, e2, h1]

theorem dg_num {l : List Int} (hb : By l) (h0 : l ≠ []) (hl : l.length ≤ 8) (hlast : l.length = 1 ∨ ∀ x, l.getLast? = some x → x ≠ 0) : dg (numR l).toNat = l := by
  cases l with
  | nil => exact absurd rfl h0
  | cons x r =>
    obtain ⟨hx, hr⟩ := By.cons.1 hb
    have hg := numR_ge hr
    have hrl : ∀ z, r.getLast? = some z → z ≠ 0 := by
      intro z hz
      cases r with
      | nil => simp at hz
      | cons y r =>
        rcases hlast with h | h
        · simp at h
        · exact h z (by rw [List.getLast?_cons_cons]; exact hz)
    have h1 := dgs_num 7 r hr (by simp only [List.length_cons] at hl; omega) hrl
    have e : numR (x :: r) = x + 256 * numR r := rfl
    rw [e]
    unfold dg
    have e1 : (x + 256 * numR r).toNat / 256 = (numR r).toNat := by omega
    have e2 : (((x + 256 * numR r).toNat % 256 : Nat) : Int) = x := by omega
    rw [e1, e2, h1]

theorem rev_head {l : List Int} : ∀ x, l.reverse.getLast? = some x → l.head? = some x := by
  intro x h
  rw [List.getLast?_reverse] at h; exact h

theorem be_num {b : List Int} (hb : By b) (h0 : b ≠ []) (hbad : ¬ badU b) : beO (num b).toNat = b := by
  have hrb : ∀ {l : List Int}, By l → By l.reverse := fun h y hy => h y (by simpa using hy)
  unfold badU at hbad
  cases b with
  | nil => exact absurd rfl h0
  | cons x r =>
    obtain ⟨hx, hr⟩ := By.cons.1 hb
    simp only [List.getD_cons_zero, List.length_cons, not_or, not_and, List.getD_cons_succ] at hbad
    obtain ⟨h1, h2, h3, h4⟩ := hbad
    by_cases hx0 : x = 0 ∧ 1 ≤ r.length
    · obtain ⟨rfl, hrl⟩ := hx0
      have h5 := h2 rfl (by omega)
      have hrn : r ≠ [] := List.length_pos_iff.1 (by omega)
      have e : dg (num (0 :: r)).toNat = r.reverse := by
        rw [num_zero, num_numR]
        refine dg_num (hrb hr) (by simpa using hrn) (by rw [List.length_reverse]; omega) (.inr fun z hz => ?_)
        have hz := rev_head z hz
        cases r with
        | nil => exact absurd rfl hrn
        | cons y r =>
          simp only [List.head?_cons, Option.some.injEq] at hz
          simp only [List.getD_cons_zero] at h5
          omega
      unfold beO
      rw [e, List.reverse_reverse, if_pos (by omega)]
    · have hlen : r.length ≤ 7 := by
        by_cases h8 : r.length = 8
        · have := h4 (by omega)
          exact absurd ⟨Classical.not_not.1 this, by omega⟩ hx0
        · omega
      have e : dg (num (x :: r)).toNat = (x :: r).reverse := by
        rw [num_numR]
        refine dg_num (hrb hb) (by simp) (by rw [List.length_reverse, List.length_cons]; omega) ?_
        by_cases hr0 : r.length = 0
        · left; rw [List.length_reverse, List.length_cons]; omega
        · right
          intro z hz
          have hz := rev_head z hz
          simp only [List.head?_cons, Option.some.injEq] at hz
          subst hz
          exact fun hx => hx0 ⟨hx, by omega⟩
      unfold beO
      rw [e, List.reverse_reverse, if_neg (by rw [List.getD_cons_zero]; omega)]

theorem be_ok {n : Nat} (hn : n < 18446744073709551616) : By (beO n) ∧ beO n ≠ [] ∧ ¬ badU (beO n) ∧ num (beO n) = n ∧ (beO n).length ≤ 9 := by
  have hrb : By (dg n).reverse := fun y hy => dg_by n y (by simpa using hy)
  obtain ⟨l1, l2⟩ := dg_len n
  have hne : (dg n).reverse ≠ [] := by
    intro h
    have := congrArg List.length h
    simp at this
    rw [this] at l1; simp at l1
  have hnum : num (dg n).reverse = n := by rw [num_rev, numR_dg hn]
  have hlast : (dg n).length = 1 ∨ (dg n).reverse.getD 0 0 ≠ 0 := by
    by_cases h1 : (dg n).length = 1
    · exact .inl h1
    · right
      have h7 : (256 : Nat) ^ 7 = 72057594037927936 := rfl
      have hd : dgs 7 (n / 256) ≠ [] := by
        intro h
        unfold dg at h1
        rw [h] at h1; exact h1 rfl
      have e : (dg n).reverse = (dgs 7 (n / 256)).reverse ++ [((n % 256 : Nat) : Int)] := by unfold dg; simp
      rw [e]
      cases hd2 : (dgs 7 (n / 256)).reverse with
      | nil => exact absurd (by simpa using hd2) hd
      | cons y r =>
        simp only [List.cons_append, List.getD_cons_zero]
        refine dgs_last 7 (n / 256) (by omega) y ?_
        have : (dgs 7 (n / 256)).reverse.head? = some y := by rw [hd2]; rfl
        rw [List.head?_reverse] at this
        exact this
  unfold beO
  by_cases h : 128 ≤ (dg n).reverse.getD 0 0
  · rw [if_pos h]
    refine ⟨By.cons.2 ⟨by omega, hrb⟩, by simp, ?_, by rw [num_zero]; exact hnum, by simp; omega⟩
    unfold badU
    simp only [List.getD_cons_zero, List.getD_cons_succ, List.length_cons, List.length_reverse]
    omega
  · rw [if_neg h]
    refine ⟨hrb, hne, ?_, hnum, by simp; omega⟩
    unfold badU
    simp only [List.length_reverse]
    omega

theorem treeOk_bytes {t : Int} {b : List Int} (h1 : 0 ≤ t ∧ t < 256) (hb : By b) (hl : b.length ≤ 65536) : TreeOk (.node t b []) := TreeOk.mk h1 hb hl (by simp) (by simp)

theorem values_law {t : Tree} {v : Int} {is : Bool} (ht : TreeOk t) (h0 : 0 ≤ v) (h1 : v < 18446744073709551616) : Fd8 (t, v, is) = some true := by
  obtain ⟨n, rfl⟩ : ∃ n : Nat, v = (n : Int) := ⟨v.toNat, by omega⟩
  have hn : n < 18446744073709551616 := by omega
  simp only [Fd8]
  rw [Tree.eta, great_eq ht]
  simp only [Option.bind_some]
  by_cases hg : 65536 < t.sz
  · rw [if_pos (decide_eq_true hg), alive]; rfl
  · obtain ⟨b1, b2, b3, b4, b5⟩ := be_ok hn
    have hT : TreeOk (.node 2 (beO n) []) := treeOk_bytes (by omega) b1 (by omega)
    have hB : TreeOk (.node 1 [if is then 255 else 0] []) := treeOk_bytes (by omega) (By.cons.2 ⟨by split <;> omega, By.nil⟩) (by simp)
    have e29 : Fd29 is = some (.node 1 [if is then 255 else 0] []) := by cases is <;> rfl
    have e31 : Fd31 is = some (.node 1 [if is then 255 else 0] []) := by cases is <;> rfl
    have eU : uintO (.node 2 (beO n) []) = ((n : Int), 0) := by
      rw [uintO_ok (t := .node 2 (beO n) []) rfl rfl b2 b3]
      show (num (beO n), (0 : Int)) = _
      rw [b4]
    have eB : boolO (.node 1 [if is then 255 else 0] []) = (is, 0) := by cases is <;> rfl
    have heta : ∀ x : Tree, Tree.node x.tag x.body x.kids = x := Tree.eta
    rw [if_neg (by simpa using hg), uint_eq ht, refUint_eq ht, bool_eq ht, refBool_eq ht, ofUint_eq hn, refOfUint_eq hn, e29, e31, alive]
    simp only [Option.bind_some]
    rw [itf_f (b := !true) rfl, itf_f (bne_self_eq_false _), itf_f (bne_self_eq_false _), itf_f (by simp), ite_f (bne_self_eq_false _)]
    rw [heta (.node 2 (beO n) []), heta (.node 1 [if is then 255 else 0] []), same12_self hT, same12_self hB, uint_eq hT, bool_eq hB, eU, eB]
    simp only [Option.bind_some]
    by_cases hu : (uintO t).2 = 0
    · have ht2 : t.tag = 2 := by
        by_cases h : t.tag = 2
        · exact h
        · rw [uintO_tag h] at hu; simp at hu
      have hform : ¬ (t.kids ≠ [] ∨ t.body = []) := by
        intro h; rw [uintO_form ht2 h] at hu; simp at hu
      have hk : t.kids = [] := by
        by_cases hk : t.kids = []
        · exact hk
        · exact absurd (.inl hk) hform
      have hb : t.body ≠ [] := fun h => hform (.inr h)
      have hbad : ¬ badU t.body := by
        intro h; rw [uintO_bad ht2 hk hb h] at hu; simp at hu
      have hby := By.of ht.byt
      have hval : (uintO t).1 = num t.body := by rw [uintO_ok ht2 hk hb hbad]
      have hs := num_small hby hb hbad
      have hge : 0 ≤ num t.body := by
        have := numF_ge hby (acc := 0) (Int.le_refl _)
        rw [num_numF]; omega
      have e1 : (uintO t).1 = (((num t.body).toNat : Nat) : Int) := by rw [hval]; omega
      have e2 : Tree.node 2 (beO (num t.body).toNat) [] = t := by
        rw [be_num hby hb hbad, ← ht2, ← hk]; exact t.eta
      rw [ite_t (beq_iff_eq.2 hu), e1, ofUint_eq (by omega), e2]
      simp only [Option.bind_some]
      rw [heta t, same12_self ht]
      simp
    · rw [ite_f (beq_eq_false_iff_ne.2 hu)]
      simp
end Go.Abs
