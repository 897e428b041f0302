/- Hints laid: the places of the ones, row by row, and the ends. -/
import Derived.Test.YthihjipdkhmgkaaHLay2L
set_option linter.unusedVariables false
set_option linter.unusedSimpArgs false
namespace Go.Abs

/-- the places of the ones among the first m coefficients -/
def pl (h : Nat → Int) : Nat → List Int
  | 0 => []
  | m + 1 => if h m = 1 then pl h m ++ [((m % 256 : Nat) : Int)] else pl h m
/-- how many they are -/
def cn (h : Nat → Int) (m : Nat) : Nat := (pl h m).length

theorem pl_one {h : Nat → Int} {m : Nat} (e : h m = 1) : pl h (m + 1) = pl h m ++ [((m % 256 : Nat) : Int)] := by simp only [pl]; rw [if_pos e]
theorem pl_none {h : Nat → Int} {m : Nat} (e : h m ≠ 1) : pl h (m + 1) = pl h m := by simp only [pl]; rw [if_neg e]
theorem cn_zero (h : Nat → Int) : cn h 0 = 0 := rfl
theorem cn_one {h : Nat → Int} {m : Nat} (e : h m = 1) : cn h (m + 1) = cn h m + 1 := by unfold cn; rw [pl_one e]; simp
theorem cn_none {h : Nat → Int} {m : Nat} (e : h m ≠ 1) : cn h (m + 1) = cn h m := by unfold cn; rw [pl_none e]

theorem cn_mono {h : Nat → Int} {m m' : Nat} (hm : m ≤ m') : cn h m ≤ cn h m' := by
  induction hm with
  | refl => exact Nat.le_refl _
  | step _ ih =>
    rename_i n _
    by_cases e : h n = 1
    · have := cn_one e; simp only [Nat.succ_eq_add_one] at *; omega
    · have := cn_none e; simp only [Nat.succ_eq_add_one] at *; omega

theorem pl_pre {h : Nat → Int} {m m' : Nat} (hm : m ≤ m') : ∃ t, pl h m' = pl h m ++ t := by
  induction hm with
  | refl => exact ⟨[], by simp⟩
  | step _ ih =>
    rename_i n _
    obtain ⟨t, ht⟩ := ih
    by_cases e : h n = 1
    · exact ⟨t ++ [((n % 256 : Nat) : Int)], by rw [pl_one e, ht, List.append_assoc]⟩
    · exact ⟨t, by rw [pl_none e, ht]⟩

theorem pl_skip {h : Nat → Int} {q m : Nat} (hq : q ≤ m) (hz : ∀ j, q ≤ j → j < m → h j ≠ 1) : pl h m = pl h q := by
  induction hq with
  | refl => rfl
  | step hle ih =>
    rename_i n
    rw [pl_none (hz n hle (by omega)), ih fun j h1 h2 => hz j h1 (by omega)]
theorem cn_skip {h : Nat → Int} {q m : Nat} (hq : q ≤ m) (hz : ∀ j, q ≤ j → j < m → h j ≠ 1) : cn h m = cn h q := by unfold cn; rw [pl_skip hq hz]

theorem pl_congr {h g : Nat → Int} {m : Nat} (e : ∀ j, j < m → h j = g j) : pl h m = pl g m := by
  induction m with
  | zero => rfl
  | succ m ih =>
    have e1 := ih fun j hj => e j (by omega)
    have e2 := e m (by omega)
    by_cases c : h m = 1
    · rw [pl_one c, pl_one (by rw [← e2]; exact c), e1]
    · rw [pl_none c, pl_none (by rw [← e2]; exact c), e1]
theorem cn_congr {h g : Nat → Int} {m : Nat} (e : ∀ j, j < m → h j = g j) : cn h m = cn g m := by unfold cn; rw [pl_congr e]

/-- no ones between two places where the count is the same -/
theorem cn_still {h : Nat → Int} {q m : Nat} (e : cn h q = cn h m) : ∀ j, q ≤ j → j < m → h j ≠ 1 := by
  intro j h1 h2 c
  have a := cn_mono (h := h) h1
  have b := cn_one c
  have d := cn_mono (h := h) (show j + 1 ≤ m by omega)
  omega

/-- the next one -/
theorem cn_next {h : Nat → Int} {q : Nat} : ∀ {m : Nat}, cn h q < cn h m → ∃ i, q ≤ i ∧ i < m ∧ h i = 1 ∧ ∀ j, q ≤ j → j < i → h j ≠ 1 := by
  intro m
  induction m with
  | zero => intro e; rw [cn_zero] at e; omega
  | succ m ih =>
    intro e
    by_cases c : cn h q < cn h m
    · obtain ⟨i, a, b, d, f⟩ := ih c
      exact ⟨i, a, by omega, d, f⟩
    · by_cases c1 : h m = 1
      · by_cases hq : q ≤ m
        · have := cn_mono (h := h) hq
          exact ⟨m, hq, by omega, c1, cn_still (by omega)⟩
        · have := cn_mono (h := h) (show m + 1 ≤ q by omega)
          omega
      · rw [cn_none c1] at e; omega

theorem getD_snoc (l : List Int) (x : Int) (k : Nat) : (l ++ [x]).getD k 0 = if k = l.length then x else l.getD k 0 := by
  simp only [List.getD_eq_getElem?_getD]
  by_cases c : k = l.length
  · subst c; simp
  · rw [if_neg c]
    by_cases d : k < l.length
    · rw [List.getElem?_append_left d]
    · rw [List.getElem?_eq_none (by simp; omega), List.getElem?_eq_none (by omega)]
theorem getD_app (l t : List Int) {k : Nat} (h : k < l.length) : (l ++ t).getD k 0 = l.getD k 0 := by
  simp only [List.getD_eq_getElem?_getD]; rw [List.getElem?_append_left h]
theorem getD_big (l : List Int) {k : Nat} (h : l.length ≤ k) : l.getD k 0 = 0 := by
  simp only [List.getD_eq_getElem?_getD]; rw [List.getElem?_eq_none h]; rfl

theorem pl_at {h : Nat → Int} {i m : Nat} (e : h i = 1) (hi : i < m) : (pl h m).getD (cn h i) 0 = ((i % 256 : Nat) : Int) := by
  obtain ⟨t, ht⟩ := pl_pre (h := h) (show i + 1 ≤ m by omega)
  rw [ht, getD_app _ _ (by have := cn_one e; unfold cn at this ⊢; omega), pl_one e, getD_snoc, if_pos (show cn h i = (pl h i).length from rfl)]
theorem pl_lower {h : Nat → Int} {q m k : Nat} (hq : q ≤ m) (hk : k < cn h q) : (pl h m).getD k 0 = (pl h q).getD k 0 := by
  obtain ⟨t, ht⟩ := pl_pre (h := h) hq
  rw [ht, getD_app _ _ hk]

/-- what is laid when m coefficients, and the ends of r rows, are done -/
def rf (h : Nat → Int) (m r k : Nat) : Int :=
  if k < 55 then (pl h m).getD k 0 else if k < 55 + r then ((cn h (256 * (k - 54)) : Nat) : Int) else 0
def encH (h : Nat → Int) : List Int := LL 61 (rf h 1536 6)
def Okh (h : Nat → Int) : Prop := (∀ i, i < 1536 → h i = 0 ∨ h i = 1) ∧ cn h 1536 ≤ 55

theorem encH_len (h : Nat → Int) : (encH h).length = 61 := LL_length _ _
theorem encH_at (h : Nat → Int) {k : Nat} (hk : k < 61) : (encH h).getD k 0 = rf h 1536 6 k := by unfold encH; rw [LL_getD, if_pos hk]
theorem encH_place {h : Nat → Int} {k : Nat} (hk : k < 55) : (encH h).getD k 0 = (pl h 1536).getD k 0 := by
  rw [encH_at h (by omega)]; unfold rf; rw [if_pos hk]
theorem encH_end {h : Nat → Int} {s : Nat} (hs : s < 6) : (encH h).getD (55 + s) 0 = ((cn h (256 * (s + 1)) : Nat) : Int) := by
  rw [encH_at h (by omega)]; unfold rf; rw [if_neg (by omega), if_pos (by omega), show 55 + s - 54 = s + 1 by omega]
theorem encH_congr {h g : Nat → Int} (e : ∀ i, i < 1536 → h i = g i) : encH h = encH g := by
  unfold encH
  apply LL_congr
  intro k hk
  unfold rf
  rw [pl_congr e]
  by_cases c : k < 55
  · rw [if_pos c, if_pos c]
  · rw [if_neg c, if_neg c]
    by_cases d : k < 55 + 6
    · rw [if_pos d, if_pos d, cn_congr fun j hj => e j (by omega)]
    · rw [if_neg d, if_neg d]
theorem Okh_congr {h g : Nat → Int} (e : ∀ i, i < 1536 → h i = g i) (o : Okh h) : Okh g :=
  ⟨fun i hi => by rw [← e i hi]; exact o.1 i hi, by rw [← cn_congr e]; exact o.2⟩

theorem rf_one {h : Nat → Int} {m r : Nat} (e : h m = 1) (hc : cn h m < 55) : LL 61 (upd (rf h m r) (cn h m) ((m % 256 : Nat) : Int)) = LL 61 (rf h (m + 1) r) := by
  apply LL_congr
  intro k hk
  rw [upd_apply]
  unfold rf
  rw [pl_one e]
  by_cases c : k < 55
  · rw [if_pos c, if_pos c, getD_snoc]; rfl
  · rw [if_neg c, if_neg c, if_neg (by omega)]
theorem rf_none {h : Nat → Int} {m r : Nat} (e : h m ≠ 1) : rf h (m + 1) r = rf h m r := by unfold rf; rw [pl_none e]
theorem rf_end {h : Nat → Int} {m r : Nat} (hr : r < 6) : LL 61 (upd (rf h m r) (55 + r) ((cn h (256 * (r + 1)) : Nat) : Int)) = LL 61 (rf h m (r + 1)) := by
  apply LL_congr
  intro k hk
  rw [upd_apply]
  unfold rf
  by_cases c : k = 55 + r
  · subst c; rw [if_pos rfl, if_neg (by omega), if_pos (by omega), show 55 + r - 54 = r + 1 by omega]
  · rw [if_neg c]
    by_cases d : k < 55
    · rw [if_pos d, if_pos d]
    · rw [if_neg d, if_neg d]
      by_cases f : k < 55 + r
      · rw [if_pos f, if_pos (by omega)]
      · rw [if_neg f, if_neg (by omega)]
theorem rf_zero (h : Nat → Int) : LL 61 (rf h 0 0) = List.replicate 61 (0 : Int) := by
  rw [LL_zero]
  apply LL_congr
  intro k hk
  unfold rf
  by_cases c : k < 55
  · rw [if_pos c]; rfl
  · rw [if_neg c, if_neg (by omega)]

/-- a coefficient is 0 or 1 -/
theorem shr1 {x : Int} : (shrI .i32 x 1 != 0) = !decide (x = 0 ∨ x = 1) := by
  unfold shrI
  have hm : min (1 : Int).toNat IntKind.i32.bits = 1 := rfl
  rw [hm, Int.fdiv_eq_ediv_of_nonneg _ (by decide), show (2 : Int) ^ 1 = 2 from rfl]
  by_cases c : x = 0 ∨ x = 1
  · have : x / 2 = 0 := by omega
    simp [this, c]
  · have : ¬ x / 2 = 0 := by omega
    simp [this, c]
end Go.Abs
