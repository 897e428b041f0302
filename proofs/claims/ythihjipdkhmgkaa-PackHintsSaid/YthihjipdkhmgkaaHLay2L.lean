/- Packing upward and downward on both sides; PackPolys, the plain law. -/
import Derived.Test.YthihjipdkhmgkaaHLayL
set_option linter.unusedVariables false
set_option linter.unusedSimpArgs false
namespace Go.Abs
open Go.ChangeShapes Go.WideShapes

theorem sb_congr {l l' : Nat → Int} {n k : Nat} (h : l (k / n) = l' (k / n)) : sb l n k = sb l' n k := by unfold sb; rw [h]
theorem byteG_congr {l l' : Nat → Int} {n : Nat} (h : ∀ i, i < 256 → l i = l' i) {j : Nat} (hj : j < 32 * n) : byteG l n j = byteG l' n j := by
  unfold byteG
  congr 1
  apply nat2_congr
  intro k hk
  apply sb_congr
  apply h
  have : 8 * j + k < 256 * n := by omega
  exact Nat.div_lt_of_lt_mul (by omega)

theorem shr_i32 {x : Int} {n : Nat} (h0 : 0 ≤ x) (hn : n ≤ 30) : (shrI .i32 x (n : Int) != 0) = decide (2 ^ n ≤ x) := by
  unfold shrI
  have hm : min (n : Int).toNat IntKind.i32.bits = n := by have : IntKind.i32.bits = 32 := rfl; omega
  have hp : (0 : Int) < 2 ^ n := Int.pow_pos (by decide)
  rw [hm, Int.fdiv_eq_ediv_of_nonneg _ (Int.le_of_lt hp)]
  by_cases h : 2 ^ n ≤ x
  · simp only [h, decide_true]
    have : 1 ≤ x / 2 ^ n := (Int.le_ediv_iff_mul_le hp).2 (by omega)
    have h2 : x / 2 ^ n ≠ 0 := by omega
    simpa using h2
  · simp only [h, decide_false]
    have : x / 2 ^ n = 0 := Int.ediv_eq_zero_of_lt h0 (by omega)
    simp [this]

theorem shl_i64 {n : Nat} (hn : n ≤ 30) : shlI .i64 1 (IntKind.u64.wrap (n : Int)) = 2 ^ n := by
  rw [wu64 (by omega) (by omega)]
  unfold shlI
  have hm : min (n : Int).toNat IntKind.i64.bits = n := by have : IntKind.i64.bits = 64 := rfl; omega
  have h1 : (2 : Int) ^ n ≤ 2 ^ 30 := ipow_le (by decide) hn
  have h2 : (0 : Int) < 2 ^ n := Int.pow_pos (by decide)
  rw [hm, Int.one_mul, wi64 (by omega) (by rw [show (2 : Int) ^ 30 = 1073741824 from rfl] at h1; omega)]

def OkU (p : Nat → Int) (n : Nat) : Prop := ∀ i, i < 256 → 0 ≤ p i ∧ p i < 8380417 ∧ p i < 2 ^ n

theorem up_loop {p : Nat → Int} {n : Nat} (hn : 1 ≤ n ∧ n ≤ 23) :
    Ret (loopO steph10_0 ((n : Int), p, 0, (fun _ => 0))) fun r => match r with | .inl z => z = (92, []) ∧ ¬ OkU p n | .inr z => z.1 = (n : Int) ∧ OkU p n ∧ ∀ k, k < 256 → z.2 k = p k := by
  refine loopO_inv2 (fun i s => ∃ f : Nat → Int, s = ((n : Int), p, (i : Int), f) ∧ ∀ k, k < i → (0 ≤ p k ∧ p k < 8380417 ∧ p k < 2 ^ n) ∧ f k = p k) 256 ⟨_, rfl, fun k h => by omega⟩ ?_
  rintro i _ hi ⟨f, rfl, hf⟩
  by_cases h : i = 256
  · right
    subst h
    refine ⟨.inr ((n : Int), f), ?_, rfl, fun k hk => (hf k hk).1, fun k hk => (hf k hk).2⟩
    simp only [steph10_0]; simp (disch := omega) only [decide_eq_true_eq, if_neg]
  · have hi' : i < 256 := by omega
    by_cases c1 : p i < 0
    · right
      refine ⟨.inl (92, []), ?_, rfl, fun ho => by have := ho i hi'; omega⟩
      simp only [steph10_0]
      simp (disch := omega) only [decide_eq_true_eq, decide_eq_false_iff_not, if_pos, if_neg, Int.toNat_natCast, c1, decide_true, Bool.true_eq_false, if_false]
    by_cases c2 : p i ≥ 8380417
    · right
      refine ⟨.inl (92, []), ?_, rfl, fun ho => by have := ho i hi'; omega⟩
      simp only [steph10_0]
      simp (disch := omega) only [decide_eq_true_eq, decide_eq_false_iff_not, if_pos, Int.toNat_natCast, c1, c2, decide_true, decide_false, Bool.true_eq_false, if_false, if_true]
    have hsh := shr_i32 (x := p i) (n := n) (by omega) (by omega)
    by_cases c3 : 2 ^ n ≤ p i
    · right
      refine ⟨.inl (92, []), ?_, rfl, fun ho => by have := ho i hi'; omega⟩
      simp only [steph10_0]
      simp (disch := omega) only [decide_eq_true_eq, decide_eq_false_iff_not, if_pos, Int.toNat_natCast, c1, c2, c3, hsh, decide_true, decide_false, Bool.true_eq_false, if_false, if_true]
    · left
      refine ⟨_, hi', ?_, upd f i (p i), rfl, fun k hk => ?_⟩
      · simp only [steph10_0]
        simp (disch := omega) only [decide_eq_true_eq, decide_eq_false_iff_not, if_pos, Int.toNat_natCast, c1, c2, c3, hsh, decide_true, decide_false, Bool.true_eq_false, Bool.false_eq_true, if_false, if_true, wi64, wu32]
        rfl
      · rw [upd_apply]
        by_cases e : k = i
        · subst e; rw [if_pos rfl]; exact ⟨⟨by omega, by omega, by omega⟩, rfl⟩
        · rw [if_neg e]; exact hf k (by omega)

theorem OkU.inB {p : Nat → Int} {n : Nat} (h : OkU p n) {l : Nat → Int} (e : ∀ k, k < 256 → l k = p k) : InB l n := fun i hi => by rw [e i hi]; exact ⟨(h i hi).1, (h i hi).2.2⟩

theorem up_yes {p : Nat → Int} {n : Nat} (hn : 1 ≤ n ∧ n ≤ 23) (h : OkU p n) : Fh10 (p, (n : Int)) = some (LL (32 * n) (byteG p n), 0) := by
  have c1 : decide ((n : Int) < 1) = false := by simp; omega
  have c2 : decide ((n : Int) > 23) = false := by simp; omega
  simp only [Fh10, c1, c2, if_true, Bool.false_eq_true, if_false]
  obtain ⟨r, h1, h2⟩ := up_loop (p := p) hn
  rw [h1, Option.bind_some]
  rcases r with z | ⟨z1, z2⟩
  · exact absurd h h2.2
  · obtain ⟨rfl, _, h3⟩ := h2
    simp only []
    rw [lay_spec hn (h.inB h3), Option.bind_some, LL_congr fun j hj => byteG_congr h3 hj]

theorem up_no {p : Nat → Int} {n : Nat} (hn : 1 ≤ n ∧ n ≤ 23) (h : ¬ OkU p n) : Fh10 (p, (n : Int)) = some ([], 92) := by
  have c1 : decide ((n : Int) < 1) = false := by simp; omega
  have c2 : decide ((n : Int) > 23) = false := by simp; omega
  simp only [Fh10, c1, c2, if_true, Bool.false_eq_true, if_false]
  obtain ⟨r, h1, h2⟩ := up_loop (p := p) hn
  rw [h1, Option.bind_some]
  rcases r with z | ⟨z1, z2⟩
  · obtain ⟨rfl, _⟩ := h2; rfl
  · exact absurd h2.2.1 h

def Pl (p : Nat → Int) : Prop := ∀ i, i < 256 → 0 ≤ p i ∧ p i < 8380417

/-! ### Downward -/
def cen (x : Int) : Int := if x > 4190208 then x - 8380417 else x
def dn (top : Int) (p : Nat → Int) (i : Nat) : Int := top - cen (p i)
theorem cen_bound {x : Int} (h : 0 ≤ x ∧ x < 8380417) : -4190208 ≤ cen x ∧ cen x ≤ 4190208 := by unfold cen; split <;> omega

def OkD (top : Int) (p : Nat → Int) (n : Nat) : Prop := Pl p ∧ ∀ i, i < 256 → 0 ≤ dn top p i ∧ dn top p i < 2 ^ n

theorem down_loop {p : Nat → Int} {top : Int} {n : Nat} (hn : 1 ≤ n ∧ n ≤ 22) (ht : 0 ≤ top ∧ top ≤ 4194304) :
    Ret (loopO steph11_0 (top, (n : Int), p, 0, (fun _ => 0))) fun r => match r with | .inl z => z = (92, []) ∧ ¬ OkD top p n | .inr z => z.1 = (n : Int) ∧ OkD top p n ∧ ∀ k, k < 256 → z.2 k = dn top p k := by
  refine loopO_inv2 (fun i s => ∃ f : Nat → Int, s = (top, (n : Int), p, (i : Int), f) ∧ ∀ k, k < i → (0 ≤ p k ∧ p k < 8380417) ∧ (0 ≤ dn top p k ∧ dn top p k < 2 ^ n) ∧ f k = dn top p k) 256 ⟨_, rfl, fun k h => by omega⟩ ?_
  rintro i _ hi ⟨f, rfl, hf⟩
  by_cases h : i = 256
  · right
    subst h
    refine ⟨.inr ((n : Int), f), ?_, rfl, ⟨fun k hk => (hf k hk).1, fun k hk => (hf k hk).2.1⟩, fun k hk => (hf k hk).2.2⟩
    simp only [steph11_0]; simp (disch := omega) only [decide_eq_true_eq, if_neg]
  · have hi' : i < 256 := by omega
    by_cases c1 : p i < 0
    · right
      refine ⟨.inl (92, []), ?_, rfl, fun ho => by have := ho.1 i hi'; omega⟩
      simp only [steph11_0]
      simp (disch := omega) only [decide_eq_true_eq, decide_eq_false_iff_not, if_pos, if_neg, Int.toNat_natCast, c1, decide_true, Bool.true_eq_false, if_false]
    by_cases c2 : p i ≥ 8380417
    · right
      refine ⟨.inl (92, []), ?_, rfl, fun ho => by have := ho.1 i hi'; omega⟩
      simp only [steph11_0]
      simp (disch := omega) only [decide_eq_true_eq, decide_eq_false_iff_not, if_pos, Int.toNat_natCast, c1, c2, decide_true, decide_false, Bool.true_eq_false, if_false, if_true]
    have hdn : dn top p i = if p i > 4190208 then top - (p i - 8380417) else top - p i := by unfold dn cen; split <;> rfl
    have hcb := cen_bound (x := p i) (by omega)
    have hdb : -4194304 ≤ dn top p i ∧ dn top p i ≤ 8384512 := by unfold dn; omega
    have hw : (if p i > 4190208 then IntKind.i32.wrap (top - IntKind.i32.wrap (p i - 8380417)) else IntKind.i32.wrap (top - p i)) = dn top p i := by
      rw [hdn]
      split
      · rw [wi32 (n := p i - 8380417) (by omega) (by omega), wi32 (by omega) (by omega)]
      · rw [wi32 (by omega) (by omega)]
    by_cases c3 : dn top p i < 0
    · right
      refine ⟨.inl (92, []), ?_, rfl, fun ho => by have := ho.2 i hi'; omega⟩
      simp only [steph11_0]
      simp (disch := omega) only [decide_eq_true_eq, decide_eq_false_iff_not, if_pos, Int.toNat_natCast, c1, c2, decide_true, decide_false, Bool.true_eq_false, Bool.false_eq_true, if_false, if_true]
      by_cases c4 : p i > 4190208
      · rw [if_pos c4] at hw ⊢; (try rw [hw]); (try simp [c3])
      · rw [if_neg c4] at hw ⊢; (try rw [hw]); (try simp [c3])
    have hsh := shr_i32 (x := dn top p i) (n := n) (by omega) (by omega)
    by_cases c5 : 2 ^ n ≤ dn top p i
    · right
      refine ⟨.inl (92, []), ?_, rfl, fun ho => by have := ho.2 i hi'; omega⟩
      simp only [steph11_0]
      simp (disch := omega) only [decide_eq_true_eq, decide_eq_false_iff_not, if_pos, Int.toNat_natCast, c1, c2, decide_true, decide_false, Bool.true_eq_false, Bool.false_eq_true, if_false, if_true]
      by_cases c4 : p i > 4190208
      · rw [if_pos c4] at hw ⊢; rw [hw]; simp [c3, hsh, c5]
      · rw [if_neg c4] at hw ⊢; rw [hw]; simp [c3, hsh, c5]
    · left
      refine ⟨_, hi', ?_, upd f i (dn top p i), rfl, fun k hk => ?_⟩
      · simp only [steph11_0]
        simp (disch := omega) only [decide_eq_true_eq, decide_eq_false_iff_not, if_pos, Int.toNat_natCast, c1, c2, decide_true, decide_false, Bool.true_eq_false, Bool.false_eq_true, if_false, if_true, wi64]
        by_cases c4 : p i > 4190208
        · rw [if_pos c4] at hw ⊢; rw [hw, wu32 (by omega) (by omega)]; simp [c3, hsh, c5]
        · rw [if_neg c4] at hw ⊢; rw [hw, wu32 (by omega) (by omega)]; simp [c3, hsh, c5]
      · rw [upd_apply]
        by_cases e : k = i
        · subst e; rw [if_pos rfl]; exact ⟨⟨by omega, by omega⟩, ⟨by omega, by omega⟩, rfl⟩
        · rw [if_neg e]; exact hf k (by omega)

theorem wrong_no {top : Int} {n : Nat} (hn : 1 ≤ n ∧ n ≤ 22) (ht : 0 ≤ top ∧ top ≤ 4194304) : Fh15 (top, (n : Int)) = some false := by
  simp only [Fh15]
  rw [if_pos (by simp; omega), if_pos (by simp; omega), if_pos (by simp; omega)]
  simp; omega

theorem OkD.inB {top : Int} {p : Nat → Int} {n : Nat} (h : OkD top p n) {l : Nat → Int} (e : ∀ k, k < 256 → l k = dn top p k) : InB l n := fun i hi => by rw [e i hi]; exact h.2 i hi

theorem down_yes {p : Nat → Int} {top : Int} {n : Nat} (hn : 1 ≤ n ∧ n ≤ 22) (ht : 0 ≤ top ∧ top ≤ 4194304) (h : OkD top p n) : Fh11 (p, top, (n : Int)) = some (LL (32 * n) (byteG (dn top p) n), 0) := by
  simp only [Fh11, wrong_no hn ht, Option.bind_some, Bool.false_eq_true, if_false]
  obtain ⟨r, h1, h2⟩ := down_loop (p := p) hn ht
  rw [h1, Option.bind_some]
  rcases r with z | ⟨z1, z2⟩
  · exact absurd h h2.2
  · obtain ⟨rfl, _, h3⟩ := h2
    simp only []
    rw [lay_spec ⟨hn.1, by omega⟩ (h.inB h3), Option.bind_some, LL_congr fun j hj => byteG_congr h3 hj]
theorem down_no {p : Nat → Int} {top : Int} {n : Nat} (hn : 1 ≤ n ∧ n ≤ 22) (ht : 0 ≤ top ∧ top ≤ 4194304) (h : ¬ OkD top p n) : Fh11 (p, top, (n : Int)) = some ([], 92) := by
  simp only [Fh11, wrong_no hn ht, Option.bind_some, Bool.false_eq_true, if_false]
  obtain ⟨r, h1, h2⟩ := down_loop (p := p) hn ht
  rw [h1, Option.bind_some]
  rcases r with z | ⟨z1, z2⟩
  · obtain ⟨rfl, _⟩ := h2; rfl
  · exact absurd h2.2.1 h

theorem sb_up1 : nat2 (fun e => sb (upd (upd (fun _ => 0) 0 0) 1 1) 1 (8 * 0 + e)) 8 = 2 := by decide +kernel
theorem sb_dn3 : nat2 (fun e => sb (dn 3 (fun _ => 0)) 2 (8 * 0 + e)) 8 = 255 := by decide +kernel

theorem pawake_true : Fh4 () = some true := by
  have h1 : OkU (upd (upd (fun _ => 0) 0 0) 1 1) 1 := by
    intro i _
    rw [upd_apply, upd_apply]
    split
    · decide
    · split <;> decide
  have h2 : OkD 3 (fun _ => 0) 2 := ⟨fun i _ => ⟨Int.le_refl _, show (0 : Int) < 8380417 by omega⟩, fun i _ => by show 0 ≤ (3 : Int) - cen 0 ∧ (3 : Int) - cen 0 < 2 ^ 2; decide⟩
  have e1 := up_yes (n := 1) (by omega) h1
  have e2 := down_yes (n := 2) (by omega) (by omega) h2
  rw [show ((1 : Nat) : Int) = 1 from rfl] at e1
  rw [show ((2 : Nat) : Int) = 2 from rfl] at e2
  have g1 : (LL (32 * 1) (byteG (upd (upd (fun _ => 0) 0 0) 1 1) 1)).getD 0 0 = 2 := by
    rw [LL_getD, if_pos (by omega)]; unfold byteG; rw [sb_up1]; rfl
  have g2 : (LL (32 * 2) (byteG (dn 3 (fun _ => 0)) 2)).getD 0 0 = 255 := by
    rw [LL_getD, if_pos (by omega)]; unfold byteG; rw [sb_dn3]; rfl
  simp only [Fh4, e1, e2, Option.bind_some, LL_length, g1, g2]
  rfl

end Go.Abs
