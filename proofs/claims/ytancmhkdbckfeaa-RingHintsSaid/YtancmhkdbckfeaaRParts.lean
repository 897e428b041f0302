/- What the program's ring functions compute; RingValues, RingParts and RingHints, the plain laws. -/
import Derived.Test.YtancmhkdbckfeaaRSpec
set_option linter.unusedVariables false
set_option linter.unusedSimpArgs false
namespace Go.Abs
open Go.ChangeShapes Go.WideShapes

theorem getD_get {α : Type} (l : List α) (d : α) {i : Nat} (h : i < l.length) : l.getD i d = l[i] := by simp [List.getD_eq_getElem?_getD, h]

/-! ### Plain polynomials -/
theorem plain1_loop {l : List (Nat → Int)} {n k : Int} {p : Nat → Int} : Ret (loopO stepr32_1 (l, n, k, p, 0)) fun r => match r with | .inl z => z = false ∧ ¬ Pq p | .inr z => z = (l, n, k) ∧ Pq p := by
  refine loopO_inv2 (fun i s => s = (l, n, k, p, (i : Int)) ∧ ∀ j, j < i → 0 ≤ p j ∧ p j < 8380417) 256 ⟨rfl, fun j h => by omega⟩ ?_
  rintro i _ hi ⟨rfl, hf⟩
  by_cases h : i = 256
  · right
    subst h
    refine ⟨.inr (l, n, k), ?_, rfl, hf⟩
    simp only [stepr32_1]; simp (disch := omega) only [decide_eq_true_eq, if_neg]
  · have hi' : i < 256 := by omega
    by_cases c1 : p i < 0
    · right
      refine ⟨.inl false, ?_, rfl, fun ho => by have := ho i hi'; omega⟩
      simp only [stepr32_1]
      simp (disch := omega) only [decide_eq_true_eq, decide_eq_false_iff_not, if_pos, if_neg, Int.toNat_natCast, c1, decide_true, Bool.true_eq_false, if_false]
    by_cases c2 : p i ≥ 8380417
    · right
      refine ⟨.inl false, ?_, rfl, fun ho => by have := ho i hi'; omega⟩
      simp only [stepr32_1]
      simp (disch := omega) only [decide_eq_true_eq, decide_eq_false_iff_not, if_pos, Int.toNat_natCast, c1, c2, decide_true, decide_false, Bool.true_eq_false, if_false, if_true]
    · left
      refine ⟨_, hi', ?_, rfl, fun k hk => ?_⟩
      · simp only [stepr32_1]
        simp (disch := omega) only [decide_eq_true_eq, decide_eq_false_iff_not, if_pos, Int.toNat_natCast, c1, c2, decide_true, decide_false, Bool.true_eq_false, Bool.false_eq_true, if_false, if_true, wi64]
        rfl
      · by_cases e : k = i
        · subst e; omega
        · exact hf k (by omega)

theorem plainL_loop {l : List (Nat → Int)} (hl : l.length ≤ 100) : Ret (loopO stepr32_0 (l, (l.length : Int), 0)) fun r => match r with | .inl z => z = false ∧ ¬ (∀ p ∈ l, Pq p) | .inr _ => ∀ p ∈ l, Pq p := by
  refine loopO_inv2 (fun i s => s = (l, (l.length : Int), (i : Int)) ∧ ∀ j (h : j < l.length), j < i → Pq l[j]) l.length ⟨rfl, fun j _ h => by omega⟩ ?_
  rintro i _ hi ⟨rfl, hf⟩
  by_cases h : i = l.length
  · right
    subst h
    refine ⟨.inr (), ?_, fun p hp => ?_⟩
    · simp only [stepr32_0]; simp (disch := omega) only [decide_eq_true_eq, if_neg]
    · obtain ⟨j, hj, rfl⟩ := List.mem_iff_getElem.1 hp
      exact hf j hj hj
  · have hi' : i < l.length := by omega
    have hget : l.getD i (DT.dflt (.pt (.arr .i32 256))) = l[i] := getD_get l _ hi'
    obtain ⟨r, h1, h2⟩ := plain1_loop (l := l) (n := (l.length : Int)) (k := (i : Int)) (p := l[i])
    rcases r with z | z
    · right
      refine ⟨.inl false, ?_, rfl, fun ho => h2.2 (ho _ (List.getElem_mem hi'))⟩
      obtain ⟨rfl, _⟩ := h2
      simp only [stepr32_0]
      simp (disch := omega) only [decide_eq_true_eq, if_pos, Int.toNat_natCast, hget, h1, Option.bind_some]
    · left
      obtain ⟨rfl, h2⟩ := h2
      refine ⟨_, hi', ?_, rfl, fun j hj hlt => ?_⟩
      · simp only [stepr32_0]
        simp (disch := omega) only [decide_eq_true_eq, if_pos, Int.toNat_natCast, hget, h1, Option.bind_some, wi64]
        rfl
      · by_cases e : j = i
        · subst e; exact h2
        · exact hf j hj (by omega)

theorem plainL_yes {l : List (Nat → Int)} (hl : l.length ≤ 100) (h : ∀ p ∈ l, Pq p) : Fr32 l = some true := by
  obtain ⟨r, h1, h2⟩ := plainL_loop hl
  simp only [Fr32, h1, Option.bind_some]
  rcases r with z | z
  · exact absurd h h2.2
  · rfl
theorem plainL_no {l : List (Nat → Int)} (hl : l.length ≤ 100) (h : ¬ ∀ p ∈ l, Pq p) : Fr32 l = some false := by
  obtain ⟨r, h1, h2⟩ := plainL_loop hl
  simp only [Fr32, h1, Option.bind_some]
  rcases r with z | z
  · obtain ⟨rfl, _⟩ := h2; rfl
  · exact absurd h2 h
theorem plain1_yes {p : Nat → Int} (h : Pq p) : Fr32 [p] = some true := plainL_yes (by simp) (by simpa using h)
theorem plain1_no {p : Nat → Int} (h : ¬ Pq p) : Fr32 [p] = some false := plainL_no (by simp) (by simpa using h)
theorem plain2_yes {p q : Nat → Int} (h : Pq p) (g : Pq q) : Fr32 [p, q] = some true := plainL_yes (by simp) (by simp [h, g])
theorem plain2_no {p q : Nat → Int} (h : ¬ (Pq p ∧ Pq q)) : Fr32 [p, q] = some false := plainL_no (by simp) (by simpa using h)

theorem plain_loop {p : Nat → Int} : Ret (loopO stepr11_0 (0, p)) fun r => match r with | .inl z => z = false ∧ ¬ Pq p | .inr _ => Pq p := by
  refine loopO_inv2 (fun i s => s = ((i : Int), p) ∧ ∀ k, k < i → 0 ≤ p k ∧ p k < 8380417) 256 ⟨rfl, fun k h => by omega⟩ ?_
  rintro i _ hi ⟨rfl, hf⟩
  by_cases h : i = 256
  · right
    subst h
    refine ⟨.inr (), ?_, hf⟩
    simp only [stepr11_0]; simp (disch := omega) only [decide_eq_true_eq, if_neg]
  · have hi' : i < 256 := by omega
    by_cases c1 : p i < 0
    · right
      refine ⟨.inl false, ?_, rfl, fun ho => by have := ho i hi'; omega⟩
      simp only [stepr11_0]
      simp (disch := omega) only [decide_eq_true_eq, decide_eq_false_iff_not, if_pos, if_neg, Int.toNat_natCast, c1, decide_true, Bool.true_eq_false, if_false]
    by_cases c2 : p i ≥ 8380417
    · right
      refine ⟨.inl false, ?_, rfl, fun ho => by have := ho i hi'; omega⟩
      simp only [stepr11_0]
      simp (disch := omega) only [decide_eq_true_eq, decide_eq_false_iff_not, if_pos, Int.toNat_natCast, c1, c2, decide_true, decide_false, Bool.true_eq_false, if_false, if_true]
    · left
      refine ⟨_, hi', ?_, rfl, fun k hk => ?_⟩
      · simp only [stepr11_0]
        simp (disch := omega) only [decide_eq_true_eq, decide_eq_false_iff_not, if_pos, Int.toNat_natCast, c1, c2, decide_true, decide_false, Bool.true_eq_false, Bool.false_eq_true, if_false, if_true, wi64]
        rfl
      · by_cases e : k = i
        · subst e; omega
        · exact hf k (by omega)
theorem rplain_yes {p : Nat → Int} (h : Pq p) : Fr11 p = some true := by
  obtain ⟨r, h1, h2⟩ := plain_loop (p := p)
  simp only [Fr11, h1, Option.bind_some]
  rcases r with z | z
  · exact absurd h h2.2
  · rfl
theorem rplain_no {p : Nat → Int} (h : ¬ Pq p) : Fr11 p = some false := by
  obtain ⟨r, h1, h2⟩ := plain_loop (p := p)
  simp only [Fr11, h1, Option.bind_some]
  rcases r with z | z
  · obtain ⟨rfl, _⟩ := h2; rfl
  · exact absurd h2 h

/-! ### The transform -/
theorem ntt_yes {p : Nat → Int} (h : Pq p) : Ret (Fr9 p) fun y => y.2 = 0 ∧ ∀ j, j < 256 → y.1 j = fs 8 p j := by
  simp only [Fr9, plain1_yes h, Option.bind_some, Bool.not_true, Bool.false_eq_true, if_false]
  refine powers_spec.bind fun z hz => ?_
  refine (ntt_loop h hz).bind fun ⟨z1, z2⟩ hy => ⟨_, rfl, rfl, hy⟩
theorem ntt_no {p : Nat → Int} (h : ¬ Pq p) : Fr9 p = some ((fun _ => 0), 81) := by
  simp only [Fr9, plain1_no h, Option.bind_some, Bool.not_false, if_true]
/-- the way back -/
def bk (a : Nat → Int) (j : Nat) : Int := bs 8 a j * 8347681 % 8380417
theorem back_yes {p : Nat → Int} (h : Pq p) : Ret (Fr10 p) fun y => y.2 = 0 ∧ ∀ j, j < 256 → y.1 j = bk p j := by
  simp only [Fr10, plain1_yes h, Option.bind_some, Bool.not_true, Bool.false_eq_true, if_false]
  refine powers_spec.bind fun z hz => ?_
  refine (back_loop h hz).bind fun ⟨z1, z2⟩ hy => ?_
  have hq : Pq z1 := fun j hj => by have e : z1 j = bs 8 p j := hy j hj; rw [e]; exact bs_Pq h 8 j hj
  refine (last_loop hq).bind fun ⟨z3, z4⟩ h3 => ⟨_, rfl, rfl, fun j hj => ?_⟩
  have e : z1 j = bs 8 p j := hy j hj
  have e2 : z3 j = z1 j * 8347681 % 8380417 := h3 j hj
  show z3 j = _
  rw [e2, e]; rfl
theorem back_no {p : Nat → Int} (h : ¬ Pq p) : Fr10 p = some ((fun _ => 0), 81) := by
  simp only [Fr10, plain1_no h, Option.bind_some, Bool.not_false, if_true]

theorem bk_Pq (a : Nat → Int) : Pq (bk a) := fun _ _ => mod_Pq _
theorem inv256 : MQ (256 * 8347681) 1 := by show (256 * 8347681 : Int) % 8380417 = 1 % 8380417; decide

theorem mq_pq {x y : Int} (h : MQ x y) (hx : 0 ≤ x ∧ x < 8380417) (hy : 0 ≤ y ∧ y < 8380417) : x = y := h.eq hx hy

theorem bk_fs {a : Nat → Int} (ha : Pq a) {j : Nat} (hj : j < 256) : bk (fs 8 a) j = a j := by
  refine mq_pq ?_ (bk_Pq _ j hj) (ha j hj)
  refine (MQ.mod _).trans ?_
  have h := (back_there (a := a) (l := 8) (by omega) j hj).mul (.refl 8347681)
  have h2 := inv256.mul (.refl (a j))
  rw [Int.one_mul] at h2
  refine h.trans (MQ.trans (.of_eq ?_) h2)
  show 2 ^ 8 * a j * 8347681 = _
  rw [show (2 : Int) ^ 8 = 256 from rfl]; grind

theorem fs_bk {a : Nat → Int} (ha : Pq a) {j : Nat} (hj : j < 256) : fs 8 (bk a) j = a j := by
  refine mq_pq ?_ (fs_Pq (bk_Pq a) 8 j hj) (ha j hj)
  have h := fs_mq (a := bk a) (b := bs 8 a) (c := 8347681) (l := 8) (by omega) (fun i hi => (MQ.mod _).trans (.of_eq (Int.mul_comm _ _))) j hj
  have h1 := there_back (a := a) (l := 8) (by omega) j hj
  have h2 := inv256.mul (.refl (a j))
  rw [Int.one_mul] at h2
  refine h.trans (((MQ.refl 8347681).mul h1).trans (MQ.trans (.of_eq ?_) h2))
  show 8347681 * (2 ^ 8 * a j) = _
  rw [show (2 : Int) ^ 8 = 256 from rfl]; grind

theorem fs_congr {a b : Nat → Int} (h : ∀ i, i < 256 → a i = b i) : ∀ {l : Nat}, l ≤ 8 → ∀ j, j < 256 → fs l a j = fs l b j
  | 0, _, j, hj => h j hj
  | l + 1, hl, j, hj => fwd_congr (by omega) (fun i hi => fs_congr h (by omega) i hi) hj
theorem bs_congr {a b : Nat → Int} (h : ∀ i, i < 256 → a i = b i) : ∀ {l : Nat}, l ≤ 8 → ∀ j, j < 256 → bs l a j = bs l b j
  | 0, _, j, hj => h j hj
  | l + 1, hl, j, hj => bwd_congr (by omega) (fun i hi => bs_congr h (by omega) i hi) hj
theorem bk_congr {a b : Nat → Int} (h : ∀ i, i < 256 → a i = b i) {j : Nat} (hj : j < 256) : bk a j = bk b j := by
  unfold bk; rw [bs_congr h (Nat.le_refl 8) j hj]

end Go.Abs
