/- Numbers modulo 8380417; the transform by stages: it tells the values at the odd powers of the root, and each stage can be undone. -/
import Derived.Test.YtancmhkdbckfeaaPKit2
set_option linter.unusedVariables false
set_option linter.unusedSimpArgs false
namespace Go.Abs

def MQ (x y : Int) : Prop := x % 8380417 = y % 8380417

theorem MQ.refl (x : Int) : MQ x x := rfl
theorem MQ.of_eq {x y : Int} (h : x = y) : MQ x y := by rw [h]; rfl
theorem MQ.symm {x y : Int} (h : MQ x y) : MQ y x := Eq.symm h
theorem MQ.trans {x y z : Int} (h : MQ x y) (g : MQ y z) : MQ x z := Eq.trans h g
theorem MQ.mod (x : Int) : MQ (x % 8380417) x := Int.emod_emod_of_dvd x (Int.dvd_refl _)
theorem MQ.add {a b c d : Int} (h : MQ a b) (g : MQ c d) : MQ (a + c) (b + d) := by
  unfold MQ at *; rw [Int.add_emod, h, g, ← Int.add_emod]
theorem MQ.sub {a b c d : Int} (h : MQ a b) (g : MQ c d) : MQ (a - c) (b - d) := by
  unfold MQ at *; rw [Int.sub_emod, h, g, ← Int.sub_emod]
theorem MQ.mul {a b c d : Int} (h : MQ a b) (g : MQ c d) : MQ (a * c) (b * d) := by
  unfold MQ at *; rw [Int.mul_emod, h, g, ← Int.mul_emod]
theorem MQ.neg {a b : Int} (h : MQ a b) : MQ (-a) (-b) := by
  have := (MQ.refl 0).sub h; simpa using this
theorem MQ.pow {a b : Int} (h : MQ a b) : ∀ n : Nat, MQ (a ^ n) (b ^ n)
  | 0 => by rw [Int.pow_zero, Int.pow_zero]; exact .refl _
  | n + 1 => by rw [Int.pow_succ, Int.pow_succ]; exact (MQ.pow h n).mul h
theorem MQ.eq {x y : Int} (h : MQ x y) (hx : 0 ≤ x ∧ x < 8380417) (hy : 0 ≤ y ∧ y < 8380417) : x = y := by
  unfold MQ at h; rw [Int.emod_eq_of_lt hx.1 hx.2, Int.emod_eq_of_lt hy.1 hy.2] at h; exact h

/-! ### Sums -/
def sm (f : Nat → Int) : Nat → Int
  | 0 => 0
  | n + 1 => sm f n + f n
theorem sm_congr {f g : Nat → Int} : ∀ {n : Nat}, (∀ i, i < n → f i = g i) → sm f n = sm g n
  | 0, _ => rfl
  | n + 1, h => by simp only [sm]; rw [sm_congr fun i hi => h i (by omega), h n (by omega)]
theorem sm_mq {f g : Nat → Int} : ∀ {n : Nat}, (∀ i, i < n → MQ (f i) (g i)) → MQ (sm f n) (sm g n)
  | 0, _ => .refl _
  | n + 1, h => (sm_mq fun i hi => h i (by omega)).add (h n (by omega))
theorem sm_add (f g : Nat → Int) : ∀ n, sm (fun i => f i + g i) n = sm f n + sm g n
  | 0 => rfl
  | n + 1 => by simp only [sm]; rw [sm_add f g n]; omega
theorem sm_sub (f g : Nat → Int) : ∀ n, sm (fun i => f i - g i) n = sm f n - sm g n
  | 0 => rfl
  | n + 1 => by simp only [sm]; rw [sm_sub f g n]; omega
theorem sm_mul (c : Int) (f : Nat → Int) : ∀ n, sm (fun i => c * f i) n = c * sm f n
  | 0 => by simp [sm]
  | n + 1 => by simp only [sm]; rw [sm_mul c f n, Int.mul_add]
theorem sm_split (f : Nat → Int) (m : Nat) : ∀ n, sm f (m + n) = sm f m + sm (fun i => f (m + i)) n
  | 0 => by simp [sm]
  | n + 1 => by rw [← Nat.add_assoc]; simp only [sm]; rw [sm_split f m n]; omega
theorem sm_zero (n : Nat) : sm (fun _ => 0) n = 0 := by
  induction n with
  | zero => rfl
  | succ n ih => simp [sm, ih]
theorem sm_swap (f : Nat → Nat → Int) (m : Nat) : ∀ n, sm (fun i => sm (f i) m) n = sm (fun k => sm (fun i => f i k) n) m
  | 0 => by simp only [sm]; rw [sm_zero]
  | n + 1 => by simp only [sm]; rw [sm_swap f m n, ← sm_add]

/-! ### The root -/
def brv (m : Nat) : Nat := m % 2 * 128 + m / 2 % 2 * 64 + m / 4 % 2 * 32 + m / 8 % 2 * 16 + m / 16 % 2 * 8 + m / 32 % 2 * 4 + m / 64 % 2 * 2 + m / 128 % 2

theorem brv_lt (m : Nat) : brv m < 256 := by unfold brv; omega
theorem brv_tab : ∀ m : Fin 256, brv (brv m.val) = m.val := by decide +kernel
theorem brv_brv {m : Nat} (h : m < 256) : brv (brv m) = m := brv_tab ⟨m, h⟩

theorem root256 : MQ ((1753 : Int) ^ 256) (-1) := by
  have : ((1753 : Int) ^ 256) % 8380417 = (-1) % 8380417 := by decide +kernel
  exact this
theorem root_pow (e : Nat) : MQ ((1753 : Int) ^ (512 * e)) 1 := by
  rw [Int.pow_mul, show 512 = 256 * 2 from rfl, Int.pow_mul]
  have h := (root256.pow 2).pow e
  have e1 : ((-1 : Int) ^ 2) ^ e = 1 := by rw [show (-1 : Int) ^ 2 = 1 from rfl, Int.one_pow]
  rw [e1] at h; exact h
theorem root_mod (e : Nat) : MQ ((1753 : Int) ^ e) (1753 ^ (e % 512)) := by
  have h : e = 512 * (e / 512) + e % 512 := by omega
  have h2 : (1753 : Int) ^ e = 1753 ^ (512 * (e / 512)) * 1753 ^ (e % 512) := by rw [← Int.pow_add, ← h]
  rw [h2]
  have := (root_pow (e / 512)).mul (.refl (1753 ^ (e % 512)))
  rw [Int.one_mul] at this; exact this

/-- the places at which the values are told -/
def xj (j : Nat) : Int := 1753 ^ (2 * brv j + 1)
/-- the factor number m -/
def zm (m : Nat) : Int := 1753 ^ brv m % 8380417
theorem zm_mq (m : Nat) : MQ (zm m) (1753 ^ brv m) := .mod _

theorem tabX : ∀ l : Fin 8, ∀ j : Fin 256, (2 ^ l.val * (2 * brv j.val + 1)) % 512 = brv (128 / 2 ^ l.val + j.val / (2 * 2 ^ l.val)) + 256 * (j.val / 2 ^ l.val % 2) := by decide +kernel
theorem tabZ : ∀ l : Fin 8, ∀ k : Fin 128, k.val < 128 / 2 ^ l.val → brv (256 / 2 ^ l.val - 1 - k.val) + brv (128 / 2 ^ l.val + k.val) = 256 := by decide +kernel

/-- a place to the power of the stage's width is the stage's factor, or minus it -/
theorem xj_pow {l j : Nat} (hl : l < 8) (hj : j < 256) : MQ (xj j ^ 2 ^ l) (if j / 2 ^ l % 2 = 0 then zm (128 / 2 ^ l + j / (2 * 2 ^ l)) else -zm (128 / 2 ^ l + j / (2 * 2 ^ l))) := by
  have ht := tabX ⟨l, hl⟩ ⟨j, hj⟩
  simp only at ht
  unfold xj
  rw [← Int.pow_mul, Nat.mul_comm]
  refine (root_mod _).trans ?_
  rw [ht, Int.pow_add]
  have hz := (zm_mq (128 / 2 ^ l + j / (2 * 2 ^ l))).symm
  by_cases c : j / 2 ^ l % 2 = 0
  · rw [if_pos c, c, Nat.mul_zero, Int.pow_zero, Int.mul_one]; exact hz
  · rw [if_neg c, show j / 2 ^ l % 2 = 1 by omega, Nat.mul_one]
    have := hz.mul root256
    rw [Int.mul_neg, Int.mul_one] at this; exact this

theorem zm_inv {l k : Nat} (hl : l < 8) (hk : k < 128 / 2 ^ l) : MQ (-zm (256 / 2 ^ l - 1 - k) * zm (128 / 2 ^ l + k)) 1 := by
  have h128 : 128 / 2 ^ l ≤ 128 := Nat.div_le_self _ _
  have ht := tabZ ⟨l, hl⟩ ⟨k, by omega⟩ hk
  simp only at ht
  have h := ((zm_mq (256 / 2 ^ l - 1 - k)).neg).mul (zm_mq (128 / 2 ^ l + k))
  refine h.trans ?_
  rw [Int.neg_mul, ← Int.pow_add, ht]
  have := root256.neg
  simpa using this

/-! ### Stages -/
def Pq (p : Nat → Int) : Prop := ∀ i, i < 256 → 0 ≤ p i ∧ p i < 8380417

/-- one stage of width n of the way there -/
def fwd (n : Nat) (a : Nat → Int) (j : Nat) : Int :=
  (if j / n % 2 = 0 then a j + zm (128 / n + j / (2 * n)) * a (j + n) else a (j - n) - zm (128 / n + j / (2 * n)) * a j) % 8380417
/-- and of the way back -/
def bwd (n : Nat) (a : Nat → Int) (j : Nat) : Int :=
  (if j / n % 2 = 0 then a j + a (j + n) else -zm (256 / n - 1 - j / (2 * n)) * (a (j - n) - a j)) % 8380417

theorem mod_Pq (x : Int) : 0 ≤ x % 8380417 ∧ x % 8380417 < 8380417 := by omega
theorem fwd_Pq (n : Nat) (a : Nat → Int) : Pq (fwd n a) := fun _ _ => mod_Pq _
theorem bwd_Pq (n : Nat) (a : Nat → Int) : Pq (bwd n a) := fun _ _ => mod_Pq _

theorem blk {n K i : Nat} (h : i < n) : (2 * n * K + i) / n = 2 * K ∧ (2 * n * K + i) / (2 * n) = K ∧ (2 * n * K + n + i) / n = 2 * K + 1 ∧ (2 * n * K + n + i) / (2 * n) = K := by
  have e1 : 2 * n * K = n * (2 * K) := by rw [Nat.mul_comm 2 n, Nat.mul_assoc]
  refine ⟨?_, ?_, ?_, ?_⟩
  · rw [e1, Nat.mul_add_div (by omega), Nat.div_eq_of_lt h, Nat.add_zero]
  · rw [Nat.mul_add_div (by omega), Nat.div_eq_of_lt (by omega), Nat.add_zero]
  · rw [e1, show n * (2 * K) + n + i = n * (2 * K + 1) + i by rw [Nat.mul_add, Nat.mul_one], Nat.mul_add_div (by omega), Nat.div_eq_of_lt h, Nat.add_zero]
  · rw [Nat.add_assoc, Nat.mul_add_div (by omega), Nat.div_eq_of_lt (by omega), Nat.add_zero]

theorem fwd_lo {n K i : Nat} (h : i < n) (a : Nat → Int) : MQ (fwd n a (2 * n * K + i)) (a (2 * n * K + i) + zm (128 / n + K) * a (2 * n * K + n + i)) := by
  obtain ⟨h1, h2, _, _⟩ := blk (K := K) h
  unfold fwd
  rw [h1, h2, if_pos (by omega), show 2 * n * K + i + n = 2 * n * K + n + i by omega]
  exact .mod _
theorem fwd_hi {n K i : Nat} (h : i < n) (a : Nat → Int) : MQ (fwd n a (2 * n * K + n + i)) (a (2 * n * K + i) - zm (128 / n + K) * a (2 * n * K + n + i)) := by
  obtain ⟨_, _, h3, h4⟩ := blk (K := K) h
  unfold fwd
  rw [h3, h4, if_neg (by omega), show 2 * n * K + n + i - n = 2 * n * K + i by omega]
  exact .mod _
theorem bwd_lo {n K i : Nat} (h : i < n) (a : Nat → Int) : MQ (bwd n a (2 * n * K + i)) (a (2 * n * K + i) + a (2 * n * K + n + i)) := by
  obtain ⟨h1, h2, _, _⟩ := blk (K := K) h
  unfold bwd
  rw [h1, if_pos (by omega), show 2 * n * K + i + n = 2 * n * K + n + i by omega]
  exact .mod _
theorem bwd_hi {n K i : Nat} (h : i < n) (a : Nat → Int) : MQ (bwd n a (2 * n * K + n + i)) (-zm (256 / n - 1 - K) * (a (2 * n * K + i) - a (2 * n * K + n + i))) := by
  obtain ⟨_, _, h3, h4⟩ := blk (K := K) h
  unfold bwd
  rw [h3, h4, if_neg (by omega), show 2 * n * K + n + i - n = 2 * n * K + i by omega]
  exact .mod _

/-- each place lies in the lower or the upper half of a block -/
theorem place {n j : Nat} (hn : 0 < n) : (∃ K i, i < n ∧ j = 2 * n * K + i ∧ j / n = 2 * K ∧ j / (2 * n) = K) ∨ (∃ K i, i < n ∧ j = 2 * n * K + n + i ∧ j / n = 2 * K + 1 ∧ j / (2 * n) = K) := by
  have h1 := Nat.div_add_mod j (2 * n)
  have h2 : j % (2 * n) < 2 * n := Nat.mod_lt _ (by omega)
  by_cases c : j % (2 * n) < n
  · left
    obtain ⟨b1, b2, _, _⟩ := blk (K := j / (2 * n)) c
    rw [h1] at b1
    exact ⟨j / (2 * n), j % (2 * n), c, h1.symm, b1, rfl⟩
  · right
    obtain ⟨_, _, b3, b4⟩ := blk (n := n) (K := j / (2 * n)) (i := j % (2 * n) - n) (by omega)
    have e : 2 * n * (j / (2 * n)) + n + (j % (2 * n) - n) = j := by omega
    rw [e] at b3
    exact ⟨j / (2 * n), j % (2 * n) - n, by omega, e.symm, b3, rfl⟩

theorem K_lt {l j : Nat} (hl : l < 8) (hj : j < 256) : j / (2 * 2 ^ l) < 128 / 2 ^ l := by
  have : ∀ l : Fin 8, ∀ j : Fin 256, j.val / (2 * 2 ^ l.val) < 128 / 2 ^ l.val := by decide +kernel
  exact this ⟨l, hl⟩ ⟨j, hj⟩

theorem bwd_fwd {l j : Nat} (hl : l < 8) (hj : j < 256) (a : Nat → Int) : MQ (bwd (2 ^ l) (fwd (2 ^ l) a) j) (2 * a j) := by
  have hn : 0 < 2 ^ l := Nat.pow_pos (by decide)
  have hK := K_lt hl hj
  rcases place (j := j) hn with ⟨K, i, hi, rfl, _, h4⟩ | ⟨K, i, hi, rfl, _, h4⟩
  · refine (bwd_lo hi _).trans (((fwd_lo hi a).add (fwd_hi hi a)).trans (.of_eq (by grind)))
  · rw [h4] at hK
    have hz := zm_inv hl hK
    refine (bwd_hi hi _).trans (((MQ.refl (-zm (256 / 2 ^ l - 1 - K))).mul ((fwd_lo hi a).sub (fwd_hi hi a))).trans ?_)
    have h := hz.mul (.refl (2 * a (2 * 2 ^ l * K + 2 ^ l + i)))
    rw [Int.one_mul] at h
    refine MQ.trans (.of_eq ?_) h
    grind

theorem fwd_bwd {l j : Nat} (hl : l < 8) (hj : j < 256) (a : Nat → Int) : MQ (fwd (2 ^ l) (bwd (2 ^ l) a) j) (2 * a j) := by
  have hn : 0 < 2 ^ l := Nat.pow_pos (by decide)
  have hK := K_lt hl hj
  rcases place (j := j) hn with ⟨K, i, hi, rfl, _, h4⟩ | ⟨K, i, hi, rfl, _, h4⟩
  · rw [h4] at hK
    have hz := zm_inv hl hK
    refine (fwd_lo hi _).trans (((bwd_lo hi a).add ((MQ.refl _).mul (bwd_hi hi a))).trans ?_)
    have h := (MQ.refl (a (2 * 2 ^ l * K + i) + a (2 * 2 ^ l * K + 2 ^ l + i))).add (hz.mul (.refl (a (2 * 2 ^ l * K + i) - a (2 * 2 ^ l * K + 2 ^ l + i))))
    refine MQ.trans (.of_eq ?_) (h.trans (.of_eq ?_))
    · grind
    · grind
  · rw [h4] at hK
    have hz := zm_inv hl hK
    refine (fwd_hi hi _).trans (((bwd_lo hi a).sub ((MQ.refl _).mul (bwd_hi hi a))).trans ?_)
    have h := (MQ.refl (a (2 * 2 ^ l * K + i) + a (2 * 2 ^ l * K + 2 ^ l + i))).sub (hz.mul (.refl (a (2 * 2 ^ l * K + i) - a (2 * 2 ^ l * K + 2 ^ l + i))))
    refine MQ.trans (.of_eq ?_) (h.trans (.of_eq ?_))
    · grind
    · grind

/-- where the parts of a place lie -/
theorem place_lt {l j : Nat} (hl : l < 8) (hj : j < 256) : (j / 2 ^ l % 2 = 0 → j + 2 ^ l < 256) ∧ j - 2 ^ l < 256 := by
  have : ∀ l : Fin 8, ∀ j : Fin 256, (j.val / 2 ^ l.val % 2 = 0 → j.val + 2 ^ l.val < 256) := by decide +kernel
  exact ⟨this ⟨l, hl⟩ ⟨j, hj⟩, Nat.lt_of_le_of_lt (Nat.sub_le _ _) hj⟩

theorem fwd_mq {l j : Nat} (hl : l < 8) (hj : j < 256) {a b : Nat → Int} {c : Int} (h : ∀ i, i < 256 → MQ (a i) (c * b i)) : MQ (fwd (2 ^ l) a j) (c * fwd (2 ^ l) b j) := by
  obtain ⟨p1, p2⟩ := place_lt hl hj
  unfold fwd
  refine (MQ.mod _).trans (MQ.trans ?_ ((MQ.refl c).mul (MQ.mod _).symm))
  by_cases e : j / 2 ^ l % 2 = 0
  · rw [if_pos e, if_pos e]
    exact ((h j hj).add ((MQ.refl _).mul (h _ (p1 e)))).trans (.of_eq (by grind))
  · rw [if_neg e, if_neg e]
    exact ((h _ p2).sub ((MQ.refl _).mul (h j hj))).trans (.of_eq (by grind))
theorem bwd_mq {l j : Nat} (hl : l < 8) (hj : j < 256) {a b : Nat → Int} {c : Int} (h : ∀ i, i < 256 → MQ (a i) (c * b i)) : MQ (bwd (2 ^ l) a j) (c * bwd (2 ^ l) b j) := by
  obtain ⟨p1, p2⟩ := place_lt hl hj
  unfold bwd
  refine (MQ.mod _).trans (MQ.trans ?_ ((MQ.refl c).mul (MQ.mod _).symm))
  by_cases e : j / 2 ^ l % 2 = 0
  · rw [if_pos e, if_pos e]
    exact ((h j hj).add (h _ (p1 e))).trans (.of_eq (by grind))
  · rw [if_neg e, if_neg e]
    exact ((MQ.refl _).mul ((h _ p2).sub (h j hj))).trans (.of_eq (by grind))

/-- the first l stages there -/
def fs : Nat → (Nat → Int) → (Nat → Int)
  | 0, a => a
  | l + 1, a => fwd (2 ^ (7 - l)) (fs l a)
/-- the first l stages back -/
def bs : Nat → (Nat → Int) → (Nat → Int)
  | 0, a => a
  | l + 1, a => bwd (2 ^ l) (bs l a)

theorem fs_mq {a b : Nat → Int} {c : Int} : ∀ {l : Nat}, l ≤ 8 → (∀ i, i < 256 → MQ (a i) (c * b i)) → ∀ j, j < 256 → MQ (fs l a j) (c * fs l b j)
  | 0, _, h, j, hj => h j hj
  | l + 1, hl, h, j, hj => fwd_mq (by omega) hj fun i hi => fs_mq (by omega) h i hi

theorem back_there {a : Nat → Int} : ∀ {l : Nat}, l ≤ 8 → ∀ j, j < 256 → MQ (bs l (fs 8 a) j) (2 ^ l * fs (8 - l) a j)
  | 0, _, j, _ => .of_eq (by simp [bs])
  | l + 1, hl, j, hj => by
    have ih : ∀ i, i < 256 → MQ (bs l (fs 8 a) i) (2 ^ l * fs (8 - l) a i) := fun i hi => back_there (by omega) i hi
    have h1 := bwd_mq (l := l) (by omega) hj ih
    have e : fs (8 - l) a = fwd (2 ^ l) (fs (8 - (l + 1)) a) := by
      rw [show 8 - l = (7 - l) + 1 by omega]
      show fwd (2 ^ (7 - (7 - l))) _ = _
      rw [show 7 - (7 - l) = l by omega, show 8 - (l + 1) = 7 - l by omega]
    rw [e] at h1
    refine h1.trans (((MQ.refl (2 ^ l)).mul (bwd_fwd (by omega) hj _)).trans (.of_eq ?_))
    rw [Int.pow_succ, Int.mul_assoc]

theorem there_back {a : Nat → Int} : ∀ {l : Nat}, l ≤ 8 → ∀ j, j < 256 → MQ (fs l (bs 8 a) j) (2 ^ l * bs (8 - l) a j)
  | 0, _, j, _ => .of_eq (by simp [fs])
  | l + 1, hl, j, hj => by
    have ih : ∀ i, i < 256 → MQ (fs l (bs 8 a) i) (2 ^ l * bs (8 - l) a i) := fun i hi => there_back (by omega) i hi
    have h1 := fwd_mq (l := 7 - l) (by omega) hj ih
    have e : bs (8 - l) a = bwd (2 ^ (7 - l)) (bs (8 - (l + 1)) a) := by
      rw [show 8 - l = (7 - l) + 1 by omega, show 8 - (l + 1) = 7 - l by omega]
      rfl
    rw [e] at h1
    refine h1.trans (((MQ.refl (2 ^ l)).mul (fwd_bwd (by omega) hj _)).trans (.of_eq ?_))
    rw [Int.pow_succ, Int.mul_assoc]

/-! ### Values -/
/-- what a block of n tells at the place j -/
def ev (n : Nat) (a : Nat → Int) (j : Nat) : Int := sm (fun i => a (n * (j / n) + i) * xj j ^ i) n

theorem fwd_ev {l j : Nat} (hl : l < 8) (hj : j < 256) (a : Nat → Int) : MQ (ev (2 ^ l) (fwd (2 ^ l) a) j) (ev (2 * 2 ^ l) a j) := by
  have hn : 0 < 2 ^ l := Nat.pow_pos (by decide)
  have hx := xj_pow hl hj
  generalize hN : 2 ^ l = n at *
  unfold ev
  rw [show sm (fun i => a (2 * n * (j / (2 * n)) + i) * xj j ^ i) (2 * n) = sm (fun i => a (2 * n * (j / (2 * n)) + i) * xj j ^ i) n + sm (fun i => a (2 * n * (j / (2 * n)) + (n + i)) * xj j ^ (n + i)) n by
    rw [show 2 * n = n + n by omega]; exact sm_split _ n n]
  rw [← sm_add]
  rcases place (j := j) hn with ⟨K, i, hi, hjj, h3, h4⟩ | ⟨K, i, hi, hjj, h3, h4⟩
  · rw [h3, h4]
    rw [h3, h4, if_pos (by omega)] at hx
    apply sm_mq
    intro i hi
    rw [show n * (2 * K) + i = 2 * n * K + i by rw [Nat.mul_comm 2 n, Nat.mul_assoc], ← Nat.add_assoc, Int.pow_add]
    refine ((fwd_lo hi a).mul (.refl (xj j ^ i))).trans ?_
    have h := (MQ.refl (a (2 * n * K + i) * xj j ^ i)).add ((MQ.refl (a (2 * n * K + n + i))).mul (hx.symm.mul (.refl (xj j ^ i))))
    refine MQ.trans (.of_eq ?_) h
    grind
  · rw [h3, h4]
    rw [h3, h4, if_neg (by omega)] at hx
    apply sm_mq
    intro i hi
    rw [show n * (2 * K + 1) + i = 2 * n * K + n + i by rw [Nat.mul_add, Nat.mul_one, Nat.mul_comm 2 n, Nat.mul_assoc], ← Nat.add_assoc, Int.pow_add]
    refine ((fwd_hi hi a).mul (.refl (xj j ^ i))).trans ?_
    have h := (MQ.refl (a (2 * n * K + i) * xj j ^ i)).add ((MQ.refl (a (2 * n * K + n + i))).mul (hx.symm.mul (.refl (xj j ^ i))))
    refine MQ.trans (.of_eq ?_) h
    grind

theorem fs_ev {a : Nat → Int} : ∀ {l : Nat}, l ≤ 8 → ∀ j, j < 256 → MQ (ev (2 ^ (8 - l)) (fs l a) j) (ev 256 a j)
  | 0, _, j, _ => .refl _
  | l + 1, hl, j, hj => by
    have h1 := fwd_ev (l := 7 - l) (by omega) hj (fs l a)
    have h2 := fs_ev (a := a) (l := l) (by omega) j hj
    rw [show 2 * 2 ^ (7 - l) = 2 ^ (8 - l) by rw [show 8 - l = (7 - l) + 1 by omega, Nat.pow_succ, Nat.mul_comm]] at h1
    rw [show 8 - (l + 1) = 7 - l by omega]
    exact h1.trans h2

/-- the transform tells the values -/
theorem fs8_ev (a : Nat → Int) {j : Nat} (hj : j < 256) : MQ (fs 8 a j) (ev 256 a j) := by
  have h := fs_ev (a := a) (l := 8) (by omega) j hj
  refine MQ.trans (.of_eq ?_) h
  show fs 8 a j = ev 1 (fs 8 a) j
  unfold ev
  simp [sm]
end Go.Abs
