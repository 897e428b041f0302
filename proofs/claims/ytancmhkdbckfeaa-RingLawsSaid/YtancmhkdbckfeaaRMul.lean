/- Products of polynomials: by values, and each with each; RingLaws and RingSums, the plain laws. -/
import Derived.Test.YtancmhkdbckfeaaRHints
set_option linter.unusedVariables false
set_option linter.unusedSimpArgs false
namespace Go.Abs
open Go.ChangeShapes Go.WideShapes

theorem xj_256 (j : Nat) : MQ (xj j ^ 256) (-1) := by
  unfold xj
  rw [← Int.pow_mul, Nat.mul_comm, Int.pow_mul]
  refine (root256.pow _).trans (.of_eq ?_)
  rw [Int.pow_succ, Int.pow_mul, show (-1 : Int) ^ 2 = 1 from rfl, Int.one_pow]; rfl

/-- coefficient k - i of b, where X^256 is -1 -/
def sgb (b : Nat → Int) (k i : Nat) : Int := if i ≤ k then b (k - i) else -b (256 + k - i)
/-- each with each -/
def nc (a b : Nat → Int) (k : Nat) : Int := sm (fun i => a i * sgb b k i) 256

theorem turn_ev (b : Nat → Int) {x : Int} (hx : MQ (x ^ 256) (-1)) : ∀ i, i ≤ 255 → MQ (sm (fun k => sgb b k i * x ^ k) 256) (x ^ i * sm (fun k => b k * x ^ k) 256)
  | 0, _ => by
    rw [Int.pow_zero, Int.one_mul]
    refine .of_eq (sm_congr fun k hk => ?_)
    simp [sgb]
  | i + 1, hi => by
    have ih := turn_ev b hx i (by omega)
    rw [show 256 = 255 + 1 from rfl, sm_shift]
    have e0 : sgb b 0 (i + 1) * x ^ 0 = -b (255 - i) := by
      unfold sgb
      rw [if_neg (by omega), Int.pow_zero, Int.mul_one, show 256 + 0 - (i + 1) = 255 - i by omega]
    have e1 : sm (fun k => sgb b (k + 1) (i + 1) * x ^ (k + 1)) 255 = x * sm (fun k => sgb b k i * x ^ k) 255 := by
      rw [← sm_mul]
      apply sm_congr
      intro k hk
      have : sgb b (k + 1) (i + 1) = sgb b k i := by
        unfold sgb
        by_cases c : i ≤ k
        · rw [if_pos c, if_pos (by omega), show k + 1 - (i + 1) = k - i by omega]
        · rw [if_neg c, if_neg (by omega), show 256 + (k + 1) - (i + 1) = 256 + k - i by omega]
      rw [this, Int.pow_succ]; grind
    have e2 : sm (fun k => sgb b k i * x ^ k) 256 = sm (fun k => sgb b k i * x ^ k) 255 + b (255 - i) * x ^ 255 := by
      show _ + sgb b 255 i * x ^ 255 = _
      unfold sgb
      rw [if_pos (by omega)]
    rw [e0, e1]
    rw [e2] at ih
    have h := ((MQ.refl x).mul ih).sub ((MQ.refl (b (255 - i))).mul (hx.sub (.refl (-1))))
    refine MQ.trans (.of_eq ?_) (h.trans (.of_eq ?_))
    · rw [show x ^ 256 = x ^ 255 * x from Int.pow_succ x 255]; grind
    · rw [Int.pow_succ]; grind

theorem nc_ev (a b : Nat → Int) {x : Int} (hx : MQ (x ^ 256) (-1)) : MQ (sm (fun k => nc a b k * x ^ k) 256) (sm (fun i => a i * x ^ i) 256 * sm (fun k => b k * x ^ k) 256) := by
  have e1 : sm (fun k => nc a b k * x ^ k) 256 = sm (fun i => a i * sm (fun k => sgb b k i * x ^ k) 256) 256 := by
    have h1 : sm (fun k => nc a b k * x ^ k) 256 = sm (fun k => sm (fun i => a i * sgb b k i * x ^ k) 256) 256 := by
      apply sm_congr
      intro k _
      unfold nc
      rw [Int.mul_comm, ← sm_mul]
      apply sm_congr
      intro i _
      grind
    have h2 : sm (fun i => a i * sm (fun k => sgb b k i * x ^ k) 256) 256 = sm (fun i => sm (fun k => a i * sgb b k i * x ^ k) 256) 256 := by
      apply sm_congr
      intro i _
      rw [← sm_mul]
      apply sm_congr
      intro k _
      grind
    rw [h1, h2]
    exact sm_swap (fun k i => a i * sgb b k i * x ^ k) 256 256
  rw [e1]
  refine (sm_mq fun i hi => (MQ.refl (a i)).mul (turn_ev b hx i (by omega))).trans (.of_eq ?_)
  generalize sm (fun k => b k * x ^ k) 256 = B
  rw [Int.mul_comm, ← sm_mul]
  apply sm_congr
  intro i _
  grind

def ncm (a b : Nat → Int) (k : Nat) : Int := nc a b k % 8380417
theorem ncm_Pq (a b : Nat → Int) : Pq (ncm a b) := fun _ _ => mod_Pq _

theorem fs_ncm {a b : Nat → Int} (ha : Pq a) (hb : Pq b) {j : Nat} (hj : j < 256) : fs 8 (ncm a b) j = fs 8 a j * fs 8 b j % 8380417 := by
  refine mq_pq ?_ (fs_Pq (ncm_Pq a b) 8 j hj) (mod_Pq _)
  refine (fs8_ev _ hj).trans (MQ.trans ?_ (((fs8_ev a hj).symm.mul (fs8_ev b hj).symm).trans (MQ.mod _).symm))
  rw [ev256 _ hj, ev256 _ hj, ev256 _ hj]
  refine MQ.trans ?_ (nc_ev a b (xj_256 j))
  exact sm_mq fun k hk => (MQ.mod _).mul (.refl _)

/-- what tells the same values is the same -/
theorem fs_inj {f g : Nat → Int} (hf : Pq f) (hg : Pq g) (h : ∀ j, j < 256 → fs 8 f j = fs 8 g j) : ∀ i, i < 256 → f i = g i := by
  intro i hi
  rw [← bk_fs hf hi, ← bk_fs hg hi]
  exact bk_congr h hi

/-! ### The program's products -/
theorem times_yes {a b : Nat → Int} (ha : Pq a) (hb : Pq b) : Ret (Fr25 (a, b)) fun y => y.2 = 0 ∧ ∀ i, i < 256 → y.1 i = a i * b i % 8380417 := by
  simp only [Fr25, plain2_yes ha hb, Option.bind_some, Bool.not_true, Bool.false_eq_true, if_false]
  refine Ret.bind (Q := fun r => ∀ i, i < 256 → r.1 i = a i * b i % 8380417) ?_ fun ⟨z1, z2⟩ h => ⟨_, rfl, rfl, h⟩
  refine loopO_inv (fun i s => ∃ f : Nat → Int, s = (b, (i : Int), f, (fun _ => 0)) ∧ ∀ k, k < 256 → f k = if k < i then a k * b k % 8380417 else a k) 256 ⟨a, rfl, fun k h => by simp⟩ ?_ ?_
  · rintro i _ hi ⟨f, rfl, hf⟩
    have h3 := hf i hi
    rw [if_neg (Nat.lt_irrefl _)] at h3
    refine ⟨_, ?_, upd f i (a i * b i % 8380417), rfl, fun k hk => ?_⟩
    · simp only [stepr25_0]
      simp (disch := omega) only [decide_eq_true_eq, if_pos, Int.toNat_natCast, h3, wi64]
      rw [times_spec (ha.p31 hi) (hb.p31 hi), Option.bind_some]
      rfl
    · rw [upd_apply]
      by_cases e : k = i
      · rw [if_pos e, if_pos (by omega), e]
      · rw [if_neg e, hf k hk]
        by_cases c : k < i
        · rw [if_pos c, if_pos (by omega)]
        · rw [if_neg c, if_neg (by omega)]
  · rintro _ ⟨f, rfl, hf⟩
    refine ⟨(f, (fun _ => 0)), ?_, fun k hk => by show f k = _; rw [hf k hk, if_pos hk]⟩
    simp only [stepr25_0]; simp (disch := omega) only [decide_eq_true_eq, if_neg]

theorem sub_yes {a b : Nat → Int} (ha : Pq a) (hb : Pq b) : Ret (Fr24 (a, b)) fun y => y.2 = 0 ∧ ∀ i, i < 256 → y.1 i = (a i - b i) % 8380417 := by
  simp only [Fr24, plain2_yes ha hb, Option.bind_some, Bool.not_true, Bool.false_eq_true, if_false]
  refine Ret.bind (Q := fun r => ∀ i, i < 256 → r.1 i = (a i - b i) % 8380417) ?_ fun ⟨z1, z2⟩ h => ⟨_, rfl, rfl, h⟩
  refine loopO_inv (fun i s => ∃ f : Nat → Int, s = (b, (i : Int), f, (fun _ => 0)) ∧ ∀ k, k < 256 → f k = if k < i then (a k - b k) % 8380417 else a k) 256 ⟨a, rfl, fun k h => by simp⟩ ?_ ?_
  · rintro i _ hi ⟨f, rfl, hf⟩
    have h1 := ha i hi
    have h2 := hb i hi
    have h3 := hf i hi
    rw [if_neg (Nat.lt_irrefl _)] at h3
    refine ⟨_, ?_, upd f i ((a i - b i) % 8380417), rfl, fun k hk => ?_⟩
    · simp only [stepr24_0]
      simp (disch := omega) only [decide_eq_true_eq, if_pos, Int.toNat_natCast, h3, wi64]
      rw [rmod_spec (by omega) (by omega), Option.bind_some]
      rfl
    · rw [upd_apply]
      by_cases e : k = i
      · rw [if_pos e, if_pos (by omega), e]
      · rw [if_neg e, hf k hk]
        by_cases c : k < i
        · rw [if_pos c, if_pos (by omega)]
        · rw [if_neg c, if_neg (by omega)]
  · rintro _ ⟨f, rfl, hf⟩
    refine ⟨(f, (fun _ => 0)), ?_, fun k hk => by show f k = _; rw [hf k hk, if_pos hk]⟩
    simp only [stepr24_0]; simp (disch := omega) only [decide_eq_true_eq, if_neg]

theorem mul_yes {a b : Nat → Int} (ha : Pq a) (hb : Pq b) : Ret (Fr23 (a, b)) fun y => y.2 = 0 ∧ ∀ i, i < 256 → y.1 i = ncm a b i := by
  simp only [Fr23, plain2_yes ha hb, Option.bind_some, Bool.not_true, Bool.false_eq_true, if_false]
  refine (ntt_yes ha).bind fun ⟨u, e1⟩ ⟨_, hu⟩ => ?_
  refine (ntt_yes hb).bind fun ⟨v, e2⟩ ⟨_, hv⟩ => ?_
  simp only at hu hv ⊢
  have uq : Pq u := fun j hj => by rw [hu j hj]; exact fs_Pq ha 8 j hj
  have vq : Pq v := fun j hj => by rw [hv j hj]; exact fs_Pq hb 8 j hj
  refine (times_yes uq vq).bind fun ⟨w, e3⟩ ⟨_, hw⟩ => ?_
  simp only at hw ⊢
  have wq : Pq w := fun j hj => by rw [hw j hj]; exact mod_Pq _
  refine (back_yes wq).bind fun ⟨y, e4⟩ ⟨he, hy⟩ => ⟨_, rfl, he, fun i hi => ?_⟩
  simp only at hy ⊢
  rw [hy i hi, ← bk_fs (ncm_Pq a b) hi]
  refine bk_congr (fun j hj => ?_) hi
  rw [hw j hj, hu j hj, hv j hj, fs_ncm ha hb hj]

/-! ### The laws of a ring -/
theorem fs_add {a b : Nat → Int} (ha : Pq a) (hb : Pq b) {j : Nat} (hj : j < 256) : MQ (fs 8 (fun i => (a i + b i) % 8380417) j) (fs 8 a j + fs 8 b j) := by
  refine (fs8_ev _ hj).trans (MQ.trans ?_ ((fs8_ev a hj).symm.add (fs8_ev b hj).symm))
  rw [ev256 _ hj, ev256 _ hj, ev256 _ hj, ← sm_add]
  refine sm_mq fun k hk => ((MQ.mod _).mul (.refl _)).trans (.of_eq ?_)
  grind

theorem ncm_comm {a b : Nat → Int} (ha : Pq a) (hb : Pq b) : ∀ i, i < 256 → ncm a b i = ncm b a i :=
  fs_inj (ncm_Pq _ _) (ncm_Pq _ _) fun j hj => by rw [fs_ncm ha hb hj, fs_ncm hb ha hj, Int.mul_comm]

theorem ncm_assoc {a b c : Nat → Int} (ha : Pq a) (hb : Pq b) (hc : Pq c) : ∀ i, i < 256 → ncm (ncm a b) c i = ncm a (ncm b c) i :=
  fs_inj (ncm_Pq _ _) (ncm_Pq _ _) fun j hj => by
    rw [fs_ncm (ncm_Pq _ _) hc hj, fs_ncm ha (ncm_Pq _ _) hj, fs_ncm ha hb hj, fs_ncm hb hc hj]
    exact ((MQ.mod _).mul (.refl _)).trans ((MQ.of_eq (Int.mul_assoc _ _ _)).trans ((MQ.refl _).mul (MQ.mod _).symm))

theorem add_Pq (a b : Nat → Int) : Pq (fun i => (a i + b i) % 8380417) := fun _ _ => mod_Pq _
theorem ncm_dist {a b c : Nat → Int} (ha : Pq a) (hb : Pq b) (hc : Pq c) : ∀ i, i < 256 → ncm a (fun i => (b i + c i) % 8380417) i = (ncm a b i + ncm a c i) % 8380417 :=
  fs_inj (ncm_Pq _ _) (add_Pq (ncm a b) (ncm a c)) fun j hj => by
    refine mq_pq ?_ (fs_Pq (ncm_Pq _ _) 8 j hj) (fs_Pq (add_Pq _ _) 8 j hj)
    rw [fs_ncm ha (add_Pq b c) hj]
    refine (MQ.mod _).trans (((MQ.refl _).mul (fs_add hb hc hj)).trans (MQ.trans ?_ (fs_add (ncm_Pq a b) (ncm_Pq a c) hj).symm))
    rw [fs_ncm ha hb hj, fs_ncm ha hc hj, Int.mul_add]
    exact (MQ.mod _).symm.add (MQ.mod _).symm

theorem sm_one {f : Nat → Int} {m : Nat} : ∀ n, (∀ i, i < n → i ≠ m → f i = 0) → sm f n = if m < n then f m else 0
  | 0, _ => rfl
  | n + 1, h => by
    simp only [sm]
    rw [sm_one n fun i hi hm => h i (by omega) hm]
    by_cases c : n = m
    · subst c; simp
    · rw [h n (by omega) c]
      by_cases c2 : m < n
      · rw [if_pos c2, if_pos (by omega)]; omega
      · rw [if_neg c2, if_neg (by omega)]; rfl

def xP : Nat → Int := upd (upd (fun _ => 0) 0 0) 1 1
theorem xP_at (i : Nat) : xP i = if i = 1 then 1 else 0 := by
  unfold xP; rw [upd_apply, upd_apply]; split
  · rfl
  · split <;> rfl
theorem xP_Pq : Pq xP := fun i _ => by rw [xP_at]; split <;> omega

/-- X times a polynomial -/
theorem ncm_x (a : Nat → Int) {k : Nat} (hk : k < 256) : ncm a xP k = (if k = 0 then -a 255 else a (k - 1)) % 8380417 := by
  refine congrArg (fun t : Int => t % 8380417) (?_ : nc a xP k = _)
  unfold nc
  by_cases h : k = 0
  · subst h
    rw [if_pos rfl, sm_one (m := 255), if_pos (by omega)]
    · unfold sgb; rw [if_neg (by omega), xP_at, if_pos (by omega)]; omega
    · intro i hlt hi
      unfold sgb
      rw [xP_at, xP_at]
      by_cases c : i ≤ 0
      · rw [if_pos c, if_neg (by omega), Int.mul_zero]
      · rw [if_neg c]
        by_cases c2 : 256 + 0 - i = 1
        · omega
        · rw [if_neg c2]; simp
  · rw [if_neg h, sm_one (m := k - 1), if_pos (by omega)]
    · unfold sgb; rw [if_pos (by omega), xP_at, if_pos (by omega), Int.mul_one]
    · intro i hlt hi
      unfold sgb
      rw [xP_at, xP_at]
      by_cases c : i ≤ k
      · rw [if_pos c, if_neg (by omega), Int.mul_zero]
      · rw [if_neg c]
        by_cases c2 : 256 + k - i = 1
        · omega
        · rw [if_neg c2]; simp

theorem ncm_congr {a a' b b' : Nat → Int} (h1 : ∀ i, i < 256 → a i = a' i) (h2 : ∀ i, i < 256 → b i = b' i) {k : Nat} (hk : k < 256) : ncm a b k = ncm a' b' k := by
  refine congrArg (fun t : Int => t % 8380417) (?_ : nc a b k = nc a' b' k)
  unfold nc
  apply sm_congr
  intro i hi
  unfold sgb
  rw [h1 i hi]
  by_cases c : i ≤ k
  · rw [if_pos c, if_pos c, h2 _ (by omega)]
  · rw [if_neg c, if_neg c, h2 _ (by omega)]

theorem mulE {a b : Nat → Int} (ha : Pq a) (hb : Pq b) : ∃ y, Fr23 (a, b) = some (y, 0) ∧ Pq y ∧ ∀ i, i < 256 → y i = ncm a b i := by
  obtain ⟨⟨y, e⟩, h1, rfl, h2⟩ := mul_yes ha hb
  have h2' : ∀ i, i < 256 → y i = ncm a b i := h2
  exact ⟨y, h1, fun i hi => by rw [h2' i hi]; exact ncm_Pq a b i hi, h2'⟩

theorem laws_true {x y z : Nat → Int} (hx : ∀ i, i < 256 → -2147483648 ≤ x i ∧ x i < 2147483648) (hy : ∀ i, i < 256 → -2147483648 ≤ y i ∧ y i < 2147483648) (hz : ∀ i, i < 256 → -2147483648 ≤ z i ∧ z i < 2147483648) : Fr6 (x, y, z) = some true := by
  obtain ⟨a, e1, ka⟩ := reduce_spec hx
  obtain ⟨b, e2, kb⟩ := reduce_spec hy
  obtain ⟨c, e3, kc⟩ := reduce_spec hz
  have ha : Pq a := fun i hi => by rw [ka i hi]; exact mod_Pq _
  have hb : Pq b := fun i hi => by rw [kb i hi]; exact mod_Pq _
  have hc : Pq c := fun i hi => by rw [kc i hi]; exact mod_Pq _
  obtain ⟨ab, e4, qab, kab⟩ := mulE ha hb
  obtain ⟨ba, e5, qba, kba⟩ := mulE hb ha
  obtain ⟨bc, e6, qbc, kbc⟩ := mulE hb hc
  obtain ⟨lf, e7, qlf, klf⟩ := mulE qab hc
  obtain ⟨rt, e8, qrt, krt⟩ := mulE ha qbc
  obtain ⟨⟨sum, s0⟩, e9, rfl, ksum0⟩ := add_yes hb hc
  have ksum : ∀ i, i < 256 → sum i = (b i + c i) % 8380417 := ksum0
  have qsum : Pq sum := fun i hi => by rw [ksum i hi]; exact mod_Pq _
  obtain ⟨ov, e10, qov, kov⟩ := mulE ha qsum
  obtain ⟨ac, e11, qac, kac⟩ := mulE ha hc
  obtain ⟨⟨bo, s1⟩, e12, rfl, kbo0⟩ := add_yes qab qac
  have kbo : ∀ i, i < 256 → bo i = (ab i + ac i) % 8380417 := kbo0
  obtain ⟨⟨bk', s2⟩, e13, rfl, kbk0⟩ := sub_yes qsum hc
  have kbk : ∀ i, i < 256 → bk' i = (sum i - c i) % 8380417 := kbk0
  have t1 : arrEq 256 ab ba = true := arrEq_true fun i hi => by rw [kab i hi, kba i hi]; exact ncm_comm ha hb i hi
  have t2 : arrEq 256 lf rt = true := arrEq_true fun i hi => by
    rw [klf i hi, krt i hi, ncm_congr (b' := c) kab (fun _ _ => rfl) hi, ncm_congr (a := a) (fun _ _ => rfl) kbc hi]; exact ncm_assoc ha hb hc i hi
  have t3 : arrEq 256 ov bo = true := arrEq_true fun i hi => by
    rw [kov i hi, kbo i hi, ncm_congr (a := a) (b' := fun i => (b i + c i) % 8380417) (fun _ _ => rfl) ksum hi, kab i hi, kac i hi]; exact ncm_dist ha hb hc i hi
  have t4 : arrEq 256 bk' b = true := arrEq_true fun i hi => by
    have h1 := hb i hi
    have h2 := hc i hi
    rw [kbk i hi, ksum i hi]; omega
  obtain ⟨⟨u, u0⟩, e14, rfl, ku0⟩ := ntt_yes ha
  obtain ⟨⟨v, v0⟩, e15, rfl, kv0⟩ := ntt_yes hb
  obtain ⟨⟨w, w0⟩, e16, rfl, kw0⟩ := ntt_yes qab
  have ku : ∀ i, i < 256 → u i = fs 8 a i := ku0
  have kv : ∀ i, i < 256 → v i = fs 8 b i := kv0
  have kw : ∀ i, i < 256 → w i = fs 8 ab i := kw0
  have qu : Pq u := fun i hi => by rw [ku i hi]; exact fs_Pq ha 8 i hi
  have qv : Pq v := fun i hi => by rw [kv i hi]; exact fs_Pq hb 8 i hi
  obtain ⟨⟨t, t0⟩, e17, rfl, kt0⟩ := times_yes qu qv
  have kt : ∀ i, i < 256 → t i = u i * v i % 8380417 := kt0
  obtain ⟨⟨ho, h0⟩, e18, rfl, kho0⟩ := back_yes qu
  have kho : ∀ i, i < 256 → ho i = bk u i := kho0
  obtain ⟨⟨aw, a0⟩, e19, rfl, kaw0⟩ := back_yes ha
  have kaw : ∀ i, i < 256 → aw i = bk a i := kaw0
  have qaw : Pq aw := fun i hi => by rw [kaw i hi]; exact bk_Pq a i hi
  obtain ⟨⟨ag, g0⟩, e20, rfl, kag0⟩ := ntt_yes qaw
  have kag : ∀ i, i < 256 → ag i = fs 8 aw i := kag0
  obtain ⟨tu, e21, qtu, ktu⟩ := mulE ha xP_Pq
  have hw255 : IntKind.i32.wrap (0 - a 255) = -a 255 := by have := ha 255 (by omega); rw [wi32 (by omega) (by omega)]; omega
  obtain ⟨m, e22, km⟩ := reduce_spec (p := upd (fun _ => 0) 0 (-a 255)) fun i _ => by
    have := ha 255 (by omega)
    rw [upd_apply]; split <;> omega
  have t5 : arrEq 256 t w = true := arrEq_true fun i hi => by
    rw [kt i hi, kw i hi, ku i hi, kv i hi, fs_congr kab (Nat.le_refl 8) i hi, fs_ncm ha hb hi]
  have t6 : arrEq 256 ho a = true := arrEq_true fun i hi => by rw [kho i hi, bk_congr ku hi, bk_fs ha hi]
  have t7 : arrEq 256 ag a = true := arrEq_true fun i hi => by rw [kag i hi, fs_congr kaw (Nat.le_refl 8) i hi, fs_bk ha hi]
  have t8 : (tu 0 == m 0) = true := by
    rw [beq_iff_eq, ktu 0 (by omega), ncm_x a (by omega), if_pos rfl]
    exact (km 0 (by omega)).symm
  have loop : ∀ (one : Bool), loopO stepr6_0 (one, true, 1, a, w, t, ho, ag, tu) = some (one, true, a, w, t, ho, ag) := by
    intro one
    apply Ret.eq
    refine loopO_inv (fun i s => s = (one, true, 1 + (i : Int), a, w, t, ho, ag, tu)) 255 rfl ?_ ?_
    · rintro i _ hi rfl
      refine ⟨_, ?_, rfl⟩
      have e1 : (1 + (i : Int)).toNat = i + 1 := by omega
      have e2 : (1 + (i : Int) - 1).toNat = i := by omega
      have e3 : (tu (i + 1) == a i) = true := by
        have h1 := ha i (by omega)
        rw [beq_iff_eq, ktu _ (by omega), ncm_x a (by omega), if_neg (by omega), show i + 1 - 1 = i by omega, Int.emod_eq_of_lt h1.1 h1.2]
      simp only [stepr6_0]
      simp (disch := omega) only [decide_eq_true_eq, if_pos, if_true, wi64, e1, e2, e3]
      rw [show 1 + (i : Int) + 1 = 1 + ((i + 1 : Nat) : Int) by omega]
    · rintro _ rfl
      refine ⟨_, ?_, rfl⟩
      simp only [stepr6_0]; rw [if_neg (by decide)]
  have exP : upd (upd (fun _ => (0 : Int)) 0 0) 1 1 = xP := rfl
  simp only [Fr6, rawake_true, e1, e2, e3, e4, e5, e6, e7, e8, e9, e10, e11, e12, e13, e14, e15, e16, e17, e18, e19, e20, exP, e21, hw255, e22, Option.bind_some, t1, t2, t3, t4, t5, t6, t7, t8, bne_self_eq_false, if_true, Bool.not_true, Bool.false_eq_true, if_false, loop]

theorem laws_law {x0 x1 x2 : Nat → Int} (h0 : ∀ i, i < 256 → (Lit.int .i32 (x0 i)).wf = true) (h1 : ∀ i, i < 256 → (Lit.int .i32 (x1 i)).wf = true) (h2 : ∀ i, i < 256 → (Lit.int .i32 (x2 i)).wf = true) : Fr6 (x0, x1, x2) = some true :=
  laws_true (fun i hi => by have := bounds_i32 (h0 i hi); omega) (fun i hi => by have := bounds_i32 (h1 i hi); omega) (fun i hi => by have := bounds_i32 (h2 i hi); omega)
end Go.Abs
