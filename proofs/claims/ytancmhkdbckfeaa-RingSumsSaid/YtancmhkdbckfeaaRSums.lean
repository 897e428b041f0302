/- The document's sums, products and norms; RingSums, the plain law. -/
import Derived.Test.YtancmhkdbckfeaaRMul
set_option linter.unusedVariables false
set_option linter.unusedSimpArgs false
namespace Go.Abs
open Go.ChangeShapes Go.WideShapes

theorem radd_spec {a b : Nat → Int} {m : Bool} (ha : Pq a) (hb : Pq b) : Ret (Fr29 (a, b, m)) fun y => ∀ i, i < 256 → y i = (if m = true then a i - b i else a i + b i) % 8380417 := by
  simp only [Fr29]
  refine Ret.bind (Q := fun y => ∀ i, i < 256 → y.2 i = (if m = true then a i - b i else a i + b i) % 8380417) ?_ fun ⟨z1, z2⟩ h => ⟨_, rfl, h⟩
  refine loopO_inv (fun i s => ∃ f : Nat → Int, s = (m, (i : Int), a, b, (fun _ => 0), f) ∧ ∀ k, k < i → f k = (if m = true then a k - b k else a k + b k) % 8380417) 256 ⟨_, rfl, fun k h => by omega⟩ ?_ ?_
  · rintro i _ hi ⟨f, rfl, hf⟩
    have h1 := ha i hi
    have h2 := hb i hi
    refine ⟨_, ?_, upd f i ((if m = true then a i - b i else a i + b i) % 8380417), rfl, fun k hk => ?_⟩
    · cases m with
      | true =>
        simp only [stepr29_0]
        simp (disch := omega) only [decide_eq_true_eq, if_pos, if_true, Int.toNat_natCast, wi64]
        rw [rmod2_spec (by omega) (by omega), Option.bind_some, show a i + (0 - b i) = a i - b i by omega]
        rfl
      | false =>
        simp only [stepr29_0]
        simp (disch := omega) only [decide_eq_true_eq, if_pos, Bool.false_eq_true, if_false, Int.toNat_natCast, wi64]
        rw [rmod2_spec (by omega) (by omega), Option.bind_some]
        rfl
    · rw [upd_apply]
      by_cases e : k = i
      · subst e; rw [if_pos rfl]
      · rw [if_neg e]; exact hf k (by omega)
  · rintro _ ⟨f, rfl, hf⟩
    refine ⟨((fun _ => 0), f), ?_, hf⟩
    simp only [stepr29_0]; simp (disch := omega) only [decide_eq_true_eq, if_neg]

theorem rtimes_spec {a b : Nat → Int} (ha : Pq a) (hb : Pq b) : Ret (Fr31 (a, b)) fun y => ∀ i, i < 256 → y i = a i * b i % 8380417 := by
  simp only [Fr31]
  refine Ret.bind (Q := fun y => ∀ i, i < 256 → y.2 i = a i * b i % 8380417) ?_ fun ⟨z1, z2⟩ h => ⟨_, rfl, h⟩
  refine loopO_inv (fun i s => ∃ f : Nat → Int, s = ((i : Int), a, b, (fun _ => 0), f) ∧ ∀ k, k < i → f k = a k * b k % 8380417) 256 ⟨_, rfl, fun k h => by omega⟩ ?_ ?_
  · rintro i _ hi ⟨f, rfl, hf⟩
    have h1 := ha i hi
    have h2 := hb i hi
    have h3 := mul_31 (ha.p31 hi) (hb.p31 hi)
    refine ⟨_, ?_, upd f i (a i * b i % 8380417), rfl, fun k hk => ?_⟩
    · simp only [stepr31_0]
      simp (disch := omega) only [decide_eq_true_eq, if_pos, if_true, Int.toNat_natCast, wi64]
      rw [rmod2_spec (by omega) (by omega), Option.bind_some]
      rfl
    · rw [upd_apply]
      by_cases e : k = i
      · subst e; rw [if_pos rfl]
      · rw [if_neg e]; exact hf k (by omega)
  · rintro _ ⟨f, rfl, hf⟩
    refine ⟨((fun _ => 0), f), ?_, hf⟩
    simp only [stepr31_0]; simp (disch := omega) only [decide_eq_true_eq, if_neg]

/-- which coefficient of b goes to place k -/
def kx (i k : Nat) : Nat := if i ≤ k then k - i else 256 + k - i

theorem rmul_row {a b z : Nat → Int} (ha : Pq a) (hb : Pq b) {i : Nat} (hi : i < 256) {r : Nat → Int} (hr : ∀ k, k < 256 → -(i : Int) * 8380417 ≤ r k ∧ r k ≤ (i : Int) * 8380417) :
    Ret (loopO stepr30_1 ((i : Int), 0, a, b, z, r)) fun y => ∃ r', y = ((i : Int), a, b, z, r') ∧ ∀ k, k < 256 → (-((i + 1 : Nat) : Int) * 8380417 ≤ r' k ∧ r' k ≤ ((i + 1 : Nat) : Int) * 8380417) ∧ MQ (r' k) (r k + a i * sgb b k i) := by
  refine loopO_inv (fun m s => ∃ r', s = ((i : Int), (m : Int), a, b, z, r') ∧ ∀ k, k < 256 →
      if kx i k < m then (-((i + 1 : Nat) : Int) * 8380417 ≤ r' k ∧ r' k ≤ ((i + 1 : Nat) : Int) * 8380417) ∧ MQ (r' k) (r k + a i * sgb b k i) else r' k = r k) 256 ⟨r, rfl, fun k hk => by rw [if_neg (by omega)]⟩ ?_ ?_
  · rintro m _ hm ⟨r', rfl, hr'⟩
    have h3 := mul_31 (ha.p31 hi) (hb.p31 hm)
    have ai := ha i hi
    have bm := hb m hm
    have h4 : 0 ≤ a i * b m := Int.mul_nonneg ai.1 bm.1
    have h5 : (a i * b m).tmod 8380417 = a i * b m % 8380417 := tmodP h4
    have h6 := mod_Pq (a i * b m)
    by_cases c : i + m < 256
    · have hk := hr' (i + m) c
      have hk0 := hr (i + m) c
      have hkx : kx i (i + m) = m := by unfold kx; rw [if_pos (by omega)]; omega
      rw [hkx, if_neg (by omega)] at hk
      have hsg : sgb b (i + m) i = b m := by unfold sgb; rw [if_pos (by omega), show i + m - i = m by omega]
      have e1 : ((i : Int) + (m : Int)).toNat = i + m := by omega
      refine ⟨_, ?_, upd r' (i + m) (r (i + m) + a i * b m % 8380417), rfl, fun k hk' => ?_⟩
      · simp only [stepr30_1]
        simp (disch := omega) only [decide_eq_true_eq, if_pos, Int.toNat_natCast, wi64, e1, hk, h5]
        rfl
      · rw [upd_apply]
        by_cases e : k = i + m
        · subst e
          rw [if_pos rfl, hkx, if_pos (by omega), hsg]
          refine ⟨by omega, (MQ.refl _).add (MQ.mod _)⟩
        · rw [if_neg e]
          have h := hr' k hk'
          have hne : kx i k ≠ m := by unfold kx; split <;> omega
          by_cases c2 : kx i k < m
          · rw [if_pos c2] at h; rw [if_pos (by omega)]; exact h
          · rw [if_neg c2] at h; rw [if_neg (by omega)]; exact h
    · have hk := hr' (i + m - 256) (by omega)
      have hk0 := hr (i + m - 256) (by omega)
      have hkx : kx i (i + m - 256) = m := by unfold kx; rw [if_neg (by omega)]; omega
      rw [hkx, if_neg (by omega)] at hk
      have hsg : sgb b (i + m - 256) i = -b m := by unfold sgb; rw [if_neg (by omega), show 256 + (i + m - 256) - i = m by omega]
      have e1 : ((i : Int) + (m : Int) - 256).toNat = i + m - 256 := by omega
      refine ⟨_, ?_, upd r' (i + m - 256) (r (i + m - 256) - a i * b m % 8380417), rfl, fun k hk' => ?_⟩
      · simp only [stepr30_1]
        simp (disch := omega) only [decide_eq_true_eq, if_pos, if_neg, Int.toNat_natCast, wi64, e1, hk, h5]
        rfl
      · rw [upd_apply]
        by_cases e : k = i + m - 256
        · rw [if_pos e, e, hkx, if_pos (by omega), hsg]
          refine ⟨by omega, ?_⟩
          rw [Int.mul_neg, ← Int.sub_eq_add_neg]
          exact (MQ.refl _).sub (MQ.mod _)
        · rw [if_neg e]
          have h := hr' k hk'
          have hne : kx i k ≠ m := by unfold kx; split <;> omega
          by_cases c2 : kx i k < m
          · rw [if_pos c2] at h; rw [if_pos (by omega)]; exact h
          · rw [if_neg c2] at h; rw [if_neg (by omega)]; exact h
  · rintro _ ⟨r', rfl, hr'⟩
    refine ⟨_, ?_, r', rfl, fun k hk => ?_⟩
    · simp only [stepr30_1]; rw [if_neg (by simp)]
    · have h := hr' k hk
      rw [if_pos (by unfold kx; split <;> omega)] at h
      exact h

theorem rmul_spec {a b : Nat → Int} (ha : Pq a) (hb : Pq b) : Ret (Fr30 (a, b)) fun y => ∀ k, k < 256 → y k = ncm a b k := by
  simp only [Fr30]
  refine Ret.bind (Q := fun y => y.1 = (fun _ => 0) ∧ ∀ k, k < 256 → (-2147483648 ≤ y.2 k ∧ y.2 k ≤ 2147483648) ∧ MQ (y.2 k) (nc a b k)) ?_ ?_
  · refine loopO_inv (fun i s => ∃ r, s = ((i : Int), a, b, (fun _ => 0), r) ∧ ∀ k, k < 256 → (-(i : Int) * 8380417 ≤ r k ∧ r k ≤ (i : Int) * 8380417) ∧ MQ (r k) (sm (fun i => a i * sgb b k i) i)) 256 ⟨_, rfl, fun k hk => ⟨by simp, .refl _⟩⟩ ?_ ?_
    · rintro i _ hi ⟨r, rfl, hr⟩
      by_cases c : a i = 0
      · refine ⟨_, ?_, r, rfl, fun k hk => ⟨by have := (hr k hk).1; omega, ?_⟩⟩
        · have hc : (a i == 0) = true := by rw [c]; rfl
          simp only [stepr30_0]
          simp (disch := omega) only [decide_eq_true_eq, if_pos, Int.toNat_natCast, hc, if_true, wi64]
          rfl
        · show MQ (r k) (sm _ i + a i * sgb b k i)
          rw [c, Int.zero_mul, Int.add_zero]; exact (hr k hk).2
      · obtain ⟨y, h1, r', rfl, h2⟩ := rmul_row (z := fun _ => 0) ha hb hi fun k hk => (hr k hk).1
        refine ⟨((((i + 1 : Nat) : Int)), a, b, (fun _ => 0), r'), ?_, r', rfl, fun k hk => ⟨(h2 k hk).1, ?_⟩⟩
        rotate_left
        · show MQ (r' k) (sm (fun i => a i * sgb b k i) i + a i * sgb b k i)
          exact (h2 k hk).2.trans ((hr k hk).2.add (.refl _))
        have hc : (a i == 0) = false := by simpa using c
        simp only [stepr30_0]
        simp (disch := omega) only [decide_eq_true_eq, if_pos, Int.toNat_natCast, hc, Bool.false_eq_true, if_false, h1, Option.bind_some, wi64]
        rfl
    · rintro _ ⟨r, rfl, hr⟩
      refine ⟨((fun _ => 0), r), ?_, rfl, fun k hk => ⟨by have := (hr k hk).1; show -2147483648 ≤ r k ∧ r k ≤ 2147483648; omega, (hr k hk).2⟩⟩
      simp only [stepr30_0]; rw [if_neg (by simp)]
  rintro ⟨z, r⟩ ⟨hz, hr⟩
  simp only at hz hr ⊢
  subst hz
  refine Ret.bind (Q := fun y => ∀ k, k < 256 → y.2 k = ncm a b k) ?_ fun ⟨z1, z2⟩ h => ⟨_, rfl, h⟩
  refine loopO_inv (fun i s => ∃ f : Nat → Int, s = ((i : Int), (fun _ => 0), r, f) ∧ ∀ k, k < i → f k = ncm a b k) 256 ⟨_, rfl, fun k h => by omega⟩ ?_ ?_
  · rintro i _ hi ⟨f, rfl, hf⟩
    obtain ⟨h1, h2⟩ := hr i hi
    refine ⟨_, ?_, upd f i (r i % 8380417), rfl, fun k hk => ?_⟩
    · simp only [stepr30_2]
      simp (disch := omega) only [decide_eq_true_eq, if_pos, Int.toNat_natCast, wi64]
      rw [rmod2_spec (by omega) (by omega), Option.bind_some]
      rfl
    · rw [upd_apply]
      by_cases e : k = i
      · rw [if_pos e, e]; exact h2
      · rw [if_neg e]; exact hf k (by omega)
  · rintro _ ⟨f, rfl, hf⟩
    refine ⟨((fun _ => 0), f), ?_, hf⟩
    simp only [stepr30_2]; rw [if_neg (by simp)]

/-! ### Norms -/
def ceq (x : Int) : Int := if x > 4190208 then x - 8380417 else x
/-- the greatest distance from 0 of the first n -/
def nrm (a : Nat → Int) : Nat → Int
  | 0 => 0
  | n + 1 => if ceq (a n) < 0 then (if -ceq (a n) > nrm a n then -ceq (a n) else nrm a n) else (if ceq (a n) > nrm a n then ceq (a n) else nrm a n)
theorem ceq_b {x : Int} (h : 0 ≤ x ∧ x < 8380417) : -4190208 ≤ ceq x ∧ ceq x ≤ 4190208 := by unfold ceq; split <;> omega
theorem nrm_b {a : Nat → Int} (ha : Pq a) : ∀ n, n ≤ 256 → 0 ≤ nrm a n ∧ nrm a n ≤ 4190208
  | 0, _ => by simp [nrm]
  | n + 1, h => by
    have h1 := nrm_b ha n (by omega)
    have h2 := ceq_b (ha n (by omega))
    simp only [nrm]
    split <;> split <;> omega

theorem cen_spec {x : Int} (h : 0 ≤ x ∧ x < 8380417) : Fr39 x = some (ceq x) := by
  simp only [Fr39, ceq, decide_eq_true_eq]
  split
  · rw [wi32 (by omega) (by omega)]
  · rfl
theorem rcen_spec {x : Int} (h : 0 ≤ x ∧ x < 8380417) : Fr40 x = some (ceq x) := cen_spec h

theorem norm_yes {a : Nat → Int} (ha : Pq a) : Fr26 a = some (nrm a 256, 0) := by
  have hl : Ret (loopO stepr26_0 (0, a, 0)) (· = nrm a 256) := by
    refine loopO_inv (fun i s => s = (nrm a i, a, (i : Int))) 256 rfl ?_ ?_
    · rintro i _ hi rfl
      have h1 := nrm_b ha i (by omega)
      have h2 := ceq_b (ha i hi)
      refine ⟨_, ?_, rfl⟩
      simp only [stepr26_0]
      simp (disch := omega) only [decide_eq_true_eq, if_pos, Int.toNat_natCast, wi64]
      rw [cen_spec (ha i hi), Option.bind_some, wi32 (by omega) (by omega)]
      simp only [nrm, Option.some.injEq, Sum.inl.injEq, Prod.mk.injEq, true_and]
      generalize ceq (a i) = c at *
      generalize nrm a i = n at *
      refine ⟨?_, by omega⟩
      split <;> split <;> (try split) <;> omega
    · rintro _ rfl
      refine ⟨_, ?_, rfl⟩
      simp only [stepr26_0]; rw [if_neg (by simp)]
  simp only [Fr26, plain1_yes ha, Option.bind_some, Bool.not_true, Bool.false_eq_true, if_false, hl.eq]
theorem norm_no {a : Nat → Int} (ha : ¬ Pq a) : Fr26 a = some (0, 81) := by
  simp only [Fr26, plain1_no ha, Option.bind_some, Bool.not_false, if_true]
theorem rnorm_spec {a : Nat → Int} (ha : Pq a) : Fr28 a = some (nrm a 256) := by
  have hl : Ret (loopO stepr28_0 (0, 0, a)) (· = nrm a 256) := by
    refine loopO_inv (fun i s => s = (nrm a i, (i : Int), a)) 256 rfl ?_ ?_
    · rintro i _ hi rfl
      have h1 := nrm_b ha i (by omega)
      have h2 := ceq_b (ha i hi)
      refine ⟨_, ?_, rfl⟩
      simp only [stepr28_0]
      simp (disch := omega) only [decide_eq_true_eq, if_pos, Int.toNat_natCast, wi64]
      rw [rcen_spec (ha i hi), Option.bind_some, wi32 (by omega) (by omega)]
      simp only [nrm, show (0 : Int) - ceq (a i) = -ceq (a i) by omega]
      by_cases c1 : ceq (a i) < 0
      · rw [if_pos c1, if_pos c1]
        by_cases c2 : -ceq (a i) > nrm a i
        · rw [if_pos c2, if_pos c2]; rfl
        · rw [if_neg c2, if_neg c2]; rfl
      · rw [if_neg c1, if_neg c1]
        by_cases c2 : ceq (a i) > nrm a i
        · rw [if_pos c2, if_pos c2]; rfl
        · rw [if_neg c2, if_neg c2]; rfl
    · rintro _ rfl
      refine ⟨_, ?_, rfl⟩
      simp only [stepr28_0]; rw [if_neg (by simp)]
  simp only [Fr28, hl.eq, Option.bind_some]

theorem sums_true {a b : Nat → Int} (ha : ∀ i, i < 256 → -2147483648 ≤ a i ∧ a i < 2147483648) (hb : ∀ i, i < 256 → -2147483648 ≤ b i ∧ b i < 2147483648) : Fr7 (a, b) = some true := by
  have z : arrEq 256 (fun _ => 0) (fun _ => 0) = true := arrEq_true fun _ _ => rfl
  obtain ⟨r, er, kr⟩ := reduce_spec ha
  obtain ⟨r', er', kr'⟩ := rreduce_spec ha
  have t0 : arrEq 256 r r' = true := arrEq_true fun i hi => by rw [kr i hi, kr' i hi]
  by_cases pa : Pq a
  · by_cases pb : Pq b
    · obtain ⟨⟨s, s0⟩, e1, rfl, k1⟩ := add_yes pa pb
      obtain ⟨⟨d, d0⟩, e2, rfl, k2⟩ := sub_yes pa pb
      obtain ⟨p, e3, _, k3⟩ := mulE pa pb
      obtain ⟨⟨t, t0'⟩, e4, rfl, k4⟩ := times_yes pa pb
      obtain ⟨s', e5, k5⟩ := radd_spec (m := false) pa pb
      obtain ⟨d', e6, k6⟩ := radd_spec (m := true) pa pb
      obtain ⟨p', e7, k7⟩ := rmul_spec pa pb
      obtain ⟨t', e8, k8⟩ := rtimes_spec pa pb
      have q1 : arrEq 256 s s' = true := arrEq_true fun i hi => by rw [k5 i hi]; exact k1 i hi
      have q2 : arrEq 256 d d' = true := arrEq_true fun i hi => by rw [k6 i hi]; exact k2 i hi
      have q3 : arrEq 256 p p' = true := arrEq_true fun i hi => by rw [k7 i hi]; exact k3 i hi
      have q4 : arrEq 256 t t' = true := arrEq_true fun i hi => by rw [k8 i hi]; exact k4 i hi
      simp only [Fr7, rawake_true, e1, e2, e3, e4, e5, e6, e7, e8, er, er', norm_yes pa, rnorm_spec pa, rplain_yes pa, rplain_yes pb, Option.bind_some, t0, q1, q2, q3, q4, bne_self_eq_false, BEq.rfl, if_true, Bool.not_true, Bool.false_eq_true, if_false]
    · have hn : ¬ (Pq a ∧ Pq b) := fun h => pb h.2
      have e1 : Fr22 (a, b) = some ((fun _ => 0), 81) := by simp only [Fr22, plain2_no hn, Option.bind_some, Bool.not_false, if_true]
      have e2 : Fr24 (a, b) = some ((fun _ => 0), 81) := by simp only [Fr24, plain2_no hn, Option.bind_some, Bool.not_false, if_true]
      have e3 : Fr23 (a, b) = some ((fun _ => 0), 81) := by simp only [Fr23, plain2_no hn, Option.bind_some, Bool.not_false, if_true]
      have e4 : Fr25 (a, b) = some ((fun _ => 0), 81) := by simp only [Fr25, plain2_no hn, Option.bind_some, Bool.not_false, if_true]
      simp only [Fr7, rawake_true, e1, e2, e3, e4, er, er', norm_yes pa, rnorm_spec pa, rplain_yes pa, rplain_no pb, Option.bind_some, t0, z, bne_self_eq_false, BEq.rfl, if_true, Bool.not_true, Bool.not_false, Bool.false_eq_true, if_false]
  · have hn : ¬ (Pq a ∧ Pq b) := fun h => pa h.1
    have e1 : Fr22 (a, b) = some ((fun _ => 0), 81) := by simp only [Fr22, plain2_no hn, Option.bind_some, Bool.not_false, if_true]
    have e2 : Fr24 (a, b) = some ((fun _ => 0), 81) := by simp only [Fr24, plain2_no hn, Option.bind_some, Bool.not_false, if_true]
    have e3 : Fr23 (a, b) = some ((fun _ => 0), 81) := by simp only [Fr23, plain2_no hn, Option.bind_some, Bool.not_false, if_true]
    have e4 : Fr25 (a, b) = some ((fun _ => 0), 81) := by simp only [Fr25, plain2_no hn, Option.bind_some, Bool.not_false, if_true]
    obtain ⟨v, ev⟩ : ∃ v, Fr11 b = some v := by
      by_cases pb : Pq b
      · exact ⟨_, rplain_yes pb⟩
      · exact ⟨_, rplain_no pb⟩
    simp only [Fr7, rawake_true, e1, e2, e3, e4, er, er', norm_no pa, rplain_no pa, ev, Option.bind_some, t0, z, bne_self_eq_false, BEq.rfl, if_true, Bool.not_true, Bool.not_false, Bool.false_eq_true, if_false, Bool.true_eq_false]

theorem rsums_law {x0 x1 : Nat → Int} (h0 : ∀ i, i < 256 → (Lit.int .i32 (x0 i)).wf = true) (h1 : ∀ i, i < 256 → (Lit.int .i32 (x1 i)).wf = true) : Fr7 (x0, x1) = some true :=
  sums_true (fun i hi => by have := bounds_i32 (h0 i hi); omega) (fun i hi => by have := bounds_i32 (h1 i hi); omega)
end Go.Abs
