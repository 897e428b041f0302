/- The document's shifts; how many bits a number has; WideShifts, the plain law. -/
import Derived.Test.YtamclijpaplnlaaWShift
import Derived.OpenShut
set_option linter.unusedVariables false
set_option linter.unusedSimpArgs false
namespace Go.Abs
open Go.ChangeShapes Go.WideShapes

/-- one word of a shift, so far: the bits from t on -/
def ShW (p : Nat → Bool) (t w q : Nat) : Prop := ∀ k, q.testBit k = (decide (k < 64 * (w + 1) - max t (64 * w)) && p (max t (64 * w) + k))

theorem ShW.lt {p : Nat → Bool} {t w q : Nat} (h : ShW p t w q) : q < 2 ^ (64 * (w + 1) - max t (64 * w)) := by
  apply Nat.lt_pow_two_of_testBit
  intro i hi
  rw [h i, show decide (i < 64 * (w + 1) - max t (64 * w)) = false by simp; omega]; rfl
theorem ShW.lt64 {p : Nat → Bool} {t w q : Nat} (h : ShW p t w q) : q < 18446744073709551616 :=
  Nat.lt_of_lt_of_le h.lt (show 2 ^ _ ≤ 2 ^ 64 from Nat.pow_le_pow_right (by decide) (by omega))

theorem testBit_twice (q : Nat) (b : Bool) (k : Nat) : (2 * q + (if b = true then 1 else 0)).testBit k = match k with | 0 => b | k + 1 => q.testBit k := by
  cases k with
  | zero => cases b <;> simp [Nat.testBit_zero]
  | succ k =>
    rw [Nat.testBit_succ]
    congr 1
    cases b <;> simp <;> omega

theorem ShW.step {p : Nat → Bool} {t q : Nat} (h : ShW p (t + 1) (t / 64) q) : ShW p t (t / 64) (2 * q + (if p t = true then 1 else 0)) := by
  intro k
  have e1 : max (t + 1) (64 * (t / 64)) = t + 1 := by omega
  have e2 : max t (64 * (t / 64)) = t := by omega
  rw [testBit_twice, e2]
  cases k with
  | zero => rw [show decide (0 < 64 * (t / 64 + 1) - t) = true by simp; omega]; simp
  | succ k =>
    simp only []
    rw [h k, e1, show t + 1 + k = t + (k + 1) by omega]
    congr 1
    apply decide_eq_decide.2; omega

theorem ShW.keep {p : Nat → Bool} {t w q : Nat} (h : ShW p (t + 1) w q) (hw : w ≠ t / 64) : ShW p t w q := by
  intro k
  rw [h k]
  by_cases hc : w < t / 64
  · rw [show decide (k < 64 * (w + 1) - max (t + 1) (64 * w)) = false by simp; omega, show decide (k < 64 * (w + 1) - max t (64 * w)) = false by simp; omega]; rfl
  · rw [show max (t + 1) (64 * w) = max t (64 * w) by omega]

theorem bitI_if (a : Nat → Int) (i : Int) : bitI a i = ((if decide (bitI a i = 1) = true then 1 else 0 : Nat) : Int) := by
  rcases bitI_01 a i with h | h <;> simp [h]

theorem shifted_spec {a : Nat → Int} (ha : Dig B64 a 4) {up : Int} (hu : -256 ≤ up ∧ up ≤ 256) : Ret (Fw41 (a, up)) fun z => Dig B64 z 4 ∧ ∀ m, m < 256 → bt z m = decide (bitI a ((m : Int) - up) = 1) := by
  simp only [Fw41]
  refine Ret.bind (Q := fun z => Dig B64 z.2 4 ∧ ∀ m, m < 256 → bt z.2 m = decide (bitI a ((m : Int) - up) = 1)) ?_ ?_
  · refine loopO_inv (fun j s => ∃ f : Nat → Int, s = (up, 255 - (j : Int), a, (fun _ => 0), f) ∧ ∀ w, w < 4 → ∃ q : Nat, f w = (q : Int) ∧ ShW (fun m => decide (bitI a ((m : Int) - up) = 1)) (256 - j) w q) 256 ?_ ?_ ?_
    · refine ⟨_, rfl, fun w hw => ⟨0, rfl, fun k => ?_⟩⟩
      rw [show decide (k < 64 * (w + 1) - max (256 - 0) (64 * w)) = false by simp; omega]; simp
    · rintro j _ hj ⟨f, rfl, hf⟩
      simp only [stepw41_0]
      have e0 : 256 - j = (255 - j) + 1 := by omega
      obtain ⟨q, hq, hs⟩ := hf ((255 - j) / 64) (by omega)
      rw [e0] at hs
      have hs' := hs.step
      have hl := hs'.lt64
      have hb := bitI_if a (((255 - j : Nat) : Int) - up)
      rw [tdivP (by omega)]
      simp (disch := omega) only [decide_eq_true_eq, wi64, if_pos]
      have e1 : ((255 - (j : Int)) / 64).toNat = (255 - j) / 64 := by omega
      have e2 : (255 - (j : Int)) - up = ((255 - j : Nat) : Int) - up := by omega
      rw [e1, e2, rbit_spec ha (by omega), Option.bind_some, hq]
      have h01 := bitI_01 a (((255 - j : Nat) : Int) - up)
      refine ⟨_, rfl, upd f ((255 - j) / 64) ((2 * q + (if decide (bitI a (((255 - j : Nat) : Int) - up) = 1) = true then 1 else 0) : Nat) : Int), ?_, ?_⟩
      · have : 255 - (j : Int) - 1 = 255 - ((j + 1 : Nat) : Int) := by omega
        rw [this]
        have hw : IntKind.u64.wrap (IntKind.u64.wrap (2 * (q : Int)) + IntKind.u64.wrap (bitI a (((255 - j : Nat) : Int) - up))) = ((2 * q + (if decide (bitI a (((255 - j : Nat) : Int) - up) = 1) = true then 1 else 0) : Nat) : Int) := by
          obtain ⟨b, hbE⟩ : ∃ b : Nat, b = (if decide (bitI a (((255 - j : Nat) : Int) - up) = 1) = true then 1 else 0) := ⟨_, rfl⟩
          rw [← hbE] at hb hl ⊢
          rw [hb]
          rw [wu64 (n := 2 * (q : Int)) (by omega) (by omega), wu64 (n := (b : Int)) (by omega) (by omega), wu64 (by omega) (by omega)]
          omega
        rw [hw]
      · intro w hw
        rw [upd_apply]
        by_cases hc : w = (255 - j) / 64
        · rw [if_pos hc]
          subst hc
          refine ⟨_, rfl, ?_⟩
          rw [show 256 - (j + 1) = 255 - j by omega]
          exact hs'
        · rw [if_neg hc]
          obtain ⟨q', h1, h2⟩ := hf w hw
          refine ⟨q', h1, ?_⟩
          rw [e0] at h2
          rw [show 256 - (j + 1) = 255 - j by omega]
          exact h2.keep hc
    · rintro _ ⟨f, rfl, hf⟩
      refine ⟨(fun _ => 0, f), ?_, ?_, ?_⟩
      · simp only [stepw41_0]
        simp (disch := omega) only [decide_eq_true_eq, if_neg]
      · intro i hi
        obtain ⟨q, h1, h2⟩ := hf i hi
        show 0 ≤ f i ∧ f i < B64
        rw [h1]; exact ⟨nnn, nlt h2.lt64⟩
      · intro m hm
        obtain ⟨q, h1, h2⟩ := hf (m / 64) (by omega)
        unfold bt
        show (f (m / 64)).toNat.testBit _ = _
        rw [h1, Int.toNat_natCast, h2, show decide (m % 64 < 64 * (m / 64 + 1) - max (256 - 256) (64 * (m / 64))) = true by simp; omega, show max (256 - 256) (64 * (m / 64)) + m % 64 = m by omega, Bool.true_and]
  · rintro ⟨z1, z2⟩ h
    exact ⟨_, rfl, h⟩

theorem bitI_bt (a : Nat → Int) (i : Int) : decide (bitI a i = 1) = (decide (0 ≤ i ∧ i ≤ 255) && bt a i.toNat) := by
  unfold bitI
  by_cases h : 0 ≤ i ∧ i ≤ 255
  · simp only [h.1, h.2, true_and, and_self, decide_true, Bool.true_and]
    cases bt a i.toNat <;> simp
  · rw [show decide (0 ≤ i ∧ i ≤ 255) = false by simp; omega]
    have : ¬ (0 ≤ i ∧ i ≤ 255 ∧ bt a i.toNat = true) := fun hh => h ⟨hh.1, hh.2.1⟩
    simp [this]

theorem rshl_spec {a : Nat → Int} (ha : Dig B64 a 4) (n : Int) : Ret (Fw19 (a, n)) fun z => Dig B64 z 4 ∧ ∀ m, m < 256 → bt z m = (decide (clamp n ≤ m) && bt a (m - clamp n)) := by
  have key : ∀ c : Nat, c ≤ 256 → Ret (Fw41 (a, (c : Int))) fun z => Dig B64 z 4 ∧ ∀ m, m < 256 → bt z m = (decide (c ≤ m) && bt a (m - c)) := by
    intro c hc
    refine (shifted_spec ha (by omega)).mono fun z ⟨h1, h2⟩ => ⟨h1, fun m hm => ?_⟩
    rw [h2 m hm, bitI_bt, show ((m : Int) - (c : Int)).toNat = m - c by omega]
    congr 1
    apply decide_eq_decide.2; omega
  simp only [Fw19, decide_eq_true_eq]
  by_cases h0 : n < 0
  · rw [if_pos h0, show clamp n = 0 by unfold clamp; omega]
    exact (key 0 (by omega)).bind fun y hy => ⟨_, rfl, hy⟩
  rw [if_neg h0]
  by_cases h1 : n > 256
  · rw [if_pos h1, show clamp n = 256 by unfold clamp; omega]
    exact (key 256 (by omega)).bind fun y hy => ⟨_, rfl, hy⟩
  rw [if_neg h1]
  have hk := key (clamp n) (by unfold clamp; omega)
  rw [show ((clamp n : Nat) : Int) = n by unfold clamp; omega] at hk
  exact hk.bind fun y hy => ⟨_, rfl, hy⟩

theorem rshr_spec {a : Nat → Int} (ha : Dig B64 a 4) (n : Int) : Ret (Fw21 (a, n)) fun z => Dig B64 z 4 ∧ ∀ m, m < 256 → bt z m = (decide (m + clamp n < 256) && bt a (m + clamp n)) := by
  have key : ∀ c : Nat, c ≤ 256 → Ret (Fw41 (a, IntKind.i64.wrap (0 - (c : Int)))) fun z => Dig B64 z 4 ∧ ∀ m, m < 256 → bt z m = (decide (m + c < 256) && bt a (m + c)) := by
    intro c hc
    rw [wi64 (by omega) (by omega)]
    refine (shifted_spec ha (by omega)).mono fun z ⟨h1, h2⟩ => ⟨h1, fun m hm => ?_⟩
    rw [h2 m hm, bitI_bt, show ((m : Int) - (0 - (c : Int))).toNat = m + c by omega]
    congr 1
    apply decide_eq_decide.2; omega
  simp only [Fw21, decide_eq_true_eq]
  by_cases h0 : n < 0
  · rw [if_pos h0, show clamp n = 0 by unfold clamp; omega]
    exact (key 0 (by omega)).bind fun y hy => ⟨_, rfl, hy⟩
  rw [if_neg h0]
  by_cases h1 : n > 256
  · rw [if_pos h1, show clamp n = 256 by unfold clamp; omega]
    exact (key 256 (by omega)).bind fun y hy => ⟨_, rfl, hy⟩
  rw [if_neg h1]
  have hk := key (clamp n) (by unfold clamp; omega)
  rw [show ((clamp n : Nat) : Int) = n by unfold clamp; omega] at hk
  exact hk.bind fun y hy => ⟨_, rfl, hy⟩

/-! ### How many bits -/
def top (p : Nat → Bool) : Nat → Nat
  | 0 => 0
  | n + 1 => if p n = true then n + 1 else top p n

theorem top_le (p : Nat → Bool) : ∀ n, top p n ≤ n
  | 0 => Nat.le_refl _
  | n + 1 => by simp only [top]; split; exact Nat.le_refl _; exact Nat.le_succ_of_le (top_le p n)
theorem top_set (p : Nat → Bool) : ∀ n, 0 < top p n → p (top p n - 1) = true
  | 0 => fun h => by simp [top] at h
  | n + 1 => by
    simp only [top]; split
    · rename_i h; intro _; exact h
    · exact top_set p n
theorem top_above (p : Nat → Bool) : ∀ n m, top p n ≤ m → m < n → p m = false
  | 0, m => fun _ h => by omega
  | n + 1, m => by
    simp only [top]; split
    · intro h1 h2; omega
    · rename_i hf
      intro h1 h2
      by_cases e : m = n
      · subst e; simpa using hf
      · exact top_above p n m h1 (by omega)
theorem top_eq {p : Nat → Bool} {n k : Nat} (h1 : k ≤ n) (h2 : 0 < k → p (k - 1) = true) (h3 : ∀ m, k ≤ m → m < n → p m = false) : top p n = k := by
  have a1 := top_le p n
  rcases Nat.lt_trichotomy (top p n) k with h | h | h
  · have := top_above p n (k - 1) (by omega) (by omega)
    rw [h2 (by omega)] at this; cases this
  · exact h
  · have := top_set p n (by omega)
    rw [h3 _ (by omega) (by omega)] at this; cases this

theorem rbits_spec {a : Nat → Int} (ha : Dig B64 a 4) : Fw17 a = some (top (bt a) 256 : Int) := by
  simp only [Fw17]
  have hl : Ret (loopO stepw17_0 (0, 0, a)) (· = (top (bt a) 256 : Int)) := by
    refine loopO_inv (fun j s => s = ((top (bt a) j : Int), (j : Int), a)) 256 ?_ ?_ ?_
    · rfl
    · rintro j _ hj rfl
      simp only [stepw17_0]
      rw [rbit_spec ha (by omega)]
      simp (disch := omega) only [decide_eq_true_eq, wi64, if_pos, Option.bind_some]
      simp only [top]
      have hb := bitI_bt a j
      rw [show decide (0 ≤ (j : Int) ∧ (j : Int) ≤ 255) = true by simp; omega, Bool.true_and, Int.toNat_natCast] at hb
      by_cases h : bt a j = true
      · rw [if_pos h]
        rw [h] at hb
        have : (bitI a j == 1) = true := by simpa using hb
        rw [if_pos this]; exact ⟨_, rfl, by simp⟩
      · rw [if_neg h]
        rw [Bool.not_eq_true] at h
        rw [h] at hb
        have : ¬ (bitI a j == 1) = true := by simpa using hb
        rw [if_neg this]; exact ⟨_, rfl, by simp⟩
    · rintro _ rfl
      exact ⟨_, rfl, rfl⟩
  rw [hl.eq, Option.bind_some]

theorem shrD {x s : Int} (h1 : 0 ≤ s) (h2 : s ≤ 64) : shrI .u64 x s = x / 2 ^ s.toNat := by
  unfold shrI
  have hm : min s.toNat IntKind.u64.bits = s.toNat := by have : IntKind.u64.bits = 64 := rfl; omega
  rw [hm, Int.fdiv_eq_ediv_of_nonneg _ (Int.le_of_lt (Int.pow_pos (by decide)))]

def lenOk (v l : Int) : Prop := 0 ≤ l ∧ l ≤ 64 ∧ (v = 0 → l = 0) ∧ (0 < v → 0 < l ∧ 2 ^ (l - 1).toNat ≤ v ∧ v < 2 ^ l.toNat)
instance (v l : Int) : Decidable (lenOk v l) := by unfold lenOk; infer_instance

theorem len_tab8 : ∀ v : Fin 256, lenOk (v.val : Int) (strAt wstr0 (v.val : Int)) ∧ strAt wstr0 (v.val : Int) ≤ 8 := by decide +kernel
theorem len_tab {v : Int} (h1 : 0 ≤ v) (h2 : v < 256) : lenOk v (strAt wstr0 v) ∧ strAt wstr0 v ≤ 8 := by
  have := len_tab8 ⟨v.toNat, by omega⟩
  simpa [show ((v.toNat : Nat) : Int) = v by omega, Int.toNat_of_nonneg h1] using this
theorem wstr0_size : (wstr0.size : Int) = 256 := by decide +kernel

theorem len_up {x v l : Int} (s : Nat) (hv : v = x / 2 ^ s) (h : lenOk v l) (h0 : 0 < v) (hs : (s : Int) + l ≤ 64) : lenOk x (s + l) := by
  obtain ⟨h1, h2, h3, h4⟩ := h
  obtain ⟨h5, h6, h7⟩ := h4 h0
  have hp : (0 : Int) < 2 ^ s := Int.pow_pos (by decide)
  have hx : 0 < x := by
    rcases Int.lt_or_le 0 x with h | h
    · exact h
    · have : x / 2 ^ s ≤ 0 := Int.ediv_nonpos_of_nonpos_of_neg h hp |> fun h => h
      omega
  refine ⟨by omega, hs, by omega, fun _ => ⟨by omega, ?_, ?_⟩⟩
  · rw [show ((s : Int) + l - 1).toNat = (l - 1).toNat + s by omega, Int.pow_add]
    rw [hv] at h6
    exact (Int.le_ediv_iff_mul_le hp).1 h6
  · rw [show ((s : Int) + l).toNat = l.toNat + s by omega, Int.pow_add]
    rw [hv] at h7
    exact (Int.ediv_lt_iff_lt_mul hp).1 h7

theorem wu8w {x : Int} (h : 0 ≤ x) : IntKind.u8.wrap x = x % 256 := IntKind.wrap_u8' x
theorem lenOk.cast {x l l' : Int} (h : lenOk x l) (e : l = l') : lenOk x l' := e ▸ h

theorem len64_spec {x : Int} (h1 : 0 ≤ x) (h2 : x < 18446744073709551616) : Ret (Fw40 x) fun l => lenOk x l := by
  have s8 : shrI .u64 x 8 = x / 256 := shrD (by omega) (by omega)
  have s16 : shrI .u64 x 16 = x / 65536 := shrD (by omega) (by omega)
  have s32 : shrI .u64 x 32 = x / 4294967296 := shrD (by omega) (by omega)
  have s328 : shrI .u64 (x / 4294967296) 8 = x / 4294967296 / 256 := shrD (by omega) (by omega)
  have s3216 : shrI .u64 (x / 4294967296) 16 = x / 4294967296 / 65536 := shrD (by omega) (by omega)
  have s32168 : shrI .u64 (x / 4294967296 / 65536) 8 = x / 4294967296 / 65536 / 256 := shrD (by omega) (by omega)
  have s168 : shrI .u64 (x / 65536) 8 = x / 65536 / 256 := shrD (by omega) (by omega)
  have fin : ∀ (s : Nat) (v : Int), v = x / 2 ^ s → 0 ≤ v → v < 256 → (s : Int) ≤ 56 → (0 < v ∨ s = 0) → lenOk x (s + strAt wstr0 v) ∧ 0 ≤ strAt wstr0 v ∧ strAt wstr0 v ≤ 8 := by
    intro s v hv h3 h4 h5 h6
    obtain ⟨a1, a2⟩ := len_tab h3 h4
    refine ⟨?_, a1.1, a2⟩
    rcases h6 with h6 | h6
    · exact len_up s hv a1 h6 (by omega)
    · subst h6
      rw [Int.pow_zero, Int.ediv_one] at hv
      subst hv
      exact a1.cast (by simp)
  simp only [Fw40, s8, s16, s32, s328, s3216, s32168, s168, wstr0_size, decide_eq_true_eq]
  by_cases c1 : x ≥ 4294967296
  · rw [if_pos c1]
    by_cases c2 : x / 4294967296 ≥ 65536
    · rw [if_pos c2]
      by_cases c3 : x / 4294967296 / 65536 ≥ 256
      · rw [if_pos c3, wu8 (by omega) (by omega), if_pos (by omega)]
        obtain ⟨f1, f2, f3⟩ := fin 56 (x / 4294967296 / 65536 / 256) (by omega) (by omega) (by omega) (by omega) (.inl (by omega))
        refine ⟨_, rfl, f1.cast ?_⟩
        rw [wi64 (n := strAt _ _) (by omega) (by omega), wi64 (by omega) (by omega)]; rfl
      · rw [if_neg c3, wu8 (by omega) (by omega), if_pos (by omega)]
        obtain ⟨f1, f2, f3⟩ := fin 48 (x / 4294967296 / 65536) (by omega) (by omega) (by omega) (by omega) (.inl (by omega))
        refine ⟨_, rfl, f1.cast ?_⟩
        rw [wi64 (n := strAt _ _) (by omega) (by omega), wi64 (by omega) (by omega)]; rfl
    · rw [if_neg c2]
      by_cases c3 : x / 4294967296 ≥ 256
      · rw [if_pos c3, wu8 (by omega) (by omega), if_pos (by omega)]
        obtain ⟨f1, f2, f3⟩ := fin 40 (x / 4294967296 / 256) (by omega) (by omega) (by omega) (by omega) (.inl (by omega))
        refine ⟨_, rfl, f1.cast ?_⟩
        rw [wi64 (n := strAt _ _) (by omega) (by omega), wi64 (by omega) (by omega)]; rfl
      · rw [if_neg c3, wu8 (by omega) (by omega), if_pos (by omega)]
        obtain ⟨f1, f2, f3⟩ := fin 32 (x / 4294967296) (by omega) (by omega) (by omega) (by omega) (.inl (by omega))
        refine ⟨_, rfl, f1.cast ?_⟩
        rw [wi64 (n := strAt _ _) (by omega) (by omega), wi64 (by omega) (by omega)]; rfl
  · rw [if_neg c1]
    by_cases c2 : x ≥ 65536
    · rw [if_pos c2]
      by_cases c3 : x / 65536 ≥ 256
      · rw [if_pos c3, wu8 (by omega) (by omega), if_pos (by omega)]
        obtain ⟨f1, f2, f3⟩ := fin 24 (x / 65536 / 256) (by omega) (by omega) (by omega) (by omega) (.inl (by omega))
        refine ⟨_, rfl, f1.cast ?_⟩
        rw [wi64 (n := strAt _ _) (by omega) (by omega), wi64 (by omega) (by omega)]; rfl
      · rw [if_neg c3, wu8 (by omega) (by omega), if_pos (by omega)]
        obtain ⟨f1, f2, f3⟩ := fin 16 (x / 65536) (by omega) (by omega) (by omega) (by omega) (.inl (by omega))
        refine ⟨_, rfl, f1.cast ?_⟩
        rw [wi64 (n := strAt _ _) (by omega) (by omega), wi64 (by omega) (by omega)]; rfl
    · rw [if_neg c2]
      by_cases c3 : x ≥ 256
      · rw [if_pos c3, wu8 (by omega) (by omega), if_pos (by omega)]
        obtain ⟨f1, f2, f3⟩ := fin 8 (x / 256) (by omega) (by omega) (by omega) (by omega) (.inl (by omega))
        refine ⟨_, rfl, f1.cast ?_⟩
        rw [wi64 (n := strAt _ _) (by omega) (by omega), wi64 (by omega) (by omega)]; rfl
      · rw [if_neg c3, wu8 (by omega) (by omega), if_pos (by omega)]
        obtain ⟨f1, f2, f3⟩ := fin 0 x (by omega) (by omega) (by omega) (by omega) (.inr rfl)
        refine ⟨_, rfl, f1.cast ?_⟩
        rw [wi64 (n := strAt _ _) (by omega) (by omega), wi64 (by omega) (by omega)]; rfl

theorem bits_spec {a : Nat → Int} (ha : Dig B64 a 4) : Fw16 a = some (top (bt a) 256 : Int) := by
  simp only [Fw16]
  have h : Ret (loopO stepw16_0 (3, a)) fun r => match r with | .inl z => z = (top (bt a) 256 : Int) | .inr _ => top (bt a) 256 = 0 := by
    refine loopO_inv2 (fun j s => s = (3 - (j : Int), a) ∧ ∀ w, 4 - j ≤ w → w < 4 → a w = 0) 4 ⟨rfl, fun w h1 h2 => by omega⟩ ?_
    rintro j _ hj ⟨rfl, hz⟩
    by_cases h4 : j = 4
    · right
      subst h4
      refine ⟨.inr (), ?_, ?_⟩
      · simp only [stepw16_0]; simp (disch := omega) only [decide_eq_true_eq, if_neg]
      · refine top_eq (by omega) (by omega) fun m _ hm => ?_
        unfold bt; rw [hz _ (by omega) (by omega)]; simp
    have hw := ha (3 - j) (by omega)
    simp only [B64] at hw
    have e1 : (3 - (j : Int)).toNat = 3 - j := by omega
    by_cases h0 : a (3 - j) = 0
    · left
      refine ⟨_, by omega, ?_, rfl, fun w h1 h2 => ?_⟩
      · simp only [stepw16_0]
        have : ¬ (a (3 - j) != 0) = true := by simpa using h0
        simp (disch := omega) only [decide_eq_true_eq, if_pos, e1]
        rw [if_neg this, wi64 (by omega) (by omega), show 3 - (j : Int) - 1 = 3 - ((j + 1 : Nat) : Int) by omega]
      · by_cases e : w = 3 - j
        · rw [e]; exact h0
        · exact hz w (by omega) h2
    · right
      obtain ⟨l, hl, h5, h6, _, h7⟩ := len64_spec hw.1 hw.2
      obtain ⟨h8, h9, h10⟩ := h7 (by omega)
      refine ⟨.inl ((64 * (3 - j : Nat) : Int) + l), ?_, ?_⟩
      · simp only [stepw16_0]
        have : (a (3 - j) != 0) = true := by simpa using h0
        simp (disch := omega) only [decide_eq_true_eq, if_pos, e1, this, hl, Option.bind_some, wi64]
        rw [show (3 : Int) - (j : Int) = ((3 - j : Nat) : Int) by omega, if_pos trivial]
      · simp only []
        have hp : ∀ k : Nat, ((2 : Int) ^ k).toNat = 2 ^ k := toNat_pow
        have n1 : 2 ^ (l - 1).toNat ≤ (a (3 - j)).toNat := by rw [← hp]; omega
        have n2 : (a (3 - j)).toNat < 2 ^ l.toNat := by rw [← hp]; omega
        have : top (bt a) 256 = 64 * (3 - j) + l.toNat := by
          refine top_eq (by omega) (fun _ => ?_) fun m h1 h2 => ?_
          · unfold bt
            rw [show (64 * (3 - j) + l.toNat - 1) / 64 = 3 - j by omega, show (64 * (3 - j) + l.toNat - 1) % 64 = (l - 1).toNat by omega]
            rw [Nat.testBit_eq_decide_div_mod_eq]
            have : (a (3 - j)).toNat / 2 ^ (l - 1).toNat = 1 := by
              apply Nat.div_eq_of_lt_le
              · omega
              · rw [show (1 + 1) * 2 ^ (l - 1).toNat = 2 ^ l.toNat by rw [show l.toNat = (l - 1).toNat + 1 by omega, Nat.pow_succ, Nat.mul_comm]]; exact n2
            rw [this]; rfl
          · unfold bt
            by_cases e : m / 64 = 3 - j
            · rw [e]
              exact Nat.testBit_lt_two_pow (Nat.lt_of_lt_of_le n2 (Nat.pow_le_pow_right (by decide) (by omega)))
            · rw [hz _ (by omega) (by omega)]; simp
        rw [this]; omega
  obtain ⟨r, hr, hq⟩ := h
  rw [hr]
  cases r with
  | inl z => simp only [Option.bind_some]; rw [hq]
  | inr z => simp only [Option.bind_some]; rw [hq]; rfl

theorem shifts_true {a : Nat → Int} (ha : Dig B64 a 4) {n : Int} (hn : -9223372036854775808 ≤ n ∧ n < 9223372036854775808) : Fw4 (a, n) = some true := by
  obtain ⟨l1, e1, d1, b1⟩ := shl_spec ha n
  obtain ⟨l2, e2, d2, b2⟩ := rshl_spec ha n
  obtain ⟨r1, e3, d3, b3⟩ := shr_spec ha n
  obtain ⟨r2, e4, d4, b4⟩ := rshr_spec ha n
  obtain ⟨l3, e5, d5, b5⟩ := shr_spec d1 n
  have q1 : arrEq 4 l1 l2 = true := arrEq_true (bt_ext d1 d2 fun m hm => by rw [b1 m hm, b2 m hm])
  have q2 : arrEq 4 r1 r2 = true := arrEq_true (bt_ext d3 d4 fun m hm => by rw [b3 m hm, b4 m hm])
  have back : (clamp n = 0 ∨ (clamp n ≤ 255 ∧ top (bt a) 256 + clamp n ≤ 256)) → arrEq 4 l3 a = true := by
    intro h
    refine arrEq_true (bt_ext d5 ha fun m hm => ?_)
    rw [b5 m hm]
    by_cases hc : m + clamp n < 256
    · rw [b1 _ (by omega)]
      simp [hc]
    · have : bt a m = false := top_above (bt a) 256 m (by omega) hm
      rw [this]; simp [hc]
  have tl := top_le (bt a) 256
  simp only [Fw4, awake_true, Option.bind_some, bit_spec ha hn, rbit_spec ha hn, bits_spec ha, rbits_spec ha, e1, e2, e3, e4, e5, q1, q2, BEq.rfl, if_true, decide_eq_true_eq, decide_eq_false_iff_not]
  by_cases c1 : n > 0
  · rw [if_pos c1]
    by_cases c2 : n > 255
    · have : ¬ ¬ n > 255 := by omega
      rw [if_neg this]
    · rw [if_pos c2, wi64 (by omega) (by omega)]
      by_cases c3 : (top (bt a) 256 : Int) > 256 - n
      · have : ¬ ¬ (top (bt a) 256 : Int) > 256 - n := by omega
        rw [if_neg this]
      · rw [if_pos c3, back (.inr (by unfold clamp; omega))]
  · rw [if_neg c1, back (.inl (by unfold clamp; omega))]
end Go.Abs
namespace Go.Abs
open Go.ChangeShapes Go.WideShapes
theorem words_dig {f : Nat → Int} {n : Nat} (h : ∀ i, i < n → (Lit.int .u64 (f i)).wf = true) : Dig B64 f n := fun i hi => by
  have := bounds_u64 (h i hi); simp only [B64]; omega
theorem shifts_law {x0 : Nat → Int} {x1 : Int} (h0 : ∀ i, i < 4 → (Lit.int .u64 (x0 i)).wf = true) (h1 : (Lit.int .i64 x1).wf = true) : Fw4 (x0, x1) = some true :=
  shifts_true (words_dig h0) (by have := bounds_i64 h1; omega)
end Go.Abs
