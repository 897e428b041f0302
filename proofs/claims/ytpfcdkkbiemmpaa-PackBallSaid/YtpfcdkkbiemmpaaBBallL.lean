/- PackBall: what the samplers' answers look like. -/
import Derived.Test.YtpfcdkkbiemmpaaBDrawL
import Derived.Test.YtpfcdkkbiemmpaaBLay2L
set_option linter.unusedVariables false
set_option linter.unusedSimpArgs false
set_option maxRecDepth 100000
namespace Go.Abs
open Go.RowKit

/-! ### how many are not 0 -/
def nz (x : Int) : Nat := if x = 0 then 0 else 1
def cnt (f : Nat → Int) : Nat → Nat
  | 0 => 0
  | n + 1 => cnt f n + nz (f n)
theorem cnt_out {f : Nat → Int} {k : Nat} {v : Int} : ∀ {n : Nat}, n ≤ k → cnt (upd f k v) n = cnt f n := by
  intro n
  induction n with
  | zero => intro _; rfl
  | succ n ih => intro h; simp only [cnt]; rw [ih (by omega), upd_apply, if_neg (by omega)]
theorem cnt_upd {f : Nat → Int} {k : Nat} {v : Int} : ∀ {n : Nat}, k < n → cnt (upd f k v) n + nz (f k) = cnt f n + nz v := by
  intro n
  induction n with
  | zero => intro h; omega
  | succ n ih =>
    intro h
    simp only [cnt]
    by_cases e : k = n
    · subst e
      rw [cnt_out (Nat.le_refl _), upd_apply, if_pos rfl]; omega
    · have := ih (by omega)
      rw [upd_apply, if_neg (by omega)]; omega
theorem cnt_zero : ∀ n, cnt (fun _ => 0) n = 0 := by
  intro n
  induction n with
  | zero => rfl
  | succ n ih => simp only [cnt, ih]; rfl
theorem cnt_congr {f g : Nat → Int} {n : Nat} (h : ∀ k, k < n → nz (f k) = nz (g k)) : cnt f n = cnt g n := by
  induction n with
  | zero => rfl
  | succ n ih => simp only [cnt]; rw [ih (fun k hk => h k (by omega)), h n (by omega)]

theorem and1_any (x : Int) : bitsAnd .u64 x 1 = 0 ∨ bitsAnd .u64 x 1 = 1 := by
  have h : (BitVec.ofInt 64 x &&& BitVec.ofInt 64 1).toNat = (BitVec.ofInt 64 x).toNat % 2 := by
    rw [BitVec.toNat_and, show (BitVec.ofInt 64 1).toNat = 1 from rfl, Nat.and_one_is_mod]
  show IntKind.u64.wrap ((BitVec.ofInt 64 x &&& BitVec.ofInt 64 1).toNat : Int) = 0 ∨ IntKind.u64.wrap ((BitVec.ofInt 64 x &&& BitVec.ofInt 64 1).toNat : Int) = 1
  rw [h, wu64 (by omega) (by omega)]
  omega

abbrev Sp := Int × (Nat → Int) × Int × Bool × Int

/-! ### Ball -/
theorem ball_signs {xs : List Int} {m : Int} {h : List Int} {s : Sp} (H : DS xs 1008 0 m h s) (r2 : Nat → Int) :
    Ret (loopO stepb15_0 (0, 0, r2, m, h, (), s)) fun z => ∃ t m' h' s', z = (t, r2, m', h', (), s') ∧ DS xs 1008 8 m' h' s' := by
  refine loopO_inv (fun i z => ∃ t m' h' s', z = (t, ((i : Nat) : Int), r2, m', h', (), s') ∧ DS xs 1008 i m' h' s') 8 ⟨0, m, h, s, rfl, H⟩ ?_ ?_
  · rintro i z hi ⟨t, m', h', s', rfl, D⟩
    obtain ⟨m2, h2, s2, e, D2⟩ := draw_one (by decide) (by omega) D
    have d1 : decide (((i : Nat) : Int) < 8) = true := by simp; omega
    have w1 : IntKind.i64.wrap (8 * ((i : Nat) : Int)) = ((8 * i : Nat) : Int) := by rw [wi64 (by omega) (by omega)]; omega
    have w2 : IntKind.i64.wrap (((i : Nat) : Int) + 1) = ((i + 1 : Nat) : Int) := by rw [wi64 (by omega) (by omega)]; omega
    simp only [stepb15_0, d1, if_true, e, Option.bind_some, w1, w2]
    rw [if_pos (by omega)]
    exact ⟨_, rfl, _, m2, h2, s2, rfl, D2⟩
  · rintro z ⟨t, m', h', s', rfl, D⟩
    have d1 : decide (((8 : Nat) : Int) < 8) = false := by decide
    simp only [stepb15_0, d1, Bool.false_eq_true, if_false]
    exact ⟨_, rfl, t, m', h', s', rfl, D⟩

theorem ball_pick {xs : List Int} {M d : Nat} (hM : M ≤ 65536) {m : Int} {h : List Int} {s : Sp} (t5 : Int) {t10 : Nat} (ht : t10 < 256) {t11 : Int} {t12 : Bool} (r2 r9 : Nat → Int) (H : DS xs M d m h s) (hb : t12 = true → 0 ≤ t11 ∧ t11 < 256) :
    Ret (loopO stepb15_2 (t5, (t10 : Int), t11, t12, r2, m, h, (), r9, s)) fun z => ∃ b ok m' h' s' d', z = (t5, (t10 : Int), b, ok, r2, m', h', (), r9, s') ∧ DS xs M d' m' h' s' ∧ (ok = true → 0 ≤ b ∧ b ≤ (t10 : Int)) := by
  refine loopO_inv2 (fun i z => ∃ b ok m' h' s' d', z = (t5, (t10 : Int), b, ok, r2, m', h', (), r9, s') ∧ DS xs M d' m' h' s' ∧ (ok = true → 0 ≤ b ∧ b < 256 ∧ d' = d + i)) (M - d + 1) ⟨t11, t12, m, h, s, d, rfl, H, fun e => ⟨(hb e).1, (hb e).2, rfl⟩⟩ ?_
  rintro i z hi ⟨b, ok, m', h', s', d', rfl, D, hb⟩
  cases ok with
  | false =>
    right
    simp only [stepb15_2, Bool.false_eq_true, if_false]
    exact ⟨_, rfl, b, false, m', h', s', d', rfl, D, fun e => by cases e⟩
  | true =>
    obtain ⟨b1, b2, rfl⟩ := hb rfl
    have w1 : IntKind.i64.wrap b = b := wi64 (by omega) (by omega)
    by_cases c : b > (t10 : Int)
    · left
      have c' : decide (b > (t10 : Int)) = true := by simp; omega
      have hd1 := D.1
      simp only [stepb15_2, if_true, w1, c']
      by_cases hd : d + i < M
      · obtain ⟨m2, h2, s2, e, D2⟩ := draw_one hM hd D
        have hr := drw_lt xs (d + i)
        simp only [e, Option.bind_some]
        exact ⟨_, by omega, rfl, _, true, m2, h2, s2, _, rfl, D2, fun _ => ⟨hr.1, hr.2, by omega⟩⟩
      · have hde : d + i = M := by omega
        rw [hde] at D
        simp only [draw_end D, Option.bind_some]
        exact ⟨_, by omega, rfl, _, false, m', h', s', _, rfl, D, fun e => by cases e⟩
    · right
      have c' : decide (b > (t10 : Int)) = false := by simp; omega
      simp only [stepb15_2, if_true, w1, c', Bool.false_eq_true, if_false]
      exact ⟨_, rfl, b, true, m', h', s', _, rfl, D, fun _ => ⟨b1, by omega⟩⟩

def Tri (x : Int) : Prop := x = 0 ∨ x = 1 ∨ x = -1

theorem ball_loop {xs : List Int} {m : Int} {h : List Int} {s : Sp} (H : DS xs 1008 8 m h s) (t5 : Int) (r2 : Nat → Int) :
    Ret (loopO stepb15_1 (t5, 207, r2, m, h, (), (fun _ => 0), s)) fun z => z = .inl (94, (fun _ => 0)) ∨ ∃ c, z = .inr (r2, c) ∧ cnt c 256 = 49 ∧ ∀ k, k < 256 → Tri (c k) := by
  refine loopO_inv2 (fun i z => ∃ t c m' h' s' d', z = (t, ((207 + i : Nat) : Int), r2, m', h', (), c, s') ∧ DS xs 1008 d' m' h' s' ∧ cnt c 256 = i ∧ (∀ k, k < 256 → Tri (c k)) ∧ ∀ k, 207 + i ≤ k → k < 256 → c k = 0) 49
    ⟨t5, _, m, h, s, 8, rfl, H, cnt_zero _, fun _ _ => .inl rfl, fun _ _ _ => rfl⟩ ?_
  rintro i z hi ⟨t, c, m', h', s', d', rfl, D, hc, hv, h0⟩
  by_cases hlt : i < 49
  · have d1 : decide (((207 + i : Nat) : Int) < 256) = true := by simp; omega
    have w2 : IntKind.i64.wrap (((207 + i : Nat) : Int) + 1) = ((207 + (i + 1) : Nat) : Int) := by rw [wi64 (by omega) (by omega)]; omega
    obtain ⟨b0, ok0, m1, h1, s1, d2, e1, D1, hb1⟩ : ∃ b ok m1 h1 s1 d2, Fb29 (m', h', (), s') = some (b, ok, m1, h1, (), s1) ∧ DS xs 1008 d2 m1 h1 s1 ∧ (ok = true → 0 ≤ b ∧ b < 256) := by
      by_cases hd : d' < 1008
      · obtain ⟨m2, h2, s2, e, D2⟩ := draw_one (by decide) hd D
        exact ⟨_, _, _, _, _, _, e, D2, fun _ => drw_lt _ _⟩
      · have hde : d' = 1008 := by have := D.1; omega
        subst hde
        exact ⟨_, _, _, _, _, _, draw_end D, D, fun e => by cases e⟩
    obtain ⟨z, e2, b, ok, m3, h3, s3, d3, rfl, D3, hb⟩ := ball_pick (by decide) t (t10 := 207 + i) (by omega) (t11 := b0) (t12 := ok0) r2 c D1 hb1
    simp only [stepb15_1, d1, if_true, e1, Option.bind_some, e2, w2]
    cases ok with
    | false =>
      right
      simp only [Bool.not_false, if_true]
      exact ⟨_, rfl, .inl rfl⟩
    | true =>
      left
      obtain ⟨q1, q2⟩ := hb rfl
      obtain ⟨j, rfl⟩ : ∃ j : Nat, b = (j : Int) := ⟨b.toNat, by omega⟩
      simp only [Bool.not_true, Bool.false_eq_true, if_false, Int.toNat_natCast]
      rw [if_pos (by omega), if_pos (by omega), if_pos (by omega)]
      obtain ⟨v, hvd⟩ : ∃ v, v = IntKind.i32.wrap (1 - IntKind.i32.wrap (2 * IntKind.i32.wrap (bitsAnd .u64 t 1))) := ⟨_, rfl⟩
      have hv1 : v = 1 ∨ v = -1 := by
        rw [hvd]
        rcases and1_any t with e | e <;> rw [e] <;> decide
      rw [← hvd]
      refine ⟨_, hlt, rfl, _, _, m3, h3, s3, d3, rfl, D3, ?_, ?_, ?_⟩
      · have n1 : nz v = 1 := by rcases hv1 with e | e <;> rw [e] <;> decide
        have u1 := cnt_upd (f := upd c (207 + i) (c j)) (k := j) (v := v) (n := 256) (by omega)
        have u2 := cnt_upd (f := c) (k := 207 + i) (v := c j) (n := 256) (by omega)
        have z0 : c (207 + i) = 0 := h0 _ (Nat.le_refl _) (by omega)
        have z1 : nz (c (207 + i)) = 0 := by rw [z0]; rfl
        have z2 : upd c (207 + i) (c j) j = c j := by
          rw [upd_apply]
          split
          · rfl
          · rfl
        rw [z2] at u1
        omega
      · intro k hk
        rw [upd_apply]
        split
        · exact hv1.elim (fun e => .inr (.inl e)) (fun e => .inr (.inr e))
        · rw [upd_apply]
          split
          · exact hv j (by omega)
          · exact hv k hk
      · intro k hk hk2
        rw [upd_apply, if_neg (by omega), upd_apply, if_neg (by omega)]
        exact h0 k (by omega) hk2
  · have hi : i = 49 := by omega
    subst hi
    right
    have d1 : decide (((207 + 49 : Nat) : Int) < 256) = false := by decide
    simp only [stepb15_1, d1, Bool.false_eq_true, if_false]
    exact ⟨_, rfl, .inr ⟨c, rfl, hc, hv⟩⟩

/-! ### Reduce -/
def rdq (x : Int) : Int := if x < 0 then x + 8380417 else x
theorem mod_eq {x : Int} (h : -8380417 < x ∧ x < 8380417) : Fb26 (IntKind.i64.wrap x) = some (rdq x) := by
  rw [wi64 (by omega) (by omega)]
  have e : x.tmod 8380417 = x := by
    by_cases h0 : 0 ≤ x
    · rw [tmodP h0]; omega
    · have h1 := Int.neg_tmod (-x) 8380417
      have h2 : (-x).tmod 8380417 = -x := by rw [tmodP (by omega)]; omega
      rw [Int.neg_neg, h2] at h1
      rw [h1]; omega
  simp only [Fb26, e]
  unfold rdq
  by_cases h0 : x < 0
  · rw [if_pos (by simp [h0]), if_pos h0, wi64 (by omega) (by omega), wi32 (by omega) (by omega)]
  · rw [if_neg (by simp [h0]), if_neg h0, wi32 (by omega) (by omega)]
theorem reduce_eq {a : Nat → Int} (h : ∀ k, k < 256 → -8380417 < a k ∧ a k < 8380417) : Ret (Fb24 a) fun r => ∀ k, k < 256 → r k = rdq (a k) := by
  have : Ret (loopO stepb24_0 (a, 0, a, (fun _ => 0))) fun z => ∃ r, z = (r, (fun _ => 0)) ∧ ∀ k, k < 256 → r k = rdq (a k) := by
    refine loopO_inv (fun i z => ∃ r, z = (a, ((i : Nat) : Int), r, (fun _ => 0)) ∧ ∀ k, k < 256 → k < i → r k = rdq (a k)) 256 ⟨a, rfl, fun _ _ h => by omega⟩ ?_ ?_
    · rintro i z hi ⟨r, rfl, hr⟩
      have d1 : decide (((i : Nat) : Int) < 256) = true := by simp; omega
      have w2 : IntKind.i64.wrap (((i : Nat) : Int) + 1) = ((i + 1 : Nat) : Int) := by rw [wi64 (by omega) (by omega)]; omega
      simp only [stepb24_0, d1, if_true, Int.toNat_natCast, mod_eq (h i hi), Option.bind_some, w2]
      rw [if_pos (by omega), if_pos (by omega)]
      refine ⟨_, rfl, _, rfl, fun k hk hki => ?_⟩
      rw [upd_apply]
      split
      · rename_i e; rw [e]
      · exact hr k hk (by omega)
    · rintro z ⟨r, rfl, hr⟩
      have d1 : decide (((256 : Nat) : Int) < 256) = false := by decide
      simp only [stepb24_0, d1, Bool.false_eq_true, if_false]
      exact ⟨_, rfl, r, rfl, fun k hk => hr k hk hk⟩
  obtain ⟨z, e, r, rfl, hr⟩ := this
  refine ⟨r, ?_, hr⟩
  simp only [Fb24, e, Option.bind_some]

theorem ball_spec {xs : List Int} (hx : Byt xs) (hl : xs.length = 48) :
    Ret (Fb15 xs) fun z => (z.2 = 0 ∧ cnt z.1 256 = 49 ∨ z.2 = 94) ∧ ∀ k, k < 256 → z.1 k = 0 ∨ z.1 k = 1 ∨ z.1 k = 8380416 := by
  obtain ⟨s0, e0, D0⟩ := draw_start (M := 1008) hx (by omega)
  obtain ⟨z, e1, t, m1, h1, s1, rfl, D1⟩ := ball_signs D0 (fun _ => 0)
  obtain ⟨z, e2, hz⟩ := ball_loop D1 t (fun _ => 0)
  have c0 : (((xs.length : Nat) : Int) != 48) = false := by rw [hl]; rfl
  simp only [Fb15, c0, Bool.false_eq_true, if_false, show (1008 : Int) = ((1008 : Nat) : Int) from rfl, e0, Option.bind_some, e1, e2]
  rcases hz with rfl | ⟨c, rfl, hc, hv⟩
  · exact ⟨_, rfl, .inr rfl, fun _ _ => .inl rfl⟩
  · obtain ⟨r, e3, hr⟩ := reduce_eq (a := c) (fun k hk => by rcases hv k hk with e | e | e <;> rw [e] <;> decide)
    simp only [Option.bind_some, e3]
    have hrv : ∀ k, k < 256 → (r k = 0 ∨ r k = 1 ∨ r k = 8380416) ∧ nz (r k) = nz (c k) := by
      intro k hk
      rw [hr k hk]
      rcases hv k hk with e | e | e <;> rw [e] <;> decide
    exact ⟨_, rfl, .inl ⟨rfl, by rw [cnt_congr fun k hk => (hrv k hk).2]; exact hc⟩, fun k hk => (hrv k hk).1⟩
end Go.Abs
