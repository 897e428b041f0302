/- Small, on both sides. -/
import Derived.Test.YtmclgnhhbicelaaSUniL
set_option linter.unusedVariables false
set_option linter.unusedSimpArgs false
set_option maxRecDepth 100000
namespace Go.Abs
open Go.RowKit

abbrev Sp := Int × (Nat → Int) × Int × Bool × Int
/-! ### Reduce -/
def rdq (x : Int) : Int := if x < 0 then x + 8380417 else x
theorem mod_eq {x : Int} (h : -8380417 < x ∧ x < 8380417) : Fs23 (IntKind.i64.wrap x) = some (rdq x) := by
  rw [wi64 (by omega) (by omega)]
  have e : x.tmod 8380417 = x := by
    by_cases h0 : 0 ≤ x
    · rw [tmodP h0]; omega
    · have h1 := Int.neg_tmod (-x) 8380417
      have h2 : (-x).tmod 8380417 = -x := by rw [tmodP (by omega)]; omega
      rw [Int.neg_neg, h2] at h1
      rw [h1]; omega
  simp only [Fs23, e]
  unfold rdq
  by_cases h0 : x < 0
  · rw [if_pos (by simp [h0]), if_pos h0, wi64 (by omega) (by omega), wi32 (by omega) (by omega)]
  · rw [if_neg (by simp [h0]), if_neg h0, wi32 (by omega) (by omega)]
theorem reduce_eq {a : Nat → Int} (h : ∀ k, k < 256 → -8380417 < a k ∧ a k < 8380417) : Ret (Fs14 a) fun r => ∀ k, k < 256 → r k = rdq (a k) := by
  have : Ret (loopO steps14_0 (a, 0, a, (fun _ => 0))) fun z => ∃ r, z = (r, (fun _ => 0)) ∧ ∀ k, k < 256 → r k = rdq (a k) := by
    refine loopO_inv (fun i z => ∃ r, z = (a, ((i : Nat) : Int), r, (fun _ => 0)) ∧ ∀ k, k < 256 → k < i → r k = rdq (a k)) 256 ⟨a, rfl, fun _ _ h => by omega⟩ ?_ ?_
    · rintro i z hi ⟨r, rfl, hr⟩
      have d1 : decide (((i : Nat) : Int) < 256) = true := by simp; omega
      have w2 : IntKind.i64.wrap (((i : Nat) : Int) + 1) = ((i + 1 : Nat) : Int) := by rw [wi64 (by omega) (by omega)]; omega
      simp only [steps14_0, d1, if_true, Int.toNat_natCast, mod_eq (h i hi), Option.bind_some, w2]
      rw [if_pos (by omega), if_pos (by omega)]
      refine ⟨_, rfl, _, rfl, fun k hk hki => ?_⟩
      rw [upd_apply]
      split
      · rename_i e; rw [e]
      · exact hr k hk (by omega)
    · rintro z ⟨r, rfl, hr⟩
      have d1 : decide (((256 : Nat) : Int) < 256) = false := by decide
      simp only [steps14_0, d1, Bool.false_eq_true, if_false]
      exact ⟨_, rfl, r, rfl, fun k hk => hr k hk hk⟩
  obtain ⟨z, e, r, rfl, hr⟩ := this
  refine ⟨r, ?_, hr⟩
  simp only [Fs14, e, Option.bind_some]


theorem rmod_eq {x : Int} (h : -8380417 < x ∧ x < 8380417) : Fs16 (IntKind.i64.wrap x) = some (rdq x) := by
  have := mod_eq h
  simp only [Fs23] at this
  simp only [Fs16]
  exact this

def rdF (f : Nat → Int) : Nat → Int := fun k => rdq (f k)
theorem rdF_upd (f : Nat → Int) (k : Nat) (v : Int) : rdF (upd f k v) = upd (rdF f) k (rdq v) := by
  funext j
  unfold rdF
  rw [upd_apply, upd_apply]
  split <;> rfl
theorem rdF_zero : rdF (fun _ => 0) = fun _ => 0 := rfl

/-! ### Small -/
def add1 (n : Int) (p : Po) : Po := if n < 9 ∧ p.1 < 256 then (p.1 + 1, upd p.2 p.1 (4 - n)) else p
def smG (s : Nat → Int) (i : Nat) (p : Po) : Po := add1 (s i / 16) (add1 (s i % 16) p)
def sml (s : Nat → Int) : Nat → Po := itr (0, fun _ => 0) (smG s)
theorem add1_frz (n : Int) {p : Po} (h : 256 ≤ p.1) : add1 n p = p := if_neg (by omega)
theorem add1_le (n : Int) {p : Po} (h : p.1 ≤ 256) : (add1 n p).1 ≤ 256 := by
  unfold add1
  split
  · rename_i h2; simp only; omega
  · exact h
theorem smG_frz (s : Nat → Int) : ∀ i q, 256 ≤ q.1 → smG s i q = q := fun i q h => by
  unfold smG
  rw [add1_frz _ h, add1_frz _ h]
theorem sml_succ (s : Nat → Int) (i : Nat) : sml s (i + 1) = smG s i (sml s i) := rfl
theorem sml_zero (s : Nat → Int) : sml s 0 = (0, fun _ => 0) := rfl
theorem sml_frz {s : Nat → Int} {i j : Nat} (h : 256 ≤ (sml s i).1) (hij : i ≤ j) : sml s j = sml s i := itr_frz (smG_frz s) h hij
theorem sml_le (s : Nat → Int) : ∀ i, (sml s i).1 ≤ 256 := itr_le (by decide) fun i q h => add1_le _ (add1_le _ h)
def InR (p : Po) : Prop := ∀ k, -4 ≤ p.2 k ∧ p.2 k ≤ 4
theorem add1_in {n : Int} (hn : 0 ≤ n) {p : Po} (h : InR p) : InR (add1 n p) := by
  unfold add1
  split
  · intro k
    show -4 ≤ upd _ _ _ k ∧ upd _ _ _ k ≤ 4
    rw [upd_apply]
    split
    · omega
    · exact h k
  · exact h
theorem sml_in {s : Nat → Int} (hs : ∀ i, 0 ≤ s i) : ∀ i, InR (sml s i) := by
  intro i
  induction i with
  | zero => intro k; exact ⟨show (-4 : Int) ≤ 0 by decide, show (0 : Int) ≤ 4 by decide⟩
  | succ i ih =>
    rw [sml_succ]
    have h0 := hs i
    exact add1_in (by omega) (add1_in (by omega) ih)
attribute [irreducible] sml

theorem nib1 {b : Nat} (h : b < 256) : bitsAnd .u8 (b : Int) 15 = (b : Int) % 16 ∧ shrI .u8 (b : Int) 4 = (b : Int) / 16 := by
  constructor
  · rw [and8 (by omega) (by omega) (by decide) (by decide)]
    have : ((b : Int)).toNat &&& (15 : Int).toNat = b % 16 := by rw [Int.toNat_natCast]; exact Nat.and_two_pow_sub_one_eq_mod b 4
    rw [this]; omega
  · rw [shrN (by omega) (by decide) (by decide)]
    have : ((b : Int)).toNat >>> (4 : Int).toNat = b / 16 := by rw [Int.toNat_natCast]; exact Nat.shiftRight_eq_div_pow b 4
    rw [this]; omega

/-- one nibble, in the program -/
theorem nib_step {m : Int} {h : List Int} {s : Sp} {r2 g : Nat → Int} {p : Po} (hp : p.1 ≤ 256) {i : Nat} (hi : i < 2) (hg : 0 ≤ g i ∧ g i < 16) :
    steps6_1 ((p.1 : Int), g, (i : Int), r2, m, h, (), p.2, s) = some (.inl (((add1 (g i) p).1 : Int), g, ((i + 1 : Nat) : Int), r2, m, h, (), (add1 (g i) p).2, s)) := by
  have d1 : decide (((i : Nat) : Int) < 2) = true := decide_eq_true (by omega)
  have w2 : IntKind.i64.wrap (((i : Nat) : Int) + 1) = ((i + 1 : Nat) : Int) := by rw [wi64 (by omega) (by omega)]; omega
  simp only [steps6_1, d1, if_true, Int.toNat_natCast, w2]
  rw [if_pos (by omega)]
  unfold add1
  by_cases c1 : g i < 9
  · rw [if_pos (decide_eq_true c1)]
    by_cases c2 : p.1 < 256
    · have w3 : IntKind.i64.wrap ((p.1 : Int) + 1) = ((p.1 + 1 : Nat) : Int) := by rw [wi64 (by omega) (by omega)]; omega
      rw [if_pos (decide_eq_true (by omega)), if_pos (by omega), w3, wi32 (n := g i) (by omega) (by omega), wi32 (by omega) (by omega), if_pos ⟨c1, c2⟩]
    · rw [if_neg (by rw [decide_eq_false (by omega)]; decide), if_neg (fun h => c2 h.2)]
  · rw [if_neg (by rw [decide_eq_false c1]; decide), if_neg (fun h => c1 h.1)]

theorem nib_pair {m : Int} {h : List Int} {s : Sp} {r2 g : Nat → Int} {p : Po} (hp : p.1 ≤ 256) (h0 : 0 ≤ g 0 ∧ g 0 < 16) (h1 : 0 ≤ g 1 ∧ g 1 < 16) :
    loopO steps6_1 ((p.1 : Int), g, 0, r2, m, h, (), p.2, s) = some (((add1 (g 1) (add1 (g 0) p)).1 : Int), r2, m, h, (), (add1 (g 1) (add1 (g 0) p)).2, s) := by
  have e0 := nib_step (m := m) (h := h) (s := s) (r2 := r2) hp (i := 0) (by decide) h0
  have e1 := nib_step (m := m) (h := h) (s := s) (r2 := r2) (add1_le (g 0) hp) (i := 1) (by decide) h1
  refine (loop_inl e0).trans ((loop_inl e1).trans (loop_inr ?_))
  have d1 : decide (((1 + 1 : Nat) : Int) < 2) = false := by decide
  simp only [steps6_1, d1, Bool.false_eq_true, if_false]

theorem sml_prog {xs : List Int} (hx : Byt xs) (hl : xs.length = 66) {N : Nat} (hN : N = 2000) :
    ∃ r, Fs6 xs = some (r, (outc (sml (drw 136 31 xs) N)).2) ∧ ∀ k, k < 256 → r k = rdF (outc (sml (drw 136 31 xs) N)).1 k := by
  obtain ⟨s0, e0, D0⟩ := draw_start KD (M := 2000) hx (by omega)
  have hloop : Ret (loopO steps6_0 (0, (fun _ => 0), ((2000 : Nat) : Int), ([] : List Int), (), (fun _ => 0), s0)) fun z => (z = .inl (94, (fun _ => 0)) ∧ (sml (drw 136 31 xs) N).1 < 256) ∨ (z = .inr ((fun _ => 0), (sml (drw 136 31 xs) N).2) ∧ (sml (drw 136 31 xs) N).1 = 256) := by
    refine loopO_inv2 (fun i z => ∃ m h s, z = (((sml (drw 136 31 xs) i).1 : Int), (fun _ => 0), m, h, (), (sml (drw 136 31 xs) i).2, s) ∧ DS 5 136 31 xs 2000 i m h s) N ⟨((2000 : Nat) : Int), [], s0, by rw [sml_zero]; rfl, D0⟩ ?_
    rintro i z hi ⟨m, h, s, rfl, D⟩
    have hle := sml_le (drw 136 31 xs) i
    by_cases ht : (sml (drw 136 31 xs) i).1 < 256
    · have d1 : decide (((sml (drw 136 31 xs) i).1 : Int) < 256) = true := decide_eq_true (by omega)
      by_cases hi2 : i < N
      · left
        obtain ⟨m1, h1, s1, f1, D1⟩ := draw_one KD (by decide) (by omega) D
        obtain ⟨b, eb, lb⟩ := drwN 136 31 xs i
        obtain ⟨n1, n2⟩ := nib1 lb
        have g0 : (upd (upd (fun _ => 0) 0 ((b : Int) % 16)) 1 ((b : Int) / 16)) 0 = (b : Int) % 16 := rfl
        have g1 : (upd (upd (fun _ => 0) 0 ((b : Int) % 16)) 1 ((b : Int) / 16)) 1 = (b : Int) / 16 := rfl
        have e2 := nib_pair (m := m1) (h := h1) (s := s1) (r2 := fun _ => 0) (g := upd (upd (fun _ => 0) 0 ((b : Int) % 16)) 1 ((b : Int) / 16)) (p := sml (drw 136 31 xs) i) hle (by rw [g0]; omega) (by rw [g1]; omega)
        rw [g0, g1] at e2
        simp only [steps6_0, d1, if_true, f1, Option.bind_some, Bool.not_true, Bool.false_eq_true, if_false, eb, n1, n2]
        rw [e2]
        refine ⟨_, hi2, rfl, m1, h1, s1, ?_, D1⟩
        rw [sml_succ]
        unfold smG
        rw [eb]
      · have hi3 : i = N := by omega
        subst hi3
        right
        rw [hN] at D
        simp only [steps6_0, d1, if_true, draw_end D, Option.bind_some, Bool.not_false]
        exact ⟨_, rfl, .inl ⟨rfl, ht⟩⟩
    · right
      have hfr : sml (drw 136 31 xs) N = sml (drw 136 31 xs) i := sml_frz (by omega) hi
      have d1 : decide (((sml (drw 136 31 xs) i).1 : Int) < 256) = false := decide_eq_false (by omega)
      simp only [steps6_0, d1, Bool.false_eq_true, if_false]
      exact ⟨_, rfl, .inr ⟨by rw [hfr], by rw [hfr]; omega⟩⟩
  obtain ⟨z, e1, hz⟩ := hloop
  have c0 : (((xs.length : Nat) : Int) != 66) = false := by rw [hl]; rfl
  rw [show ((5 : Nat) : Int) = 5 from rfl] at e0
  simp only [Fs6, c0, Bool.false_eq_true, if_false, show (2000 : Int) = ((2000 : Nat) : Int) from rfl, e0, Option.bind_some, e1]
  unfold outc
  rcases hz with ⟨rfl, h⟩ | ⟨rfl, h⟩
  · rw [if_pos h]
    exact ⟨_, rfl, fun k hk => rfl⟩
  · rw [if_neg (by omega)]
    obtain ⟨r, e3, hr⟩ := reduce_eq (a := (sml (drw 136 31 xs) N).2) (fun k hk => by have := sml_in (s := drw 136 31 xs) (fun i => (drw_lt 136 31 xs i).1) N k; omega)
    simp only [Option.bind_some, e3]
    exact ⟨r, rfl, hr⟩

theorem outs1 (rt : Nat) (L : Nat → Nat) (q : Nat) : outs rt L q 1 = [(outB rt L q : Int)] := by simp [outs]

theorem sml_ref {xs : List Int} (hx : Byt xs) (hl : xs.length = 66) {N : Nat} (hN : N = 2000) : Fs9 xs = some (rdF (outc (sml (drw 136 31 xs) N)).1, (outc (sml (drw 136 31 xs) N)).2) := by
  have hloop : Ret (loopO steps9_0 (0, 0, (fun _ => 0), (fun _ => 0), (5, xs, false, 0, (fun _ => 0), 0))) fun z => z = (((sml (drw 136 31 xs) N).1 : Int), (fun _ => 0), rdF (sml (drw 136 31 xs) N).2) := by
    refine loopO_inv2 (fun i z => ∃ s, z = (((sml (drw 136 31 xs) i).1 : Int), ((i : Nat) : Int), (fun _ => 0), rdF (sml (drw 136 31 xs) i).2, s) ∧ RS9 KD xs i s) N ⟨(5, xs, false, 0, (fun _ => 0), 0), by rw [sml_zero]; rfl, .inl ⟨rfl, rfl⟩⟩ ?_
    rintro i z hi ⟨s, rfl, H⟩
    have hle := sml_le (drw 136 31 xs) i
    by_cases hi2 : i < N
    · have d0 : decide (((i : Nat) : Int) < 2000) = true := decide_eq_true (by omega)
      have w2 : IntKind.i64.wrap (((i : Nat) : Int) + 1) = ((i + 1 : Nat) : Int) := by rw [wi64 (by omega) (by omega)]; omega
      by_cases ht : (sml (drw 136 31 xs) i).1 < 256
      · left
        have d1 : decide (((sml (drw 136 31 xs) i).1 : Int) < 256) = true := decide_eq_true (by omega)
        obtain ⟨s', e, H'⟩ := ref_read KD hx (by omega) (n := 1) (by decide) (by omega) H
        rw [show ((1 : Nat) : Int) = 1 from rfl] at e
        obtain ⟨b, eb, lb⟩ := drwN 136 31 xs i
        have hout : outs 136 (finN 136 31 (absN 136 (zeroN, 0) (nats xs))) i 1 = [(b : Int)] := by
          rw [outs1, ← eb]; rfl
        rw [hout] at e
        obtain ⟨s1, s2, s3, s4, s5, s6⟩ := s
        have hsucc : sml (drw 136 31 xs) (i + 1) = add1 ((b : Int) / 16) (add1 ((b : Int) % 16) (sml (drw 136 31 xs) i)) := by
          rw [sml_succ]; unfold smG; rw [eb]
        generalize sml (drw 136 31 xs) i = p at *
        obtain ⟨t, f⟩ := p
        simp only at ht hle d1
        have t1 : (b : Int).tmod 16 = (b : Int) % 16 := tmodP (by omega)
        have t2 : IntKind.u8.wrap ((b : Int).tdiv 16) = (b : Int) / 16 := by rw [tdivP (by omega), wu8 (by omega) (by omega)]
        have w1 : IntKind.i64.wrap ((t : Int) + 1) = ((t + 1 : Nat) : Int) := by rw [wi64 (by omega) (by omega)]; omega
        have v1 : IntKind.i64.wrap ((b : Int) % 16) = (b : Int) % 16 := wi64 (by omega) (by omega)
        have v2 : IntKind.i64.wrap ((b : Int) / 16) = (b : Int) / 16 := wi64 (by omega) (by omega)
        have g0 : List.getD [(b : Int)] 0 0 = (b : Int) := rfl
        simp only [steps9_0, d0, d1, if_true, e, Option.bind_some, g0, t1, t2, w1, w2, v1, v2, Int.toNat_natCast]
        rw [if_pos (by simp)]
        by_cases c1 : (b : Int) % 16 < 9
        · have a1 : add1 ((b : Int) % 16) (t, f) = (t + 1, upd f t (4 - (b : Int) % 16)) := if_pos ⟨c1, ht⟩
          rw [if_pos (decide_eq_true c1), rmod_eq (by omega)]
          simp only [Option.bind_some]
          rw [if_pos (by omega)]
          by_cases c2 : (b : Int) / 16 < 9
          · rw [if_pos (decide_eq_true c2)]
            by_cases c3 : t + 1 < 256
            · have a2 : add1 ((b : Int) / 16) (t + 1, upd f t (4 - (b : Int) % 16)) = (t + 1 + 1, upd (upd f t (4 - (b : Int) % 16)) (t + 1) (4 - (b : Int) / 16)) := if_pos ⟨c2, c3⟩
              have w3 : IntKind.i64.wrap (((t + 1 : Nat) : Int) + 1) = ((t + 1 + 1 : Nat) : Int) := by rw [wi64 (by omega) (by omega)]; omega
              rw [if_pos (decide_eq_true (by omega)), rmod_eq (by omega)]
              simp only [Option.bind_some]
              rw [if_pos (by omega), w3]
              refine ⟨_, hi2, rfl, s', ?_, H'⟩
              rw [hsucc, a1, a2, rdF_upd, rdF_upd]
            · have a2 : add1 ((b : Int) / 16) (t + 1, upd f t (4 - (b : Int) % 16)) = (t + 1, upd f t (4 - (b : Int) % 16)) := if_neg (fun h => c3 h.2)
              rw [if_neg (by rw [decide_eq_false (by omega)]; decide)]
              refine ⟨_, hi2, rfl, s', ?_, H'⟩
              rw [hsucc, a1, a2, rdF_upd]
          · have a2 : add1 ((b : Int) / 16) (t + 1, upd f t (4 - (b : Int) % 16)) = (t + 1, upd f t (4 - (b : Int) % 16)) := if_neg (fun h => c2 h.1)
            rw [if_neg (by rw [decide_eq_false c2]; decide)]
            refine ⟨_, hi2, rfl, s', ?_, H'⟩
            rw [hsucc, a1, a2, rdF_upd]
        · have a1 : add1 ((b : Int) % 16) (t, f) = (t, f) := if_neg (fun h => c1 h.1)
          rw [if_neg (by rw [decide_eq_false c1]; decide)]
          by_cases c2 : (b : Int) / 16 < 9
          · have a2 : add1 ((b : Int) / 16) (t, f) = (t + 1, upd f t (4 - (b : Int) / 16)) := if_pos ⟨c2, ht⟩
            rw [if_pos (decide_eq_true c2), rmod_eq (by omega)]
            simp only [Option.bind_some]
            rw [if_pos (by omega)]
            refine ⟨_, hi2, rfl, s', ?_, H'⟩
            rw [hsucc, a1, a2, rdF_upd]
          · have a2 : add1 ((b : Int) / 16) (t, f) = (t, f) := if_neg (fun h => c2 h.1)
            rw [if_neg (by rw [decide_eq_false c2]; decide)]
            refine ⟨_, hi2, rfl, s', ?_, H'⟩
            rw [hsucc, a1, a2]
      · right
        have hfr : sml (drw 136 31 xs) N = sml (drw 136 31 xs) i := sml_frz (by omega) hi
        have d1 : decide (((sml (drw 136 31 xs) i).1 : Int) < 256) = false := decide_eq_false (by omega)
        simp only [steps9_0, d0, d1, if_true, Bool.false_eq_true, if_false]
        exact ⟨_, rfl, by rw [hfr]⟩
    · have hi3 : i = N := by omega
      subst hi3
      right
      have d0 : decide (((i : Nat) : Int) < 2000) = false := decide_eq_false (by omega)
      simp only [steps9_0, d0, Bool.false_eq_true, if_false]
      exact ⟨_, rfl, rfl⟩
  have e1 := Ret.eq hloop
  have c0 : (((xs.length : Nat) : Int) != 66) = false := by rw [hl]; rfl
  have hle := sml_le (drw 136 31 xs) N
  simp only [Fs9, c0, Bool.false_eq_true, if_false, e1, Option.bind_some]
  unfold outc
  by_cases h : (sml (drw 136 31 xs) N).1 < 256
  · rw [if_pos (decide_eq_true (by omega)), if_pos h]; rfl
  · rw [if_neg (by rw [decide_eq_false (by omega)]; decide), if_neg h]
end Go.Abs
