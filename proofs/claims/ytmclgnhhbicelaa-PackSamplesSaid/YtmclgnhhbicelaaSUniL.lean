/- Uniform, on both sides. -/
import Derived.Test.YtmclgnhhbicelaaSDrawL
set_option linter.unusedVariables false
set_option linter.unusedSimpArgs false
set_option maxRecDepth 100000
namespace Go.Abs
open Go.RowKit

abbrev Po := Nat × (Nat → Int)
def itr (p : Po) (g : Nat → Po → Po) : Nat → Po
  | 0 => p
  | i + 1 => g i (itr p g i)
theorem itr_frz {p : Po} {g : Nat → Po → Po} (hg : ∀ i q, 256 ≤ q.1 → g i q = q) {i : Nat} (h : 256 ≤ (itr p g i).1) : ∀ {j}, i ≤ j → itr p g j = itr p g i := by
  intro j
  induction j with
  | zero => intro hij; obtain rfl : i = 0 := (by omega); rfl
  | succ j ih =>
    intro hij
    by_cases e : i = j + 1
    · rw [e]
    · have := ih (by omega)
      simp only [itr]
      rw [this]
      exact hg _ _ h
theorem itr_le {p : Po} {g : Nat → Po → Po} (h0 : p.1 ≤ 256) (hg : ∀ i q, q.1 ≤ 256 → (g i q).1 ≤ 256) : ∀ i, (itr p g i).1 ≤ 256 := by
  intro i
  induction i with
  | zero => exact h0
  | succ i ih => exact hg _ _ ih

/-- what comes of it -/
def outc (p : Po) : (Nat → Int) × Int := if p.1 < 256 then ((fun _ => 0), 94) else (p.2, 0)

/-! ### Uniform -/
def uval (s : Nat → Int) (i : Nat) : Int := s (3 * i) + 256 * s (3 * i + 1) + 65536 * (s (3 * i + 2) % 128)
def uG (s : Nat → Int) (i : Nat) (p : Po) : Po := if 256 ≤ p.1 then p else if uval s i < 8380417 then (p.1 + 1, upd p.2 p.1 (uval s i)) else p
def uni (s : Nat → Int) : Nat → Po := itr (0, fun _ => 0) (uG s)
theorem uG_frz (s : Nat → Int) : ∀ i q, 256 ≤ q.1 → uG s i q = q := fun i q h => if_pos h
theorem uni_succ (s : Nat → Int) (i : Nat) : uni s (i + 1) = uG s i (uni s i) := rfl
theorem uni_zero (s : Nat → Int) : uni s 0 = (0, fun _ => 0) := rfl
theorem uni_frz {s : Nat → Int} {i j : Nat} (h : 256 ≤ (uni s i).1) (hij : i ≤ j) : uni s j = uni s i := itr_frz (uG_frz s) h hij
theorem uni_le (s : Nat → Int) : ∀ i, (uni s i).1 ≤ 256 := itr_le (by decide) fun i q h => by
  unfold uG
  split
  · exact h
  · split
    · simp only; omega
    · exact h

attribute [irreducible] uni
theorem i32_or {x y : Nat} (hx : x < 2 ^ 31) (hy : y < 2 ^ 31) : bitsOr .i32 (x : Int) (y : Int) = ((x ||| y : Nat) : Int) := by
  have h : (BitVec.ofInt 32 (x : Int) ||| BitVec.ofInt 32 (y : Int)).toNat = x ||| y := by
    rw [BitVec.toNat_or, BitVec.ofInt_natCast, BitVec.ofInt_natCast, BitVec.toNat_ofNat, BitVec.toNat_ofNat, Nat.mod_eq_of_lt (by omega), Nat.mod_eq_of_lt (by omega)]
  have h2 : x ||| y < 2 ^ 31 := Nat.or_lt_two_pow hx hy
  show IntKind.i32.wrap ((BitVec.ofInt 32 (x : Int) ||| BitVec.ofInt 32 (y : Int)).toNat : Int) = _
  rw [h, wi32 (by omega) (by omega)]

theorem i32_shl {x n : Nat} (h : x * 2 ^ n < 2 ^ 31) (hn : n ≤ 32) : shlI .i32 (x : Int) (n : Int) = ((x * 2 ^ n : Nat) : Int) := by
  have e : min ((n : Int)).toNat (IntKind.i32.bits) = n := by
    rw [Int.toNat_natCast]; exact Nat.min_eq_left hn
  show IntKind.i32.wrap ((x : Int) * 2 ^ min ((n : Int)).toNat IntKind.i32.bits) = _
  rw [e]
  have : (x : Int) * 2 ^ n = ((x * 2 ^ n : Nat) : Int) := by push_cast; rfl
  rw [this, wi32 (by omega) (by omega)]

theorem uval_bits {a b c : Nat} (ha : a < 256) (hb : b < 256) (hc : c < 256) :
    bitsOr .i32 (bitsOr .i32 (IntKind.i32.wrap (a : Int)) (shlI .i32 (IntKind.i32.wrap (b : Int)) 8)) (shlI .i32 (IntKind.i32.wrap (bitsAnd .u8 (c : Int) 127)) 16) = ((a + 256 * b + 65536 * (c % 128) : Nat) : Int) := by
  rw [and8 (by omega) (by omega) (by decide) (by decide)]
  have e1 : ((c : Int)).toNat &&& (127 : Int).toNat = c % 128 := by
    rw [Int.toNat_natCast]; exact Nat.and_two_pow_sub_one_eq_mod c 7
  rw [e1, wi32 (by omega) (by omega), wi32 (by omega) (by omega), wi32 (by omega) (by omega)]
  have s1 : shlI .i32 (b : Int) 8 = ((b * 2 ^ 8 : Nat) : Int) := i32_shl (n := 8) (by omega) (by decide)
  have s2 : shlI .i32 ((c % 128 : Nat) : Int) 16 = ((c % 128 * 2 ^ 16 : Nat) : Int) := i32_shl (n := 16) (by omega) (by decide)
  rw [s1, s2, i32_or (by omega) (by omega)]
  have o1 : a ||| b * 2 ^ 8 = b * 2 ^ 8 + a := by
    rw [Nat.or_comm, ← Nat.shiftLeft_eq, ← Nat.shiftLeft_add_eq_or_of_lt (by omega)]
  rw [o1, i32_or (by omega) (by omega)]
  have o2 : b * 2 ^ 8 + a ||| c % 128 * 2 ^ 16 = c % 128 * 2 ^ 16 + (b * 2 ^ 8 + a) := by
    rw [Nat.or_comm, ← Nat.shiftLeft_eq (c % 128), ← Nat.shiftLeft_add_eq_or_of_lt (by omega)]
  rw [o2]
  congr 1; omega

theorem drwN (rt sf : Nat) (xs : List Int) (d : Nat) : ∃ n : Nat, drw rt sf xs d = (n : Int) ∧ n < 256 := by
  obtain ⟨h1, h2⟩ := drw_lt rt sf xs d
  exact ⟨(drw rt sf xs d).toNat, by omega, by omega⟩

theorem uni_prog {xs : List Int} (hx : Byt xs) (hl : xs.length = 34) {N : Nat} (hN : N = 2016) : Fs5 xs = some (outc (uni (drw 168 31 xs) N)) := by
  obtain ⟨s0, e0, D0⟩ := draw_start KU (M := 6048) hx (by omega)
  have hloop : Ret (loopO steps5_0 (0, (fun _ => 0), ((6048 : Nat) : Int), ([] : List Int), (), (fun _ => 0), s0)) fun z => (z = .inl (94, (fun _ => 0)) ∧ (uni (drw 168 31 xs) N).1 < 256) ∨ (z = .inr ((fun _ => 0), (uni (drw 168 31 xs) N).2) ∧ (uni (drw 168 31 xs) N).1 = 256) := by
    refine loopO_inv2 (fun i z => ∃ m h s, z = (((uni (drw 168 31 xs) i).1 : Int), (fun _ => 0), m, h, (), (uni (drw 168 31 xs) i).2, s) ∧ DS 4 168 31 xs 6048 (3 * i) m h s) N ⟨((6048 : Nat) : Int), [], s0, by rw [uni_zero]; rfl, D0⟩ ?_
    rintro i z hi ⟨m, h, s, rfl, D⟩
    have hle := uni_le (drw 168 31 xs) i
    by_cases ht : (uni (drw 168 31 xs) i).1 < 256
    · have d1 : decide (((uni (drw 168 31 xs) i).1 : Int) < 256) = true := decide_eq_true (by omega)
      by_cases hi2 : i < N
      · left
        obtain ⟨m1, h1, s1, f1, D1⟩ := draw_one KU (by decide) (by omega) D
        obtain ⟨m2, h2, s2, f2, D2⟩ := draw_one KU (by decide) (by omega) D1
        obtain ⟨m3, h3, s3, f3, D3⟩ := draw_one KU (by decide) (by omega) D2
        obtain ⟨a, ea, la⟩ := drwN 168 31 xs (3 * i)
        obtain ⟨b, eb, lb⟩ := drwN 168 31 xs (3 * i + 1)
        obtain ⟨c, ec, lc⟩ := drwN 168 31 xs (3 * i + 2)
        have hv : uval (drw 168 31 xs) i = ((a + 256 * b + 65536 * (c % 128) : Nat) : Int) := by unfold uval; rw [ea, eb, ec]; omega
        have hu : uni (drw 168 31 xs) (i + 1) = if uval (drw 168 31 xs) i < 8380417 then ((uni (drw 168 31 xs) i).1 + 1, upd (uni (drw 168 31 xs) i).2 (uni (drw 168 31 xs) i).1 (uval (drw 168 31 xs) i)) else uni (drw 168 31 xs) i := by
          rw [uni_succ]
          unfold uG
          rw [if_neg (by omega)]
        simp only [steps5_0, d1, if_true, f1, f2, f3, Option.bind_some, Bool.not_true, Bool.false_eq_true, if_false]
        rw [show 3 * i + 1 + 1 = 3 * i + 2 from rfl, ea, eb, ec, uval_bits la lb lc, ← hv]
        by_cases hq : uval (drw 168 31 xs) i < 8380417
        · have d2 : decide (uval (drw 168 31 xs) i < 8380417) = true := by simp [hq]
          rw [if_pos d2, if_pos (by omega)]
          have w1 : IntKind.i64.wrap (((uni (drw 168 31 xs) i).1 : Int) + 1) = (((uni (drw 168 31 xs) i).1 + 1 : Nat) : Int) := by rw [wi64 (by omega) (by omega)]; omega
          refine ⟨_, hi2, rfl, m3, h3, s3, ?_, by rw [show 3 * (i + 1) = 3 * i + 1 + 1 + 1 by omega]; exact D3⟩
          rw [hu, if_pos hq, w1, Int.toNat_natCast]
        · have d2 : ¬ decide (uval (drw 168 31 xs) i < 8380417) = true := by simp only [decide_eq_true_eq]; exact hq
          rw [if_neg d2]
          refine ⟨_, hi2, rfl, m3, h3, s3, ?_, by rw [show 3 * (i + 1) = 3 * i + 1 + 1 + 1 by omega]; exact D3⟩
          rw [hu, if_neg hq]
      · have hi3 : i = N := by omega
        subst hi3
        right
        rw [show 3 * i = 6048 by omega] at D
        simp only [steps5_0, d1, if_true, draw_end D, Option.bind_some, Bool.not_false]
        exact ⟨_, rfl, .inl ⟨rfl, ht⟩⟩
    · right
      have hfr : uni (drw 168 31 xs) N = uni (drw 168 31 xs) i := uni_frz (by omega) hi
      have d1 : decide (((uni (drw 168 31 xs) i).1 : Int) < 256) = false := decide_eq_false (by omega)
      simp only [steps5_0, d1, Bool.false_eq_true, if_false]
      exact ⟨_, rfl, .inr ⟨by rw [hfr], by rw [hfr]; omega⟩⟩
  obtain ⟨z, e1, hz⟩ := hloop
  have c0 : (((xs.length : Nat) : Int) != 34) = false := by rw [hl]; rfl
  rw [show ((4 : Nat) : Int) = 4 from rfl] at e0
  simp only [Fs5, c0, Bool.false_eq_true, if_false, show (6048 : Int) = ((6048 : Nat) : Int) from rfl, e0, Option.bind_some, e1]
  unfold outc
  rcases hz with ⟨rfl, h⟩ | ⟨rfl, h⟩
  · rw [if_pos h]
  · rw [if_neg (by omega)]

theorem outs3 (rt : Nat) (L : Nat → Nat) (q : Nat) : outs rt L q 3 = [(outB rt L q : Int), (outB rt L (q + 1) : Int), (outB rt L (q + 2) : Int)] := by
  simp [outs, List.range_succ]

theorem uni_ref {xs : List Int} (hx : Byt xs) (hl : xs.length = 34) {N : Nat} (hN : N = 2016) : Fs8 xs = some (outc (uni (drw 168 31 xs) N)) := by
  have hloop : Ret (loopO steps8_0 (0, 0, (fun _ => 0), (fun _ => 0), (4, xs, false, 0, (fun _ => 0), 0))) fun z => z = (((uni (drw 168 31 xs) N).1 : Int), (fun _ => 0), (uni (drw 168 31 xs) N).2) := by
    refine loopO_inv2 (fun i z => ∃ s, z = (((uni (drw 168 31 xs) i).1 : Int), ((i : Nat) : Int), (fun _ => 0), (uni (drw 168 31 xs) i).2, s) ∧ RS9 KU xs (3 * i) s) N ⟨(4, xs, false, 0, (fun _ => 0), 0), by rw [uni_zero]; rfl, .inl ⟨rfl, rfl⟩⟩ ?_
    rintro i z hi ⟨s, rfl, H⟩
    have hle := uni_le (drw 168 31 xs) i
    by_cases hi2 : i < N
    · have d0 : decide (((i : Nat) : Int) < 2016) = true := decide_eq_true (by omega)
      have w2 : IntKind.i64.wrap (((i : Nat) : Int) + 1) = ((i + 1 : Nat) : Int) := by rw [wi64 (by omega) (by omega)]; omega
      by_cases ht : (uni (drw 168 31 xs) i).1 < 256
      · left
        have d1 : decide (((uni (drw 168 31 xs) i).1 : Int) < 256) = true := decide_eq_true (by omega)
        obtain ⟨s', e, H'⟩ := ref_read KU hx (by omega) (n := 3) (by decide) (by omega) H
        rw [show ((3 : Nat) : Int) = 3 from rfl] at e
        obtain ⟨a, ea, la⟩ := drwN 168 31 xs (3 * i)
        obtain ⟨b, eb, lb⟩ := drwN 168 31 xs (3 * i + 1)
        obtain ⟨c, ec, lc⟩ := drwN 168 31 xs (3 * i + 2)
        have hout : outs 168 (finN 168 31 (absN 168 (zeroN, 0) (nats xs))) (3 * i) 3 = [(a : Int), (b : Int), (c : Int)] := by
          rw [outs3, ← ea, ← eb, ← ec]; rfl
        rw [hout] at e
        have hv : uval (drw 168 31 xs) i = ((a + 256 * b + 65536 * (c % 128) : Nat) : Int) := by unfold uval; rw [ea, eb, ec]; omega
        have hu : uni (drw 168 31 xs) (i + 1) = if uval (drw 168 31 xs) i < 8380417 then ((uni (drw 168 31 xs) i).1 + 1, upd (uni (drw 168 31 xs) i).2 (uni (drw 168 31 xs) i).1 (uval (drw 168 31 xs) i)) else uni (drw 168 31 xs) i := by
          rw [uni_succ]
          unfold uG
          rw [if_neg (by omega)]
        obtain ⟨s1, s2, s3, s4, s5, s6⟩ := s
        simp only [steps8_0, d0, d1, if_true, e, Option.bind_some]
        have g0 : List.getD [(a : Int), (b : Int), (c : Int)] 0 0 = (a : Int) := rfl
        have g1 : List.getD [(a : Int), (b : Int), (c : Int)] 1 0 = (b : Int) := rfl
        have g2 : List.getD [(a : Int), (b : Int), (c : Int)] 2 0 = (c : Int) := rfl
        have hval : IntKind.i32.wrap (IntKind.i32.wrap (IntKind.i32.wrap (a : Int) + IntKind.i32.wrap (256 * IntKind.i32.wrap (b : Int))) + IntKind.i32.wrap (65536 * IntKind.i32.wrap ((c : Int).tmod 128))) = uval (drw 168 31 xs) i := by
          rw [hv, tmodP (by omega), wi32 (n := (a : Int)) (by omega) (by omega), wi32 (n := (b : Int)) (by omega) (by omega), wi32 (n := 256 * (b : Int)) (by omega) (by omega), wi32 (n := (a : Int) + 256 * (b : Int)) (by omega) (by omega),
            wi32 (n := (c : Int) % 128) (by omega) (by omega), wi32 (n := 65536 * ((c : Int) % 128)) (by omega) (by omega), wi32 (by omega) (by omega)]
          omega
        rw [g0, g1, g2, hval, if_pos (by simp), if_pos (by simp), if_pos (by simp), w2]
        by_cases hq : uval (drw 168 31 xs) i < 8380417
        · have d2 : decide (uval (drw 168 31 xs) i < 8380417) = true := by simp [hq]
          rw [if_pos d2, if_pos (by omega)]
          have w1 : IntKind.i64.wrap (((uni (drw 168 31 xs) i).1 : Int) + 1) = (((uni (drw 168 31 xs) i).1 + 1 : Nat) : Int) := by rw [wi64 (by omega) (by omega)]; omega
          refine ⟨_, hi2, rfl, s', ?_, by rw [show 3 * (i + 1) = 3 * i + 3 by omega]; exact H'⟩
          rw [hu, if_pos hq, w1, Int.toNat_natCast]
        · have d2 : ¬ decide (uval (drw 168 31 xs) i < 8380417) = true := by simp only [decide_eq_true_eq]; exact hq
          rw [if_neg d2]
          refine ⟨_, hi2, rfl, s', ?_, by rw [show 3 * (i + 1) = 3 * i + 3 by omega]; exact H'⟩
          rw [hu, if_neg hq]
      · right
        have hfr : uni (drw 168 31 xs) N = uni (drw 168 31 xs) i := uni_frz (by omega) hi
        have d1 : decide (((uni (drw 168 31 xs) i).1 : Int) < 256) = false := decide_eq_false (by omega)
        simp only [steps8_0, d0, d1, if_true, Bool.false_eq_true, if_false]
        exact ⟨_, rfl, by rw [hfr]⟩
    · have hi3 : i = N := by omega
      subst hi3
      right
      have d0 : decide (((i : Nat) : Int) < 2016) = false := decide_eq_false (by omega)
      simp only [steps8_0, d0, Bool.false_eq_true, if_false]
      exact ⟨_, rfl, rfl⟩
  have e1 := Ret.eq hloop
  have c0 : (((xs.length : Nat) : Int) != 34) = false := by rw [hl]; rfl
  have hle := uni_le (drw 168 31 xs) 2016
  simp only [Fs8, c0, Bool.false_eq_true, if_false, e1, Option.bind_some]
  unfold outc
  by_cases h : (uni (drw 168 31 xs) N).1 < 256
  · rw [if_pos (decide_eq_true (by omega)), if_pos h]
  · rw [if_neg (by rw [decide_eq_false (by omega)]; decide), if_neg h]
end Go.Abs
