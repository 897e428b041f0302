/- Read whole; all; the reference's sponge. -/
import Derived.Test.YtlloghihfigalaaKSpongeL
set_option linter.unusedVariables false
set_option linter.unusedSimpArgs false
set_option maxRecDepth 100000
namespace Go.Abs
open Go.RowKit

def finN (rt sf : Nat) (s : (Nat → Nat) × Nat) : Nat → Nat := permN (mixN (mixN s.1 s.2 sf) (rt - 1) 128)

section
variable {k rt sf : Nat} {ol : Int} (K : KK k rt sf ol)
include K
omit K in
theorem SQ_zero {r : Nat → Int} {L : Nat → Nat} (h : Q r L) : SQ rt L 0 r 0 := ⟨0, 0, by omega, by omega, rfl, h⟩

theorem read_first {l : Int} {n : Nat} (hn : n ≤ 65536) (hl : l < 0 ∨ (n : Int) ≤ l) (hl2 : l ≤ 65536) {r : Nat → Int} {L : Nat → Nat} (hQ : Q r L) {p : Nat} (hp : p < rt) :
    ∃ r' a' l', Fk13 (((k : Int), r, (p : Int), false, l), (n : Int)) = some (outs rt (finN rt sf (L, p)) 0 n, 0, ((k : Int), r', a', true, l')) ∧ SQ rt (finN rt sf (L, p)) n r' a' ∧ (l < 0 → l' = l) ∧ (0 ≤ l → l' = l - n) := by
  obtain ⟨k1, k2, k3, k4, k5⟩ := K.rt_pos
  have m1 := mix_Q hQ (p := p) (v := sf) (by omega) (by omega)
  have m2 := mix_Q m1 (p := rt - 1) (v := 128) (by omega) (by omega)
  have m3 := perm9_Q m2
  obtain ⟨z, h1, r', a', rfl, h2⟩ := read_loop K (l := l) hn (SQ_zero m3)
  rw [Nat.zero_add] at h2
  have d1 : decide ((n : Int) < 0) = false := by simp
  have d2 : decide ((n : Int) > 65536) = false := by simp; omega
  have w1 : IntKind.i64.wrap (IntKind.i64.wrap (rt : Int) - 1) = ((rt - 1 : Nat) : Int) := by rw [wi64 (n := (rt : Int)) (by omega) (by omega), wi64 (by omega) (by omega)]; omega
  have w2 : IntKind.i64.wrap (rt : Int) = (rt : Int) := wi64 (by omega) (by omega)
  have rl : ((List.replicate n (0 : Int)).length : Int) = (n : Int) := by simp
  have ok : okBytes n 1 := by unfold okBytes; omega
  have body : ∀ κ : (Int × (Int × (Nat → Int) × Int × Bool × Int) × List Int) → Option (List Int × Int × (Int × (Nat → Int) × Int × Bool × Int)), (if 0 ≤ (k : Int) ∧ (k : Int) < (kstr2.size : Int) then
      (Fk30 (((k : Int), r, (p : Int), false, l), (p : Int), (strAt kstr2 k))).bind fun c1 =>
        let x2 : Int := (IntKind.i64.wrap ((IntKind.i64.wrap (strAt kstr1 k)) - 1))
        (Fk30 ((c1.1, c1.2.1, c1.2.2.1, c1.2.2.2.1, c1.2.2.2.2), x2, 128)).bind fun c3 =>
          (Fk9 c3.2.1).bind fun y4 =>
            if 0 ≤ (n : Int) ∧ (n : Int) ≤ (n : Int) ∧ okBytes (n : Int).toNat 1 then
              (loopO stepk13_0 ((n : Int), (IntKind.i64.wrap (strAt kstr1 k)), ((List.replicate (n : Int).toNat (0 : Int)).length : Int), 0, (c3.1, y4, 0, true, c3.2.2.2.2), (List.replicate (n : Int).toNat (0 : Int)))).bind κ
            else none
    else none) = κ ((n : Int), ((k : Int), r', a', true, l), outs rt (finN rt sf (L, p)) 0 n) := by
    intro κ
    rw [if_pos (by rw [size2]; exact k5), K.suf, mix_eq _ _ _ _ _ (by omega) (by omega)]
    simp only [Option.bind_some]
    rw [K.rate, w1, show (128 : Int) = ((128 : Nat) : Int) from rfl, mix_eq _ _ _ _ _ (by omega) (by omega)]
    simp only [Option.bind_some]
    rw [Fk9_eq]
    simp only [Option.bind_some, Int.toNat_natCast]
    rw [if_pos ⟨by omega, by omega, ok⟩, w2, rl, h1]
    rfl
  simp only [Fk13, d1, d2, if_true, Bool.false_eq_true, if_false, Bool.not_false]
  by_cases hl0 : 0 ≤ l
  · have d3 : decide (l ≥ 0) = true := by simp; omega
    have d4 : decide ((n : Int) > l) = false := by simp; omega
    simp only [d3, d4, if_true, Bool.false_eq_true, if_false]
    rw [if_pos (by rw [size1]; exact k5)]
    refine ⟨r', a', l - n, ?_, h2, fun h => by omega, fun _ => rfl⟩
    refine (body _).trans ?_
    simp only [d3, if_true]
    rw [wi64 (by omega) (by omega)]
  · have d3 : decide (l ≥ 0) = false := by simp; omega
    simp only [d3, if_true, Bool.false_eq_true, if_false]
    rw [if_pos (by rw [size1]; exact k5)]
    refine ⟨r', a', l, ?_, h2, fun _ => rfl, fun h => by omega⟩
    refine (body _).trans ?_
    simp only [d3, Bool.false_eq_true, if_false]

theorem read_next {l : Int} {n : Nat} (hn : n ≤ 65536) (hl : l < 0 ∨ (n : Int) ≤ l) (hl2 : l ≤ 65536) {q : Nat} {L : Nat → Nat} {r : Nat → Int} {a : Int} (hS : SQ rt L q r a) :
    ∃ r' a' l', Fk13 (((k : Int), r, a, true, l), (n : Int)) = some (outs rt L q n, 0, ((k : Int), r', a', true, l')) ∧ SQ rt L (q + n) r' a' ∧ (l < 0 → l' = l) ∧ (0 ≤ l → l' = l - n) := by
  obtain ⟨k1, k2, k3, k4, k5⟩ := K.rt_pos
  obtain ⟨z, h1, r', a', rfl, h2⟩ := read_loop K (l := l) hn hS
  have d1 : decide ((n : Int) < 0) = false := by simp
  have d2 : decide ((n : Int) > 65536) = false := by simp; omega
  have w2 : IntKind.i64.wrap (rt : Int) = (rt : Int) := wi64 (by omega) (by omega)
  have rl : ((List.replicate n (0 : Int)).length : Int) = (n : Int) := by simp
  have ok : okBytes n 1 := by unfold okBytes; omega
  simp only [Fk13, d1, d2, if_true, Bool.false_eq_true, if_false, Bool.not_true, Int.toNat_natCast]
  by_cases hl0 : 0 ≤ l
  · have d3 : decide (l ≥ 0) = true := by simp; omega
    have d4 : decide ((n : Int) > l) = false := by simp; omega
    simp only [d3, d4, if_true, Bool.false_eq_true, if_false]
    rw [if_pos (by rw [size1]; exact k5), if_pos ⟨by omega, by omega, ok⟩, K.rate, w2, rl, h1]
    refine ⟨r', a', l - n, ?_, h2, fun h => by omega, fun _ => rfl⟩
    simp only [Option.bind_some, d3, if_true]
    rw [wi64 (by omega) (by omega)]
  · have d3 : decide (l ≥ 0) = false := by simp; omega
    simp only [d3, if_true, Bool.false_eq_true, if_false]
    rw [if_pos (by rw [size1]; exact k5), if_pos ⟨by omega, by omega, ok⟩, K.rate, w2, rl, h1]
    refine ⟨r', a', l, ?_, h2, fun _ => rfl, fun h => by omega⟩
    simp only [Option.bind_some, d3, Bool.false_eq_true, if_false]

def zeroN : Nat → Nat := fun _ => 0
omit K in
theorem zero_Q : Q (fun _ => 0) zeroN := fun j _ => ⟨rfl, by show 0 < _; decide⟩

theorem all_spec {n : Nat} (hn : n ≤ 65536) (hl : ol < 0 ∨ (n : Int) ≤ ol) {xs : List Int} (hx : Byt xs) (hlen : xs.length ≤ 140737488355328) :
    Fk31 ((k : Int), xs, (n : Int)) = some (outs rt (finN rt sf (absN rt (zeroN, 0) (nats xs))) 0 n) := by
  obtain ⟨k1, k2, k3, k4, k5⟩ := K.rt_pos
  rw [all_eq _ _ _ _ _ K.new]
  obtain ⟨r', h1, h2⟩ := write_eq K (l := ol) hx hlen zero_Q (p := 0) (by omega)
  rw [show ((0 : Nat) : Int) = 0 from rfl] at h1
  rw [h1]
  simp only [Option.bind_some]
  have hol : ol ≤ 65536 := by
    clear h1 h2
    rcases K with ⟨_, _, _, rfl⟩ | ⟨_, _, _, rfl⟩ | ⟨_, _, _, rfl⟩ | ⟨_, _, _, rfl⟩ | ⟨_, _, _, rfl⟩ <;> decide
  obtain ⟨r2, a2, l2, h3, _⟩ := read_first K hn hl hol h2 (absN_lt (xs := nats xs) (s := (zeroN, 0)) (by show 0 < rt; omega))
  rw [h3]
  rfl
end

/-! ### the reference: padding -/
def mix1 (s : (Nat → Nat) × Nat) (v : Nat) : (Nat → Nat) × Nat := (mixN s.1 s.2 v, s.2 + 1)
def mixF (s : (Nat → Nat) × Nat) (ys : List Nat) : (Nat → Nat) × Nat := ys.foldl mix1 s
theorem mixF_pos : ∀ (ys : List Nat) (s : (Nat → Nat) × Nat), (mixF s ys).2 = s.2 + ys.length := by
  intro ys
  induction ys with
  | nil => intro s; rfl
  | cons v ys ih => intro s; show (mixF (mix1 s v) ys).2 = _; rw [ih]; simp [mix1]; omega
theorem absN_mix {rt : Nat} : ∀ (ys : List Nat) (s : (Nat → Nat) × Nat), s.2 + ys.length < rt → absN rt s ys = mixF s ys := by
  intro ys
  induction ys with
  | nil => intro s _; rfl
  | cons v ys ih =>
    intro s h
    simp only [List.length_cons] at h
    show absN rt (abs1 rt s v) ys = mixF (mix1 s v) ys
    have : abs1 rt s v = mix1 s v := by unfold abs1 mix1; rw [if_neg (by omega)]
    rw [this]
    exact ih _ (by simp only [mix1]; omega)
theorem absN_append (rt : Nat) (s : (Nat → Nat) × Nat) (xs ys : List Nat) : absN rt s (xs ++ ys) = absN rt (absN rt s xs) ys := by unfold absN; rw [List.foldl_append]
theorem mixF_append (s : (Nat → Nat) × Nat) (xs ys : List Nat) : mixF s (xs ++ ys) = mixF (mixF s xs) ys := by unfold mixF; rw [List.foldl_append]
theorem absN_block {rt : Nat} (ys : List Nat) (v : Nat) (s : (Nat → Nat) × Nat) (h : s.2 + (ys.length + 1) = rt) : absN rt s (ys ++ [v]) = (permN (mixF s (ys ++ [v])).1, 0) := by
  rw [absN_append, absN_mix ys s (by omega), mixF_append]
  show abs1 rt (mixF s ys) v = (permN (mix1 (mixF s ys) v).1, 0)
  unfold abs1 mix1
  rw [if_pos (by rw [mixF_pos]; omega)]
theorem absN_pos {rt : Nat} (hrt : 0 < rt) : ∀ (ys : List Nat) (s : (Nat → Nat) × Nat), s.2 < rt → (absN rt s ys).2 = (s.2 + ys.length) % rt := by
  intro ys
  induction ys with
  | nil => intro s h; exact (Nat.mod_eq_of_lt h).symm
  | cons v ys ih =>
    intro s h
    show (absN rt (abs1 rt s v) ys).2 = _
    rw [ih _ (abs1_lt h v)]
    unfold abs1
    by_cases e : s.2 + 1 = rt
    · rw [if_pos e]
      simp only [List.length_cons]
      rw [show s.2 + (ys.length + 1) = rt + (0 + ys.length) by omega, Nat.add_mod_left]
    · rw [if_neg e]
      simp only [List.length_cons]
      congr 1; omega
theorem mixN_zero (L : Nat → Nat) (p : Nat) : mixN L p 0 = L := by funext j; unfold mixN; split <;> simp
theorem mixF_zeros : ∀ (z : Nat) (s : (Nat → Nat) × Nat), mixF s (List.replicate z 0) = (s.1, s.2 + z) := by
  intro z
  induction z with
  | zero => intro s; rfl
  | succ z ih =>
    intro s
    rw [List.replicate_succ]
    show mixF (mix1 s 0) (List.replicate z 0) = _
    rw [ih]
    simp only [mix1, mixN_zero]
    congr 1; omega
theorem mixN_two (L : Nat → Nat) (p v : Nat) (hv : v < 128) : mixN (mixN L p v) p 128 = mixN L p (v + 128) := by
  funext j
  unfold mixN
  by_cases e : j = p / 8
  · simp only [e, if_true]
    rw [Nat.xor_assoc, ← Nat.shiftLeft_xor_distrib]
    congr 2
    have : v + 128 = 128 ||| v := by
      have := Nat.two_pow_add_eq_or_of_lt (i := 7) (b := v) (by omega) 1
      rw [show 2 ^ 7 * 1 = 128 from rfl] at this
      omega
    rw [this]
    apply Nat.eq_of_testBit_eq
    intro i
    simp only [Nat.testBit_xor, Nat.testBit_or]
    by_cases hi : i = 7
    · subst hi; rw [Nat.testBit_lt_two_pow (by omega)]; rfl
    · have : Nat.testBit 128 i = false := by
        rw [show (128 : Nat) = 2 ^ 7 from rfl, Nat.testBit_two_pow]; simp; omega
      rw [this]; simp
  · simp only [e, if_false]

def padL (sf z : Nat) : List Nat := if z = 0 then [sf + 128] else sf :: (List.replicate (z - 1) 0 ++ [128])
theorem pad_fin {rt sf : Nat} (hsf : sf < 32) {s : (Nat → Nat) × Nat} (hp : s.2 < rt) : absN rt s (padL sf (rt - s.2 - 1)) = (finN rt sf s, 0) := by
  unfold padL
  by_cases h : rt - s.2 - 1 = 0
  · rw [if_pos h]
    have := absN_block (rt := rt) [] (sf + 128) s (by simp; omega)
    rw [List.nil_append] at this
    rw [this]
    unfold finN
    have e : s.2 = rt - 1 := by omega
    have : (mixF s [sf + 128]).1 = mixN (mixN s.1 s.2 sf) (rt - 1) 128 := by
      show mixN s.1 s.2 (sf + 128) = _
      rw [← e, mixN_two _ _ _ (by omega)]
    rw [this]
  · rw [if_neg h]
    rw [← List.cons_append]
    rw [absN_block (rt := rt) (sf :: List.replicate (rt - s.2 - 1 - 1) 0) 128 s (by simp; omega)]
    unfold finN
    congr 2
    rw [mixF_append]
    show (mix1 (mixF (mix1 s sf) (List.replicate _ 0)) 128).1 = _
    rw [mixF_zeros]
    simp only [mix1]
    congr 1
    omega
end Go.Abs
