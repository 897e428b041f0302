/- The bytes that the closure of pack.drawn gives. -/
import Derived.Test.YtmclgnhhbicelaaSSponge4L
set_option linter.unusedVariables false
set_option linter.unusedSimpArgs false
set_option maxRecDepth 100000
namespace Go.Abs
open Go.RowKit

theorem KD : KK 5 136 31 (-1) := .inr (.inr (.inr (.inr ⟨rfl, rfl, rfl, rfl⟩)))
theorem KU : KK 4 168 31 (-1) := .inr (.inr (.inr (.inl ⟨rfl, rfl, rfl, rfl⟩)))
def seedL (rt sf : Nat) (xs : List Int) : Nat → Nat := finN rt sf (absN rt (zeroN, 0) (nats xs))
/-- the d-th byte that is drawn -/
def drw (rt sf : Nat) (xs : List Int) (d : Nat) : Int := (outB rt (seedL rt sf xs) d : Int)
theorem drw_lt (rt sf : Nat) (xs : List Int) (d : Nat) : 0 ≤ drw rt sf xs d ∧ drw rt sf xs d < 256 := by
  unfold drw outB
  have := Nat.mod_lt (permI (d / rt) (seedL rt sf xs) ((d % rt) / 8) >>> (8 * ((d % rt) % 8))) (show 0 < 256 by decide)
  omega

theorem outs_cons (rt : Nat) (L : Nat → Nat) (q n : Nat) : outs rt L q (n + 1) = (outB rt L q : Int) :: outs rt L (q + 1) n := by
  unfold outs
  rw [List.range_succ_eq_map, List.map_cons, List.map_map]
  congr 1
  apply List.map_congr_left
  intro i _
  simp only [Function.comp, Nat.succ_eq_add_one]
  rw [show q + (i + 1) = q + 1 + i by omega]
theorem outs_length (rt : Nat) (L : Nat → Nat) (q n : Nat) : (outs rt L q n).length = n := by simp [outs]

theorem KK.rt_pos1 {k rt sf : Nat} {ol : Int} (K : KK k rt sf ol) : 0 < rt := by have := K.rt_pos; omega
/-- the closure's boxes, when d bytes of M are drawn -/
def DS (k rt sf : Nat) (xs : List Int) (M d : Nat) (m : Int) (h : List Int) (s : Int × (Nat → Int) × Int × Bool × Int) : Prop :=
  d ≤ M ∧ m = ((M - d : Nat) : Int) ∧
  ((d = 0 ∧ h = [] ∧ ∃ r L p, s = ((k : Int), r, ((p : Nat) : Int), false, -1) ∧ Q r L ∧ p < rt ∧ absN rt (zeroN, 0) (nats xs) = (L, p)) ∨
   ∃ r a, s = ((k : Int), r, a, true, -1) ∧ SQ rt (seedL rt sf xs) (d + h.length) r a ∧ h = outs rt (seedL rt sf xs) d h.length)

section
variable {k rt sf : Nat} (K : KK k rt sf (-1))
include K
omit K in
theorem draw_end {xs : List Int} {M : Nat} {m : Int} {h : List Int} {s : Int × (Nat → Int) × Int × Bool × Int} (H : DS k rt sf xs M M m h s) : Fs21 (m, h, (), s) = some (0, false, m, h, (), s) := by
  obtain ⟨_, rfl, _⟩ := H
  simp only [Nat.sub_self, Fs21]
  rfl

theorem draw_one {xs : List Int} {M d : Nat} (hM : M ≤ 65536) (hd : d < M) {m : Int} {h : List Int} {s : Int × (Nat → Int) × Int × Bool × Int} (H : DS k rt sf xs M d m h s) :
    ∃ m' h' s', Fs21 (m, h, (), s) = some (drw rt sf xs d, true, m', h', (), s') ∧ DS k rt sf xs M (d + 1) m' h' s' := by
  obtain ⟨h1, rfl, hs⟩ := H
  have c0 : (((M - d : Nat) : Int) == 0) = false := by simp; omega
  have w1 : IntKind.i64.wrap (((M - d : Nat) : Int) - 1) = ((M - (d + 1) : Nat) : Int) := by rw [wi64 (by omega) (by omega)]; omega
  have fresh : ∀ (r' : Nat → Int) (a' : Int) (s : Int × (Nat → Int) × Int × Bool × Int), h = [] → Fs22 (s, ((168 : Nat) : Int)) = some (outs rt (seedL rt sf xs) d 168, 0, ((k : Nat) : Int), r', a', true, -1) → SQ rt (seedL rt sf xs) (d + 168) r' a' →
      ∃ m' h' s', Fs21 (((M - d : Nat) : Int), h, (), s) = some (drw rt sf xs d, true, m', h', (), s') ∧ DS k rt sf xs M (d + 1) m' h' s' := by
    rintro r' a' s rfl hr hS
    refine ⟨((M - (d + 1) : Nat) : Int), outs rt (seedL rt sf xs) (d + 1) 167, ((k : Int), r', a', true, -1), ?_, by omega, rfl, .inr ⟨r', a', rfl, ?_, ?_⟩⟩
    · obtain ⟨s1, s2, s3, s4, s5⟩ := s
      rw [show ((168 : Nat) : Int) = 168 from rfl] at hr
      simp only [Fs21, c0, Bool.false_eq_true, if_false, List.length_nil, hr, Option.bind_some, w1, outs_length]
      rw [if_pos (by decide), if_pos (by decide), if_pos (by decide), outs_cons rt (seedL rt sf xs) d 167]
      have e : ((((outB rt (seedL rt sf xs) d : Nat) : Int) :: outs rt (seedL rt sf xs) (d + 1) 167).drop 1).take (168 - 1) = outs rt (seedL rt sf xs) (d + 1) 167 := by
        rw [List.drop_one, List.tail_cons, List.take_of_length_le (by rw [outs_length]; decide)]
      rw [e]
      rfl
    · rw [outs_length, show d + 1 + 167 = d + 168 by omega]; exact hS
    · rw [outs_length]
  rcases hs with ⟨rfl, rfl, r, L, p, rfl, hQ, hp, hA⟩ | ⟨r, a, rfl, hS, hh⟩
  · obtain ⟨r', a', l', e1, e2, e3, _⟩ := read_first K (l := -1) (n := 168) (by decide) (.inl (by decide)) (by decide) hQ hp
    have e3 := e3 (by decide)
    subst e3
    have hL : finN rt sf (L, p) = seedL rt sf xs := by unfold seedL; rw [hA]
    rw [hL] at e1 e2
    exact fresh r' a' _ rfl e1 (by rw [Nat.zero_add]; exact e2)
  · cases h with
    | nil =>
      obtain ⟨r', a', l', e1, e2, e3, _⟩ := read_next K (l := -1) (n := 168) (by decide) (.inl (by decide)) (by decide) hS
      have e3 := e3 (by decide)
      subst e3
      exact fresh r' a' _ rfl e1 e2
    | cons y ys =>
      simp only [List.length_cons] at hh hS
      rw [outs_cons] at hh
      injection hh with hy hys
      refine ⟨((M - (d + 1) : Nat) : Int), ys, ((k : Int), r, a, true, -1), ?_, by omega, rfl, .inr ⟨r, a, rfl, ?_, hys⟩⟩
      · have c1 : ((((y :: ys).length : Nat) : Int) == 0) = false := by simp; omega
        simp only [Fs21, c0, c1, Bool.false_eq_true, if_false, w1]
        rw [if_pos (by simp; try omega), if_pos (by simp; try omega), hy]
        rfl
      · rw [show d + 1 + ys.length = d + (ys.length + 1) by omega]; exact hS

theorem draw_start {xs : List Int} {M : Nat} (hx : Byt xs) (hlen : xs.length ≤ 140737488355328) :
    ∃ s, Fs13 ((k : Int), xs, (M : Int)) = some ((M : Int), (), (), s) ∧ DS k rt sf xs M 0 (M : Int) [] s := by
  have e1 := K.new
  obtain ⟨r', h1, h2⟩ := write_eq K (l := -1) hx hlen zero_Q (p := 0) K.rt_pos1
  rw [show ((0 : Nat) : Int) = 0 from rfl] at h1
  refine ⟨_, ?_, by omega, by simp, .inl ⟨rfl, rfl, r', (absN rt (zeroN, 0) (nats xs)).1, (absN rt (zeroN, 0) (nats xs)).2, rfl, h2, absN_lt K.rt_pos1, rfl⟩⟩
  simp only [Fs13, e1, Option.bind_some, h1]
end
end Go.Abs
