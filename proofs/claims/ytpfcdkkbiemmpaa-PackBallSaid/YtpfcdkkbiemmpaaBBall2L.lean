/- PackBall: the second sampler, and the law. -/
import Derived.Test.YtpfcdkkbiemmpaaBBallL
set_option linter.unusedVariables false
set_option linter.unusedSimpArgs false
set_option maxRecDepth 100000
namespace Go.Abs
open Go.RowKit

def Sm (c : Nat → Int) : Prop := ∀ k, k < 256 → -4 ≤ c k ∧ c k ≤ 4

theorem small_pair {m : Int} {h : List Int} {s : Sp} {r2 f c : Nat → Int} {t : Nat} (ht : t ≤ 256) (hf : ∀ j, j < 2 → 0 ≤ f j) (hc : Sm c) :
    Ret (loopO stepb16_1 ((t : Int), f, 0, r2, m, h, (), c, s)) fun z => ∃ (t' : Nat) (c' : Nat → Int), z = ((t' : Int), r2, m, h, (), c', s) ∧ t' ≤ 256 ∧ Sm c' := by
  refine loopO_inv (fun i z => ∃ (t' : Nat) (c' : Nat → Int), z = ((t' : Int), f, ((i : Nat) : Int), r2, m, h, (), c', s) ∧ t' ≤ 256 ∧ Sm c') 2 ⟨t, c, rfl, ht, hc⟩ ?_ ?_
  · rintro i z hi ⟨t', c', rfl, ht', hc'⟩
    have d1 : decide (((i : Nat) : Int) < 2) = true := by simp; omega
    have w2 : IntKind.i64.wrap (((i : Nat) : Int) + 1) = ((i + 1 : Nat) : Int) := by rw [wi64 (by omega) (by omega)]; omega
    have h0 := hf i hi
    simp only [stepb16_1, d1, if_true, Int.toNat_natCast, w2]
    rw [if_pos (by omega)]
    by_cases c1 : f i < 9
    · have c1' : decide (f i < 9) = true := by simp [c1]
      rw [if_pos c1']
      by_cases c2 : (t' : Int) < 256
      · have c2' : decide ((t' : Int) < 256) = true := by simp; omega
        have w3 : IntKind.i64.wrap ((t' : Int) + 1) = ((t' + 1 : Nat) : Int) := by rw [wi64 (by omega) (by omega)]; omega
        rw [if_pos c2', if_pos (by omega), w3, wi32 (n := f i) (by omega) (by omega), wi32 (by omega) (by omega)]
        refine ⟨_, rfl, _, _, rfl, by omega, fun k hk => ?_⟩
        rw [upd_apply]
        split
        · omega
        · exact hc' k hk
      · have c2' : ¬ decide ((t' : Int) < 256) = true := by simp; omega
        rw [if_neg c2']
        exact ⟨_, rfl, _, _, rfl, ht', hc'⟩
    · have c1' : ¬ decide (f i < 9) = true := by simp; omega
      rw [if_neg c1']
      exact ⟨_, rfl, _, _, rfl, ht', hc'⟩
  · rintro z ⟨t', c', rfl, ht', hc'⟩
    have d1 : decide (((2 : Nat) : Int) < 2) = false := by decide
    simp only [stepb16_1, d1, Bool.false_eq_true, if_false]
    exact ⟨_, rfl, t', c', rfl, ht', hc'⟩

theorem nib_pos {b : Int} (h : 0 ≤ b ∧ b < 256) : ∀ j, j < 2 → 0 ≤ (upd (upd (fun _ => 0) 0 (bitsAnd .u8 b 15)) 1 (shrI .u8 b 4)) j := by
  intro j hj
  rw [upd_apply]
  split
  · rw [shrN h.1 (by decide) (by decide)]; exact Int.natCast_nonneg _
  · rw [upd_apply]
    split
    · rw [and8 h.1 h.2 (by decide) (by decide)]; exact Int.natCast_nonneg _
    · exact Int.le_refl _

theorem small_loop {xs : List Int} {m : Int} {h : List Int} {s : Sp} (H : DS xs 2000 0 m h s) (r2 : Nat → Int) :
    Ret (loopO stepb16_0 (0, r2, m, h, (), (fun _ => 0), s)) fun z => z = .inl (94, (fun _ => 0)) ∨ ∃ c, z = .inr (r2, c) ∧ Sm c := by
  refine loopO_inv2 (fun i z => ∃ (t : Nat) (c : Nat → Int) (m' : Int) (h' : List Int) (s' : Sp), z = ((t : Int), r2, m', h', (), c, s') ∧ DS xs 2000 i m' h' s' ∧ t ≤ 256 ∧ Sm c) 2000 ⟨0, _, m, h, s, rfl, H, by omega, fun _ _ => ⟨show (-4 : Int) ≤ 0 by decide, show (0 : Int) ≤ 4 by decide⟩⟩ ?_
  rintro i z hi ⟨t, c, m', h', s', rfl, D, ht, hc⟩
  by_cases ct : (t : Int) < 256
  · have d1 : decide ((t : Int) < 256) = true := by simp; omega
    by_cases hd : i < 2000
    · obtain ⟨m2, h2, s2, e, D2⟩ := draw_one (by decide) hd D
      have hb := drw_lt xs i
      obtain ⟨z, e2, t', c', rfl, ht', hc'⟩ := small_pair (m := m2) (h := h2) (s := s2) (r2 := r2) (t := t) ht (nib_pos hb) hc
      left
      simp only [stepb16_0, d1, if_true, e, Option.bind_some, Bool.not_true, Bool.false_eq_true, if_false]
      rw [e2]
      exact ⟨_, hd, rfl, t', c', m2, h2, s2, rfl, D2, ht', hc'⟩
    · have hi : i = 2000 := by omega
      subst hi
      right
      simp only [stepb16_0, d1, if_true, draw_end D, Option.bind_some, Bool.not_false]
      exact ⟨_, rfl, .inl rfl⟩
  · right
    have d1 : decide ((t : Int) < 256) = false := by simp; omega
    simp only [stepb16_0, d1, Bool.false_eq_true, if_false]
    exact ⟨_, rfl, .inr ⟨c, rfl, hc⟩⟩

theorem small_spec {xs : List Int} (hx : Byt xs) (hl : xs.length = 66) :
    Ret (Fb16 xs) fun z => (z.2 = 0 ∨ z.2 = 94) ∧ ∀ k, k < 256 → ∃ y, Fb17 (z.1 k) = some y ∧ -4 ≤ y ∧ y ≤ 4 := by
  obtain ⟨s0, e0, D0⟩ := draw_start (M := 2000) hx (by omega)
  obtain ⟨z, e2, hz⟩ := small_loop D0 (fun _ => 0)
  have c0 : (((xs.length : Nat) : Int) != 66) = false := by rw [hl]; rfl
  simp only [Fb16, c0, Bool.false_eq_true, if_false, show (2000 : Int) = ((2000 : Nat) : Int) from rfl, e0, Option.bind_some, e2]
  rcases hz with rfl | ⟨c, rfl, hc⟩
  · exact ⟨_, rfl, .inr rfl, fun _ _ => ⟨0, by simp [Fb17], by decide⟩⟩
  · obtain ⟨r, e3, hr⟩ := reduce_eq (a := c) (fun k hk => by have := hc k hk; omega)
    simp only [Option.bind_some, e3]
    refine ⟨_, rfl, .inl rfl, fun k hk => ?_⟩
    obtain ⟨q1, q2⟩ := hc k hk
    show ∃ y, Fb17 (r k) = some y ∧ _
    rw [hr k hk]
    unfold rdq
    by_cases h0 : c k < 0
    · refine ⟨c k, ?_, q1, q2⟩
      rw [if_pos h0]
      simp only [Fb17]
      rw [if_pos (by simp; omega), wi32 (by omega) (by omega)]
      congr 1; omega
    · refine ⟨c k, ?_, q1, q2⟩
      rw [if_neg h0]
      simp only [Fb17]
      rw [if_neg (by simp; omega)]

theorem law_loop {e : Int} {p q : Nat → Int} (hp : ∀ k, k < 256 → p k = 0 ∨ p k = 1 ∨ p k = 8380416) (hq : ∀ k, k < 256 → ∃ y, Fb17 (q k) = some y ∧ -4 ≤ y ∧ y ≤ 4) :
    loopO stepb5_0 (e, 0, 0, p, q) = some (.inr (e, ((cnt p 256 : Nat) : Int))) := by
  refine Ret.eq ?_
  refine loopO_inv (fun i z => z = (e, ((cnt p i : Nat) : Int), ((i : Nat) : Int), p, q) ∧ cnt p i ≤ i) 256 ⟨rfl, Nat.le_refl _⟩ ?_ ?_
  · rintro i z hi ⟨rfl, hle⟩
    have d1 : decide (((i : Nat) : Int) < 256) = true := by simp; omega
    have w2 : IntKind.i64.wrap (((i : Nat) : Int) + 1) = ((i + 1 : Nat) : Int) := by rw [wi64 (by omega) (by omega)]; omega
    have w1 : IntKind.i64.wrap (((cnt p i : Nat) : Int) + 1) = ((cnt p i + 1 : Nat) : Int) := by rw [wi64 (by omega) (by omega)]; omega
    obtain ⟨y, hy, y1, y2⟩ := hq i hi
    have b : (0 : Int) ≤ ((i : Nat) : Int) ∧ ((i : Nat) : Int) < 256 := by omega
    have z1 : decide (y < -4) = false := by simp; omega
    have z2 : decide (y > 4) = false := by simp; omega
    rcases hp i hi with e | e | e
    · have t : cnt p (i + 1) = cnt p i := by simp only [cnt, e]; rfl
      have n0 : (p i != 0) = false := by rw [e]; rfl
      refine ⟨(_, ((cnt p i : Nat) : Int), _, p, q), ?_, by rw [t], by omega⟩
      simp only [stepb5_0, d1, if_true, b, and_self, decide_true, Int.toNat_natCast, n0, Bool.false_eq_true, if_false, hy, Option.bind_some, z1, z2, w2]
    · have t : cnt p (i + 1) = cnt p i + 1 := by simp only [cnt, e]; rfl
      have n0 : (p i != 0) = true := by rw [e]; rfl
      have n1 : (p i != 1) = false := by rw [e]; rfl
      refine ⟨(_, ((cnt p i + 1 : Nat) : Int), _, p, q), ?_, by rw [t], by omega⟩
      simp only [stepb5_0, d1, if_true, b, and_self, decide_true, Int.toNat_natCast, n0, n1, Bool.false_eq_true, if_false, hy, Option.bind_some, z1, z2, w1, w2]
    · have t : cnt p (i + 1) = cnt p i + 1 := by simp only [cnt, e]; rfl
      have n0 : (p i != 0) = true := by rw [e]; rfl
      have n1 : (p i != 1) = true := by rw [e]; rfl
      have n2 : (p i != 8380416) = false := by rw [e]; rfl
      refine ⟨(_, ((cnt p i + 1 : Nat) : Int), _, p, q), ?_, by rw [t], by omega⟩
      simp only [stepb5_0, d1, if_true, b, and_self, decide_true, Int.toNat_natCast, n0, n1, n2, Bool.false_eq_true, if_false, hy, Option.bind_some, z1, z2, w1, w2]
  · rintro z ⟨rfl, hle⟩
    have d1 : decide (((256 : Nat) : Int) < 256) = false := by decide
    simp only [stepb5_0, d1, Bool.false_eq_true, if_false]
    exact ⟨_, rfl, rfl⟩

theorem byt_of {xs : List Int} (h : ∀ y ∈ xs, 0 ≤ y ∧ y < 256) : Byt xs := by
  intro i hi
  have := h xs[i] (List.getElem_mem hi)
  simpa [List.getD_eq_getElem?_getD, hi] using this

theorem fit {xs : List Int} (hx : ∀ y ∈ xs, 0 ≤ y ∧ y < 256) (n : Nat) : Byt (xs.take (min xs.length (List.replicate n (0 : Int)).length) ++ (List.replicate n (0 : Int)).drop (min xs.length (List.replicate n (0 : Int)).length)) ∧
    (xs.take (min xs.length (List.replicate n (0 : Int)).length) ++ (List.replicate n (0 : Int)).drop (min xs.length (List.replicate n (0 : Int)).length)).length = n := by
  have hmem : ∀ y ∈ (xs.take (min xs.length (List.replicate n (0 : Int)).length) ++ (List.replicate n (0 : Int)).drop (min xs.length (List.replicate n (0 : Int)).length)), 0 ≤ y ∧ y < 256 := by
    intro y hy
    rcases List.mem_append.1 hy with h | h
    · exact hx y (List.mem_of_mem_take h)
    · have := List.mem_of_mem_drop h
      rw [List.mem_replicate] at this
      omega
  exact ⟨byt_of hmem, by simp; omega⟩

theorem Ball_law {x0 : List Int} (h0 : ∀ y ∈ x0, (Lit.int .u8 y).wf = true) (g0 : x0.length * 1 ≤ 140737488351232) : Fb5 x0 = some true := by
  have hb : ∀ y ∈ x0, 0 ≤ y ∧ y < 256 := by
    intro y hy
    have := h0 y hy
    simp [Lit.wf, IntKind.min, IntKind.max, IntKind.signed, IntKind.bits] at this
    omega
  obtain ⟨a1, a2⟩ := fit hb 48
  obtain ⟨b1, b2⟩ := fit hb 66
  obtain ⟨⟨p, e⟩, e1, he, hp⟩ := ball_spec a1 a2
  obtain ⟨⟨q, f⟩, e2, hf, hq⟩ := small_spec b1 b2
  simp only at he hp hf hq
  have ok1 : 0 ≤ (48 : Int) ∧ (48 : Int) ≤ 48 ∧ okBytes 48 1 := ⟨by decide, by decide, by decide⟩
  have ok2 : 0 ≤ (66 : Int) ∧ (66 : Int) ≤ 66 ∧ okBytes 66 1 := ⟨by decide, by decide, by decide⟩
  have L := law_loop (e := e) hp hq
  simp only [Fb5, pawake_true, Option.bind_some]
  rw [if_pos ok1, if_pos ok2, e1]
  simp only [Option.bind_some]
  rw [e2]
  simp only [Option.bind_some, Bool.not_true, if_true]
  rcases he with ⟨rfl, hc⟩ | rfl <;> rcases hf with rfl | rfl
  · rw [if_neg (by decide), if_neg (by decide), L]
    simp only [Option.bind_some]
    rw [if_pos (by decide), hc]; rfl
  · rw [if_neg (by decide), if_pos (by decide), if_neg (by decide), L]
    simp only [Option.bind_some]
    rw [if_pos (by decide), hc]; rfl
  · rw [if_pos (by decide), if_pos (by decide), if_neg (by decide), L]
    simp only [Option.bind_some]
    rw [if_neg (by decide)]
  · rw [if_pos (by decide), if_pos (by decide), if_pos (by decide), if_neg (by decide), L]
    simp only [Option.bind_some]
    rw [if_neg (by decide)]
end Go.Abs
