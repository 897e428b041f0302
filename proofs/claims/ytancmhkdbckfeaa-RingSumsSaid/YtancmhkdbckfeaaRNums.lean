/- Parting numbers; RingValues, RingParts, the plain laws. -/
import Derived.Test.YtancmhkdbckfeaaRVals
set_option linter.unusedVariables false
set_option linter.unusedSimpArgs false
namespace Go.Abs
open Go.ChangeShapes Go.WideShapes

/-! ### Parting numbers -/
def lo0 (r : Int) : Int := if r % 523776 > 261888 then r % 523776 - 523776 else r % 523776
def dH (r : Int) : Int := if r - lo0 r = 8380416 then 0 else (r - lo0 r) / 523776
def dL (r : Int) : Int := if r - lo0 r = 8380416 then lo0 r - 1 else lo0 r

theorem dec_bounds {r : Int} (h : 0 ≤ r ∧ r < 8380417) : 0 ≤ dH r ∧ dH r < 16 ∧ -261888 ≤ dL r ∧ dL r ≤ 261888 ∧ (523776 * dH r + dL r = r ∨ dH r = 0 ∧ dL r < 0 ∧ dL r + 8380417 = r) := by
  unfold dH dL lo0
  split <;> split <;> omega

theorem rest_spec {r m : Int} (h : 0 ≤ r ∧ r < 8380417) (hm : m = 523776 ∨ m = 8192) : Fr38 (r, m) = some (if r % m > m / 2 then r % m - m else r % m) := by
  simp only [Fr38]
  rcases hm with rfl | rfl
  · rw [if_pos (by decide), tmodP h.1, tdivP (by decide), wi32 (by decide) (by decide)]
    by_cases c : r % 523776 > 523776 / 2
    · rw [if_pos (by simpa using c), if_pos c, wi32 (by omega) (by omega)]
    · rw [if_neg (by simpa using c), if_neg c]
  · rw [if_pos (by decide), tmodP h.1, tdivP (by decide), wi32 (by decide) (by decide)]
    by_cases c : r % 8192 > 8192 / 2
    · rw [if_pos (by simpa using c), if_pos c, wi32 (by omega) (by omega)]
    · rw [if_neg (by simpa using c), if_neg c]

theorem dec_yes {r : Int} (h : 0 ≤ r ∧ r < 8380417) : Fr14 r = some (dH r, dL r, 0) := by
  simp only [Fr14]
  rw [if_pos (by simp; omega), if_neg (by simp; omega), rest_spec h (.inl rfl), Option.bind_some]
  have e : (if r % 523776 > 523776 / 2 then r % 523776 - 523776 else r % 523776) = lo0 r := by unfold lo0; rfl
  rw [e]
  have hb : -261888 ≤ lo0 r ∧ lo0 r ≤ 261888 ∧ 0 ≤ r - lo0 r := by unfold lo0; split <;> omega
  rw [wi32 (n := r - lo0 r) (by omega) (by omega)]
  unfold dH dL
  by_cases c : r - lo0 r = 8380416
  · rw [if_pos (by simpa using c), if_pos c, if_pos c, wi32 (by omega) (by omega)]
  · rw [if_neg (by simpa using c), if_neg c, if_neg c, tdivP hb.2.2, wi32 (by omega) (by omega)]
theorem dec_no {r : Int} (h : ¬ (0 ≤ r ∧ r < 8380417)) : Fr14 r = some (0, 0, 81) := by
  simp only [Fr14]
  by_cases c : r < 0
  · rw [if_neg (by simpa using c)]
  · rw [if_pos (by simpa using c), if_pos (by simp; omega)]

theorem rdec_spec {r : Int} (h : 0 ≤ r ∧ r < 8380417) : Fr18 r = some (dH r, dL r) := by
  simp only [Fr18]
  rw [wi32 (n := r + 261887) (by omega) (by omega), tdivP (by omega), wi32 (n := (r + 261887) / 523776) (by omega) (by omega)]
  rw [wi32 (n := 523776 * ((r + 261887) / 523776)) (by omega) (by omega), wi32 (n := r - 523776 * ((r + 261887) / 523776)) (by omega) (by omega), wi32 (by omega) (by omega)]
  unfold dH dL lo0
  by_cases c : (r + 261887) / 523776 = 16
  · rw [if_pos (by simpa using c)]
    simp only [Option.some.injEq, Prod.mk.injEq]
    split <;> split <;> omega
  · rw [if_neg (by simpa using c)]
    simp only [Option.some.injEq, Prod.mk.injEq]
    split <;> split <;> omega

def p1 (r : Int) : Int := (r + 4095) / 8192
theorem p2r_yes {r : Int} (h : 0 ≤ r ∧ r < 8380417) : Fr13 r = some (p1 r, r - 8192 * p1 r, 0) := by
  simp only [Fr13]
  rw [if_pos (by simp; omega), if_neg (by simp; omega), rest_spec h (.inr rfl), Option.bind_some]
  have e : (if r % 8192 > 8192 / 2 then r % 8192 - 8192 else r % 8192) = r - 8192 * p1 r := by unfold p1; split <;> omega
  rw [e]
  have hb : 0 ≤ p1 r ∧ p1 r ≤ 2000 := by unfold p1; omega
  rw [show r - (r - 8192 * p1 r) = 8192 * p1 r by omega, wi32 (by omega) (by omega)]
  have : shrI .i32 (8192 * p1 r) 13 = p1 r := by
    unfold shrI
    have hm : min (13 : Int).toNat IntKind.i32.bits = 13 := rfl
    rw [hm, Int.fdiv_eq_ediv_of_nonneg _ (by decide), show (2 : Int) ^ 13 = 8192 from rfl]; omega
  rw [this]
theorem p2r_no {r : Int} (h : ¬ (0 ≤ r ∧ r < 8380417)) : Fr13 r = some (0, 0, 81) := by
  simp only [Fr13]
  by_cases c : r < 0
  · rw [if_neg (by simpa using c)]
  · rw [if_pos (by simpa using c), if_pos (by simp; omega)]
theorem rp2r_spec {r : Int} (h : 0 ≤ r ∧ r < 8380417) : Fr17 r = some (p1 r, r - 8192 * p1 r) := by
  simp only [Fr17]
  rw [wi32 (n := r + 4095) (by omega) (by omega), tdivP (by omega), show (r + 4095) / 8192 = p1 r from rfl]
  have hb : 0 ≤ p1 r ∧ p1 r ≤ 2000 := by unfold p1; omega
  rw [wi32 (n := p1 r) (by omega) (by omega), wi32 (n := 8192 * p1 r) (by omega) (by omega), wi32 (by omega) (by omega)]

/-- the high part, corrected -/
def uH (h : Bool) (r : Int) : Int := if h = true then (if dL r > 0 then (dH r + 1) % 16 else (dH r + 15) % 16) else dH r
theorem use_yes {b : Bool} {r : Int} (h : 0 ≤ r ∧ r < 8380417) : Fr15 (b, r) = some (uH b r, 0) := by
  have hb := dec_bounds h
  simp only [Fr15, dec_yes h, Option.bind_some, bne_self_eq_false]
  rw [if_pos trivial]
  cases b with
  | false => rfl
  | true =>
    simp only [Bool.not_true, Bool.false_eq_true, if_false]
    unfold uH
    rw [if_pos rfl]
    by_cases c : dL r > 0
    · rw [if_pos (by simpa using c), if_pos c, wi32 (by omega) (by omega), tmodP (by omega)]
    · rw [if_neg (by simpa using c), if_neg c, wi32 (n := dH r + 16) (by omega) (by omega), wi32 (by omega) (by omega), tmodP (by omega)]
      rw [show dH r + 16 - 1 = dH r + 15 by omega]
theorem use_no {b : Bool} {r : Int} (h : ¬ (0 ≤ r ∧ r < 8380417)) : Fr15 (b, r) = some (0, 81) := by
  simp only [Fr15, dec_no h, Option.bind_some]
  rfl
theorem ruse_spec {b : Bool} {r : Int} (h : 0 ≤ r ∧ r < 8380417) : Fr19 (b, r) = some (uH b r) := by
  have hb := dec_bounds h
  simp only [Fr19, rdec_spec h, Option.bind_some]
  cases b with
  | false => rfl
  | true =>
    simp only [Bool.not_true, Bool.false_eq_true, if_false]
    unfold uH
    rw [if_pos rfl]
    by_cases c : dL r > 0
    · rw [if_pos (by simpa using c), if_pos c, wi32 (by omega) (by omega), tmodP (by omega)]
    · rw [if_neg (by simpa using c), if_neg c, wi32 (by omega) (by omega), tmodP (by omega)]

theorem make_yes {z r : Int} (hz : 0 ≤ z ∧ z < 8380417) (h : 0 ≤ r ∧ r < 8380417) : Fr16 (z, r) = some (dH r != dH ((r + z) % 8380417), 0) := by
  simp only [Fr16]
  rw [if_pos (by simp; omega), if_neg (by simp; omega), dec_yes h, Option.bind_some]
  simp only [bne_self_eq_false, Bool.false_eq_true, if_false]
  rw [wi64 (n := r) (by omega) (by omega), wi64 (n := z) (by omega) (by omega), wi64 (by omega) (by omega), rmod_spec (by omega) (by omega), Option.bind_some, dec_yes (mod_Pq _), Option.bind_some]
theorem make_noz {z r : Int} (hz : ¬ (0 ≤ z ∧ z < 8380417)) : Fr16 (z, r) = some (false, 81) := by
  simp only [Fr16]
  by_cases c : z < 0
  · rw [if_neg (by simpa using c)]
  · rw [if_pos (by simpa using c), if_pos (by simp; omega)]
theorem make_nor {z r : Int} (h : ¬ (0 ≤ r ∧ r < 8380417)) : Fr16 (z, r) = some (false, 81) := by
  by_cases hz : 0 ≤ z ∧ z < 8380417
  · simp only [Fr16]
    rw [if_pos (by simp; omega), if_neg (by simp; omega), dec_no h, Option.bind_some]
    rfl
  · exact make_noz hz

theorem rawake_true : Fr8 () = some true := by
  have hx : Pq (upd (upd (fun _ => 0) 0 0) 1 1) := by
    intro i _
    rw [upd_apply, upd_apply]
    split
    · decide
    · split <;> decide
  obtain ⟨⟨y, e⟩, h1, rfl, h2⟩ := ntt_yes hx
  have h3 : y 0 = 1753 := by
    have e1 : y 0 = fs 8 (upd (upd (fun _ => 0) 0 0) 1 1) 0 := h2 0 (by omega)
    rw [e1]
    refine mq_pq ((fs8_ev _ (by omega)).trans (.of_eq ?_)) (fs_Pq hx 8 0 (by omega)) (by omega)
    rw [ev256 _ (by omega)]
    have : ∀ n, 2 ≤ n → sm (fun i => upd (upd (fun _ => 0) 0 0) 1 1 i * xj 0 ^ i) n = 1753 := by
      intro n hn
      induction n with
      | zero => omega
      | succ n ih =>
        by_cases c : n = 1
        · subst c
          show (0 : Int) + upd (upd (fun _ => 0) 0 0) 1 1 0 * xj 0 ^ 0 + upd (upd (fun _ => 0) 0 0) 1 1 1 * xj 0 ^ 1 = 1753
          decide
        · show sm _ n + upd (upd (fun _ => 0) 0 0) 1 1 n * xj 0 ^ n = _
          rw [ih (by omega), upd_ne _ _ c, upd_ne _ _ (by omega)]; simp
    exact this 256 (by omega)
  have h4 : Fr14 261889 = some (1, -261887, 0) := by
    rw [dec_yes (by omega)]
    rfl
  simp only [Fr8, h1, h4, Option.bind_some, h3]
  rfl

theorem values_true {p : Nat → Int} : Fr3 p = some true := by
  have z : arrEq 256 (fun _ => 0) (fun _ => 0) = true := arrEq_true fun _ _ => rfl
  by_cases hp : Pq p
  · obtain ⟨⟨v, e⟩, h1, rfl, h2⟩ := ntt_yes hp
    obtain ⟨⟨b, f⟩, h3, rfl, h4⟩ := back_yes hp
    obtain ⟨r, h5, h6⟩ := rntt_spec hp
    have hb : ∀ j, j < 256 → b j = bk p j := h4
    have hbq : Pq b := fun j hj => by rw [hb j hj]; exact bk_Pq p j hj
    obtain ⟨s, h7, h8⟩ := rntt_spec hbq
    have q1 : arrEq 256 v r = true := arrEq_true fun j hj => by have := h2 j hj; rw [h6 j hj]; exact this
    have q2 : arrEq 256 s p = true := arrEq_true fun j hj => by
      rw [h8 j hj, fs_congr hb (Nat.le_refl 8) j hj, fs_bk hp hj]
    simp only [Fr3, rawake_true, h1, h3, h5, h7, rplain_yes hp, Option.bind_some, q1, q2, BEq.rfl, if_true, Bool.not_true, Bool.false_eq_true, if_false]
  · simp only [Fr3, rawake_true, ntt_no hp, back_no hp, rplain_no hp, Option.bind_some, z, BEq.rfl, if_true, Bool.not_false]

theorem values_law {x0 : Nat → Int} (h0 : ∀ i, i < 256 → (Lit.int .i32 (x0 i)).wf = true) : Fr3 x0 = some true := values_true

theorem parts_true {r z : Int} {h : Bool} (hr : -2147483648 ≤ r ∧ r < 2147483648) (hz : -2147483648 ≤ z ∧ z < 2147483648) : Fr4 (r, z, h) = some true := by
  by_cases c : 0 ≤ r ∧ r < 8380417
  · have c1 : decide (r ≥ 0) = true := decide_eq_true c.1
    have c2 : decide (r < 8380417) = true := decide_eq_true c.2
    by_cases cz : 0 ≤ z ∧ z < 8380417
    · have d1 : decide (z < 0) = false := decide_eq_false (by omega)
      have d2 : decide (z ≥ 8380417) = false := decide_eq_false (by omega)
      have e : IntKind.i64.wrap (IntKind.i64.wrap r + IntKind.i64.wrap z) = r + z := by rw [wi64 (n := r) (by omega) (by omega), wi64 (n := z) (by omega) (by omega), wi64 (by omega) (by omega)]
      have hb : ((dH r != dH ((r + z) % 8380417)) == (dH ((r + z) % 8380417) != dH r)) = true := by
        rw [beq_iff_eq, bne_comm]
      simp only [Fr4, rawake_true, p2r_yes c, dec_yes c, use_yes c, make_yes cz c, rp2r_spec c, rdec_spec c, ruse_spec c, Option.bind_some, c1, c2, d1, d2, e, rmod2_spec (x := r + z) (by omega) (by omega), rdec_spec (mod_Pq _), bne_self_eq_false, BEq.rfl, if_true, Bool.not_true, Bool.false_eq_true, if_false, hb]
    · have hd : ∀ {A B : Option Bool}, (if decide (z < 0) = false then (if decide (z ≥ 8380417) = true then some true else A) else some true) = some true := by
        intro A B
        by_cases c5 : z < 0
        · rw [if_neg (by simpa using c5)]
        · rw [if_pos (by simpa using c5), if_pos (by simp; omega)]
      simp only [Fr4, rawake_true, p2r_yes c, dec_yes c, use_yes c, make_noz cz, rp2r_spec c, rdec_spec c, ruse_spec c, Option.bind_some, c1, c2, bne_self_eq_false, BEq.rfl, if_true, Bool.not_true, Bool.false_eq_true, if_false, Bool.not_false]
      exact hd (B := none)
  · by_cases c1 : r ≥ 0
    · have c2 : decide (r < 8380417) = false := decide_eq_false (by omega)
      have c3 : decide (r ≥ 0) = true := decide_eq_true c1
      simp only [Fr4, rawake_true, p2r_no c, dec_no c, use_no c, make_nor c, Option.bind_some, c2, c3, BEq.rfl, if_true, Bool.not_false]
    · have c3 : decide (r ≥ 0) = false := decide_eq_false c1
      simp only [Fr4, rawake_true, p2r_no c, dec_no c, use_no c, make_nor c, Option.bind_some, c3, BEq.rfl, if_true, Bool.not_false, Bool.false_eq_true, if_false]

theorem parts_law {x0 x1 : Int} {x2 : Bool} (h0 : (Lit.int .i32 x0).wf = true) (h1 : (Lit.int .i32 x1).wf = true) : Fr4 (x0, x1, x2) = some true :=
  parts_true (by have := bounds_i32 h0; omega) (by have := bounds_i32 h1; omega)
end Go.Abs
