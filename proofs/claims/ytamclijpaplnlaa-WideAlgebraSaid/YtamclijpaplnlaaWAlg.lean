/- WideAlgebra, the plain law. -/
import Derived.Test.YtamclijpaplnlaaWDiv
set_option linter.unusedVariables false
set_option linter.unusedSimpArgs false
namespace Go.Abs
open Go.ChangeShapes Go.WideShapes

theorem halves_spec {p : Nat → Int} (hp : Dig B64 p 8) : Ret (Fw31 p) fun y => Dig B64 y.1 4 ∧ Dig B64 y.2 4 ∧ val B64 y.1 4 = val B64 p 8 % W256 ∧ val B64 y.2 4 = val B64 p 8 / W256 := by
  simp only [Fw31]
  have lo : ∀ i, i < 4 → upd (upd (upd (upd (fun _ => 0) 0 (p 0)) 1 (p 1)) 2 (p 2)) 3 (p 3) i = p i := by
    intro i hi
    match i, hi with
    | 0, _ => rfl
    | 1, _ => rfl
    | 2, _ => rfl
    | 3, _ => rfl
  have hi' : ∀ i, i < 4 → upd (upd (upd (upd (fun _ => 0) 0 (p 4)) 1 (p 5)) 2 (p 6)) 3 (p 7) i = p (4 + i) := by
    intro i hi
    match i, hi with
    | 0, _ => rfl
    | 1, _ => rfl
    | 2, _ => rfl
    | 3, _ => rfl
  have e := val_append (B := B64) p 4 4
  rw [show 4 + 4 = 8 from rfl, B64_4] at e
  have d1 : Dig B64 p 4 := fun i h => hp i (by omega)
  have d2 : Dig B64 (fun i => p (4 + i)) 4 := fun i h => hp (4 + i) (by omega)
  have b1 := val4_bound d1
  have b2 := val4_bound d2
  refine ⟨_, rfl, fun i h => by simp only [lo i h]; exact d1 i h, fun i h => by simp only [hi' i h]; exact d2 i h, ?_, ?_⟩
  · show val B64 _ 4 = _
    rw [val_congr lo, e]
    simp only [W256] at *; omega
  · show val B64 _ 4 = _
    rw [val_congr hi', e]
    simp only [W256] at *; omega

theorem algebra_true {a b c : Nat → Int} (ha : Dig B64 a 4) (hb : Dig B64 b 4) (hc : Dig B64 c 4) : Fw7 (a, b, c) = some true := by
  have ba := val4_bound ha
  have bb := val4_bound hb
  have bc := val4_bound hc
  obtain ⟨⟨x, k⟩, e1, dx, vx, ck⟩ := add_val ha hb
  obtain ⟨⟨y, l⟩, e2, dy, vy, cl⟩ := add_val hb ha
  simp only at dx vx ck dy vy cl
  obtain ⟨⟨z, m⟩, e3, dz, vz, cm⟩ := sub_val dx hb
  simp only at dz vz cm
  obtain ⟨p, e4, dp, vp⟩ := mul_spec ha hb
  obtain ⟨p', e5, dp', vp'⟩ := mul_spec hb ha
  obtain ⟨⟨s, sk⟩, e6, ds, vs, _⟩ := add_val hb hc
  simp only at ds vs
  obtain ⟨t, e7, dt, vt⟩ := mul_spec ha ds
  obtain ⟨⟨low, lowh⟩, e8, dlow, _, vlow, _⟩ := halves_spec dt
  obtain ⟨⟨pl, ph⟩, e9, dpl, dph, vpl, vph⟩ := halves_spec dp
  obtain ⟨q0, e10, dq0, vq0⟩ := mul_spec ha hc
  obtain ⟨⟨v, vh⟩, e11, dv, _, vv, _⟩ := halves_spec dq0
  simp only at dlow vlow dpl dph vpl vph dv vv
  obtain ⟨⟨w, wk⟩, e12, dw, vw, _⟩ := add_val dpl dv
  simp only at dw vw
  have q1 : arrEq 4 x y = true := val_eq_words dx dy (by rw [vx, vy, Int.add_comm])
  have q2 : k = l := by rw [ck, cl, Int.add_comm]
  have q3 : arrEq 4 z a = true := val_eq_words dz ha (by rw [vz, vx]; simp only [W256] at *; omega)
  have q4 : m = k := by rw [cm, ck, vx]; simp only [W256] at *; split <;> omega
  have q5 : arrEq 8 p p' = true := val_eq_words dp dp' (by rw [vp, vp', Int.mul_comm])
  have q6 : arrEq 4 low w = true := val_eq_words dlow dw (by
    rw [vlow, vt, vs, vw, vpl, vp, vv, vq0]
    rw [Int.mul_emod, Int.emod_emod, ← Int.mul_emod, ← Int.add_emod, Int.mul_add])
  subst q2 q4
  simp only [Fw7, awake_true, e1, e2, e3, e4, e5, e6, e7, e8, e9, e10, e11, e12, Option.bind_some, q1, q3, q5, q6, if_true, BEq.rfl]
  by_cases h0 : arrEq 4 c (fun _ => 0) = true
  · rw [if_pos h0]
  · rw [if_neg h0]
    have hpos := nonzero hc h0
    obtain ⟨⟨y1, y2, q, r⟩, hy, dq, bq, dr, vr⟩ := div_spec dp hc hpos
    simp only at dq bq dr vr
    have h32 : Fw32 (p, c) = some (q, r, 0) := by simp only [Fw32, h0, Bool.false_eq_true, if_false, hy, Option.bind_some]
    have bp := val_bound (by decide) dp
    have bq8 := val_bound (by decide) dq
    have vq : val B64 q 8 = val B64 p 8 / val B64 c 4 := by
      have hq0 : 0 ≤ val B64 p 8 / val B64 c 4 := Int.ediv_nonneg bp.1 (by omega)
      have : (val B64 q 8).toNat = (val B64 p 8 / val B64 c 4).toNat := by
        apply Nat.eq_of_testBit_eq
        intro i
        by_cases hi : i < 512
        · rw [← bq i hi]; exact val_bit (n := 8) dq i (by omega)
        · have p8 : ∀ n, n = 512 → (B64 : Int) ^ 8 = ((2 ^ n : Nat) : Int) := fun n hn => by rw [Int.natCast_pow, hn]; exact two512.symm
          obtain ⟨n, hn⟩ : ∃ n, n = 512 := ⟨_, rfl⟩
          have p9 := p8 n hn
          have l1 : (val B64 q 8).toNat < 2 ^ n := by rw [p9] at bq8; omega
          have l2 : (val B64 p 8 / val B64 c 4).toNat < 2 ^ n := by
            have : val B64 p 8 / val B64 c 4 ≤ val B64 p 8 := Int.ediv_le_self _ bp.1
            rw [p9] at bp; omega
          rw [Nat.testBit_lt_two_pow (Nat.lt_of_lt_of_le l1 (Nat.pow_le_pow_right (by decide) (by omega))), Nat.testBit_lt_two_pow (Nat.lt_of_lt_of_le l2 (Nat.pow_le_pow_right (by decide) (by omega)))]
      omega
    obtain ⟨⟨ql, qh⟩, f1, dql, dqh, vql, vqh⟩ := halves_spec dq
    simp only at dql dqh vql vqh
    obtain ⟨t1, f2, dt1, vt1⟩ := mul_spec dql hc
    obtain ⟨⟨tl, th⟩, f3, dtl, dth, vtl, vth⟩ := halves_spec dt1
    obtain ⟨t2, f4, dt2, vt2⟩ := mul_spec dqh hc
    obtain ⟨⟨fl, fh⟩, f5, dfl, dfh, vfl, vfh⟩ := halves_spec dt2
    simp only at dtl dth vtl vth dfl dfh vfl vfh
    obtain ⟨⟨lo, up⟩, f6, dlo, vlo, cup⟩ := add_val dtl dr
    obtain ⟨⟨hi, over⟩, f7, dhi, vhi, cover⟩ := add_val dth dfl
    simp only at dlo vlo cup dhi vhi cover
    have btl := val4_bound dtl
    have br := val4_bound dr
    have hup : 0 ≤ up ∧ up ≤ 1 := by rw [cup]; simp only [W256] at *; omega
    have du : Dig B64 (upd (fun _ => 0) 0 (IntKind.u64.wrap up)) 4 := upd_dig (zero_dig (by decide) _) (by rw [wu64 (by omega) (by omega)]; simp only [B64]; omega)
    have vu : val B64 (upd (fun _ => 0) 0 (IntKind.u64.wrap up)) 4 = up := by rw [val4_upd0, val_zero, wu64 (by omega) (by omega)]; omega
    obtain ⟨⟨hi2, more⟩, f8, dhi2, vhi2, cmore⟩ := add_val dhi du
    simp only at dhi2 vhi2 cmore
    rw [vu] at vhi2 cmore
    -- all of it as numbers
    have hrc : val B64 r 4 < val B64 c 4 := by rw [vr]; exact Int.emod_lt_of_pos _ hpos
    have tot : (val B64 ql 4 * val B64 c 4) + W256 * (val B64 qh 4 * val B64 c 4) + val B64 r 4 = val B64 p 8 := by
      have h1 := Int.emod_add_mul_ediv (val B64 p 8) (val B64 c 4)
      have h2 := Int.emod_add_mul_ediv (val B64 q 8) W256
      rw [← vql, ← vqh] at h2
      rw [← vr, ← vq, ← h2, Int.mul_comm (val B64 c 4), Int.add_mul, Int.mul_assoc] at h1
      omega
    rw [← vt1, ← vt2] at tot
    have bth := val4_bound dth
    have bfl := val4_bound dfl
    have bfh := val4_bound dfh
    have blo := val4_bound dlo
    have bhi := val4_bound dhi
    have bhi2 := val4_bound dhi2
    have bpl := val4_bound dpl
    have bph := val4_bound dph
    rw [B64_8] at bp
    have g1 : arrEq 4 fh (fun _ => 0) = true := val_eq_words dfh (zero_dig (by decide) _) (by rw [val_zero]; simp only [W256] at *; omega)
    have g2 : over = 0 := by simp only [W256] at *; omega
    have g3 : more = 0 := by simp only [W256] at *; omega
    have g4 : arrEq 4 lo pl = true := val_eq_words dlo dpl (by simp only [W256] at *; omega)
    have g5 : arrEq 4 hi2 ph = true := val_eq_words dhi2 dph (by simp only [W256] at *; omega)
    have g6 : sg (val B64 r 4) (val B64 c 4) < 0 := sg_neg.2 hrc
    subst g2 g3
    simp only [h32, f1, f2, f3, f4, f5, f6, f7, f8, Option.bind_some, g4, g5, if_true, BEq.rfl, cmp_spec dr hc, g6, decide_true, g1]

theorem algebra_law {x0 x1 x2 : Nat → Int} (h0 : ∀ i, i < 4 → (Lit.int .u64 (x0 i)).wf = true) (h1 : ∀ i, i < 4 → (Lit.int .u64 (x1 i)).wf = true) (h2 : ∀ i, i < 4 → (Lit.int .u64 (x2 i)).wf = true) : Fw7 (x0, x1, x2) = some true :=
  algebra_true (words_dig h0) (words_dig h1) (words_dig h2)
end Go.Abs
