/- The reference's sponge. -/
import Derived.Test.YtlloghihfigalaaKSponge4L
set_option linter.unusedVariables false
set_option linter.unusedSimpArgs false
set_option maxRecDepth 100000
namespace Go.Abs
open Go.RowKit

section
variable {k rt sf : Nat} {ol : Int} (K : KK k rt sf ol)
include K

/-- zeros up to a whole block -/
theorem pad_loopP {s : Int × Unit × Bool × Int × (Nat → Int) × Int} {X M : List Int} (hlen : M.length ≤ 140737488355328 - 168) :
    loopO stepk35p_0 ((rt : Int), s, M, X) = some ((rt : Int), s, M ++ List.replicate ((rt - M.length % rt) % rt) 0, X) := by
  obtain ⟨k1, k2, k3, k4, k5⟩ := K.rt_pos
  refine Ret.eq ?_
  have hm : M.length % rt < rt := Nat.mod_lt _ (by omega)
  refine loopO_inv (fun i x => x = ((rt : Int), s, M ++ List.replicate i 0, X)) ((rt - M.length % rt) % rt) (by simp) ?_ ?_
  · rintro i x hi rfl
    have hz : (rt - M.length % rt) % rt = rt - M.length % rt := by
      rcases Nat.eq_zero_or_pos (M.length % rt) with h | h
      · rw [h, Nat.sub_zero, Nat.mod_self] at hi; omega
      · exact Nat.mod_eq_of_lt (by omega)
    rw [hz] at hi
    have hl : (M ++ List.replicate i (0 : Int)).length = M.length + i := by simp
    have hne : (M.length + i) % rt ≠ 0 := by
      have : (M.length + i) % rt = (M.length % rt + i) % rt := by rw [Nat.mod_add_mod]
      rw [this, Nat.mod_eq_of_lt (by omega)]
      have : M.length % rt ≠ 0 := by
        intro h0
        rw [h0, Nat.sub_zero, Nat.mod_self] at hz; omega
      omega
    have ht : (((M.length + i : Nat) : Int).tmod (rt : Int)) = (((M.length + i) % rt : Nat) : Int) := by
      rw [tmodP (by omega)]; rfl
    have hb : ((((M.length + i) % rt : Nat) : Int) != 0) = true := by
      simp only [bne_iff_ne, ne_eq]; omega
    simp only [stepk35p_0, hl]
    rw [if_pos (by omega), ht, if_pos hb, if_pos (by unfold okBytes; simp; omega)]
    refine ⟨_, rfl, ?_⟩
    have e : (M ++ List.replicate i (0 : Int)) ++ ((List.replicate 1 (0 : Int)).set 0 0) = M ++ List.replicate (i + 1) 0 := by
      show (M ++ List.replicate i (0 : Int)) ++ [0] = _
      rw [List.append_assoc, List.replicate_succ']
    rw [e]
  · rintro x rfl
    have hl : (M ++ List.replicate ((rt - M.length % rt) % rt) (0 : Int)).length = M.length + (rt - M.length % rt) % rt := by simp
    have h0 : (M.length + (rt - M.length % rt) % rt) % rt = 0 := by
      rw [Nat.add_mod_mod]
      have : M.length + (rt - M.length % rt) = rt * (M.length / rt + 1) := by
        have := Nat.div_add_mod M.length rt
        rw [Nat.mul_add]; omega
      rw [this, Nat.mul_mod_right]
    have ht : (((M.length + (rt - M.length % rt) % rt : Nat) : Int).tmod (rt : Int)) = 0 := by
      rw [tmodP (by omega)]
      have : ((M.length + (rt - M.length % rt) % rt : Nat) : Int) % (rt : Int) = (((M.length + (rt - M.length % rt) % rt) % rt : Nat) : Int) := rfl
      rw [this, h0]; rfl
    simp only [stepk35p_0, hl]
    rw [if_pos (by omega), ht]
    exact ⟨_, rfl, rfl⟩

/-- one block into the state -/
theorem block_loopP {a : Int} {X : List Int} {o : Bool} {b : Int} {c : Int} {M : List Int} (hM : Byt M) (hlen : M.length ≤ 140737488355328) {t : Nat} (ht : t + rt ≤ M.length) {r : Nat → Int} {L : Nat → Nat} (hQ : Q r L) :
    Ret (loopO stepk35p_2 ((rt : Int), (t : Int), 0, (a, (), o, b, r, c), M, X)) fun z => ∃ r', z = ((rt : Int), (t : Int), (a, (), o, b, r', c), M, X) ∧ Q r' (mixF (L, 0) (nats ((M.drop t).take rt))).1 := by
  obtain ⟨k1, k2, k3, k4, k5⟩ := K.rt_pos
  refine loopO_inv (fun i s => ∃ r', s = ((rt : Int), (t : Int), (i : Int), (a, (), o, b, r', c), M, X) ∧ Q r' (mixF (L, 0) (nats ((M.drop t).take i))).1) rt ⟨r, rfl, hQ⟩ ?_ ?_
  · rintro i s hi ⟨r', rfl, hr⟩
    have d1 : decide ((i : Int) < (rt : Int)) = true := by simp; omega
    have hget : (M.drop t).getD i 0 = M.getD (t + i) 0 := by simp [List.getD_eq_getElem?_getD, List.getElem?_drop]
    obtain ⟨b1, b2⟩ := hM (t + i) (by omega)
    obtain ⟨v, hv⟩ : ∃ v : Nat, M.getD (t + i) 0 = (v : Int) := ⟨(M.getD (t + i) 0).toNat, by omega⟩
    have hlt : i < (M.drop t).length := by simp; omega
    have hpos : (mixF (L, 0) (nats ((M.drop t).take i))).2 = i := by rw [mixF_pos]; simp [nats]; omega
    have hstep : mixF (L, 0) (nats ((M.drop t).take (i + 1))) = mix1 (mixF (L, 0) (nats ((M.drop t).take i))) v := by
      rw [nats_take hlt, mixF_append, hget, hv, Int.toNat_natCast]; rfl
    generalize mixF (L, 0) (nats ((M.drop t).take i)) = A at hr hpos hstep
    rw [hv] at b1 b2
    have hv2 : v < 256 := by omega
    have hm := mix_Q hr (p := i) (by omega) hv2
    have h1 : IntKind.i64.wrap ((i : Int).tdiv 8) = ((i / 8 : Nat) : Int) := by rw [tdivP (by omega), wi64 (by omega) (by omega)]; omega
    have h2 : IntKind.i64.wrap ((i : Int).tmod 8 * 8) = ((8 * (i % 8) : Nat) : Int) := by rw [tmodP (by omega), wi64 (by omega) (by omega)]; omega
    have h2' : IntKind.u64.wrap ((8 * (i % 8) : Nat) : Int) = ((8 * (i % 8) : Nat) : Int) := wu64 (by omega) (by omega)
    have h3 : IntKind.u64.wrap (v : Int) = (v : Int) := wu64 (by omega) (by omega)
    have h4 : IntKind.i64.wrap ((t : Int) + (i : Int)) = ((t + i : Nat) : Int) := by rw [wi64 (by omega) (by omega)]; omega
    have h5 : IntKind.i64.wrap ((i : Int) + 1) = ((i + 1 : Nat) : Int) := by rw [wi64 (by omega) (by omega)]; omega
    simp only [stepk35p_2, d1, if_true, h1, h2, h2', h4, h5, Int.toNat_natCast]
    rw [if_pos (by omega), if_pos (by omega), if_pos (by omega), if_pos (by omega), hv, h3]
    refine ⟨_, rfl, mixI r' i v, rfl, ?_⟩
    rw [hstep]
    show Q _ (mixN A.1 A.2 v)
    rw [hpos]; exact hm
  · rintro s ⟨r', rfl, hr⟩
    have d1 : decide ((rt : Int) < (rt : Int)) = false := by simp
    simp only [stepk35p_2, d1, Bool.false_eq_true, if_false]
    exact ⟨_, rfl, r', rfl, hr⟩

theorem blocks_loopP {a : Int} {X : List Int} {o : Bool} {b c : Int} {M : List Int} (hM : Byt M) (hlen : M.length ≤ 140737488355328) {m : Nat} (hm : M.length = m * rt) {r : Nat → Int} {L : Nat → Nat} (hQ : Q r L) :
    Ret (loopO stepk35p_1 ((rt : Int), 0, (a, (), o, b, r, c), M, X)) fun z => ∃ r' L', z = ((a, (), o, b, r', c), X) ∧ absN rt (L, 0) (nats M) = (L', 0) ∧ Q r' L' := by
  obtain ⟨k1, k2, k3, k4, k5⟩ := K.rt_pos
  refine loopO_inv (fun i s => ∃ r' L', s = ((rt : Int), ((i * rt : Nat) : Int), (a, (), o, b, r', c), M, X) ∧ absN rt (L, 0) (nats (M.take (i * rt))) = (L', 0) ∧ Q r' L') m ⟨r, L, by simp, by simp [nats, absN], hQ⟩ ?_ ?_
  · rintro i s hi ⟨r', L', rfl, hA, hr⟩
    have hle : i * rt + rt ≤ M.length := by
      have : (i + 1) * rt ≤ m * rt := Nat.mul_le_mul_right _ hi
      rw [Nat.add_mul, Nat.one_mul] at this; omega
    have d1 : decide (((i * rt : Nat) : Int) < (M.length : Int)) = true := by simp only [decide_eq_true_eq]; omega
    obtain ⟨z, h1, r2, rfl, h2⟩ := block_loopP K (a := a) (X := X) (o := o) (b := b) (c := c) hM hlen hle hr
    have w : IntKind.i64.wrap (((i * rt : Nat) : Int) + (rt : Int)) = (((i + 1) * rt : Nat) : Int) := by
      rw [wi64 (by omega) (by omega), Nat.add_mul, Nat.one_mul]; omega
    simp only [stepk35p_1, d1, if_true]
    rw [h1]
    simp only [Option.bind_some]
    rw [KRef.Fk10_eq]
    simp only [Option.bind_some]
    rw [w]
    refine ⟨_, rfl, KRef.perm10 r2, _, rfl, ?_, perm10_Q h2⟩
    rw [take_block, absN_append, hA]
    exact absN_whole (by omega) (by simp [nats]; omega)
  · rintro s ⟨r', L', rfl, hA, hr⟩
    have d1 : decide (((m * rt : Nat) : Int) < (M.length : Int)) = false := by simp only [decide_eq_false_iff_not]; omega
    simp only [stepk35p_1, d1, Bool.false_eq_true, if_false]
    refine ⟨_, rfl, r', L', rfl, ?_, hr⟩
    rw [← hm, List.take_length] at hA
    exact hA

theorem begin_eqP {xs : List Int} (hx : Byt xs) (hlen : xs.length ≤ 140737488351232) (o : Bool) (b c : Int) (r0 : Nat → Int) :
    ∃ r', Fk35p (((k : Int), (), o, b, r0, c), xs) = some (((k : Int), (), o, b, r', 0), xs) ∧ Q r' (finN rt sf (absN rt (zeroN, 0) (nats xs))) := by
  obtain ⟨k1, k2, k3, k4, k5⟩ := K.rt_pos
  obtain ⟨M, hMd⟩ : ∃ M, M = xs ++ [(sf : Int)] := ⟨_, rfl⟩
  have hMl : M.length = xs.length + 1 := by rw [hMd]; simp
  obtain ⟨z, hz⟩ : ∃ z, z = (rt - M.length % rt) % rt := ⟨_, rfl⟩
  have hp := pad_loopP K (s := ((k : Int), (), o, b, r0, c)) (X := xs) (M := M) (by omega)
  rw [← hz] at hp
  obtain ⟨P, hP⟩ : ∃ P, P = M ++ List.replicate z (0 : Int) := ⟨_, rfl⟩
  rw [← hP] at hp
  have hPl : P.length = xs.length + 1 + z := by rw [hP]; simp [hMl]
  -- the last byte
  obtain ⟨lv, hlv, hlv2⟩ : ∃ lv : Nat, P.getD (P.length - 1) 0 = (lv : Int) ∧ lv < 32 := by
    rw [hP]
    cases z with
    | zero => exact ⟨sf, by rw [hMd]; simp [List.getD_eq_getElem?_getD], k3⟩
    | succ z => exact ⟨0, by simp [List.getD_eq_getElem?_getD, List.getElem?_append, hMl], by decide⟩
  have hm1 : IntKind.i64.wrap ((P.length : Int) - 1) = ((P.length - 1 : Nat) : Int) := by
    have : z < rt := by rw [hz]; exact Nat.mod_lt _ (by omega)
    rw [wi64 (by omega) (by omega)]; omega
  obtain ⟨W, hW⟩ : ∃ W, W = P.set (P.length - 1) ((lv + 128 : Nat) : Int) := ⟨_, rfl⟩
  have hzp : z = rt - xs.length % rt - 1 := by
    rw [hz, hMl]
    have h1 : xs.length % rt < rt := Nat.mod_lt _ (by omega)
    have h2 : (xs.length + 1) % rt = (xs.length % rt + 1) % rt := by rw [Nat.mod_add_mod]
    rw [h2]
    by_cases e : xs.length % rt + 1 = rt
    · rw [e, Nat.mod_self, Nat.sub_zero, Nat.mod_self]; omega
    · rw [Nat.mod_eq_of_lt (a := xs.length % rt + 1) (by omega), Nat.mod_eq_of_lt (by omega)]; omega
  have hWn : nats W = nats xs ++ padL sf z := by
    rw [hW, hP, hMd]
    unfold padL
    cases z with
    | zero =>
      have : lv = sf := by
        rw [hP, hMd] at hlv
        simp [List.getD_eq_getElem?_getD] at hlv; omega
      subst this
      simp [nats, List.set_append]
      omega
    | succ z =>
      have : lv = 0 := by
        rw [hP] at hlv
        simp [List.getD_eq_getElem?_getD, List.getElem?_append, hMl] at hlv; omega
      subst this
      rw [if_neg (by omega), List.replicate_succ']
      simp [nats, List.set_append]
  have hWb : Byt W := by
    refine Byt_mem.2 fun y hy => ?_
    rw [hW] at hy
    rcases List.mem_or_eq_of_mem_set hy with h | h
    · rw [hP, hMd] at h
      simp only [List.mem_append, List.mem_singleton, List.mem_replicate] at h
      rcases h with (h | h) | h
      · exact Byt_mem.1 hx y h
      · omega
      · omega
    · omega
  have hWl : W.length = P.length := by rw [hW]; simp
  have hWm : W.length = (W.length / rt) * rt := by
    have h0 : W.length % rt = 0 := by
      rw [hWl, hPl, hzp]
      have h1 := Nat.div_add_mod xs.length rt
      have h2 : xs.length % rt < rt := Nat.mod_lt _ (by omega)
      have : xs.length + 1 + (rt - xs.length % rt - 1) = rt * (xs.length / rt + 1) := by rw [Nat.mul_add]; omega
      rw [this, Nat.mul_mod_right]
    have := Nat.div_add_mod W.length rt
    rw [h0, Nat.mul_comm] at this; omega
  have hzr : z < rt := by rw [hz]; exact Nat.mod_lt _ (by omega)
  obtain ⟨y, h1, r', L', rfl, hA, hr⟩ := blocks_loopP K (a := (k : Int)) (X := xs) (o := o) (b := b) (c := c) hWb (by omega) hWm zero_Q
  refine ⟨r', ?_, ?_⟩
  · simp only [Fk35p, K.kind, Option.bind_some]
    have hset : ((List.replicate 1 (0 : Int)).set 0 (sf : Int)) = [(sf : Int)] := rfl
    rw [if_pos (by unfold okBytes; simp; omega), if_pos (by unfold okBytes; simp; omega)]
    rw [hset, List.nil_append, ← hMd, hp]
    simp only [Option.bind_some]
    have : z < rt := by rw [hz]; exact Nat.mod_lt _ (by omega)
    rw [hm1, Int.toNat_natCast, hlv, x128 lv hlv2, if_pos (by omega), if_pos (by omega), ← hW, h1]
    rfl
  · have hpos : (absN rt (zeroN, 0) (nats xs)).2 = xs.length % rt := by
      rw [absN_pos (by omega) _ _ (by show 0 < rt; omega)]; simp [nats]
    rw [hWn, absN_append, hzp, ← hpos, pad_fin k3 (absN_lt (by show 0 < rt; omega))] at hA
    cases hA
    exact hr
end
end Go.Abs
