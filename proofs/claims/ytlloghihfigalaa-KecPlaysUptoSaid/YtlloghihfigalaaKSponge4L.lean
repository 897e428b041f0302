/- The reference's Read and All. -/
import Derived.Test.YtlloghihfigalaaKSponge3L
set_option linter.unusedVariables false
set_option linter.unusedSimpArgs false
set_option maxRecDepth 100000
namespace Go.Abs
open Go.RowKit

theorem outs_succ (rt : Nat) (L : Nat → Nat) (q i : Nat) : outs rt L q (i + 1) = outs rt L q i ++ [(outB rt L (q + i) : Int)] := by simp [outs, List.range_succ]
theorem outs_len (rt : Nat) (L : Nat → Nat) (q i : Nat) : (outs rt L q i).length = i := by simp [outs]
theorem byteOf_eq {r : Nat → Int} {L : Nat → Nat} (h : Q r L) {a : Nat} (ha : a < 200) : Fk36 (r, (a : Int)) = some (((L (a / 8) >>> (8 * (a % 8))) % 256 : Nat) : Int) := by
  have h1 : IntKind.i64.wrap ((a : Int).tdiv 8) = ((a / 8 : Nat) : Int) := by rw [tdivP (by omega), wi64 (by omega) (by omega)]; omega
  have h2 : IntKind.i64.wrap ((a : Int).tmod 8 * 8) = ((8 * (a % 8) : Nat) : Int) := by rw [tmodP (by omega), wi64 (by omega) (by omega)]; omega
  have h2' : IntKind.u64.wrap ((8 * (a % 8) : Nat) : Int) = ((8 * (a % 8) : Nat) : Int) := wu64 (by omega) (by omega)
  simp only [Fk36, h1, h2, h2', Int.toNat_natCast]
  rw [if_pos (by omega), if_pos (by omega)]
  exact congrArg some (byte_out h ha)

section
variable {k rt sf : Nat} {ol : Int} (K : KK k rt sf ol)
include K

theorem squeeze1 {n i a : Int} {o : Bool} {ys : List Int} {q cnt : Nat} (hq : q ≤ 9000000000000000) {r : Nat → Int} {L : Nat → Nat} (hQ : Q r (permI cnt L)) (hc : cnt = q / rt ∨ cnt + 1 = q / rt) :
    ∃ r', loopO stepk32_1 (n, (rt : Int), i, (a, (), o, (q : Int), r, (cnt : Int)), ys) = some (n, (rt : Int), i, (a, (), o, (q : Int), r', ((q / rt : Nat) : Int)), ys) ∧ Q r' (permI (q / rt) L) := by
  obtain ⟨k1, k2, k3, k4, k5⟩ := K.rt_pos
  have hle : q / rt ≤ q := Nat.div_le_self _ _
  have hd : IntKind.i64.wrap ((q : Int).tdiv (rt : Int)) = ((q / rt : Nat) : Int) := by
    rw [tdivP (by omega)]
    have : ((q : Int) / (rt : Int)) = ((q / rt : Nat) : Int) := rfl
    rw [this, wi64 (by omega) (by omega)]
  have hend : ∀ r : Nat → Int, stepk32_1 (n, (rt : Int), i, (a, (), o, (q : Int), r, ((q / rt : Nat) : Int)), ys) = some (.inr (n, (rt : Int), i, (a, (), o, (q : Int), r, ((q / rt : Nat) : Int)), ys)) := by
    intro r
    have d1 : decide (((q / rt : Nat) : Int) < ((q / rt : Nat) : Int)) = false := by simp
    simp only [stepk32_1, hd, d1, Bool.false_eq_true, if_false]
    rw [if_pos (by omega)]
  rcases hc with rfl | hc
  · exact ⟨r, loop_inr (hend r), hQ⟩
  · refine ⟨KRef.perm10 r, ?_, by rw [← hc]; exact perm10_Q hQ⟩
    have d1 : decide ((cnt : Int) < ((q / rt : Nat) : Int)) = true := by simp only [decide_eq_true_eq]; omega
    have w : IntKind.i64.wrap ((cnt : Int) + 1) = ((q / rt : Nat) : Int) := by rw [wi64 (by omega) (by omega)]; omega
    refine (loop_inl (s' := (n, (rt : Int), i, (a, (), o, (q : Int), KRef.perm10 r, ((q / rt : Nat) : Int)), ys)) ?_).trans (loop_inr (hend _))
    simp only [stepk32_1, hd, d1, if_true]
    rw [if_pos (by omega), KRef.Fk10_eq]
    simp only [Option.bind_some, w]

theorem ref_loop {a : Int} {o : Bool} {n : Nat} (hn : n ≤ 65536) {q cnt : Nat} (hq : q ≤ 8000000000000000) {r : Nat → Int} {L : Nat → Nat} (hQ : Q r (permI cnt L)) (hc : cnt = q / rt ∨ cnt + 1 = q / rt) :
    Ret (loopO stepk32_0 ((n : Int), (rt : Int), 0, (a, (), o, (q : Int), r, (cnt : Int)), ([] : List Int))) fun z => ∃ r' cnt', z = (outs rt L q n, (a, (), o, ((q + n : Nat) : Int), r', ((cnt' : Nat) : Int))) ∧ Q r' (permI cnt' L) ∧ (cnt' = (q + n) / rt ∨ cnt' + 1 = (q + n) / rt) := by
  obtain ⟨k1, k2, k3, k4, k5⟩ := K.rt_pos
  refine loopO_inv (fun i s => ∃ r' cnt', s = ((n : Int), (rt : Int), (i : Int), (a, (), o, ((q + i : Nat) : Int), r', ((cnt' : Nat) : Int)), outs rt L q i) ∧ Q r' (permI cnt' L) ∧ (cnt' = (q + i) / rt ∨ cnt' + 1 = (q + i) / rt)) n ⟨r, cnt, rfl, hQ, hc⟩ ?_ ?_
  · rintro i s hi ⟨r', cnt', rfl, hr, hcc⟩
    have d1 : decide ((i : Int) < (n : Int)) = true := by simp; omega
    obtain ⟨r2, e1, e2⟩ := squeeze1 K (n := (n : Int)) (i := (i : Int)) (a := a) (o := o) (ys := outs rt L q i) (q := q + i) (by omega) hr hcc
    have hm : (((q + i : Nat) : Int).tmod (rt : Int)) = (((q + i) % rt : Nat) : Int) := by rw [tmodP (by omega)]; rfl
    have hml : (q + i) % rt < rt := Nat.mod_lt _ (by omega)
    have w1 : IntKind.i64.wrap ((i : Int) + 1) = ((i + 1 : Nat) : Int) := by rw [wi64 (by omega) (by omega)]; omega
    have w2 : IntKind.i64.wrap (((q + i : Nat) : Int) + 1) = ((q + (i + 1) : Nat) : Int) := by rw [wi64 (by omega) (by omega)]; omega
    simp only [stepk32_0, d1, if_true]
    rw [e1]
    simp only [Option.bind_some]
    rw [if_pos (by omega), hm, byteOf_eq e2 (by omega)]
    simp only [Option.bind_some]
    rw [if_pos (by unfold okBytes; simp [outs_len]; omega), w1, w2]
    refine ⟨_, rfl, r2, (q + i) / rt, ?_, e2, ?_⟩
    · rw [outs_succ]; rfl
    · rw [show q + (i + 1) = (q + i) + 1 by omega, Nat.succ_div]
      split
      · exact .inr rfl
      · exact .inl rfl
  · rintro s ⟨r', cnt', rfl, hr, hcc⟩
    have d1 : decide ((n : Int) < (n : Int)) = false := by simp
    simp only [stepk32_0, d1, Bool.false_eq_true, if_false]
    exact ⟨_, rfl, r', cnt', rfl, hr, hcc⟩

theorem ref_all {n : Nat} (hn : n ≤ 65536) {xs : List Int} (hx : Byt xs) (hlen : xs.length ≤ 140737488351232) :
    Fk20 ((k : Int), xs, (n : Int)) = some (outs rt (finN rt sf (absN rt (zeroN, 0) (nats xs))) 0 n) := by
  obtain ⟨k1, k2, k3, k4, k5⟩ := K.rt_pos
  obtain ⟨r', h1, h2⟩ := begin_eq K hx hlen false 0 0 (fun _ => 0)
  obtain ⟨z, h3, r2, c2, rfl, _⟩ := ref_loop K (a := (k : Int)) (o := true) hn (q := 0) (cnt := 0) (by omega) (L := finN rt sf (absN rt (zeroN, 0) (nats xs))) h2 (.inl (by rw [Nat.zero_div]))
  have h3' : loopO stepk32_0 ((n : Int), (rt : Int), 0, ((k : Int), (), true, 0, r', 0), ([] : List Int)) = some (outs rt (finN rt sf (absN rt (zeroN, 0) (nats xs))) 0 n, ((k : Int), (), true, ((0 + n : Nat) : Int), r2, ((c2 : Nat) : Int))) := h3
  simp only [Fk20, Fk32, K.kind, Option.bind_some, h1, h3']
end
end Go.Abs
