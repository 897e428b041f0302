/- The reference's sponge with a row of its own. -/
import Derived.Test.YtlloghihfigalaaKSponge3pL
set_option linter.unusedVariables false
set_option linter.unusedSimpArgs false
set_option maxRecDepth 100000
namespace Go.Abs
open Go.RowKit

section
variable {k rt sf : Nat} {ol : Int} (K : KK k rt sf ol)
include K

theorem squeeze1P {n i a : Int} {X : List Int} {o : Bool} {ys : List Int} {q cnt : Nat} (hq : q ≤ 9000000000000000) {r : Nat → Int} {L : Nat → Nat} (hQ : Q r (permI cnt L)) (hc : cnt = q / rt ∨ cnt + 1 = q / rt) :
    ∃ r', loopO stepk32p_1 (n, (rt : Int), i, (a, (), o, (q : Int), r, (cnt : Int)), ys, X) = some (n, (rt : Int), i, (a, (), o, (q : Int), r', ((q / rt : Nat) : Int)), ys, X) ∧ Q r' (permI (q / rt) L) := by
  obtain ⟨k1, k2, k3, k4, k5⟩ := K.rt_pos
  have hle : q / rt ≤ q := Nat.div_le_self _ _
  have hd : IntKind.i64.wrap ((q : Int).tdiv (rt : Int)) = ((q / rt : Nat) : Int) := by
    rw [tdivP (by omega)]
    have : ((q : Int) / (rt : Int)) = ((q / rt : Nat) : Int) := rfl
    rw [this, wi64 (by omega) (by omega)]
  have hend : ∀ r : Nat → Int, stepk32p_1 (n, (rt : Int), i, (a, (), o, (q : Int), r, ((q / rt : Nat) : Int)), ys, X) = some (.inr (n, (rt : Int), i, (a, (), o, (q : Int), r, ((q / rt : Nat) : Int)), ys, X)) := by
    intro r
    have d1 : decide (((q / rt : Nat) : Int) < ((q / rt : Nat) : Int)) = false := by simp
    simp only [stepk32p_1, hd, d1, Bool.false_eq_true, if_false]
    rw [if_pos (by omega)]
  rcases hc with rfl | hc
  · exact ⟨r, loop_inr (hend r), hQ⟩
  · refine ⟨KRef.perm10 r, ?_, by rw [← hc]; exact perm10_Q hQ⟩
    have d1 : decide ((cnt : Int) < ((q / rt : Nat) : Int)) = true := by simp only [decide_eq_true_eq]; omega
    have w : IntKind.i64.wrap ((cnt : Int) + 1) = ((q / rt : Nat) : Int) := by rw [wi64 (by omega) (by omega)]; omega
    refine (loop_inl (s' := (n, (rt : Int), i, (a, (), o, (q : Int), KRef.perm10 r, ((q / rt : Nat) : Int)), ys, X)) ?_).trans (loop_inr (hend _))
    simp only [stepk32p_1, hd, d1, if_true]
    rw [if_pos (by omega), KRef.Fk10_eq]
    simp only [Option.bind_some, w]

theorem ref_loopP {a : Int} {X : List Int} {o : Bool} {n : Nat} (hn : n ≤ 65536) {q cnt : Nat} (hq : q ≤ 8000000000000000) {r : Nat → Int} {L : Nat → Nat} (hQ : Q r (permI cnt L)) (hc : cnt = q / rt ∨ cnt + 1 = q / rt) :
    Ret (loopO stepk32p_0 ((n : Int), (rt : Int), 0, (a, (), o, (q : Int), r, (cnt : Int)), ([] : List Int), X)) fun z => ∃ r' cnt', z = (outs rt L q n, (a, (), o, ((q + n : Nat) : Int), r', ((cnt' : Nat) : Int)), X) ∧ Q r' (permI cnt' L) ∧ (cnt' = (q + n) / rt ∨ cnt' + 1 = (q + n) / rt) := by
  obtain ⟨k1, k2, k3, k4, k5⟩ := K.rt_pos
  refine loopO_inv (fun i s => ∃ r' cnt', s = ((n : Int), (rt : Int), (i : Int), (a, (), o, ((q + i : Nat) : Int), r', ((cnt' : Nat) : Int)), outs rt L q i, X) ∧ Q r' (permI cnt' L) ∧ (cnt' = (q + i) / rt ∨ cnt' + 1 = (q + i) / rt)) n ⟨r, cnt, rfl, hQ, hc⟩ ?_ ?_
  · rintro i s hi ⟨r', cnt', rfl, hr, hcc⟩
    have d1 : decide ((i : Int) < (n : Int)) = true := by simp; omega
    obtain ⟨r2, e1, e2⟩ := squeeze1P K (n := (n : Int)) (i := (i : Int)) (a := a) (X := X) (o := o) (ys := outs rt L q i) (q := q + i) (by omega) hr hcc
    have hm : (((q + i : Nat) : Int).tmod (rt : Int)) = (((q + i) % rt : Nat) : Int) := by rw [tmodP (by omega)]; rfl
    have hml : (q + i) % rt < rt := Nat.mod_lt _ (by omega)
    have w1 : IntKind.i64.wrap ((i : Int) + 1) = ((i + 1 : Nat) : Int) := by rw [wi64 (by omega) (by omega)]; omega
    have w2 : IntKind.i64.wrap (((q + i : Nat) : Int) + 1) = ((q + (i + 1) : Nat) : Int) := by rw [wi64 (by omega) (by omega)]; omega
    simp only [stepk32p_0, d1, if_true]
    rw [e1]
    simp only [Option.bind_some]
    rw [if_pos (by omega), hm, byteOf_eq e2 (by omega)]
    simp only [Option.bind_some]
    rw [if_pos (by unfold okBytes; simp [outs_len]; omega), w1, w2]
    refine ⟨_, rfl, r2, (q + i) / rt, ?_, e2, ?_⟩
    · rw [outs_succ]; rfl
    · rw [show q + (i + 1) = (q + i) + 1 by omega, Nat.succ_div]
      split
      · exact .inr rfl
      · exact .inl rfl
  · rintro s ⟨r', cnt', rfl, hr, hcc⟩
    have d1 : decide ((n : Int) < (n : Int)) = false := by simp
    simp only [stepk32p_0, d1, Bool.false_eq_true, if_false]
    exact ⟨_, rfl, r', cnt', rfl, hr, hcc⟩

/-- the reference's sponge, when q bytes are told -/
def RSP (K : KK k rt sf ol) (xs : List Int) (q : Nat) (s : Int × Unit × Bool × Int × (Nat → Int) × Int) : Prop :=
  ∃ r cnt, s = ((k : Int), (), true, (q : Int), r, ((cnt : Nat) : Int)) ∧ Q r (permI cnt (finN rt sf (absN rt (zeroN, 0) (nats xs)))) ∧ (cnt = q / rt ∨ cnt + 1 = q / rt)

theorem ref_firstP {xs : List Int} (hx : Byt xs) (hlen : xs.length ≤ 140737488351232) {n : Nat} (hn : n ≤ 65536) :
    ∃ s', Fk32p (((k : Int), (), false, 0, (fun _ => 0), 0), xs, (n : Int)) = some (outs rt (finN rt sf (absN rt (zeroN, 0) (nats xs))) 0 n, s', xs) ∧ RSP K xs n s' := by
  obtain ⟨r', e1, e2⟩ := begin_eqP K hx hlen false 0 0 (fun _ => 0)
  obtain ⟨z, e3, r2, c2, rfl, e4, e5⟩ := ref_loopP K (a := (k : Int)) (X := xs) (o := true) hn (q := 0) (cnt := 0) (by omega) (r := r') e2 (.inl (by simp))
  rw [Nat.zero_add] at e3 e5
  rw [show ((0 : Nat) : Int) = 0 from rfl] at e3
  refine ⟨_, ?_, r2, c2, rfl, e4, e5⟩
  simp only [Fk32p, K.kind, Option.bind_some, Bool.not_false, if_true, e1, e3]
  rfl

theorem ref_nextP {xs : List Int} {n q : Nat} (hn : n ≤ 65536) (hq : q ≤ 8000000000000000) {s : Int × Unit × Bool × Int × (Nat → Int) × Int} (H : RSP K xs q s) :
    ∃ s', Fk32p (s, xs, (n : Int)) = some (outs rt (finN rt sf (absN rt (zeroN, 0) (nats xs))) q n, s', xs) ∧ RSP K xs (q + n) s' := by
  obtain ⟨r, cnt, rfl, hQ, hc⟩ := H
  obtain ⟨z, e3, r2, c2, rfl, e4, e5⟩ := ref_loopP K (a := (k : Int)) (X := xs) (o := true) hn hq hQ hc
  refine ⟨_, ?_, r2, c2, rfl, e4, e5⟩
  simp only [Fk32p, K.kind, Option.bind_some, Bool.not_true, Bool.false_eq_true, if_false, e3]
end
end Go.Abs
