/- KecPlays: each step of the play, and the law. -/
import Derived.Test.YtlloghihfigalaaKPlaysL
import Derived.Test.YtlloghihfigalaaAbsDatL
set_option linter.unusedVariables false
set_option linter.unusedSimpArgs false
set_option maxRecDepth 100000
namespace Go.Abs
open Go.RowKit

theorem scribble {e : Int} {t : Bool} {a : Sk} {b : Rk} {xs ys : List Int} (hl : ys.length ≤ 65536) :
    Ret (loopO stepk34_0 (e, t, 0, ys, ((), ()), a, b, xs)) fun z => ∃ ys', z = (e, t, ys', ((), ()), a, b, xs) ∧ ys'.length = ys.length := by
  refine loopO_inv (fun i z => ∃ ys', z = (e, t, ((i : Nat) : Int), ys', ((), ()), a, b, xs) ∧ ys'.length = ys.length) ys.length ⟨ys, rfl, rfl⟩ ?_ ?_
  · rintro i z hi ⟨ys', rfl, h⟩
    have d1 : decide (((i : Nat) : Int) < ((ys'.length : Nat) : Int)) = true := decide_eq_true (by omega)
    have w : IntKind.i64.wrap (((i : Nat) : Int) + 1) = ((i + 1 : Nat) : Int) := by rw [wi64 (by omega) (by omega)]; omega
    simp only [stepk34_0, d1, if_true, w]
    rw [if_pos (by omega)]
    exact ⟨_, rfl, _, rfl, by simpa using h⟩
  · rintro z ⟨ys', rfl, h⟩
    have d1 : decide (((ys.length : Nat) : Int) < ((ys'.length : Nat) : Int)) = false := decide_eq_false (by omega)
    simp only [stepk34_0, d1, Bool.false_eq_true, if_false]
    exact ⟨_, rfl, _, rfl, h⟩

theorem scratch {n : Nat} {e : Int} {t : Bool} {r3 : Int × Int × List Int} {a : Sk} {b : Rk} {row xs : List Int} (hl : n ≤ 9000000000000000) :
    loopO stepk22_0 ((0, n), e, t, 0, ((), ()), r3, row, a, b, xs) = some (e, t, ((), ()), r3, a, b, xs) := by
  refine Ret.eq ?_
  refine loopO_inv (fun i z => ∃ row', z = ((0, n), e, t, ((i : Nat) : Int), ((), ()), r3, row', a, b, xs)) n ⟨row, rfl⟩ ?_ ?_
  · rintro i z hi ⟨row', rfl⟩
    have d1 : decide (((i : Nat) : Int) < ((n : Nat) : Int)) = true := decide_eq_true (by omega)
    have w : IntKind.i64.wrap (((i : Nat) : Int) + 1) = ((i + 1 : Nat) : Int) := by rw [wi64 (by omega) (by omega)]; omega
    simp only [stepk22_0, d1, if_true, w]
    rw [if_pos (by omega)]
    exact ⟨_, rfl, _, rfl⟩
  · rintro z ⟨row', rfl⟩
    have d1 : decide (((n : Nat) : Int) < ((n : Nat) : Int)) = false := decide_eq_false (by omega)
    simp only [stepk22_0, d1, Bool.false_eq_true, if_false]
    exact ⟨_, rfl, rfl⟩

theorem play_read {m : Nat} (hm : m ≤ 6600000) {a : Sk} {b : Rk} {xs : List Int} (H : Tw m a b xs) (hl : xs.length ≤ 140737488351232) (n : Int) :
    ∃ a' b', Fk34 (((), ()), a, b, xs, n) = some (true, ((), ()), a', b', xs) ∧ Tw (m + 65536) a' b' xs := by
  obtain ⟨l, h1, h2, h3⟩ := tw_left (by omega) H
  obtain ⟨s1, s2, s3, s4, s5⟩ := a
  obtain ⟨t1, t2, t3, t4, t5, t6⟩ := b
  cases t2
  have h3 : s5 = l := h3
  subst h3
  by_cases hn : n < 0 ∨ n > 65536
  · have e := read_out (s := (s1, s2, s3, s4, s5)) hn
    refine ⟨_, _, ?_, tw_mono (by omega) H⟩
    simp only [Fk34, e, Option.bind_some]
    by_cases c : n < 0
    · have d1 : decide (n < 0) = true := decide_eq_true c
      simp only [d1, Bool.true_eq_false, if_false]
      rfl
    · have d1 : decide (n < 0) = false := decide_eq_false c
      have d2 : decide (n > 65536) = true := decide_eq_true (by omega)
      simp only [d1, d2, if_true]
      rfl
  · obtain ⟨N, rfl⟩ : ∃ N : Nat, n = (N : Int) := ⟨n.toNat, by omega⟩
    have d1 : decide (((N : Nat) : Int) < 0) = false := decide_eq_false (by omega)
    have d2 : decide (((N : Nat) : Int) > 65536) = false := decide_eq_false (by omega)
    by_cases c : 0 ≤ s5 ∧ s5 < (N : Int)
    · have e : Fk13 ((s1, s2, s3, s4, s5), (N : Int)) = some ([], 33, (s1, s2, s3, s4, s5)) := by
        obtain ⟨k, rt, sf, ol, K, hb, ⟨r, L, p, q1, _⟩ | ⟨q, r, a0, l0, q1, _⟩⟩ := H
        · cases q1; exact read_more K (by omega) (by omega) c.1 c.2
        · cases q1; exact read_more K (by omega) (by omega) c.1 c.2
      have d3 : decide (s5 ≥ 0) = true := decide_eq_true c.1
      have d4 : decide (((N : Nat) : Int) > s5) = true := decide_eq_true c.2
      refine ⟨_, _, ?_, tw_mono (by omega) H⟩
      simp only [Fk34, e, Option.bind_some, d1, d2, Bool.false_eq_true, if_false, if_true, h2, d3, d4]
      rfl
    · obtain ⟨ys, a', b', e1, e2, e3, e4⟩ := tw_read (by omega) H hl (n := N) (by omega) (l := s5) rfl (by omega)
      obtain ⟨z, e5, ys', rfl, e6⟩ := scribble (e := 0) (t := true) (a := a') (b := b') (xs := xs) (ys := ys) (by omega)
      have ok : okBytes (ys'.length + (((List.replicate 2 (0 : Int)).set 0 55).set 1 55).length) 1 := by unfold okBytes; simp; omega
      obtain ⟨u1, u2, u3, u4, u5⟩ := a'
      obtain ⟨v1, v2, v3, v4, v5, v6⟩ := b'
      cases v2
      refine ⟨_, _, ?_, tw_mono (by omega) e4⟩
      simp only [Fk34, e1, Option.bind_some, d1, d2, Bool.false_eq_true, if_false, if_true, h2]
      by_cases c3 : s5 ≥ 0
      · have d3 : decide (s5 ≥ 0) = true := decide_eq_true c3
        have d4 : decide (((N : Nat) : Int) > s5) = false := decide_eq_false (by omega)
        simp only [d3, d4, if_true, Bool.false_eq_true, if_false, e2, Option.bind_some, same_eq (xs := ys) (by omega), e5]
        rw [if_pos ok]
        rfl
      · have d3 : decide (s5 ≥ 0) = false := decide_eq_false c3
        simp only [d3, if_true, Bool.false_eq_true, if_false, e2, Option.bind_some, same_eq (xs := ys) (by omega), e5]
        rw [if_pos ok]
        rfl

theorem kinds (n : Int) : (∃ (k rt sf : Nat) (ol : Int), KK k rt sf ol ∧ n = (k : Int)) ∨ (Fk11 n = some (.inr 31) ∧ Fk33 n = some (0, 0, 0, false)) := by
  by_cases h1 : n = 1
  · exact .inl ⟨_, _, _, _, .inl ⟨rfl, rfl, rfl, rfl⟩, h1⟩
  by_cases h2 : n = 2
  · exact .inl ⟨_, _, _, _, .inr (.inl ⟨rfl, rfl, rfl, rfl⟩), h2⟩
  by_cases h3 : n = 3
  · exact .inl ⟨_, _, _, _, .inr (.inr (.inl ⟨rfl, rfl, rfl, rfl⟩)), h3⟩
  by_cases h4 : n = 4
  · exact .inl ⟨_, _, _, _, .inr (.inr (.inr (.inl ⟨rfl, rfl, rfl, rfl⟩))), h4⟩
  by_cases h5 : n = 5
  · exact .inl ⟨_, _, _, _, .inr (.inr (.inr (.inr ⟨rfl, rfl, rfl, rfl⟩))), h5⟩
  · right
    have b : ∀ j : Int, n ≠ j → (n == j) = false := fun j hj => by simpa using hj
    constructor
    · by_cases c : n < 1
      · have d1 : decide (n < 1) = true := decide_eq_true c
        simp only [Fk11, d1, Bool.true_eq_false, if_false]
      · have d1 : decide (n < 1) = false := decide_eq_false c
        have d2 : decide (n > 5) = true := decide_eq_true (by omega)
        simp only [Fk11, d1, d2, if_true]
    · simp only [Fk33, b 1 h1, b 2 h2, b 3 h3, b 4 h4, b 5 h5, Bool.false_eq_true, if_false]

theorem begun_yes {k rt sf : Nat} {ol : Int} (K : KK k rt sf ol) (a : Sk) (b : Rk) (xs : List Int) : Fk21v (((), ()), a, b, xs, (k : Int)) = some (.inl (true, true, ((), ()), ((k : Int), (fun _ => 0), 0, false, ol), ((k : Int), (), false, 0, (fun _ => 0), 0), [])) := by
  simp only [Fk21v, K.new, K.kind, Option.bind_some]
  rfl
theorem begun_no {n : Int} (h1 : Fk11 n = some (.inr 31)) (h2 : Fk33 n = some (0, 0, 0, false)) (a : Sk) (b : Rk) (xs : List Int) : Fk21v (((), ()), a, b, xs, n) = some (.inl (true, false, ((), ()), a, b, xs)) := by
  obtain ⟨t1, t2, t3, t4, t5, t6⟩ := b
  cases t2
  simp only [Fk21v, h1, h2, Option.bind_some]
  rfl

def otherL : List Int := ((((((((((((((List.replicate 13 (0 : Int)).set 0 116).set 1 104).set 2 101).set 3 32).set 4 111).set 5 116).set 6 104).set 7 101).set 8 114).set 9 32).set 10 111).set 11 110).set 12 101)
theorem otherL_byt : Byt otherL := Byt_mem.2 (by decide +kernel)

/-- the other sponge: whatever comes of it -/
theorem other {m : Nat} (hm : m ≤ 6600000) {a : Sk} {b : Rk} {xs : List Int} (H : Tw m a b xs) (hl : xs.length ≤ 140737488351232) : ∃ e a' ys e2 a2, Fk12 (a, otherL) = some (e, a') ∧ Fk13 (a', 9) = some (ys, e2, a2) := by
  have hol : otherL.length = 13 := rfl
  have go : ∀ {m : Nat} (hm : m ≤ 6600000) {a : Sk} {b : Rk} {xs : List Int} (H : Tw m a b xs) (hl : xs.length ≤ 140737488351232 + 13), ∃ ys e2 a2, Fk13 (a, 9) = some (ys, e2, a2) := by
    intro m hm a b xs H hl
    obtain ⟨k, rt, sf, ol, K, hb, ⟨r, L, p, rfl, hQ, hp, hA, rfl⟩ | ⟨q, r, a0, l0, rfl, hS, hR, hq, l1, l2⟩⟩ := H
    · obtain ⟨o1, o2⟩ := K.ol_le
      by_cases c : 0 ≤ ol ∧ ol < 9
      · exact ⟨_, _, _, read_more K (by decide) (by decide) c.1 c.2⟩
      · obtain ⟨r', a', l', e1, _⟩ := read_first K (l := ol) (n := 9) (by decide) (by omega) (by omega) hQ hp
        exact ⟨_, _, _, e1⟩
    · obtain ⟨o1, o2⟩ := K.ol_le
      have hl65 : l0 ≤ 65536 := by
        by_cases h : ol < 0
        · have := l1 h; omega
        · have := (l2 (by omega)).1; omega
      by_cases c : 0 ≤ l0 ∧ l0 < 9
      · exact ⟨_, _, _, read_more K (by decide) (by decide) c.1 c.2⟩
      · obtain ⟨r', a', l', e1, _⟩ := read_next K (l := l0) (n := 9) (by decide) (by omega) hl65 hS
        exact ⟨_, _, _, e1⟩
  rcases tw_write H otherL_byt (by omega) with ⟨_, h1⟩ | ⟨_, a', h1, h2⟩
  · obtain ⟨ys, e2, a2, h3⟩ := go hm H (by omega)
    exact ⟨_, _, _, _, _, h1, h3⟩
  · obtain ⟨ys, e2, a2, h3⟩ := go hm h2 (by rw [List.length_append]; omega)
    exact ⟨_, _, _, _, _, h1, h3⟩

/-- one step of the play -/
theorem play_step {m : Nat} (hm : m ≤ 6600000) {a : Sk} {b : Rk} {xs ys : List Int} (H : Tw m a b xs) (hy : Byt ys) (hl : xs.length + ys.length ≤ 140737488351232) (kd n : Int) :
    ∃ a' b' xs', Fk22 (((), ()), a, b, xs, (kd, n, ys)) = some (.inl (true, ((), ()), a', b', xs')) ∧ Tw (m + 65536) a' b' xs' ∧ xs'.length ≤ xs.length + ys.length := by
  have H' := tw_mono (m' := m + 65536) (by omega) H
  have ho := other hm H (by omega)
  have hw := tw_write H hy (by omega)
  have hr := play_read hm H (by omega) n
  obtain ⟨s1, s2, s3, s4, s5⟩ := a
  obtain ⟨t1, t2, t3, t4, t5, t6⟩ := b
  cases t2
  by_cases k1 : kd = 1
  · subst k1
    have c1 : ((1 : Int) == 1) = true := rfl
    simp only [Fk22, c1, if_true, own_eq (xs := ys) (by omega), Option.bind_some, own_take, still_eq (xs := ys) (by omega)]
    rcases hw with ⟨h0, h1⟩ | ⟨h0, a', h1, h2⟩
    · have h0 : t3 = true := h0
      subst h0
      rw [h1]
      simp only [Option.bind_some]
      rw [scratch (by omega)]
      simp only [Option.bind_some, if_true]
      exact ⟨_, _, _, rfl, H', by omega⟩
    · have h0 : t3 = false := h0
      subst h0
      rw [h1]
      simp only [Option.bind_some]
      obtain ⟨u1, u2, u3, u4, u5⟩ := a'
      rw [scratch (by omega)]
      simp only [Option.bind_some, if_true, Bool.false_eq_true, if_false]
      rw [if_pos (by unfold okBytes; omega)]
      exact ⟨_, _, _, rfl, tw_mono (by omega) h2, by simp⟩
  · have c1 : (kd == 1) = false := by simpa using k1
    by_cases k2 : kd = 2
    · subst k2
      have c2 : ((2 : Int) == 2) = true := rfl
      obtain ⟨a', b', h1, h2⟩ := hr
      obtain ⟨u1, u2, u3, u4, u5⟩ := a'
      obtain ⟨v1, v2, v3, v4, v5, v6⟩ := b'
      cases v2
      simp only [Fk22, c1, c2, if_true, Bool.false_eq_true, if_false, h1, Option.bind_some]
      exact ⟨_, _, _, rfl, h2, by omega⟩
    · have c2 : (kd == 2) = false := by simpa using k2
      obtain ⟨e, a', zs, e2, a2, h1, h2⟩ := ho
      obtain ⟨u1, u2, u3, u4, u5⟩ := a'
      have h1' : Fk12 ((s1, s2, s3, s4, s5), ((((((((((((((List.replicate 13 (0 : Int)).set 0 116).set 1 104).set 2 101).set 3 32).set 4 111).set 5 116).set 6 104).set 7 101).set 8 114).set 9 32).set 10 111).set 11 110).set 12 101)) = some (e, (u1, u2, u3, u4, u5)) := h1
      by_cases k3 : kd = 3
      · subst k3
        have c3 : ((3 : Int) == 3) = true := rfl
        simp only [Fk22, Fk25, c1, c2, c3, if_true, Bool.false_eq_true, if_false, Option.bind_some, h1', h2]
        exact ⟨_, _, _, rfl, H', by omega⟩
      · have c3 : (kd == 3) = false := by simpa using k3
        by_cases k4 : kd = 4
        · subst k4
          have c4 : ((4 : Int) == 4) = true := rfl
          simp only [Fk22, Fk25, c1, c2, c3, c4, if_true, Bool.false_eq_true, if_false, Option.bind_some, h1', h2]
          exact ⟨_, _, _, rfl, H', by omega⟩
        · have c4 : (kd == 4) = false := by simpa using k4
          by_cases k5 : kd = 5
          · subst k5
            have c5 : ((5 : Int) == 5) = true := rfl
            rcases kinds n with ⟨k, rt, sf, ol, K, rfl⟩ | ⟨n1, n2⟩
            · simp only [Fk22, c1, c2, c3, c4, c5, if_true, Bool.false_eq_true, if_false, Option.bind_some, begun_yes K]
              exact ⟨_, _, _, rfl, tw_new K _, by simp⟩
            · simp only [Fk22, c1, c2, c3, c4, c5, if_true, Bool.false_eq_true, if_false, Option.bind_some, begun_no n1 n2]
              exact ⟨_, _, _, rfl, H', by omega⟩
          · have c5 : (kd == 5) = false := by simpa using k5
            simp only [Fk22, c1, c2, c3, c4, c5, Bool.false_eq_true, if_false]
            exact ⟨_, _, _, rfl, H', by omega⟩

/-! ### the law -/
abbrev Op := Int × (Int × List Int)
def opTot (os : List Op) : Nat := massL (fun o => o.2.2.length) os
theorem opTot_take {os : List Op} : ∀ {i : Nat} (hi : i < os.length), opTot (os.take (i + 1)) = opTot (os.take i) + os[i].2.2.length := by
  induction os with
  | nil => intro i hi; simp at hi
  | cons o os ih =>
    intro i hi
    cases i with
    | zero => simp [opTot, massL]
    | succ i =>
      have := ih (i := i) (by simpa using hi)
      simp only [List.take_succ_cons, opTot, massL, List.getElem_cons_succ] at this ⊢
      omega
theorem opTot_le {os : List Op} : ∀ i, opTot (os.take i) ≤ opTot os := by
  induction os with
  | nil => intro i; simp [opTot, massL]
  | cons o os ih =>
    intro i
    cases i with
    | zero => simp [opTot, massL]
    | succ i =>
      have := ih i
      simp only [List.take_succ_cons, opTot, massL] at this ⊢
      omega

theorem getD_at {α : Type} (l : List α) (i : Nat) (d : α) (h : i < l.length) : l.getD i d = l[i] := by simp [List.getD_eq_getElem?_getD, h]

theorem play_loop {os : List Op} (hb : ∀ o ∈ os, Byt o.2.2) (ht : opTot os ≤ 1048576) (hlen : os.length ≤ 9000000000000000) {a : Sk} {b : Rk} (H : Tw 0 a b []) :
    loopO stepk6_0 (os, 0, ((), ()), a, b, []) = some (.inr ()) := by
  refine Ret.eq ?_
  refine loopO_inv2 (fun i z => ∃ a b xs, z = (os, ((i : Nat) : Int), ((), ()), a, b, xs) ∧ Tw (65536 * i) a b xs ∧ xs.length ≤ opTot (os.take i) ∧ i ≤ os.length) 100 ⟨a, b, [], rfl, H, by simp, by omega⟩ ?_
  rintro i z hi ⟨a, b, xs, rfl, H, hx, hio⟩
  by_cases h1 : i < os.length
  · have d1 : decide (((i : Nat) : Int) < ((os.length : Nat) : Int)) = true := decide_eq_true (by omega)
    by_cases h2 : i < 100
    · left
      have d2 : decide (((i : Nat) : Int) < 100) = true := decide_eq_true (by omega)
      have hget : os.getD i (DT.dflt (.pair (.int .i64) (.pair (.int .i64) (.sl (.int .u8))))) = os[i] := getD_at (α := Op) os i _ h1
      have htk := opTot_take h1
      have hle := opTot_le (os := os) (i + 1)
      obtain ⟨a', b', xs', e1, H2, hx2⟩ := play_step (m := 65536 * i) (by omega) H (hb _ (List.getElem_mem h1)) (by omega) os[i].1 os[i].2.1
      obtain ⟨l, e2, e3, e4⟩ := tw_left (by omega) H2
      have w : IntKind.i64.wrap (((i : Nat) : Int) + 1) = ((i + 1 : Nat) : Int) := by rw [wi64 (by omega) (by omega)]; omega
      obtain ⟨s1, s2, s3, s4, s5⟩ := a
      obtain ⟨t1, t2, t3, t4, t5, t6⟩ := b
      cases t2
      obtain ⟨u1, u2, u3, u4, u5⟩ := a'
      obtain ⟨v1, v2, v3, v4, v5, v6⟩ := b'
      cases v2
      have e1' : Fk22 (((), ()), (s1, s2, s3, s4, s5), (t1, (), t3, t4, t5, t6), xs, (os[i].1, os[i].2.1, os[i].2.2)) = some (.inl (true, ((), ()), (u1, u2, u3, u4, u5), (v1, (), v3, v4, v5, v6), xs')) := e1
      simp only [stepk6_0, d1, d2, if_true, Int.toNat_natCast, hget, e1', Option.bind_some, Bool.not_true, e2, e3, bne_self_eq_false, Bool.false_eq_true, if_false, w]
      rw [if_pos (by omega)]
      exact ⟨_, h2, rfl, _, _, _, rfl, by rw [show 65536 * (i + 1) = 65536 * i + 65536 by omega]; exact H2, by omega, by omega⟩
    · right
      have d2 : decide (((i : Nat) : Int) < 100) = false := decide_eq_false (by omega)
      simp only [stepk6_0, d1, d2, if_true, Bool.false_eq_true, if_false]
      exact ⟨_, rfl, rfl⟩
  · right
    have d1 : decide (((i : Nat) : Int) < ((os.length : Nat) : Int)) = false := decide_eq_false (by omega)
    simp only [stepk6_0, d1, Bool.false_eq_true, if_false]
    exact ⟨_, rfl, rfl⟩

theorem Plays_law {n : Int} {os : List Op} (hb : ∀ o ∈ os, Byt o.2.2) (ht : opTot os ≤ 1048576) (hlen : os.length ≤ 9000000000000000) : Fk6 (n, os) = some true := by
  rcases kinds n with ⟨k, rt, sf, ol, K, rfl⟩ | ⟨n1, n2⟩
  · have e : Fk21 (((), ()), (k : Int)) = some (.inl (true, true, ((), ()), ((k : Int), (fun _ => 0), 0, false, ol), ((k : Int), (), false, 0, (fun _ => 0), 0))) := by
      simp only [Fk21, K.new, K.kind, Option.bind_some]
      rfl
    simp only [Fk6, awake_true, e, Option.bind_some, Bool.not_true, Bool.false_eq_true, if_false, play_loop hb ht hlen (tw_new K 0), if_true]
  · have e : Fk21 (((), ()), n) = some (.inr (.inl (true, false, ((), ())))) := by
      simp only [Fk21, n1, n2, Option.bind_some]
      rfl
    simp only [Fk6, awake_true, e, Option.bind_some, Bool.not_true, Bool.not_false, Bool.false_eq_true, if_false, if_true]
end Go.Abs
