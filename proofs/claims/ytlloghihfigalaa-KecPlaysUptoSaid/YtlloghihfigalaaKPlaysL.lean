/- The sponge and the reference's sponge, played side by side. -/
import Derived.Test.YtlloghihfigalaaKSponge4pL
set_option linter.unusedVariables false
set_option linter.unusedSimpArgs false
set_option maxRecDepth 100000
namespace Go.Abs
open Go.RowKit

theorem same_eq {xs : List Int} (hlen : xs.length ≤ 9000000000000000) : Fk15 (xs, xs) = some true := by
  have h : Ret (loopO stepk15_0 (xs, xs, 0)) (· = .inr ()) := by
    refine loopO_inv (fun i s => s = (xs, xs, (i : Int))) xs.length rfl ?_ ?_
    · rintro i s hi rfl
      have d1 : decide ((i : Int) < (xs.length : Int)) = true := by simp; omega
      have w : IntKind.i64.wrap ((i : Int) + 1) = ((i + 1 : Nat) : Int) := by rw [wi64 (by omega) (by omega)]; omega
      simp only [stepk15_0, d1, if_true, w]
      rw [if_pos (by omega), if_pos (by omega), if_neg (by simp)]
      exact ⟨_, rfl, rfl⟩
    · rintro s rfl
      have d1 : decide ((xs.length : Int) < (xs.length : Int)) = false := by simp
      simp only [stepk15_0, d1, Bool.false_eq_true, if_false]
      exact ⟨_, rfl, rfl⟩
  simp only [Fk15]
  rw [if_neg (by simp), h.eq]
  rfl


theorem own_eq {xs : List Int} (hlen : xs.length ≤ 140737488351232) : Fk16 xs = some (xs.length, xs ++ [77]) := by
  simp only [Fk16]
  rw [if_pos (by unfold okBytes; simp; omega), if_pos (by unfold okBytes; simp; omega), if_pos (by simp; omega)]
  rfl
theorem own_take (xs : List Int) (v : Int) : ((xs ++ [v]).drop 0).take xs.length = xs := by simp
theorem still_eq {xs : List Int} (hlen : xs.length ≤ 140737488351232) : Fk19 ((xs ++ [77], xs.length), xs) = some true := by
  have e : (xs ++ [(77 : Int)]).take xs.length = xs := by simp
  have w : IntKind.i64.wrap ((xs.length : Int) + 1) = ((xs.length + 1 : Nat) : Int) := by rw [wi64 (by omega) (by omega)]; omega
  have g : (xs ++ [(77 : Int)]).getD xs.length 0 = 77 := by simp [List.getD_eq_getElem?_getD]
  simp only [Fk19]
  rw [e, same_eq (by omega)]
  simp only [Option.bind_some, if_true, w, Int.toNat_natCast]
  rw [if_pos (by simp; omega), if_pos (by omega), g]
  rfl

abbrev Sk := Int × (Nat → Int) × Int × Bool × Int
abbrev Rk := Int × Unit × Bool × Int × (Nat → Int) × Int

/-- the two sponges hold the same, when at most m bytes are told -/
def Tw (m : Nat) (a : Sk) (b : Rk) (xs : List Int) : Prop :=
  ∃ (k rt sf : Nat) (ol : Int) (K : KK k rt sf ol), Byt xs ∧ ((∃ r L p, a = ((k : Int), r, ((p : Nat) : Int), false, ol) ∧ Q r L ∧ p < rt ∧ absN rt (zeroN, 0) (nats xs) = (L, p) ∧ b = ((k : Int), (), false, 0, (fun _ => 0), 0)) ∨
    ∃ q r a' l, a = ((k : Int), r, a', true, l) ∧ SQ rt (finN rt sf (absN rt (zeroN, 0) (nats xs))) q r a' ∧ RSP K xs q b ∧ q ≤ m ∧ (ol < 0 → l = ol) ∧ (0 ≤ ol → l = ol - q ∧ (q : Int) ≤ ol))

theorem KK.ol_le {k rt sf : Nat} {ol : Int} (K : KK k rt sf ol) : ol ≤ 64 ∧ (ol < 0 → ol = -1) := by
  rcases K with ⟨_, _, _, rfl⟩ | ⟨_, _, _, rfl⟩ | ⟨_, _, _, rfl⟩ | ⟨_, _, _, rfl⟩ | ⟨_, _, _, rfl⟩ <;> decide

theorem tw_new {k rt sf : Nat} {ol : Int} (K : KK k rt sf ol) (m : Nat) : Tw m ((k : Int), (fun _ => 0), 0, false, ol) ((k : Int), (), false, 0, (fun _ => 0), 0) [] := by
  have := K.rt_pos
  exact ⟨k, rt, sf, ol, K, fun i hi => by simp at hi, .inl ⟨_, zeroN, 0, rfl, zero_Q, by omega, rfl, rfl⟩⟩
theorem tw_mono {m m' : Nat} (h : m ≤ m') {a : Sk} {b : Rk} {xs : List Int} (H : Tw m a b xs) : Tw m' a b xs := by
  obtain ⟨k, rt, sf, ol, K, hb, h1 | ⟨q, r, a', l, h1, h2, h3, h4, h5⟩⟩ := H
  · exact ⟨k, rt, sf, ol, K, hb, .inl h1⟩
  · exact ⟨k, rt, sf, ol, K, hb, .inr ⟨q, r, a', l, h1, h2, h3, by omega, h5⟩⟩

/-- what is left: both say the same -/
theorem tw_left {m : Nat} (hm : m ≤ 8000000) {a : Sk} {b : Rk} {xs : List Int} (H : Tw m a b xs) : ∃ l, Fk23 a = some (l, a) ∧ Fk24p (b, xs) = some (l, b, xs) ∧ a.2.2.2.2 = l := by
  obtain ⟨k, rt, sf, ol, K, hb, ⟨r, L, p, rfl, hQ, hp, hA, rfl⟩ | ⟨q, r, a', l, rfl, hS, ⟨r', cnt, rfl, hQ, hc⟩, hq, l1, l2⟩⟩ := H
  · obtain ⟨o1, o2⟩ := K.ol_le
    refine ⟨ol, rfl, ?_, rfl⟩
    by_cases h : ol < 0
    · have := o2 h
      subst this
      simp only [Fk24p, K.kind, Option.bind_some]
      rfl
    · have d : decide (ol < 0) = false := decide_eq_false h
      have w : IntKind.i64.wrap (ol - 0) = ol := by rw [wi64 (by omega) (by omega)]; omega
      simp only [Fk24p, K.kind, Option.bind_some, d, Bool.false_eq_true, if_false, w]
  · obtain ⟨o1, o2⟩ := K.ol_le
    refine ⟨l, rfl, ?_, rfl⟩
    by_cases h : ol < 0
    · have := o2 h
      have := l1 h
      subst this
      subst l
      simp only [Fk24p, K.kind, Option.bind_some]
      rfl
    · have d : decide (ol < 0) = false := decide_eq_false h
      obtain ⟨l3, l4⟩ := l2 (by omega)
      have w : IntKind.i64.wrap (ol - (q : Int)) = l := by rw [wi64 (by omega) (by omega), l3]
      simp only [Fk24p, K.kind, Option.bind_some, d, Bool.false_eq_true, if_false, w]

/-- a write to the sponge -/
theorem tw_write {m : Nat} {a : Sk} {b : Rk} {xs ys : List Int} (H : Tw m a b xs) (hy : Byt ys) (hl : xs.length + ys.length ≤ 140737488355328) :
    (b.2.2.1 = true ∧ Fk12 (a, ys) = some (32, a)) ∨ (b.2.2.1 = false ∧ ∃ a', Fk12 (a, ys) = some (0, a') ∧ Tw m a' b (xs ++ ys)) := by
  obtain ⟨k, rt, sf, ol, K, hb, ⟨r, L, p, rfl, hQ, hp, hA, rfl⟩ | ⟨q, r, a', l, rfl, hS, ⟨r', cnt, rfl, hQ, hc⟩, hq, l1, l2⟩⟩ := H
  · right
    obtain ⟨r', h1, h2⟩ := write_eq K (l := ol) hy (by omega) hQ hp
    have hbb : Byt (xs ++ ys) := by
      refine Byt_mem.2 fun y hm => ?_
      rcases List.mem_append.1 hm with h | h
      · exact Byt_mem.1 hb y h
      · exact Byt_mem.1 hy y h
    refine ⟨rfl, _, h1, k, rt, sf, ol, K, hbb, .inl ⟨r', _, _, rfl, h2, absN_lt hp, ?_, rfl⟩⟩
    have : nats (xs ++ ys) = nats xs ++ nats ys := by unfold nats; rw [List.map_append]
    rw [this, absN_append, hA]
  · left
    exact ⟨rfl, by simp only [Fk12, if_true]⟩

theorem outs_len' (rt : Nat) (L : Nat → Nat) (q i : Nat) : (outs rt L q i).length = i := by simp [outs]

/-- a read of both -/
theorem tw_read {m : Nat} (hm : m ≤ 7000000) {a : Sk} {b : Rk} {xs : List Int} (H : Tw m a b xs) (hl : xs.length ≤ 140737488351232) {n : Nat} (hn : n ≤ 65536) {l : Int} (hleft : a.2.2.2.2 = l) (hfit : l < 0 ∨ (n : Int) ≤ l) :
    ∃ ys a' b', Fk13 (a, (n : Int)) = some (ys, 0, a') ∧ Fk32p (b, xs, (n : Int)) = some (ys, b', xs) ∧ ys.length = n ∧ Tw (m + n) a' b' xs := by
  obtain ⟨k, rt, sf, ol, K, hb, ⟨r, L, p, rfl, hQ, hp, hA, rfl⟩ | ⟨q, r, a0, l0, rfl, hS, hR, hq, l1, l2⟩⟩ := H
  · have hle : l = ol := hleft.symm
    subst hle
    obtain ⟨o1, o2⟩ := K.ol_le
    obtain ⟨r', a', l', e1, e2, e3, e4⟩ := read_first K (l := l) hn hfit (by omega) hQ hp
    obtain ⟨b', f1, f2⟩ := ref_firstP K hb hl hn
    rw [← hA] at e1 e2
    refine ⟨_, _, _, e1, f1, outs_len' _ _ _ _, k, rt, sf, l, K, hb, .inr ⟨n, r', a', l', rfl, e2, f2, by omega, e3, fun h => ⟨e4 h, ?_⟩⟩⟩
    rcases hfit with h | h <;> omega
  · have hle : l = l0 := hleft.symm
    subst hle
    obtain ⟨o1, o2⟩ := K.ol_le
    have hl65 : l ≤ 65536 := by
      by_cases h : ol < 0
      · have := l1 h; omega
      · have := (l2 (by omega)).1; omega
    obtain ⟨r', a', l', e1, e2, e3, e4⟩ := read_next K (l := l) hn hfit hl65 hS
    obtain ⟨b', f1, f2⟩ := ref_nextP K hn (by omega) hR
    refine ⟨_, _, _, e1, f1, outs_len' _ _ _ _, k, rt, sf, ol, K, hb, .inr ⟨q + n, r', a', l', rfl, e2, f2, by omega, ?_, ?_⟩⟩
    · intro h
      have := l1 h
      rw [e3 (by omega)]; exact this
    · intro h
      obtain ⟨h1, h2⟩ := l2 h
      have hl0 : 0 ≤ l := by omega
      have := e4 hl0
      rcases hfit with hf | hf
      · omega
      · exact ⟨by rw [this]; omega, by omega⟩

/-- a read that is too long for what is left -/
theorem read_more {k rt sf : Nat} {ol : Int} (K : KK k rt sf ol) {r : Nat → Int} {p : Int} {o : Bool} {l : Int} {n : Int} (h0 : 0 ≤ n) (h1 : n ≤ 65536) (h2 : 0 ≤ l) (h3 : l < n) : Fk13 (((k : Int), r, p, o, l), n) = some ([], 33, ((k : Int), r, p, o, l)) := by
  have d1 : decide (n < 0) = false := decide_eq_false (by omega)
  have d2 : decide (n > 65536) = false := decide_eq_false (by omega)
  have d3 : decide (l ≥ 0) = true := decide_eq_true (by omega)
  have d4 : decide (n > l) = true := decide_eq_true (by omega)
  simp only [Fk13, d1, d2, d3, d4, if_true, Bool.false_eq_true, if_false]
theorem read_out {s : Sk} {n : Int} (h : n < 0 ∨ n > 65536) : Fk13 (s, n) = some ([], 1, s) := by
  by_cases h1 : n < 0
  · have d1 : decide (n < 0) = true := decide_eq_true h1
    simp only [Fk13, d1, Bool.true_eq_false, if_false]
  · have d1 : decide (n < 0) = false := decide_eq_false h1
    have d2 : decide (n > 65536) = true := decide_eq_true (by omega)
    simp only [Fk13, d1, d2, if_true]
end Go.Abs
