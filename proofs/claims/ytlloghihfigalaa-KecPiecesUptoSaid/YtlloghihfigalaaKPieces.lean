/- The law of the pieces. -/
import Derived.Test.YtlloghihfigalaaKSums
set_option linter.unusedVariables false
set_option linter.unusedSimpArgs false
set_option maxRecDepth 100000
namespace Go.Abs
open Go.RowKit

theorem outs_app (rt : Nat) (L : Nat → Nat) (q n : Nat) : outs rt L 0 q ++ outs rt L q n = outs rt L 0 (q + n) := by
  unfold outs
  rw [List.range_add, List.map_append, List.map_map]
  congr 1
  apply List.map_congr_left
  intro j _
  simp

theorem getD_at {α : Type} (xs : List α) (i : Nat) (d : α) (h : i < xs.length) : xs[i]? = some (xs.getD i d) := by
  rw [List.getD_eq_getElem?_getD, List.getElem?_eq_getElem h]; rfl

def tot (xs : List (List Int)) : Nat := (xs.map List.length).sum
theorem flat_len (xs : List (List Int)) : xs.flatten.length = tot xs := by simp [tot, List.length_flatten]
theorem tot_take (xs : List (List Int)) (i : Nat) : tot (xs.take i) ≤ tot xs := by
  have h : tot (xs.take i) + tot (xs.drop i) = tot xs := by
    unfold tot
    rw [← List.sum_append, ← List.map_append, List.take_append_drop]
  omega

section
variable {k rt : Nat} (K : KK k rt 31 (-1)) (hk : k = 4 ∨ k = 5)
include K hk

omit hk in
theorem in_loop {x0 : List (List Int)} (h0 : ∀ c ∈ x0, Byt c) (g0 : tot x0 ≤ 1048576) (x1 : List Int) :
    Ret (loopO stepk4_0 (x0, x1, (k : Int), 0, ((k : Int), (fun _ => 0), 0, false, -1), ([] : List Int))) fun z => ∃ (xs : List Int) (r : Nat → Int), Byt xs ∧ xs.length ≤ 1048576 ∧ z = .inr (x1, (k : Int), ((k : Int), r, ((absN rt (zeroN, 0) (nats xs)).2 : Int), false, -1), xs) ∧ Q r (absN rt (zeroN, 0) (nats xs)).1 := by
  obtain ⟨k1, k2, k3, k4, k5⟩ := K.rt_pos
  have hb : ∀ i, Byt (x0.take i).flatten := fun i => Byt_mem.2 fun y hy => by
    obtain ⟨c, hc, hy⟩ := List.mem_flatten.1 hy
    exact Byt_mem.1 (h0 c (List.mem_of_mem_take hc)) y hy
  have hl : ∀ i, (x0.take i).flatten.length ≤ 1048576 := fun i => by rw [flat_len]; exact Nat.le_trans (tot_take x0 i) g0
  refine loopO_inv (fun i s => ∃ r, s = (x0, x1, (k : Int), (i : Int), ((k : Int), r, ((absN rt (zeroN, 0) (nats (x0.take i).flatten)).2 : Int), false, -1), (x0.take i).flatten) ∧ Q r (absN rt (zeroN, 0) (nats (x0.take i).flatten)).1) (min x0.length 100) ⟨_, rfl, zero_Q⟩ ?_ ?_
  · rintro i s hi ⟨r, rfl, hr⟩
    have d1 : decide ((i : Int) < (x0.length : Int)) = true := by simp; omega
    have d2 : decide ((i : Int) < 100) = true := by simp; omega
    obtain ⟨c, hcd⟩ : ∃ c, c = x0.getD i (DT.dflt (.sl (.int .u8))) := ⟨_, rfl⟩
    have hci : x0[i]? = some c := by rw [hcd]; exact getD_at x0 i _ (by omega)
    have hcm : c ∈ x0 := List.mem_of_getElem? hci
    have htk : (x0.take (i + 1)).flatten = (x0.take i).flatten ++ c := by rw [List.take_add_one, hci]; simp
    have hle := hl (i + 1)
    rw [htk, List.length_append] at hle
    obtain ⟨r', e1, e2⟩ := write_eq K (l := -1) (h0 c hcm) (by omega) hr (absN_lt (xs := nats (x0.take i).flatten) (s := (zeroN, 0)) (by show 0 < rt; omega))
    have w : IntKind.i64.wrap ((i : Int) + 1) = ((i + 1 : Nat) : Int) := by rw [wi64 (by omega) (by omega)]; omega
    have hab : absN rt ((absN rt (zeroN, 0) (nats (x0.take i).flatten)).1, (absN rt (zeroN, 0) (nats (x0.take i).flatten)).2) (nats c) = absN rt (zeroN, 0) (nats (x0.take (i + 1)).flatten) := by
      rw [htk]; unfold nats; rw [List.map_append, absN_append]
    rw [hab] at e1 e2
    simp only [stepk4_0, d1, d2, if_true, Int.toNat_natCast, ← hcd]
    rw [if_pos (by omega), e1]
    simp only [Option.bind_some]
    rw [if_neg (by decide), if_pos (by omega), if_pos (by unfold okBytes; omega), w, ← htk]
    exact ⟨_, rfl, r', rfl, e2⟩
  · rintro s ⟨r, rfl, hr⟩
    refine ⟨.inr (x1, (k : Int), ((k : Int), r, ((absN rt (zeroN, 0) (nats (x0.take (min x0.length 100)).flatten)).2 : Int), false, -1), (x0.take (min x0.length 100)).flatten), ?_, _, r, hb _, hl _, rfl, hr⟩
    by_cases h : x0.length ≤ 100
    · have d1 : decide (((min x0.length 100 : Nat) : Int) < (x0.length : Int)) = false := by simp; omega
      simp only [stepk4_0, d1, Bool.false_eq_true, if_false]
    · have d1 : decide (((min x0.length 100 : Nat) : Int) < (x0.length : Int)) = true := by simp; omega
      have d2 : decide (((min x0.length 100 : Nat) : Int) < 100) = false := by simp; omega
      simp only [stepk4_0, d1, d2, Bool.false_eq_true, if_false, if_true]

/-- the sponge before a read: fresh, or read up to q -/
def Rd (rt : Nat) (A : (Nat → Nat) × Nat) (q : Nat) (r : Nat → Int) (a : Int) (o : Bool) : Prop :=
  (o = false ∧ q = 0 ∧ Q r A.1 ∧ a = (A.2 : Int)) ∨ (o = true ∧ SQ rt (finN rt 31 A) q r a)

omit hk in
theorem read_any {A : (Nat → Nat) × Nat} (hA : A.2 < rt) {q n : Nat} (hn : n ≤ 65536) {r : Nat → Int} {a : Int} {o : Bool} (h : Rd rt A q r a o) :
    ∃ r' a', Fk13 (((k : Int), r, a, o, -1), (n : Int)) = some ((outs rt (finN rt 31 A) q n, 0), ((k : Int), r', a', true, -1)) ∧ Rd rt A (q + n) r' a' true := by
  rcases h with ⟨rfl, rfl, hQ, rfl⟩ | ⟨rfl, hS⟩
  · obtain ⟨r', a', l', e1, e2, e3, _⟩ := read_first K (l := -1) hn (.inl (by decide)) (by decide) hQ hA
    rw [e3 (by decide)] at e1
    exact ⟨r', a', e1, .inr ⟨rfl, by rw [Nat.zero_add]; exact e2⟩⟩
  · obtain ⟨r', a', l', e1, e2, e3, _⟩ := read_next K (l := -1) hn (.inl (by decide)) (by decide) hS
    rw [e3 (by decide)] at e1
    exact ⟨r', a', e1, .inr ⟨rfl, e2⟩⟩

omit hk in
theorem out_loop {A : (Nat → Nat) × Nat} (hA : A.2 < rt) (x1 : List Int) (xs : List Int) {r : Nat → Int} (hQ : Q r A.1) :
    Ret (loopO stepk4_1 (x1, (k : Int), 0, ((k : Int), r, (A.2 : Int), false, -1), xs, ([] : List Int))) fun z => ∃ q, q ≤ 9980 ∧ z = .inr ((k : Int), xs, outs rt (finN rt 31 A) 0 q) := by
  refine loopO_inv (fun i s => ∃ q r a o, q ≤ 499 * i ∧ s = (x1, (k : Int), (i : Int), ((k : Int), r, a, o, -1), xs, outs rt (finN rt 31 A) 0 q) ∧ Rd rt A q r a o) (min x1.length 20) ⟨0, r, _, false, by omega, rfl, .inl ⟨rfl, rfl, hQ, rfl⟩⟩ ?_ ?_
  · rintro i s hi ⟨q, r, a, o, hq, rfl, hR⟩
    have d1 : decide ((i : Int) < (x1.length : Int)) = true := by simp; omega
    have d2 : decide ((i : Int) < 20) = true := by simp; omega
    have w : IntKind.i64.wrap ((i : Int) + 1) = ((i + 1 : Nat) : Int) := by rw [wi64 (by omega) (by omega)]; omega
    obtain ⟨v, hv⟩ : ∃ v, v = (x1.getD i 0).tmod 500 := ⟨_, rfl⟩
    have hv1 : -500 < v ∧ v < 500 := by
      have h1 := Int.tmod_lt_of_pos (x1.getD i 0) (b := 500) (by decide)
      have h2 := Int.lt_tmod_of_pos (x1.getD i 0) (b := 500) (by decide)
      rw [hv]; exact ⟨h2, h1⟩
    simp only [stepk4_1, d1, d2, if_true, Int.toNat_natCast, ← hv]
    rw [if_pos (by omega)]
    have fin : ∀ n : Nat, n ≤ 499 → ∃ r' a', Fk13 (((k : Int), r, a, o, -1), (n : Int)) = some ((outs rt (finN rt 31 A) q n, 0), ((k : Int), r', a', true, -1)) ∧ Rd rt A (q + n) r' a' true := fun n hn => read_any K hA (by omega) hR
    by_cases hneg : v < 0
    · have d3 : decide (v < 0) = true := by simp [hneg]
      obtain ⟨n, hn⟩ : ∃ n : Nat, IntKind.i64.wrap (0 - v) = (n : Int) ∧ n ≤ 499 := ⟨(-v).toNat, by rw [wi64 (by omega) (by omega)]; omega, by omega⟩
      obtain ⟨r', a', e1, e2⟩ := fin n hn.2
      have hne : (((outs rt (finN rt 31 A) q n).length : Int) != (n : Int)) = false := by rw [outs_len]; simp
      simp only [d3, if_true, hn.1]
      rw [e1]
      simp only [Option.bind_some]
      rw [if_pos (by rfl)]
      simp only [hne, Bool.false_eq_true, if_false]
      rw [if_pos (by unfold okBytes; rw [outs_len, outs_len]; omega), w, outs_app]
      exact ⟨_, rfl, q + n, r', a', true, by omega, rfl, e2⟩
    · have d3 : decide (v < 0) = false := by simp; omega
      obtain ⟨n, hn, hn2⟩ : ∃ n : Nat, v = (n : Int) ∧ n ≤ 499 := ⟨v.toNat, by omega, by omega⟩
      subst hn
      obtain ⟨r', a', e1, e2⟩ := fin n hn2
      have hne : ¬ (((outs rt (finN rt 31 A) q n).length : Int) != (n : Int)) = true := by rw [outs_len]; simp
      simp only [d3, Bool.false_eq_true, if_false]
      rw [e1]
      simp only [Option.bind_some]
      rw [if_pos (by rfl), if_neg hne, if_pos (by unfold okBytes; rw [outs_len, outs_len]; omega), w, outs_app]
      exact ⟨_, rfl, q + n, r', a', true, by omega, rfl, e2⟩
  · rintro s ⟨q, r, a, o, hq, rfl, hR⟩
    refine ⟨.inr ((k : Int), xs, outs rt (finN rt 31 A) 0 q), ?_, q, by omega, rfl⟩
    by_cases h : x1.length ≤ 20
    · have d1 : decide (((min x1.length 20 : Nat) : Int) < (x1.length : Int)) = false := by simp; omega
      simp only [stepk4_1, d1, Bool.false_eq_true, if_false]
    · have d1 : decide (((min x1.length 20 : Nat) : Int) < (x1.length : Int)) = true := by simp; omega
      have d2 : decide (((min x1.length 20 : Nat) : Int) < 20) = false := by simp; omega
      simp only [stepk4_1, d1, d2, Bool.false_eq_true, if_false, if_true]

/-- the check at the end -/
theorem tail_eq {xs : List Int} (hx : Byt xs) (hlen : xs.length ≤ 1048576) {q : Nat} (hq : q ≤ 9980) {ys : List Int} (hys : ys = outs rt (finN rt 31 (absN rt (zeroN, 0) (nats xs))) 0 q) :
    ((Fk14 ((k : Int), xs, (ys.length : Int))).bind fun (y24, y25) =>
      (Fk14 ((k : Int), xs, (IntKind.i64.wrap ((ys.length : Int) + 37)))).bind fun (y26, y27) =>
        if (y25 == 0) = true then
          if (y27 == 0) = true then
            (Fk15 (y24, ys)).bind fun y28 =>
              if y28 = true then
                let x29 : Bool := ((y26.length : Int) == (IntKind.i64.wrap ((ys.length : Int) + 37)))
                if x29 = true then
                  if (0 : Int) ≤ (ys.length : Int) ∧ (ys.length : Int) ≤ (y26.length : Int) then
                    (Fk15 (((y26.drop 0).take ((ys.length : Int).toNat - 0)), ys)).bind fun y30 =>
                      some y30
                  else none
                else
                  some false
              else
                some false
          else
            some false
        else
          some false) = some true := by
  have hl : ys.length = q := by rw [hys, outs_len]
  have w : IntKind.i64.wrap ((q : Int) + 37) = ((q + 37 : Nat) : Int) := by rw [wi64 (by omega) (by omega)]; omega
  rw [hl, w, shake_good K hk hx (by omega) (n := q) (by omega)]
  simp only [Option.bind_some]
  rw [shake_good K hk hx (by omega) (n := q + 37) (by omega)]
  simp only [Option.bind_some]
  have s1 : sumN rt 31 q xs = ys := by rw [hys]; rfl
  have s2 : ((sumN rt 31 (q + 37) xs).drop 0).take ((q : Int).toNat - 0) = ys := by
    rw [Int.toNat_natCast, Nat.sub_zero, List.drop_zero, hys]
    unfold sumN
    rw [← outs_app]
    rw [List.take_append_of_le_length (by rw [outs_len]; exact Nat.le_refl _), List.take_of_length_le (by rw [outs_len]; exact Nat.le_refl _)]
  have hb : (((sumN rt 31 (q + 37) xs).length : Int) == ((q + 37 : Nat) : Int)) = true := by rw [sumN_len]; simp
  rw [if_pos (by rfl), if_pos (by rfl), s1, same_eq (by rw [hl]; omega)]
  simp only [Option.bind_some, if_true, hb]
  rw [if_pos (by rw [sumN_len]; omega), s2, same_eq (by rw [hl]; omega)]
  rfl

theorem pieces_one {x0 : List (List Int)} (h0 : ∀ c ∈ x0, Byt c) (g0 : tot x0 ≤ 1048576) (x1 : List Int) :
    ((loopO stepk4_0 (x0, x1, (k : Int), 0, ((k : Int), (fun _ => 0), 0, false, -1), ([] : List Int))).bind fun
      | (.inl z7) => some z7
      | (.inr (z8, z9, z10, z11)) =>
        (loopO stepk4_1 (z8, z9, 0, (z10.1, z10.2.1, z10.2.2.1, z10.2.2.2.1, z10.2.2.2.2), z11, ([] : List Int))).bind fun
          | (.inl z20) => some z20
          | (.inr (z21, z22, z23)) =>
            (Fk14 (z21, z22, (z23.length : Int))).bind fun (y24, y25) =>
              (Fk14 (z21, z22, (IntKind.i64.wrap ((z23.length : Int) + 37)))).bind fun (y26, y27) =>
                if (y25 == 0) = true then
                  if (y27 == 0) = true then
                    (Fk15 (y24, z23)).bind fun y28 =>
                      if y28 = true then
                        let x29 : Bool := ((y26.length : Int) == (IntKind.i64.wrap ((z23.length : Int) + 37)))
                        if x29 = true then
                          if (0 : Int) ≤ (z23.length : Int) ∧ (z23.length : Int) ≤ (y26.length : Int) then
                            (Fk15 (((y26.drop 0).take ((z23.length : Int).toNat - 0)), z23)).bind fun y30 =>
                              some y30
                          else none
                        else
                          some false
                      else
                        some false
                  else
                    some false
                else
                  some false) = some true := by
  obtain ⟨k1, k2, k3, k4, k5⟩ := K.rt_pos
  obtain ⟨z, e1, xs, r, hx, hlen, rfl, hr⟩ := in_loop K h0 g0 x1
  rw [e1]
  simp only [Option.bind_some]
  obtain ⟨z, e2, q, hq, rfl⟩ := out_loop K (absN_lt (xs := nats xs) (s := (zeroN, 0)) (by show 0 < rt; omega)) x1 xs hr
  rw [e2]
  simp only [Option.bind_some]
  exact tail_eq K hk hx hlen hq rfl
end

theorem Pieces_law (x0 : List (List Int)) (x1 : List Int) (x2 : Int) (h0 : ∀ c ∈ x0, ∀ y ∈ c, (Lit.int .u8 y).wf = true) (g0 : tot x0 ≤ 1048576) : Fk4 (x0, x1, x2) = some true := by
  have hb : ∀ c ∈ x0, Byt c := fun c hc i hi => bytes_in (h0 c hc) i
  simp only [Fk4]
  rw [awake_true]
  simp only [Option.bind_some]
  split
  · have h := K5.new
    have h' : Fk11 5 = some (.inl ((5, (fun _ => 0), 0, false, -1), 0)) := h
    rw [h']
    simp only [Option.bind_some]
    exact pieces_one K5 (.inr rfl) hb g0 x1
  · have h := K4.new
    have h' : Fk11 4 = some (.inl ((4, (fun _ => 0), 0, false, -1), 0)) := h
    rw [h']
    simp only [Option.bind_some]
    exact pieces_one K4 (.inl rfl) hb g0 x1
end Go.Abs
