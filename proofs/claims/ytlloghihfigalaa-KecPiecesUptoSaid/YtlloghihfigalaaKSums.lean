/- The law of the sums. -/
import Derived.Test.YtlloghihfigalaaKSponge4
set_option linter.unusedVariables false
set_option linter.unusedSimpArgs false
set_option maxRecDepth 100000
namespace Go.Abs
open Go.RowKit

theorem same_eq {xs : List Int} (hlen : xs.length ≤ 9000000000000000) : Fk15 (xs, xs) = some true := by
  have h : Ret (loopO stepk15_0 (xs, xs, 0)) (· = .inr ()) := by
    refine loopO_inv (fun i s => s = (xs, xs, (i : Int))) xs.length rfl ?_ ?_
    · rintro i s hi rfl
      have d1 : decide ((i : Int) < (xs.length : Int)) = true := by simp; omega
      have w : IntKind.i64.wrap ((i : Int) + 1) = ((i + 1 : Nat) : Int) := by rw [wi64 (by omega) (by omega)]; omega
      simp only [stepk15_0, d1, if_true, w]
      rw [if_pos (by omega), if_pos (by omega), if_neg (by simp)]
      exact ⟨_, rfl, rfl⟩
    · rintro s rfl
      have d1 : decide ((xs.length : Int) < (xs.length : Int)) = false := by simp
      simp only [stepk15_0, d1, Bool.false_eq_true, if_false]
      exact ⟨_, rfl, rfl⟩
  simp only [Fk15]
  rw [if_neg (by simp), h.eq]
  rfl

theorem own_eq {xs : List Int} (hlen : xs.length ≤ 140737488351232) : Fk16 xs = some (xs ++ [77], xs.length) := by
  simp only [Fk16]
  rw [if_pos (by unfold okBytes; simp; omega), if_pos (by unfold okBytes; simp; omega), if_pos (by simp; omega)]
  rfl
theorem own_take (xs : List Int) (v : Int) : ((xs ++ [v]).drop 0).take xs.length = xs := by simp
theorem still_eq {xs : List Int} (hlen : xs.length ≤ 140737488351232) : Fk19 ((xs ++ [77], xs.length), xs) = some true := by
  have e : (xs ++ [(77 : Int)]).take xs.length = xs := by simp
  have w : IntKind.i64.wrap ((xs.length : Int) + 1) = ((xs.length + 1 : Nat) : Int) := by rw [wi64 (by omega) (by omega)]; omega
  have g : (xs ++ [(77 : Int)]).getD xs.length 0 = 77 := by simp [List.getD_eq_getElem?_getD]
  simp only [Fk19]
  rw [e, same_eq (by omega)]
  simp only [Option.bind_some, if_true, w, Int.toNat_natCast]
  rw [if_pos (by simp; omega), if_pos (by omega), g]
  rfl

theorem K1 : KK 1 136 6 32 := .inl ⟨rfl, rfl, rfl, rfl⟩
theorem K3 : KK 3 72 6 64 := .inr (.inr (.inl ⟨rfl, rfl, rfl, rfl⟩))
theorem K4 : KK 4 168 31 (-1) := .inr (.inr (.inr (.inl ⟨rfl, rfl, rfl, rfl⟩)))
theorem K5 : KK 5 136 31 (-1) := .inr (.inr (.inr (.inr ⟨rfl, rfl, rfl, rfl⟩)))

/-- what all tells -/
def sumN (rt sf n : Nat) (xs : List Int) : List Int := outs rt (finN rt sf (absN rt (zeroN, 0) (nats xs))) 0 n
theorem sumN_len (rt sf n : Nat) (xs : List Int) : (sumN rt sf n xs).length = n := outs_len _ _ _ _

theorem back {ys : List Int} {n : Nat} (h : ys.length = n) : (List.range n).map (fun j => ys.getD (0 + (0 + j)) 0) = ys := by
  subst h
  apply List.ext_getElem
  · simp
  · intro i h1 h2
    simp [List.getD_eq_getElem?_getD, h2]

theorem sum256_eq {xs : List Int} (hx : Byt xs) (hlen : xs.length ≤ 140737488351232) : Fk17 xs = some (fun j => (sumN 136 6 32 xs).getD (0 + j) 0) := by
  have h := all_spec K1 (n := 32) (by decide) (.inr (by decide)) hx (by omega)
  have h' : Fk31 (1, xs, 32) = some (sumN 136 6 32 xs) := h
  simp only [Fk17]
  rw [h']
  simp only [Option.bind_some, sumN_len]
  rfl
theorem sum512_eq {xs : List Int} (hx : Byt xs) (hlen : xs.length ≤ 140737488351232) : Fk18 xs = some (fun j => (sumN 72 6 64 xs).getD (0 + j) 0) := by
  have h := all_spec K3 (n := 64) (by decide) (.inr (by decide)) hx (by omega)
  have h' : Fk31 (3, xs, 64) = some (sumN 72 6 64 xs) := h
  simp only [Fk18]
  rw [h']
  simp only [Option.bind_some, sumN_len]
  rfl
theorem ref1 {xs : List Int} (hx : Byt xs) (hlen : xs.length ≤ 140737488351232) : Fk20 (1, xs, 32) = some (sumN 136 6 32 xs) := ref_all K1 (n := 32) (by decide) hx hlen
theorem ref3 {xs : List Int} (hx : Byt xs) (hlen : xs.length ≤ 140737488351232) : Fk20 (3, xs, 64) = some (sumN 72 6 64 xs) := ref_all K3 (n := 64) (by decide) hx hlen

theorem shake_good {k rt : Nat} (K : KK k rt 31 (-1)) (hk : k = 4 ∨ k = 5) {xs : List Int} (hx : Byt xs) (hlen : xs.length ≤ 140737488355328) {n : Nat} (hn : n ≤ 65536) : Fk14 ((k : Int), xs, (n : Int)) = some (sumN rt 31 n xs, 0) := by
  have h : Fk31 ((k : Int), xs, (n : Int)) = some (sumN rt 31 n xs) := all_spec K hn (.inl (by decide)) hx hlen
  have d1 : decide ((n : Int) < 0) = false := by simp
  have d2 : decide ((n : Int) > 65536) = false := by simp; omega
  rcases hk with rfl | rfl
  · have e : (((4 : Nat) : Int) != 4) = false := rfl
    simp only [Fk14, e, d1, d2, Bool.false_eq_true, if_false, if_true]
    rw [h]; rfl
  · have e : (((5 : Nat) : Int) != 4) = true := rfl
    have e' : (((5 : Nat) : Int) != 5) = false := rfl
    simp only [Fk14, e, e', d1, d2, Bool.false_eq_true, if_false, if_true]
    rw [h]; rfl

theorem same_some {xs : List Int} (hlen : xs.length ≤ 9000000000000000) {ys : List Int} (h : ys = xs) : Fk15 (ys, xs) = some true := by rw [h]; exact same_eq hlen

theorem Sums_law {x0 : List Int} {x1 x2 : Int} (h0 : ∀ y ∈ x0, (Lit.int .u8 y).wf = true) (g0 : x0.length * 1 ≤ 140737488351232) (h1 : (Lit.int .i64 x1).wf = true) (h2 : (Lit.int .i64 x2).wf = true) : Fk5 (x0, x1, x2) = some true := by
  have hx : Byt x0 := fun i hi => bytes_in h0 i
  have hlen : x0.length ≤ 140737488351232 := by omega
  have s1 : Fk15 ((List.range 32).map (fun j => (fun j => (sumN 136 6 32 x0).getD (0 + j) 0) (0 + j)), sumN 136 6 32 x0) = some true := same_some (by rw [sumN_len]; decide) (back (sumN_len _ _ _ _))
  have s2 : Fk15 ((List.range 64).map (fun j => (fun j => (sumN 72 6 64 x0).getD (0 + j) 0) (0 + j)), sumN 72 6 64 x0) = some true := same_some (by rw [sumN_len]; decide) (back (sumN_len _ _ _ _))
  have key : ∀ (y : List Int × Int) (T : List Int × Int → Option Bool), Fk14 (x1, x0, x2) = some y → T y = some true →
      (Fk14 (x1, x0, x2)).bind T = some true := fun y T e1 e2 => by rw [e1]; exact e2
  simp only [Fk5]
  rw [awake_true]
  simp only [Option.bind_some]
  rw [own_eq hlen]
  simp only [Option.bind_some, own_take]
  rw [sum256_eq hx hlen]
  simp only [Option.bind_some]
  rw [sum512_eq hx hlen]
  simp only [Option.bind_some]
  rw [still_eq hlen]
  simp only [Option.bind_some]
  rw [ref1 hx hlen]
  simp only [Option.bind_some]
  rw [s1]
  simp only [Option.bind_some]
  rw [ref3 hx hlen]
  simp only [Option.bind_some]
  rw [s2]
  simp only [Option.bind_some, Bool.not_true, Bool.false_eq_true, if_false, if_true]
  by_cases e4 : x1 = 4
  · subst e4
    have e : ((4 : Int) != 4) = false := rfl
    by_cases n0 : x2 < 0
    · have d : decide (x2 < 0) = true := by simp [n0]
      refine key ([], 1) _ (by simp only [Fk14, e, d, Bool.false_eq_true, if_false, Bool.true_eq_false]) ?_
      simp only [e, d, Bool.false_eq_true, if_false, Bool.true_eq_false]
      rfl
    · have d : decide (x2 < 0) = false := by simp; omega
      by_cases n1 : x2 > 65536
      · have d' : decide (x2 > 65536) = true := by simp; omega
        refine key ([], 1) _ (by simp only [Fk14, e, d, d', Bool.false_eq_true, if_false, if_true]) ?_
        simp only [e, d, d', Bool.false_eq_true, if_false, if_true]
        rfl
      · have d' : decide (x2 > 65536) = false := by simp; omega
        obtain ⟨n, rfl⟩ : ∃ n : Nat, x2 = (n : Int) := ⟨x2.toNat, by omega⟩
        have r4 : Fk20 (4, x0, (n : Int)) = some (sumN 168 31 n x0) := ref_all K4 (n := n) (by omega) hx hlen
        refine key (sumN 168 31 n x0, 0) _ (shake_good K4 (.inl rfl) hx (by omega) (by omega)) ?_
        simp only [e, d, d', Bool.false_eq_true, if_false, if_true]
        rw [if_pos (show ((0 : Int) == 0) = true from rfl), r4]
        simp only [Option.bind_some]
        rw [same_eq (by rw [sumN_len]; omega)]
        rfl
  · have e : (x1 != 4) = true := by simp [e4]
    by_cases e5 : x1 = 5
    · subst e5
      have e' : ((5 : Int) != 5) = false := rfl
      by_cases n0 : x2 < 0
      · have d : decide (x2 < 0) = true := by simp [n0]
        refine key ([], 1) _ (by simp only [Fk14, e, e', d, Bool.false_eq_true, if_false, if_true, Bool.true_eq_false]) ?_
        simp only [e, e', d, Bool.false_eq_true, if_false, if_true, Bool.true_eq_false]
        rfl
      · have d : decide (x2 < 0) = false := by simp; omega
        by_cases n1 : x2 > 65536
        · have d' : decide (x2 > 65536) = true := by simp; omega
          refine key ([], 1) _ (by simp only [Fk14, e, e', d, d', Bool.false_eq_true, if_false, if_true]) ?_
          simp only [e, e', d, d', Bool.false_eq_true, if_false, if_true]
          rfl
        · have d' : decide (x2 > 65536) = false := by simp; omega
          obtain ⟨n, rfl⟩ : ∃ n : Nat, x2 = (n : Int) := ⟨x2.toNat, by omega⟩
          have r5 : Fk20 (5, x0, (n : Int)) = some (sumN 136 31 n x0) := ref_all K5 (n := n) (by omega) hx hlen
          refine key (sumN 136 31 n x0, 0) _ (shake_good K5 (.inr rfl) hx (by omega) (by omega)) ?_
          simp only [e, e', d, d', Bool.false_eq_true, if_false, if_true]
          rw [if_pos (show ((0 : Int) == 0) = true from rfl), r5]
          simp only [Option.bind_some]
          rw [same_eq (by rw [sumN_len]; omega)]
          rfl
    · have e' : (x1 != 5) = true := by simp [e5]
      refine key ([], 31) _ (by simp only [Fk14, e, e', if_true]) ?_
      simp only [e, e', if_true]
      rfl
end Go.Abs
