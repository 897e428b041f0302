/- Hints written, by the program and by the document: the same bytes, or refused by both. -/
import Derived.Test.YthihjipdkhmgkaaHEncL
set_option linter.unusedVariables false
set_option linter.unusedSimpArgs false
set_option maxRecDepth 100000
namespace Go.Abs

def Gd (h : Nat → Int) (m : Nat) : Prop := ∀ i, i < m → h i = 0 ∨ h i = 1
theorem Gd.succ {h : Nat → Int} {m : Nat} (H : Gd h m) (e : h m = 0 ∨ h m = 1) : Gd h (m + 1) := fun i hi => by
  by_cases c : i = m
  · subst c; exact e
  · exact H i (by omega)

theorem hin {h : Nat → Int} {r : Nat} (hr : r < 6) (hg : Gd h (256 * r)) (hc : cn h (256 * r) ≤ 55) :
    Ret (loopO steph5_1 (((cn h (256 * r) : Nat) : Int), (r : Int), h, (r : Int), (fun j => h (r * 256 + j)), 0, LL 61 (rf h (256 * r) r))) fun y =>
      (y = .inl (93, []) ∧ ¬ Okh h) ∨ (y = .inr (((cn h (256 * (r + 1)) : Nat) : Int), (r : Int), h, (r : Int), LL 61 (rf h (256 * (r + 1)) r)) ∧ Gd h (256 * (r + 1)) ∧ cn h (256 * (r + 1)) ≤ 55) := by
  refine loopO_inv2 (fun i s => s = (((cn h (256 * r + i) : Nat) : Int), (r : Int), h, (r : Int), (fun j => h (r * 256 + j)), (i : Int), LL 61 (rf h (256 * r + i) r)) ∧ Gd h (256 * r + i) ∧ cn h (256 * r + i) ≤ 55) 256 ⟨rfl, hg, hc⟩ ?_
  rintro i _ hi ⟨rfl, g, c⟩
  by_cases hi2 : i = 256
  · right
    subst hi2
    have d1 : decide (((256 : Nat) : Int) < 256) = false := by decide
    simp only [steph5_1, d1, Bool.false_eq_true, if_false]
    rw [show 256 * (r + 1) = 256 * r + 256 by omega]
    exact ⟨_, rfl, .inr ⟨rfl, g, c⟩⟩
  · have hi3 : i < 256 := by omega
    have d1 : decide (((i : Nat) : Int) < 256) = true := by simp; omega
    have w : IntKind.i64.wrap ((i : Int) + 1) = ((i + 1 : Nat) : Int) := by rw [wi64 (by omega) (by omega)]; omega
    have b : (0 : Int) ≤ ((i : Nat) : Int) ∧ ((i : Nat) : Int) < 256 := by omega
    have ix : r * 256 + i = 256 * r + i := by omega
    simp only [steph5_1, d1, if_true, b, and_self, decide_true, Int.toNat_natCast, ix, shr1, w]
    by_cases e1 : h (256 * r + i) = 1
    · have d2 : (!decide (h (256 * r + i) = 0 ∨ h (256 * r + i) = 1)) = false := by simp [e1]
      have d3 : (h (256 * r + i) == 1) = true := by simp [e1]
      rw [if_pos d2, if_pos d3]
      by_cases hf : cn h (256 * r + i) = 55
      · right
        have d4 : (((cn h (256 * r + i) : Nat) : Int) == 55) = true := by rw [hf]; rfl
        rw [if_pos d4]
        refine ⟨_, rfl, .inl ⟨rfl, fun o => ?_⟩⟩
        have := cn_one e1
        have := cn_mono (h := h) (show 256 * r + i + 1 ≤ 1536 by omega)
        have := o.2
        omega
      · left
        have d4 : ¬ (((cn h (256 * r + i) : Nat) : Int) == 55) = true := by simp; omega
        rw [if_neg d4, if_pos d3]
        simp (disch := omega) only [LL_length, if_pos]
        refine ⟨_, hi3, rfl, ?_, g.succ (.inr e1), by have := cn_one e1; rw [← Nat.add_assoc]; omega⟩
        rw [← Nat.add_assoc, cn_one e1, wi64 (by omega) (by omega), wu8 (by omega) (by omega), LL_upd, ← rf_one e1 (by omega)]
        rw [show (256 * r + i) % 256 = i by omega]
        rfl
    · by_cases e0 : h (256 * r + i) = 0
      · left
        have d2 : (!decide (h (256 * r + i) = 0 ∨ h (256 * r + i) = 1)) = false := by simp [e0]
        have d3 : ¬ (h (256 * r + i) == 1) = true := by simp [e0]
        rw [if_pos d2, if_neg d3, if_neg d3]
        refine ⟨_, hi3, rfl, ?_, g.succ (.inl e0), by rw [← Nat.add_assoc, cn_none e1]; exact c⟩
        rw [← Nat.add_assoc, cn_none e1, rf_none e1]
      · right
        have d2 : ¬ (!decide (h (256 * r + i) = 0 ∨ h (256 * r + i) = 1)) = false := by simp [e0, e1]
        rw [if_neg d2]
        exact ⟨_, rfl, .inl ⟨rfl, fun o => by have := o.1 (256 * r + i) (by omega); omega⟩⟩

theorem hints_eq (h : Nat → Int) : (Okh h → Fh5 h = some (encH h, 0)) ∧ (¬ Okh h → Fh5 h = some ([], 93)) := by
  have key : Ret (loopO steph5_0 (0, h, 0, List.replicate 61 (0 : Int))) fun y => (y = .inl (93, []) ∧ ¬ Okh h) ∨ (y = .inr (encH h) ∧ Okh h) := by
    rw [← rf_zero h]
    refine loopO_inv2 (fun r s => s = (((cn h (256 * r) : Nat) : Int), h, (r : Int), LL 61 (rf h (256 * r) r)) ∧ Gd h (256 * r) ∧ cn h (256 * r) ≤ 55) 6 ⟨rfl, fun i hi => by omega, by rw [Nat.mul_zero, cn_zero]; omega⟩ ?_
    rintro r _ hr ⟨rfl, g, c⟩
    by_cases hr2 : r = 6
    · right
      subst hr2
      have d1 : decide (((6 : Nat) : Int) < 6) = false := by decide
      simp only [steph5_0, d1, Bool.false_eq_true, if_false]
      exact ⟨_, rfl, .inr ⟨rfl, g, c⟩⟩
    · have hr3 : r < 6 := by omega
      have d1 : decide (((r : Nat) : Int) < 6) = true := by simp; omega
      have w : IntKind.i64.wrap ((r : Int) + 1) = ((r + 1 : Nat) : Int) := by rw [wi64 (by omega) (by omega)]; omega
      have w2 : IntKind.i64.wrap (55 + (r : Int)) = ((55 + r : Nat) : Int) := by rw [wi64 (by omega) (by omega)]; omega
      have b : (0 : Int) ≤ ((r : Nat) : Int) ∧ ((r : Nat) : Int) < 6 := by omega
      obtain ⟨y, e, hy⟩ := hin hr3 g c
      simp only [steph5_0, d1, if_true, b, and_self, decide_true, Int.toNat_natCast, e, Option.bind_some]
      rcases hy with ⟨rfl, no⟩ | ⟨rfl, g2, c2⟩
      · right
        exact ⟨_, rfl, .inl ⟨rfl, no⟩⟩
      · left
        simp (disch := omega) only [w, w2, LL_length, Int.toNat_natCast, if_pos]
        refine ⟨_, hr3, rfl, ?_, g2, c2⟩
        rw [wu8 (by omega) (by omega), LL_upd, rf_end hr3]
  obtain ⟨y, e, hy⟩ := key
  have hf : 0 ≤ (61 : Int) ∧ (61 : Int) ≤ 61 ∧ okBytes 61 1 := ⟨by decide, by decide, by unfold okBytes; omega⟩
  simp only [Fh5]
  rw [if_pos hf, e]
  rcases hy with ⟨rfl, no⟩ | ⟨rfl, o⟩
  · exact ⟨fun o => absurd o no, fun _ => rfl⟩
  · exact ⟨fun _ => rfl, fun no => absurd o no⟩

/-! ### The document's -/
theorem rin {h : Nat → Int} {r : Nat} {es : List Int} (hr : r < 6) (hg : Gd h (256 * r)) :
    Ret (loopO steph6_1 ((r : Int), 0, h, pl h (256 * r), es)) fun y =>
      (y = .inl (false, []) ∧ ¬ Okh h) ∨ (y = .inr ((r : Int), h, pl h (256 * (r + 1)), es) ∧ Gd h (256 * (r + 1))) := by
  refine loopO_inv2 (fun i s => s = ((r : Int), (i : Int), h, pl h (256 * r + i), es) ∧ Gd h (256 * r + i)) 256 ⟨rfl, hg⟩ ?_
  rintro i _ hi ⟨rfl, g⟩
  by_cases hi2 : i = 256
  · right
    subst hi2
    have d1 : decide (((256 : Nat) : Int) < 256) = false := by decide
    simp only [steph6_1, d1, Bool.false_eq_true, if_false]
    rw [show 256 * (r + 1) = 256 * r + 256 by omega]
    exact ⟨_, rfl, .inr ⟨rfl, g⟩⟩
  · have hi3 : i < 256 := by omega
    have d1 : decide (((i : Nat) : Int) < 256) = true := by simp; omega
    have w : IntKind.i64.wrap ((i : Int) + 1) = ((i + 1 : Nat) : Int) := by rw [wi64 (by omega) (by omega)]; omega
    have b : (0 : Int) ≤ ((i : Nat) : Int) ∧ ((i : Nat) : Int) < 256 := by omega
    have b2 : (0 : Int) ≤ ((r : Nat) : Int) ∧ ((r : Nat) : Int) < 6 := by omega
    have ix : r * 256 + i = 256 * r + i := by omega
    have hlen : (pl h (256 * r + i)).length ≤ 1536 := by
      have : ∀ m, (pl h m).length ≤ m := by
        intro m
        induction m with
        | zero => exact Nat.le_refl _
        | succ m ih =>
          by_cases c : h m = 1
          · rw [pl_one c]; simp; exact ih
          · rw [pl_none c]; omega
      have := this (256 * r + i)
      omega
    simp only [steph6_1, d1, if_true, b, b2, and_self, decide_true, Int.toNat_natCast, ix, w]
    by_cases e1 : h (256 * r + i) = 1
    · left
      have d0 : (h (256 * r + i) != 0) = true := by simp [e1]
      have d2 : ¬ (h (256 * r + i) != 1) = true := by simp [e1]
      have d3 : (h (256 * r + i) == 1) = true := by simp [e1]
      have hs : (List.replicate 1 (0 : Int)).set 0 (IntKind.u8.wrap (i : Int)) = [(i : Int)] := by rw [wu8 (by omega) (by omega)]; rfl
      rw [if_pos d0, if_neg d2, if_pos d3, hs, if_pos (by unfold okBytes; simp; omega)]
      refine ⟨_, hi3, rfl, ?_, g.succ (.inr e1)⟩
      rw [← Nat.add_assoc, pl_one e1, show (256 * r + i) % 256 = i by omega]
    · have d3 : ¬ (h (256 * r + i) == 1) = true := by simp [e1]
      by_cases e0 : h (256 * r + i) = 0
      · left
        have d0 : ¬ (h (256 * r + i) != 0) = true := by simp [e0]
        rw [if_neg d0, if_neg d3]
        refine ⟨_, hi3, rfl, ?_, g.succ (.inl e0)⟩
        rw [← Nat.add_assoc, pl_none e1]
      · right
        have d0 : (h (256 * r + i) != 0) = true := by simp [e0]
        have d2 : (h (256 * r + i) != 1) = true := by simp [e1]
        rw [if_pos d0, if_pos d2]
        exact ⟨_, rfl, .inl ⟨rfl, fun o => by have := o.1 (256 * r + i) (by omega); omega⟩⟩

def ends (h : Nat → Int) (k : Nat) : Int := ((cn h (256 * (k + 1)) : Nat) : Int)

theorem pad_loop {f : Nat → Int} {es : List Int} {n : Nat} (hn : n ≤ 55) (hz : ∀ k, n ≤ k → f k = 0) : loopO steph6_2 (LL n f, es) = some (LL 55 f, es) := by
  refine Ret.eq ?_
  refine loopO_inv (fun j s => s = (LL (n + j) f, es)) (55 - n) rfl ?_ ?_
  · rintro j _ hj rfl
    have d1 : decide (((n + j : Nat) : Int) < 55) = true := by simp; omega
    have hs : (List.replicate 1 (0 : Int)).set 0 0 = [f (n + j)] := by rw [hz (n + j) (by omega)]; rfl
    refine ⟨_, ?_, rfl⟩
    simp only [steph6_2, LL_length, d1, if_true, hs]
    rw [if_pos (by unfold okBytes; simp; omega), LL_snoc, ← Nat.add_assoc]
  · rintro _ rfl
    have d1 : decide (((55 : Nat) : Int) < 55) = false := by decide
    refine ⟨_, ?_, rfl⟩
    simp only [steph6_2, LL_length, show n + (55 - n) = 55 by omega, d1, Bool.false_eq_true, if_false]

theorem LL_app (n m : Nat) (f g : Nat → Int) : LL n f ++ LL m g = LL (n + m) (fun k => if k < n then f k else g (k - n)) := by
  apply List.ext_getElem?
  intro k
  rw [LL_get?]
  by_cases c : k < n
  · rw [List.getElem?_append_left (by rw [LL_length]; exact c), LL_get?, if_pos c, if_pos (by omega), if_pos c]
  · rw [List.getElem?_append_right (by rw [LL_length]; omega), LL_get?, LL_length, if_neg c]
    by_cases d : k < n + m
    · rw [if_pos (by omega), if_pos d]
    · rw [if_neg (by omega), if_neg d]

theorem rhints_eq (h : Nat → Int) : (Okh h → Fh6 h = some (encH h, true)) ∧ (¬ Okh h → Fh6 h = some ([], false)) := by
  have key : Ret (loopO steph6_0 (0, h, ([] : List Int), ([] : List Int))) fun y => (y = .inl (false, []) ∧ ¬ Okh h) ∨ (y = .inr (pl h 1536, LL 6 (ends h)) ∧ Okh h) := by
    refine loopO_inv2 (fun r s => s = ((r : Int), h, pl h (256 * r), LL r (ends h)) ∧ Gd h (256 * r) ∧ cn h (256 * r) ≤ 55) 6 ⟨rfl, fun i hi => by omega, by rw [Nat.mul_zero, cn_zero]; omega⟩ ?_
    rintro r _ hr ⟨rfl, g, c⟩
    by_cases hr2 : r = 6
    · right
      subst hr2
      have d1 : decide (((6 : Nat) : Int) < 6) = false := by decide
      simp only [steph6_0, d1, Bool.false_eq_true, if_false]
      exact ⟨_, rfl, .inr ⟨rfl, g, c⟩⟩
    · have hr3 : r < 6 := by omega
      have d1 : decide (((r : Nat) : Int) < 6) = true := by simp; omega
      have w : IntKind.i64.wrap ((r : Int) + 1) = ((r + 1 : Nat) : Int) := by rw [wi64 (by omega) (by omega)]; omega
      obtain ⟨y, e, hy⟩ := rin (es := LL r (ends h)) hr3 g
      simp only [steph6_0, d1, if_true, e, Option.bind_some]
      rcases hy with ⟨rfl, no⟩ | ⟨rfl, g2⟩
      · right
        exact ⟨_, rfl, .inl ⟨rfl, no⟩⟩
      · by_cases c2 : cn h (256 * (r + 1)) ≤ 55
        · left
          have d2 : decide ((((pl h (256 * (r + 1))).length : Nat) : Int) > 55) = false := by
            have : (pl h (256 * (r + 1))).length = cn h (256 * (r + 1)) := rfl
            simp; omega
          have hs : (List.replicate 1 (0 : Int)).set 0 (IntKind.u8.wrap (((pl h (256 * (r + 1))).length : Nat) : Int)) = [ends h r] := by
            have : (pl h (256 * (r + 1))).length = cn h (256 * (r + 1)) := rfl
            rw [this, wu8 (by omega) (by omega)]; rfl
          simp only [d2, Bool.false_eq_true, if_false, hs, w, LL_snoc]
          rw [if_pos (by unfold okBytes; simp; omega)]
          exact ⟨_, hr3, rfl, rfl, g2, c2⟩
        · right
          have d2 : decide ((((pl h (256 * (r + 1))).length : Nat) : Int) > 55) = true := by
            have : (pl h (256 * (r + 1))).length = cn h (256 * (r + 1)) := rfl
            simp; omega
          simp only [d2, if_true]
          refine ⟨_, rfl, .inl ⟨rfl, fun o => ?_⟩⟩
          have := cn_mono (h := h) (show 256 * (r + 1) ≤ 1536 by omega)
          have := o.2
          omega
  obtain ⟨y, e, hy⟩ := key
  simp only [Fh6, e, Option.bind_some]
  rcases hy with ⟨rfl, no⟩ | ⟨rfl, o⟩
  · exact ⟨fun o => absurd o no, fun _ => rfl⟩
  · refine ⟨fun _ => ?_, fun no => absurd o no⟩
    have hp := pad_loop (f := fun k => (pl h 1536).getD k 0) (es := LL 6 (ends h)) o.2 fun k hk => getD_big _ hk
    have hl : LL (cn h 1536) (fun k => (pl h 1536).getD k 0) = pl h 1536 := LL_of _
    rw [hl] at hp
    simp only [hp, Option.bind_some]
    rw [if_pos (by unfold okBytes; simp), LL_app]
    congr 2
end Go.Abs
