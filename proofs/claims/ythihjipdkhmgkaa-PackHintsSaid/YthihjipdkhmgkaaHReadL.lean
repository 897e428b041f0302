/- Hints read with care: what is taken has one form, and nothing that has it is refused. -/
import Derived.Test.YthihjipdkhmgkaaHWriteL
set_option linter.unusedVariables false
set_option linter.unusedSimpArgs false
set_option maxRecDepth 100000
namespace Go.Abs

/-- n of the bytes are read, in the rows before r whole: g holds what they say of the coefficients before q -/
structure Rd (b : List Int) (g : Nat → Int) (q n r : Nat) : Prop where
  gd : ∀ i, g i = 0 ∨ g i = 1
  hi : ∀ i, q ≤ i → g i = 0
  ct : cn g q = n
  eq : ∀ k, k < n → (pl g q).getD k 0 = b.getD k 0
  en : ∀ s, s < r → b.getD (55 + s) 0 = ((cn g (256 * (s + 1)) : Nat) : Int)
  le : 256 * r ≤ q
  im : ∀ h, Okh h → b = encH h → ∀ i, i < q → g i = h i

theorem Rd.count {b : List Int} {g h : Nat → Int} {q n r : Nat} (R : Rd b g q n r) (o : Okh h) (e : b = encH h) : cn h q = n := by
  rw [← R.ct]; exact (cn_congr (R.im h o e)).symm

theorem Rd.next {b : List Int} {g h : Nat → Int} {q n r : Nat} (R : Rd b g q n r) (hr : r < 6) (hn : (n : Int) < b.getD (55 + r) 0) (o : Okh h) (e : b = encH h) :
    ∃ i, q ≤ i ∧ i < 256 * (r + 1) ∧ h i = 1 ∧ (∀ j, q ≤ j → j < i → h j ≠ 1) ∧ b.getD n 0 = (i : Int) - 256 * r := by
  have c := R.count o e
  have hn2 : cn h q < cn h (256 * (r + 1)) := by rw [e, encH_end hr] at hn; omega
  obtain ⟨i, h1, h2, h3, h4⟩ := cn_next hn2
  have hle := R.le
  refine ⟨i, h1, h2, h3, h4, ?_⟩
  have c2 : cn h i = n := by rw [cn_skip h1 h4]; exact c
  have c3 := cn_one h3
  have c4 := cn_mono (h := h) (show i + 1 ≤ 1536 by omega)
  have c5 := o.2
  rw [e, encH_place (by omega), ← c2, pl_at h3 (by omega)]
  omega

theorem Rd.put {b : List Int} {g : Nat → Int} {q n r a : Nat} (R : Rd b g q n r) (hr : r < 6) (hn : (n : Int) < b.getD (55 + r) 0) (ha : b.getD n 0 = (a : Int)) (hq : q ≤ 256 * r + a) (ha2 : a < 256) :
    Rd b (upd g (256 * r + a) 1) (256 * r + a + 1) (n + 1) r := by
  have old : ∀ j, j < 256 * r + a → upd g (256 * r + a) 1 j = g j := fun j hj => by rw [upd_apply, if_neg (by omega)]
  have one : upd g (256 * r + a) 1 (256 * r + a) = 1 := by rw [upd_apply, if_pos rfl]
  have sk : ∀ j, q ≤ j → j < 256 * r + a → g j ≠ 1 := fun j h1 _ => by rw [R.hi j h1]; decide
  have e1 : pl (upd g (256 * r + a) 1) (256 * r + a) = pl g q := by rw [pl_congr old, pl_skip hq sk]
  have e2 : pl (upd g (256 * r + a) 1) (256 * r + a + 1) = pl g q ++ [(a : Int)] := by
    rw [pl_one one, e1, show (256 * r + a) % 256 = a by omega]
  have e3 : (pl g q).length = n := R.ct
  refine ⟨fun i => ?_, fun i hi => ?_, ?_, fun k hk => ?_, fun s hs => ?_, ?_, fun h o e i hi => ?_⟩
  · rw [upd_apply]
    split
    · exact .inr rfl
    · exact R.gd i
  · rw [upd_apply, if_neg (by omega)]; exact R.hi i (by omega)
  · unfold cn; rw [e2]; simp [e3]
  · rw [e2, getD_snoc, e3]
    by_cases c : k = n
    · subst c; rw [if_pos rfl, ha]
    · rw [if_neg c]; exact R.eq k (by omega)
  · rw [R.en s hs, cn_congr (g := g) fun j hj => old j (by omega)]
  · have := R.le; omega
  · obtain ⟨i', h1, h2, h3, h4, h5⟩ := R.next hr hn o e
    have : i' = 256 * r + a := by omega
    subst this
    by_cases c : i = 256 * r + a
    · subst c; rw [one, h3]
    · rw [old i (by omega)]
      by_cases d : i < q
      · exact R.im h o e i d
      · have n1 := h4 i (by omega) (by omega)
        have n2 := o.1 i (by omega)
        rw [R.hi i (by omega)]; omega

theorem Rd.row {b : List Int} {g : Nat → Int} {q n r : Nat} (R : Rd b g q n r) (hr : r < 6) (hn : b.getD (55 + r) 0 = (n : Int)) (hq : q ≤ 256 * (r + 1)) : Rd b g (256 * (r + 1)) n (r + 1) := by
  have sk : ∀ j, q ≤ j → j < 256 * (r + 1) → g j ≠ 1 := fun j h1 _ => by rw [R.hi j h1]; decide
  refine ⟨R.gd, fun i hi => R.hi i (by omega), ?_, fun k hk => ?_, fun s hs => ?_, Nat.le_refl _, fun h o e i hi => ?_⟩
  · rw [cn_skip hq sk]; exact R.ct
  · rw [pl_skip hq sk]; exact R.eq k hk
  · by_cases c : s = r
    · subst c; rw [hn, cn_skip hq sk, R.ct]
    · exact R.en s (by omega)
  · by_cases d : i < q
    · exact R.im h o e i d
    · have c := R.count o e
      have c2 : cn h (256 * (r + 1)) = n := by have := encH_end (h := h) hr; rw [← e, hn] at this; omega
      have n1 := cn_still (h := h) (q := q) (m := 256 * (r + 1)) (by omega) i (by omega) hi
      have n2 := o.1 i (by omega)
      rw [R.hi i (by omega)]; omega

theorem drop_getD (b : List Int) (n k : Nat) : (b.drop n).getD k 0 = b.getD (n + k) 0 := by
  simp only [List.getD_eq_getElem?_getD, List.getElem?_drop]

theorem rd_in {b : List Int} {g r2 : Nat → Int} {n r e : Nat} (hb : ∀ k, 0 ≤ b.getD k 0 ∧ b.getD k 0 < 256) (hl : b.length = 61) (hr : r < 6) (he : b.getD (55 + r) 0 = (e : Int)) (hne : n ≤ e) (he55 : e ≤ 55) (R : Rd b g (256 * r) n r) :
    Ret (loopO steph7_1 (b, (n : Int), (r : Int), (e : Int), (r : Int), (b.drop n, e - n), ((e - n : Nat) : Int), 0, r2, g)) fun y =>
      (y = .inl (93, fun _ => 0) ∧ ∀ h, Okh h → b ≠ encH h) ∨ ∃ g', y = .inr (b, (e : Int), (r : Int), r2, g') ∧ Rd b g' (256 * (r + 1)) e (r + 1) := by
  refine loopO_inv2 (fun k s => ∃ (g' : Nat → Int) (q : Nat), s = (b, (n : Int), (r : Int), (e : Int), (r : Int), (b.drop n, e - n), ((e - n : Nat) : Int), (k : Int), r2, g') ∧ Rd b g' q (n + k) r ∧ q ≤ 256 * (r + 1) ∧ (q : Int) = 256 * r + (if k = 0 then 0 else b.getD (n + k - 1) 0 + 1)) (e - n)
    ⟨g, 256 * r, rfl, R, by omega, by rw [if_pos rfl]; omega⟩ ?_
  rintro k _ hk ⟨g', q, rfl, R', hq, hq2⟩
  by_cases hk2 : k = e - n
  · right
    have d1 : decide ((k : Int) < ((e - n : Nat) : Int)) = false := by simp; omega
    simp only [steph7_1, d1, Bool.false_eq_true, if_false]
    rw [show n + k = e by omega] at R'
    exact ⟨_, rfl, .inr ⟨g', rfl, R'.row hr he hq⟩⟩
  · have hk3 : k < e - n := by omega
    have d1 : decide ((k : Int) < ((e - n : Nat) : Int)) = true := by simp; omega
    have w : IntKind.i64.wrap ((k : Int) + 1) = ((k + 1 : Nat) : Int) := by rw [wi64 (by omega) (by omega)]; omega
    have b1 : (0 : Int) ≤ (k : Int) ∧ (k : Int) < ((e - n : Nat) : Int) := by omega
    have b2 : (0 : Int) ≤ (r : Int) ∧ (r : Int) < 6 := by omega
    have hx := hb (n + k)
    obtain ⟨a, ha⟩ : ∃ a : Nat, b.getD (n + k) 0 = (a : Int) := ⟨(b.getD (n + k) 0).toNat, by omega⟩
    have hnk : ((n + k : Nat) : Int) < b.getD (55 + r) 0 := by rw [he]; omega
    have b3 : (0 : Int) ≤ (a : Int) ∧ (a : Int) < 256 := by omega
    have ix : r * 256 + a = 256 * r + a := by omega
    by_cases k0 : k = 0
    · subst k0
      left
      rw [if_pos rfl] at hq2
      have d2 : decide (((0 : Nat) : Int) > 0) = false := by decide
      simp only [steph7_1, d1, d2, if_true, b1, b2, b3, and_self, decide_true, Bool.false_eq_true, if_false, Int.toNat_natCast, drop_getD, ha, ix, w]
      exact ⟨_, hk3, rfl, _, _, rfl, R'.put hr hnk ha (by omega) (by omega), by omega, by rw [if_neg (by omega), show n + (0 + 1) - 1 = n + 0 by omega, ha]; omega⟩
    · rw [if_neg k0] at hq2
      have d2 : decide ((k : Int) > 0) = true := by simp; omega
      have w2 : IntKind.i64.wrap (IntKind.i64.wrap ((n : Int) + (k : Int)) - 1) = ((n + k - 1 : Nat) : Int) := by
        rw [wi64 (n := (n : Int) + (k : Int)) (by omega) (by omega), wi64 (by omega) (by omega)]; omega
      have b4 : (0 : Int) ≤ ((n + k - 1 : Nat) : Int) ∧ ((n + k - 1 : Nat) : Int) < ((b.length : Nat) : Int) := by omega
      have hy := hb (n + k - 1)
      simp only [steph7_1, d1, d2, if_true, b1, b2, b4, and_self, decide_true, Int.toNat_natCast, w2, drop_getD, ha, w]
      by_cases c : (a : Int) ≤ b.getD (n + k - 1) 0
      · right
        have d3 : decide ((a : Int) ≤ b.getD (n + k - 1) 0) = true := decide_eq_true c
        rw [if_pos d3]
        refine ⟨_, rfl, .inl ⟨rfl, fun h o e' => ?_⟩⟩
        obtain ⟨i, h1, h2, h3, h4, h5⟩ := R'.next hr hnk o e'
        omega
      · left
        have d3 : ¬ decide ((a : Int) ≤ b.getD (n + k - 1) 0) = true := by rw [decide_eq_true_eq]; exact c
        rw [if_neg d3]
        simp only [b3, and_self, decide_true, if_true, ix]
        exact ⟨_, hk3, rfl, _, _, rfl, R'.put hr hnk ha (by omega) (by omega), by omega, by rw [if_neg (by omega), show n + (k + 1) - 1 = n + k by omega, ha]; omega⟩

theorem rd_out {b : List Int} {r2 : Nat → Int} (hb : ∀ k, 0 ≤ b.getD k 0 ∧ b.getD k 0 < 256) (hl : b.length = 61) :
    Ret (loopO steph7_0 (b, 0, 0, r2, fun _ => 0)) fun y =>
      (y = .inl (93, fun _ => 0) ∧ ∀ h, Okh h → b ≠ encH h) ∨ ∃ (n : Nat) (g : Nat → Int), y = .inr (b, (n : Int), r2, g) ∧ n ≤ 55 ∧ Rd b g 1536 n 6 := by
  refine loopO_inv2 (fun r s => ∃ (n : Nat) (g : Nat → Int), s = (b, (n : Int), (r : Int), r2, g) ∧ n ≤ 55 ∧ Rd b g (256 * r) n r) 6
    ⟨0, _, rfl, by omega, ⟨fun i => .inl rfl, fun i _ => rfl, rfl, fun k hk => by omega, fun s hs => by omega, Nat.le_refl _, fun h o e i hi => by omega⟩⟩ ?_
  rintro r _ hr ⟨n, g, rfl, hn, R⟩
  by_cases hr2 : r = 6
  · right
    subst hr2
    have d1 : decide (((6 : Nat) : Int) < 6) = false := by decide
    simp only [steph7_0, d1, Bool.false_eq_true, if_false]
    exact ⟨_, rfl, .inr ⟨n, g, rfl, hn, R⟩⟩
  · have hr3 : r < 6 := by omega
    have d1 : decide (((r : Nat) : Int) < 6) = true := by simp; omega
    have w : IntKind.i64.wrap ((r : Int) + 1) = ((r + 1 : Nat) : Int) := by rw [wi64 (by omega) (by omega)]; omega
    have w2 : IntKind.i64.wrap (55 + (r : Int)) = ((55 + r : Nat) : Int) := by rw [wi64 (by omega) (by omega)]; omega
    have hx := hb (55 + r)
    obtain ⟨e, he⟩ : ∃ e : Nat, b.getD (55 + r) 0 = (e : Int) := ⟨(b.getD (55 + r) 0).toNat, by omega⟩
    have w3 : IntKind.i64.wrap (e : Int) = (e : Int) := by rw [wi64 (by omega) (by omega)]
    have bad : ∀ h, Okh h → b = encH h → n ≤ e ∧ e ≤ 55 := fun h o e' => by
      have c := R.count o e'
      have c1 : cn h (256 * (r + 1)) = e := by have := encH_end (h := h) hr3; rw [← e', he] at this; omega
      have c2 := cn_mono (h := h) (show 256 * r ≤ 256 * (r + 1) by omega)
      have c3 := cn_mono (h := h) (show 256 * (r + 1) ≤ 1536 by omega)
      have c4 := o.2
      omega
    have b4 : (0 : Int) ≤ ((55 + r : Nat) : Int) ∧ ((55 + r : Nat) : Int) < ((b.length : Nat) : Int) := by omega
    simp only [steph7_0, d1, if_true, w2, b4, and_self, decide_true, Int.toNat_natCast, he, w3]
    by_cases c1 : e < n
    · right
      have d2 : ¬ decide ((e : Int) < (n : Int)) = false := by simp; omega
      rw [if_neg d2]
      exact ⟨_, rfl, .inl ⟨rfl, fun h o e' => by have := bad h o e'; omega⟩⟩
    · have d2 : decide ((e : Int) < (n : Int)) = false := by simp; omega
      rw [if_pos d2]
      by_cases c2 : e > 55
      · right
        have d3 : decide ((e : Int) > 55) = true := by simp; omega
        rw [if_pos d3]
        exact ⟨_, rfl, .inl ⟨rfl, fun h o e' => by have := bad h o e'; omega⟩⟩
      · have d3 : ¬ decide ((e : Int) > 55) = true := by simp; omega
        rw [if_neg d3, if_pos (by omega)]
        obtain ⟨y, e2, hy⟩ := rd_in (r2 := r2) hb hl hr3 he (by omega) (by omega) R
        rw [e2, Option.bind_some]
        rcases hy with ⟨rfl, no⟩ | ⟨g', rfl, R'⟩
        · right
          exact ⟨_, rfl, .inl ⟨rfl, no⟩⟩
        · left
          simp only [w]
          exact ⟨_, hr3, rfl, e, g', rfl, by omega, R'⟩

/-- is any of these not 0? -/
theorem any_eq {l : List Int} (hl : l.length ≤ 1000) : Ret (Fh12 l) fun y => (y = true ∧ ∃ k, k < l.length ∧ l.getD k 0 ≠ 0) ∨ (y = false ∧ ∀ k, k < l.length → l.getD k 0 = 0) := by
  have key : Ret (loopO steph16_0 (l, ((l.length : Nat) : Int), 0)) fun y => (∃ k : Nat, y = .inl (k : Int) ∧ k < l.length ∧ l.getD k 0 ≠ 0) ∨ (y = .inr () ∧ ∀ k, k < l.length → l.getD k 0 = 0) := by
    refine loopO_inv2 (fun i s => s = (l, ((l.length : Nat) : Int), (i : Int)) ∧ ∀ k, k < i → l.getD k 0 = 0) l.length ⟨rfl, fun k hk => by omega⟩ ?_
    rintro i _ hi ⟨rfl, H⟩
    by_cases hi2 : i = l.length
    · right
      have d1 : decide ((i : Int) < ((l.length : Nat) : Int)) = false := by simp; omega
      simp only [steph16_0, d1, Bool.false_eq_true, if_false]
      exact ⟨_, rfl, .inr ⟨rfl, by rw [← hi2]; exact H⟩⟩
    · have d1 : decide ((i : Int) < ((l.length : Nat) : Int)) = true := by simp; omega
      have w : IntKind.i64.wrap ((i : Int) + 1) = ((i + 1 : Nat) : Int) := by rw [wi64 (by omega) (by omega)]; omega
      have b1 : (0 : Int) ≤ (i : Int) ∧ (i : Int) < ((l.length : Nat) : Int) := by omega
      simp only [steph16_0, d1, b1, and_self, decide_true, if_true, Int.toNat_natCast, Fh13, Option.bind_some, w]
      by_cases c : l.getD i 0 = 0
      · left
        have d2 : ¬ (l.getD i 0 != 0) = true := by simp only [c]; decide
        rw [if_neg d2]
        refine ⟨_, by omega, rfl, rfl, fun k hk => ?_⟩
        by_cases e : k = i
        · subst e; exact c
        · exact H k (by omega)
      · right
        have d2 : (l.getD i 0 != 0) = true := by simp only [bne_iff_ne]; exact c
        rw [if_pos d2]
        exact ⟨_, rfl, .inl ⟨i, rfl, by omega, c⟩⟩
  obtain ⟨y, e, hy⟩ := key
  simp only [Fh12, Fh16, e, Option.bind_some]
  rcases hy with ⟨k, rfl, h1, h2⟩ | ⟨rfl, h1⟩
  · simp only [Option.bind_some]
    exact ⟨_, rfl, .inl ⟨by simp, k, h1, h2⟩⟩
  · simp only [Option.bind_some]
    exact ⟨_, rfl, .inr ⟨by decide, h1⟩⟩

/-- the strict reader -/
theorem read_eq {b : List Int} (hb : ∀ k, 0 ≤ b.getD k 0 ∧ b.getD k 0 < 256) (hl : b.length = 61) :
    Ret (Fh7 b) fun y => (y.2 = 0 ∧ Okh y.1 ∧ encH y.1 = b ∧ ∀ h, Okh h → b = encH h → ∀ i, i < 1536 → y.1 i = h i) ∨ (y = (fun _ => 0, 93) ∧ ∀ h, Okh h → b ≠ encH h) := by
  have c0 : (((b.length : Nat) : Int) != 61) = false := by rw [hl]; rfl
  obtain ⟨y, e, hy⟩ := rd_out (r2 := fun _ => 0) hb hl
  simp only [Fh7, c0, Bool.false_eq_true, if_false, e, Option.bind_some]
  rcases hy with ⟨rfl, no⟩ | ⟨n, g, rfl, hn, R⟩
  · exact ⟨_, rfl, .inr ⟨rfl, no⟩⟩
  · have hlen : ((b.drop n).take (55 - n)).length = 55 - n := by rw [List.length_take, List.length_drop]; omega
    obtain ⟨y, e2, hy⟩ := any_eq (l := (b.drop n).take (55 - n)) (by omega)
    have at' : ∀ k, k < 55 - n → ((b.drop n).take (55 - n)).getD k 0 = b.getD (n + k) 0 := fun k hk => by
      simp only [List.getD_eq_getElem?_getD]
      rw [List.getElem?_take_of_lt hk, List.getElem?_drop]
    have b1 : (0 : Int) ≤ (n : Int) ∧ (n : Int) ≤ 55 ∧ (55 : Int) ≤ ((b.length : Nat) : Int) := by omega
    rw [hlen] at hy
    simp only [b1, and_self, decide_true, if_true, Int.toNat_natCast, e2, Option.bind_some]
    rcases hy with ⟨rfl, k, h1, h2⟩ | ⟨rfl, h1⟩
    · refine ⟨_, rfl, .inr ⟨rfl, fun h o e' => h2 ?_⟩⟩
      have c := R.count o e'
      rw [at' k h1, e', encH_place (by omega)]
      exact getD_big _ (by unfold cn at c; omega)
    · refine ⟨_, rfl, .inl ⟨rfl, ⟨fun i _ => R.gd i, by rw [R.ct]; exact hn⟩, ?_, fun h o e' i hi => R.im h o e' i hi⟩⟩
      show encH g = b
      have e3 : b = LL 61 (fun k => b.getD k 0) := by rw [← hl]; exact (LL_of b).symm
      rw [e3]
      unfold encH
      apply LL_congr
      intro k hk
      unfold rf
      by_cases c1 : k < 55
      · rw [if_pos c1]
        by_cases c2 : k < n
        · exact R.eq k c2
        · rw [getD_big _ (show (pl g 1536).length ≤ k by have := R.ct; unfold cn at this; omega)]
          have := h1 (k - n) (by omega)
          rw [at' _ (by omega), show n + (k - n) = k by omega] at this
          exact this.symm
      · rw [if_neg c1, if_pos (by omega)]
        have := R.en (k - 55) (by omega)
        rw [show 55 + (k - 55) = k by omega, show k - 55 + 1 = k - 54 by omega] at this
        exact this.symm
theorem read_form {b : List Int} (hl : b.length ≠ 61) : Fh7 b = some (fun _ => 0, 91) := by
  have c0 : (((b.length : Nat) : Int) != 61) = true := by simp only [bne_iff_ne]; omega
  simp only [Fh7, c0, if_true]
end Go.Abs
