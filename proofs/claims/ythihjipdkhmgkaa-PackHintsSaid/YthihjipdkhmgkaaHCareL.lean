/- Hints read without care, laid again and held against the bytes: the document's reader; and the law. -/
import Derived.Test.YthihjipdkhmgkaaHReadL
set_option linter.unusedVariables false
set_option linter.unusedSimpArgs false
set_option maxRecDepth 100000
namespace Go.Abs

theorem enc_next {b : List Int} {h : Nat → Int} {q n r : Nat} (o : Okh h) (e : b = encH h) (hr : r < 6) (hq : 256 * r ≤ q) (c : cn h q = n) (hn : (n : Int) < b.getD (55 + r) 0) :
    ∃ i, q ≤ i ∧ i < 256 * (r + 1) ∧ h i = 1 ∧ (∀ j, q ≤ j → j < i → h j ≠ 1) ∧ b.getD n 0 = (i : Int) - 256 * r := by
  have hn2 : cn h q < cn h (256 * (r + 1)) := by rw [e, encH_end hr] at hn; omega
  obtain ⟨i, h1, h2, h3, h4⟩ := cn_next hn2
  refine ⟨i, h1, h2, h3, h4, ?_⟩
  have c2 : cn h i = n := by rw [cn_skip h1 h4]; exact c
  have c3 := cn_one h3
  have c4 := cn_mono (h := h) (show i + 1 ≤ 1536 by omega)
  have c5 := o.2
  rw [e, encH_place (by omega), ← c2, pl_at h3 (by omega)]
  omega

/-- g holds what h has before q, and nothing behind -/
def Tr (h g : Nat → Int) (q n : Nat) : Prop := cn h q = n ∧ (∀ i, i < q → g i = h i) ∧ ∀ i, q ≤ i → g i = 0

theorem cr_in {b : List Int} {g r2 : Nat → Int} {n r : Nat} (hb : ∀ k, 0 ≤ b.getD k 0 ∧ b.getD k 0 < 256) (hl : b.length = 61) (hr : r < 6) (hn : n ≤ 55) (hg : ∀ i, g i = 0 ∨ g i = 1)
    (im : ∀ h, Okh h → b = encH h → Tr h g (256 * r) n) :
    Ret (loopO steph8_1 (b, (n : Int), (r : Int), r2, g)) fun y =>
      ∃ (n' : Nat) (g' : Nat → Int), y = (b, (n' : Int), (r : Int), r2, g') ∧ n' ≤ 55 ∧ (∀ i, g' i = 0 ∨ g' i = 1) ∧ ∀ h, Okh h → b = encH h → Tr h g' (256 * (r + 1)) n' := by
  refine loopO_inv2 (fun k s => ∃ g' : Nat → Int, s = (b, ((n + k : Nat) : Int), (r : Int), r2, g') ∧ (∀ i, g' i = 0 ∨ g' i = 1) ∧ ∀ h, Okh h → b = encH h → ∃ q, 256 * r ≤ q ∧ q ≤ 256 * (r + 1) ∧ Tr h g' q (n + k)) (55 - n)
    ⟨g, rfl, hg, fun h o e => ⟨256 * r, Nat.le_refl _, by omega, im h o e⟩⟩ ?_
  rintro k _ hk ⟨g', rfl, hg', im'⟩
  have w2 : IntKind.i64.wrap (55 + (r : Int)) = ((55 + r : Nat) : Int) := by rw [wi64 (by omega) (by omega)]; omega
  have hx := hb (55 + r)
  obtain ⟨e, he⟩ : ∃ e : Nat, b.getD (55 + r) 0 = (e : Int) := ⟨(b.getD (55 + r) 0).toNat, by omega⟩
  have w3 : IntKind.i64.wrap (e : Int) = (e : Int) := by rw [wi64 (by omega) (by omega)]
  have b4 : (0 : Int) ≤ ((55 + r : Nat) : Int) ∧ ((55 + r : Nat) : Int) < ((b.length : Nat) : Int) := by omega
  have fin : ¬ (n + k < e ∧ n + k < 55) → ∀ h, Okh h → b = encH h → Tr h g' (256 * (r + 1)) (n + k) := by
    intro hf h o e'
    obtain ⟨q, q1, q2, t1, t2, t3⟩ := im' h o e'
    have c1 : cn h (256 * (r + 1)) = e := by have := encH_end (h := h) hr; rw [← e', he] at this; omega
    have c2 := cn_mono (h := h) q2
    have c3 := cn_mono (h := h) (show 256 * (r + 1) ≤ 1536 by omega)
    have c4 := o.2
    have st := cn_still (h := h) (q := q) (m := 256 * (r + 1)) (by omega)
    refine ⟨by omega, fun i hi => ?_, fun i hi => t3 i (by omega)⟩
    by_cases d : i < q
    · exact t2 i d
    · have n1 := st i (by omega) hi
      have n2 := o.1 i (by omega)
      rw [t3 i (by omega)]; omega
  by_cases c1 : n + k < e
  · have d1 : decide (((n + k : Nat) : Int) < (e : Int)) = true := decide_eq_true (by omega)
    by_cases c2 : n + k < 55
    · left
      have d2 : decide (((n + k : Nat) : Int) < 55) = true := decide_eq_true (by omega)
      have hy := hb (n + k)
      obtain ⟨a, ha⟩ : ∃ a : Nat, b.getD (n + k) 0 = (a : Int) := ⟨(b.getD (n + k) 0).toNat, by omega⟩
      have b1 : (0 : Int) ≤ ((n + k : Nat) : Int) ∧ ((n + k : Nat) : Int) < ((b.length : Nat) : Int) := by omega
      have b2 : (0 : Int) ≤ (r : Int) ∧ (r : Int) < 6 := by omega
      have b3 : (0 : Int) ≤ (a : Int) ∧ (a : Int) < 256 := by omega
      have ix : r * 256 + a = 256 * r + a := by omega
      have w : IntKind.i64.wrap (((n + k : Nat) : Int) + 1) = ((n + (k + 1) : Nat) : Int) := by rw [wi64 (by omega) (by omega)]; omega
      simp only [steph8_1, w2, b4, and_self, decide_true, if_true, Int.toNat_natCast, he, w3, d1, d2, b1, b2, b3, ha, ix, w]
      refine ⟨_, by omega, rfl, _, rfl, fun i => ?_, fun h o e' => ?_⟩
      · rw [upd_apply]
        split
        · exact .inr rfl
        · exact hg' i
      · obtain ⟨q, q1, q2, t1, t2, t3⟩ := im' h o e'
        obtain ⟨i, h1, h2, h3, h4, h5⟩ := enc_next o e' hr q1 t1 (by rw [he]; omega)
        have hia : 256 * r + a = i := by omega
        rw [hia]
        refine ⟨i + 1, by omega, by omega, ?_, fun j hj => ?_, fun j hj => ?_⟩
        · rw [cn_one h3, cn_skip h1 h4, t1]; omega
        · rw [upd_apply]
          by_cases d : j = i
          · subst d; rw [if_pos rfl, h3]
          · rw [if_neg d]
            by_cases d2 : j < q
            · exact t2 j d2
            · have n1 := h4 j (by omega) (by omega)
              have n2 := o.1 j (by omega)
              rw [t3 j (by omega)]; omega
        · rw [upd_apply, if_neg (by omega)]; exact t3 j (by omega)
    · right
      have d2 : decide (((n + k : Nat) : Int) < 55) = false := decide_eq_false (by omega)
      simp only [steph8_1, w2, b4, and_self, decide_true, if_true, Int.toNat_natCast, he, w3, d1, d2, Bool.false_eq_true, if_false]
      exact ⟨_, rfl, n + k, g', rfl, by omega, hg', fin (by omega)⟩
  · right
    have d1 : decide (((n + k : Nat) : Int) < (e : Int)) = false := decide_eq_false (by omega)
    simp only [steph8_1, w2, b4, and_self, decide_true, if_true, Int.toNat_natCast, he, w3, d1, Bool.false_eq_true, if_false]
    exact ⟨_, rfl, n + k, g', rfl, by omega, hg', fin (by omega)⟩

theorem cr_out {b : List Int} {r2 : Nat → Int} (hb : ∀ k, 0 ≤ b.getD k 0 ∧ b.getD k 0 < 256) (hl : b.length = 61) :
    Ret (loopO steph8_0 (b, 0, 0, r2, fun _ => 0)) fun y => ∃ g : Nat → Int, y = (b, r2, g) ∧ ∀ h, Okh h → b = encH h → ∀ i, i < 1536 → g i = h i := by
  refine loopO_inv (fun r s => ∃ (n : Nat) (g : Nat → Int), s = (b, (n : Int), (r : Int), r2, g) ∧ n ≤ 55 ∧ (∀ i, g i = 0 ∨ g i = 1) ∧ ∀ h, Okh h → b = encH h → Tr h g (256 * r) n) 6
    ⟨0, _, rfl, by omega, fun i => .inl rfl, fun h o e => ⟨rfl, fun i hi => by omega, fun i _ => rfl⟩⟩ ?_ ?_
  · rintro r _ hr ⟨n, g, rfl, hn, hg, im⟩
    have d1 : decide (((r : Nat) : Int) < 6) = true := decide_eq_true (by omega)
    have w : IntKind.i64.wrap ((r : Int) + 1) = ((r + 1 : Nat) : Int) := by rw [wi64 (by omega) (by omega)]; omega
    obtain ⟨y, e, n', g', rfl, hn', hg', im'⟩ := cr_in (r2 := r2) hb hl hr hn hg im
    simp only [steph8_0, d1, if_true, e, Option.bind_some, w]
    exact ⟨_, rfl, n', g', rfl, hn', hg', im'⟩
  · rintro _ ⟨n, g, rfl, hn, hg, im⟩
    have d1 : decide (((6 : Nat) : Int) < 6) = false := by decide
    simp only [steph8_0, d1, Bool.false_eq_true, if_false]
    exact ⟨_, rfl, g, rfl, fun h o e => (im h o e).2.1⟩

theorem cmp_loop {b l : List Int} {r2 g : Nat → Int} (hl : b.length = 61) (hl2 : l.length = 61) :
    Ret (loopO steph8_2 (b, true, 0, r2, g, l)) fun y => ∃ t : Bool, y = (t, r2, g) ∧ (t = true ↔ ∀ k, k < 61 → l.getD k 0 = b.getD k 0) := by
  refine loopO_inv2 (fun i s => ∃ t : Bool, s = (b, t, (i : Int), r2, g, l) ∧ (t = true ↔ ∀ k, k < i → l.getD k 0 = b.getD k 0)) 61 ⟨true, rfl, ⟨fun _ k hk => by omega, fun _ => rfl⟩⟩ ?_
  rintro i _ hi ⟨t, rfl, ht⟩
  by_cases hi2 : i = 61
  · right
    subst hi2
    have d1 : decide (((61 : Nat) : Int) < 61) = false := by decide
    simp only [steph8_2, d1, Bool.false_eq_true, if_false]
    exact ⟨_, rfl, t, rfl, ht⟩
  · have d1 : decide ((i : Int) < 61) = true := decide_eq_true (by omega)
    cases t with
    | false =>
      right
      simp only [steph8_2, d1, if_true, Bool.false_eq_true, if_false]
      refine ⟨_, rfl, false, rfl, ⟨fun h => absurd h (by decide), fun H => ?_⟩⟩
      exact ht.2 fun k hk => H k (by omega)
    | true =>
      left
      have H := ht.1 rfl
      have b1 : (0 : Int) ≤ (i : Int) ∧ (i : Int) < ((l.length : Nat) : Int) := by omega
      have b2 : (0 : Int) ≤ (i : Int) ∧ (i : Int) < ((b.length : Nat) : Int) := by omega
      have w : IntKind.i64.wrap ((i : Int) + 1) = ((i + 1 : Nat) : Int) := by rw [wi64 (by omega) (by omega)]; omega
      simp only [steph8_2, d1, if_true, b1, b2, and_self, decide_true, Int.toNat_natCast, w]
      refine ⟨_, by omega, rfl, _, rfl, ⟨fun e k hk => ?_, fun e => ?_⟩⟩
      · by_cases c : k = i
        · subst c; exact eq_of_beq e
        · exact H k (by omega)
      · exact beq_iff_eq.2 (e i (by omega))

theorem list_eq {l b : List Int} {n : Nat} (h1 : l.length = n) (h2 : b.length = n) : l = b ↔ ∀ k, k < n → l.getD k 0 = b.getD k 0 := by
  constructor
  · intro e k _; rw [e]
  · intro H
    rw [← LL_of l, ← LL_of b, h1, h2]
    exact LL_congr H

/-- the careless reader -/
theorem care_eq {b : List Int} (hb : ∀ k, 0 ≤ b.getD k 0 ∧ b.getD k 0 < 256) (hl : b.length = 61) :
    Ret (Fh8 b) fun y => (y.2 = 0 ∧ ∀ h, Okh h → b = encH h → ∀ i, i < 1536 → y.1 i = h i) ∧ (∃ h, Okh h ∧ b = encH h) ∨ (y = (fun _ => 0, 93) ∧ ∀ h, Okh h → b ≠ encH h) := by
  have c0 : (((b.length : Nat) : Int) != 61) = false := by rw [hl]; rfl
  obtain ⟨y, e, g, rfl, im⟩ := cr_out (r2 := fun _ => 0) hb hl
  simp only [Fh8, c0, Bool.false_eq_true, if_false, e, Option.bind_some]
  by_cases o : Okh g
  · obtain ⟨y, e2, t, rfl, ht⟩ := cmp_loop (r2 := fun _ => 0) (g := g) hl (encH_len g)
    simp only [(rhints_eq g).1 o, Option.bind_some, e2]
    have ht2 := ht.trans (list_eq (encH_len g) hl).symm
    cases t with
    | true => exact ⟨_, rfl, .inl ⟨⟨rfl, im⟩, g, o, (ht2.1 rfl).symm⟩⟩
    | false =>
      refine ⟨_, rfl, .inr ⟨rfl, fun h oh e' => ?_⟩⟩
      have := encH_congr (im h oh e')
      have := ht2.2 (by rw [this, ← e'])
      cases this
  · have e2 : loopO steph8_2 (b, false, 0, (fun _ => 0), g, ([] : List Int)) = some (false, (fun _ => 0), g) := by
      rw [loopO_eq]
      simp only [steph8_2, show decide ((0 : Int) < 61) = true by decide, if_true, Bool.false_eq_true, if_false]
    simp only [(rhints_eq g).2 o, Option.bind_some, e2]
    exact ⟨_, rfl, .inr ⟨rfl, fun h oh e' => o (Okh_congr (fun i hi => (im h oh e' i hi).symm) oh)⟩⟩
theorem care_form {b : List Int} (hl : b.length ≠ 61) : Fh8 b = some (fun _ => 0, 91) := by
  have c0 : (((b.length : Nat) : Int) != 61) = true := by simp only [bne_iff_ne]; omega
  simp only [Fh8, c0, if_true]

theorem same_eq {a : List Int} (ha : a.length ≤ 1000) : Fh9 (a, a) = some true := by
  have c0 : (((a.length : Nat) : Int) != ((a.length : Nat) : Int)) = false := by simp
  have key : Ret (loopO steph9_0 (a, a, 0)) fun y => y = .inr () := by
    refine loopO_inv (fun i s => s = (a, a, (i : Int))) a.length rfl ?_ ?_
    · rintro i _ hi rfl
      have d1 : decide ((i : Int) < ((a.length : Nat) : Int)) = true := decide_eq_true (by omega)
      have w : IntKind.i64.wrap ((i : Int) + 1) = ((i + 1 : Nat) : Int) := by rw [wi64 (by omega) (by omega)]; omega
      have b1 : (0 : Int) ≤ (i : Int) ∧ (i : Int) < ((a.length : Nat) : Int) := by omega
      simp only [steph9_0, d1, if_true, b1, and_self, decide_true, Int.toNat_natCast, bne_self_eq_false, Bool.false_eq_true, if_false, w]
      exact ⟨_, rfl, rfl⟩
    · rintro _ rfl
      have d1 : decide (((a.length : Nat) : Int) < ((a.length : Nat) : Int)) = false := decide_eq_false (by omega)
      simp only [steph9_0, d1, Bool.false_eq_true, if_false]
      exact ⟨_, rfl, rfl⟩
  simp only [Fh9, c0, Bool.false_eq_true, if_false, key.eq, Option.bind_some]

theorem rf_byte {h : Nat → Int} (o : Okh h) (k : Nat) : 0 ≤ (encH h).getD k 0 ∧ (encH h).getD k 0 < 256 := by
  have hp : ∀ m k, 0 ≤ (pl h m).getD k 0 ∧ (pl h m).getD k 0 < 256 := by
    intro m
    induction m with
    | zero => intro k; simp [pl]
    | succ m ih =>
      intro k
      by_cases c : h m = 1
      · rw [pl_one c, getD_snoc]
        split
        · omega
        · exact ih k
      · rw [pl_none c]; exact ih k
  unfold encH
  rw [LL_getD]
  by_cases c1 : k < 61
  · rw [if_pos c1]
    unfold rf
    by_cases c2 : k < 55
    · rw [if_pos c2]; exact hp _ _
    · rw [if_neg c2, if_pos (by omega)]
      have := cn_mono (h := h) (show 256 * (k - 54) ≤ 1536 by omega)
      have := o.2
      omega
  · rw [if_neg c1]; omega

/-- the law behind the two readers -/
theorem tail_eq {b : List Int} {x : (Nat → Int) × Int} {y : (Nat → Int) × Int} (hb : ∀ k, 0 ≤ b.getD k 0 ∧ b.getD k 0 < 256) (ex : Fh7 b = some x) (ey : Fh8 b = some y) :
    arrEq 1536 x.1 y.1 = true ∧ x.2 = y.2 ∧ ((y.2 != 0) = true ∨ (y.2 = 0 ∧ Okh x.1 ∧ encH x.1 = b)) := by
  by_cases hl : b.length = 61
  · obtain ⟨x', ex', hx⟩ := read_eq hb hl
    obtain ⟨y', ey', hy⟩ := care_eq hb hl
    rw [ex] at ex'; cases ex'
    rw [ey] at ey'; cases ey'
    rcases hx with ⟨x1, x2, x3, x4⟩ | ⟨rfl, no⟩
    · rcases hy with ⟨⟨y1, y2⟩, _⟩ | ⟨rfl, no⟩
      · exact ⟨arrEq_true fun i hi => (y2 _ x2 x3.symm i hi).symm, by rw [x1, y1], .inr ⟨y1, x2, x3⟩⟩
      · exact absurd x3.symm (no _ x2)
    · rcases hy with ⟨_, h, o, e⟩ | ⟨rfl, _⟩
      · exact absurd e (no h o)
      · exact ⟨arrEq_true fun _ _ => rfl, rfl, .inl rfl⟩
  · rw [read_form hl] at ex; cases ex
    rw [care_form hl] at ey; cases ey
    exact ⟨arrEq_true fun _ _ => rfl, rfl, .inl rfl⟩

theorem read_ret {b : List Int} (hb : ∀ k, 0 ≤ b.getD k 0 ∧ b.getD k 0 < 256) : ∃ x, Fh7 b = some x := by
  by_cases hl : b.length = 61
  · obtain ⟨x, e, _⟩ := read_eq hb hl; exact ⟨x, e⟩
  · exact ⟨_, read_form hl⟩
theorem care_ret {b : List Int} (hb : ∀ k, 0 ≤ b.getD k 0 ∧ b.getD k 0 < 256) : ∃ x, Fh8 b = some x := by
  by_cases hl : b.length = 61
  · obtain ⟨x, e, _⟩ := care_eq hb hl; exact ⟨x, e⟩
  · exact ⟨_, care_form hl⟩

theorem hints_law (h : Nat → Int) {b : List Int} (hb : ∀ k, 0 ≤ b.getD k 0 ∧ b.getD k 0 < 256) : Fh3 (h, b) = some true := by
  obtain ⟨⟨x1, x2⟩, ex⟩ := read_ret hb
  obtain ⟨⟨y1, y2⟩, ey⟩ := care_ret hb
  obtain ⟨t1, t2, t3⟩ := tail_eq hb ex ey
  simp only at t1 t2 t3
  subst t2
  have n0 : (x2 != x2) = false := by simp
  have last : (x2 != 0) = true ∨ ((x2 != 0) = false ∧ Fh5 x1 = some (encH x1, 0) ∧ Fh9 (encH x1, b) = some true) := by
    rcases t3 with e | ⟨e, o, e2⟩
    · exact .inl e
    · refine .inr ⟨by rw [e]; rfl, (hints_eq x1).1 o, ?_⟩
      rw [e2]
      apply same_eq
      rw [← e2, encH_len]; omega
  by_cases o : Okh h
  · have eb : ∀ k, 0 ≤ (encH h).getD k 0 ∧ (encH h).getD k 0 < 256 := rf_byte o
    have s1 : Fh9 (encH h, encH h) = some true := same_eq (by rw [encH_len]; omega)
    obtain ⟨⟨z1, z2⟩, ez, hz⟩ := read_eq eb (encH_len h)
    rcases hz with ⟨a1, a2, a3, a4⟩ | ⟨_, no⟩
    · simp only at a1 a4
      subst a1
      have q : arrEq 1536 z1 h = true := arrEq_true fun i hi => a4 h o rfl i hi
      rcases last with l1 | ⟨l1, l2, l3⟩
      · simp only [Fh3, pawake_true, (hints_eq h).1 o, (rhints_eq h).1 o, ex, ey, s1, Option.bind_some, t1, n0, ez, q, l1]
        rfl
      · simp only [Fh3, pawake_true, (hints_eq h).1 o, (rhints_eq h).1 o, ex, ey, s1, Option.bind_some, t1, n0, ez, q, l1, l2, l3]
        rfl
    · exact absurd rfl (no h o)
  · have s1 : Fh9 (([] : List Int), ([] : List Int)) = some true := same_eq (by simp)
    rcases last with l1 | ⟨l1, l2, l3⟩
    · simp only [Fh3, pawake_true, (hints_eq h).2 o, (rhints_eq h).2 o, ex, ey, s1, Option.bind_some, t1, n0, l1]
      rfl
    · simp only [Fh3, pawake_true, (hints_eq h).2 o, (rhints_eq h).2 o, ex, ey, s1, Option.bind_some, t1, n0, l1, l2, l3]
      rfl
end Go.Abs
