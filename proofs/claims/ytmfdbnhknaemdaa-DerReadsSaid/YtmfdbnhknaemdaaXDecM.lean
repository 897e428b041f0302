/- The document's Decode. -/
import Derived.Test.YtmfdbnhknaemdaaXSameM
set_option linter.unusedVariables false
set_option linter.unusedSimpArgs false
namespace Go.Abs

theorem ite_t {α : Type} {b : Bool} {x y : α} (h : b = true) : (if b = true then x else y) = x := if_pos h
theorem ite_f {α : Type} {b : Bool} {x y : α} (h : b = false) : (if b = true then x else y) = y := if_neg (by rw [h]; decide)
theorem itf_t {α : Type} {b : Bool} {x y : α} (h : b = true) : (if b = false then x else y) = y := if_neg (by rw [h]; decide)
theorem itf_f {α : Type} {b : Bool} {x y : α} (h : b = false) : (if b = false then x else y) = x := if_pos h
theorem num_snoc (l : List Int) (x : Int) : num (l ++ [x]) = 256 * num l + x := by simp [num, List.foldl_append]

def seg (b : List Int) (i e : Nat) : List Int := (b.take e).drop i
theorem seg_len {b : List Int} {i e : Nat} (he : e ≤ b.length) : (seg b i e).length = e - i := by simp [seg]; omega
theorem seg_by {b : List Int} (hb : By b) (i e : Nat) : By (seg b i e) := (hb.take e).drop i
theorem seg_cons {b : List Int} {i e : Nat} (h : i < e) (he : e ≤ b.length) : seg b i e = b.getD i 0 :: seg b (i + 1) e := by
  unfold seg
  have hi : i < (b.take e).length := by simp; omega
  rw [List.drop_eq_getElem_cons hi, List.getElem_take, List.getD_eq_getElem?_getD, List.getElem?_eq_getElem (by omega)]
  rfl
theorem seg_nil {b : List Int} {i e : Nat} (h : e ≤ i) : seg b i e = [] := by
  unfold seg
  exact List.drop_eq_nil_of_le (by simp; omega)
theorem seg_drop (b : List Int) (i e n : Nat) : (seg b i e).drop n = seg b (i + n) e := by simp [seg, List.drop_drop]
theorem seg_take {b : List Int} {i e n : Nat} (h : i + n ≤ e) : (seg b i e).take n = seg b i (i + n) := by
  unfold seg
  rw [List.take_drop, List.take_take]
  congr 2
  omega
theorem getD_by {b : List Int} (hb : By b) (i : Nat) : 0 ≤ b.getD i 0 ∧ b.getD i 0 < 256 := by
  rw [List.getD_eq_getElem?_getD]
  cases h : b[i]? with
  | none => simp
  | some y => exact hb y (List.mem_of_getElem? h)

theorem s90 (b : List Int) (i n z k : Int) : stepd53_0 (b, i, n, z, k) = (if (decide (k ≤ n)) = true then
      if (0 : Int) ≤ (IntKind.i64.wrap (i + k)) ∧ (IntKind.i64.wrap (i + k)) < (b.length : Int) then
        some (.inl (b, i, n, (IntKind.i64.wrap ((IntKind.i64.wrap (256 * z)) + (IntKind.i64.wrap (b.getD (IntKind.i64.wrap (i + k)).toNat 0)))), (IntKind.i64.wrap (k + 1))))
      else none
    else some (.inr (b, i, n, z))) := rfl

theorem loop90 {b : List Int} (hb : By b) (hl : b.length ≤ 65536) {i n : Nat} (hn : n ≤ 3) (hi : i + n < b.length) :
    loopO stepd53_0 (b, (i : Int), (n : Int), 0, 1) = some (b, (i : Int), (n : Int), num (seg b (i + 1) (i + 1 + n))) := by
  have h := loopO_run (step := stepd53_0) (fun k => (b, (i : Int), (n : Int), num (seg b (i + 1) (i + 1 + k)), ((k + 1 : Nat) : Int))) n (b, (i : Int), (n : Int), num (seg b (i + 1) (i + 1 + n))) ?_ ?_
  · have e : num (seg b (i + 1) (i + 1 + 0)) = 0 := by rw [seg_nil (by omega)]; rfl
    simp only [e] at h
    exact h
  · intro k hk
    have hsl : (seg b (i + 1) (i + 1 + k)).length = k := by rw [seg_len (by omega)]; omega
    obtain ⟨b1, b2⟩ := num_bound (seg_by hb (i + 1) (i + 1 + k)) (by omega)
    have hg := getD_by hb (i + (k + 1))
    have hs : seg b (i + 1) (i + 1 + (k + 1)) = seg b (i + 1) (i + 1 + k) ++ [b.getD (i + (k + 1)) 0] := by
      unfold seg
      have e1 : i + 1 + (k + 1) = (i + 1 + k) + 1 := by omega
      have hlt : i + 1 + k < b.length := by omega
      rw [e1, List.take_succ_eq_append_getElem hlt, List.drop_append_of_le_length (by simp; omega), List.getD_eq_getElem?_getD, List.getElem?_eq_getElem (by omega)]
      simp only [Option.getD_some]
      congr 3
      omega
    rw [s90, ite_t (decide_eq_true (by omega)), wi64 (n := (i : Int) + ((k + 1 : Nat) : Int)) (by omega) (by omega), if_pos ⟨by omega, by omega⟩]
    have e2 : ((i : Int) + ((k + 1 : Nat) : Int)).toNat = i + (k + 1) := by omega
    rw [e2, wi64 (n := b.getD (i + (k + 1)) 0) (by omega) (by omega), wi64 (n := 256 * _) (by omega) (by omega), wi64 (by omega) (by omega), wi64 (by omega) (by omega), hs, num_snoc]
    rfl
  · rw [s90, ite_f (decide_eq_false (by omega))]

def lv3 (e : Nat) : (Int × List Int) ⊕ Int → Int × Int × Int
  | .inl (n, r) => (n, (e : Int) - (r.length : Int), 0)
  | .inr c => (0, 0, c)

theorem rdL1 {c : Int} {s : List Int} (h : c < 128) : rdLen (c :: s) = .inl (c, s) := by rw [rdLen_cons, if_pos h]
theorem rdL2 {c : Int} {s : List Int} (h : ¬ c < 128) (h2 : c = 128 ∨ 131 < c) : rdLen (c :: s) = .inr 124 := by rw [rdLen_cons, if_neg h, if_pos h2]
theorem rdL3 {c : Int} {s : List Int} (h : ¬ c < 128) (h2 : ¬ (c = 128 ∨ 131 < c)) (h3 : s.length < (c - 128).toNat) : rdLen (c :: s) = .inr 122 := by rw [rdLen_cons, if_neg h, if_neg h2, if_pos h3]
theorem rdL4 {c : Int} {s : List Int} (h : ¬ c < 128) (h2 : ¬ (c = 128 ∨ 131 < c)) (h3 : ¬ s.length < (c - 128).toNat) (h4 : s.getD 0 0 = 0 ∨ num (s.take (c - 128).toNat) < 128) : rdLen (c :: s) = .inr 124 := by rw [rdLen_cons, if_neg h, if_neg h2, if_neg h3, if_pos h4]
theorem rdL5 {c : Int} {s : List Int} (h : ¬ c < 128) (h2 : ¬ (c = 128 ∨ 131 < c)) (h3 : ¬ s.length < (c - 128).toNat) (h4 : ¬ (s.getD 0 0 = 0 ∨ num (s.take (c - 128).toNat) < 128)) : rdLen (c :: s) = .inl (num (s.take (c - 128).toNat), s.drop (c - 128).toNat) := by rw [rdLen_cons, if_neg h, if_neg h2, if_neg h3, if_neg h4]

theorem len90 {b : List Int} (hb : By b) (hl : b.length ≤ 65536) {i e : Nat} (hi : i ≤ e) (he : e ≤ b.length) : Fd53 (b, (i : Int), (e : Int)) = some (lv3 e (rdLen (seg b i e))) := by
  simp only [Fd53]
  by_cases h1 : e ≤ i
  · rw [ite_t (decide_eq_true (by omega)), seg_nil h1]; rfl
  · rw [ite_f (decide_eq_false (by omega)), if_pos ⟨by omega, by omega⟩, seg_cons (by omega) he, Int.toNat_natCast]
    obtain ⟨g1, g2⟩ := getD_by hb i
    generalize hc : b.getD i 0 = c at g1 g2
    have hsl : (seg b (i + 1) e).length = e - (i + 1) := seg_len he
    rw [wi64 (n := c) (by omega) (by omega)]
    by_cases h2 : c < 128
    · rw [ite_t (decide_eq_true h2), rdL1 h2]
      simp only [lv3]
      rw [hsl, wi64 (by omega) (by omega)]
      congr 3
      omega
    · rw [ite_f (decide_eq_false h2), wi64 (n := c - 128) (by omega) (by omega)]
      by_cases h3 : c = 128
      · rw [itf_t (by simp [h3]), rdL2 h2 (.inl h3)]; rfl
      · rw [itf_f (by simp; omega)]
        by_cases h4 : 131 < c
        · rw [ite_t (decide_eq_true (by omega)), rdL2 h2 (.inr h4)]; rfl
        · have h34 : ¬ (c = 128 ∨ 131 < c) := fun h => h.elim h3 h4
          rw [ite_f (decide_eq_false (by omega)), wi64 (n := (e : Int) - i) (by omega) (by omega), wi64 (n := (e : Int) - i - 1) (by omega) (by omega)]
          by_cases h5 : (seg b (i + 1) e).length < (c - 128).toNat
          · rw [ite_t (decide_eq_true (by omega)), rdL3 h2 h34 h5]; rfl
          · rw [ite_f (decide_eq_false (by omega))]
            obtain ⟨n, hn⟩ : ∃ n : Nat, c - 128 = n := ⟨(c - 128).toNat, by omega⟩
            have hn1 : 1 ≤ n := by omega
            have hn3 : n ≤ 3 := by omega
            have hnt : (c - 128).toNat = n := by omega
            rw [hn]
            refine (congrArg (Option.bind · _) (loop90 hb hl hn3 (by omega))).trans ?_
            simp only [Option.bind_some]
            have e1 : IntKind.i64.wrap ((i : Int) + 1) = ((i + 1 : Nat) : Int) := by rw [wi64 (by omega) (by omega)]; omega
            rw [e1, if_pos ⟨by omega, by omega⟩, Int.toNat_natCast]
            have htk : (seg b (i + 1) e).take (c - 128).toNat = seg b (i + 1) (i + 1 + n) := by rw [hnt, seg_take (by omega)]
            have hfirst : (seg b (i + 1) e).getD 0 0 = b.getD (i + 1) 0 := by rw [seg_cons (by omega) he]; rfl
            by_cases h6 : b.getD (i + 1) 0 = 0
            · rw [itf_t (by simpa using h6), rdL4 h2 h34 h5 (.inl (by rw [hfirst]; exact h6))]; rfl
            · rw [itf_f (by simpa using h6)]
              by_cases h7 : num (seg b (i + 1) (i + 1 + n)) < 128
              · rw [ite_t (decide_eq_true h7), rdL4 h2 h34 h5 (.inr (by rw [htk]; exact h7))]; rfl
              · rw [ite_f (decide_eq_false h7), rdL5 h2 h34 h5 (fun h => h.elim (fun h => h6 (hfirst ▸ h)) (fun h => h7 (htk ▸ h))), htk, hnt]
                simp only [lv3]
                rw [seg_drop, seg_len he, wi64 (by omega) (by omega)]
                congr 3
                omega

def rv (e : Nat) : (Tree × List Int) ⊕ Int → Tree × Int × Int
  | .inl (t, r) => (t, (e : Int) - (r.length : Int), 0)
  | .inr c => (.node 0 [] [], 0, c)

theorem s55 (G : (List Int) × Int × Int × Int → Option (Tree × Int × Int)) (b : List Int) (i d n o : Int) (x t : Int) (acc : List Tree) : stepd37_0 G (b, i, d, n, o, (x, (), ()), (t, (), ()), acc) = (if (decide (i < (IntKind.i64.wrap (o + n)))) = true then
      (G (b, i, (IntKind.i64.wrap (o + n)), (IntKind.i64.wrap (d + 1)))).bind fun (y7, y8, y9) =>
        if (y9 != 0) = true then some (.inr (.inl (0, y9, (0, (), ()))))
        else
          if okBytes (acc.length + 1) 56 then some (.inl (b, y8, d, n, o, (x, (), ()), (t, (), ()), acc ++ [Tree.node y7.tag y7.body y7.kids]))
          else none
    else some (.inr (.inr (i, (x, (), ()), (t, (), ()), acc)))) := rfl

theorem ref_kids {G : (List Int) × Int × Int × Int → Option (Tree × Int × Int)} {g : List Int → (Tree × List Int) ⊕ Int} {b : List Int} (hb : By b) (hl : b.length ≤ 65536) {d x t : Int} (hd : 0 ≤ d ∧ d < 100) {o n : Nat} (ho : o + n ≤ b.length)
    (hG : ∀ i, i ≤ o + n → G (b, (i : Int), ((o + n : Nat) : Int), d + 1) = some (rv (o + n) (g (seg b i (o + n))))) (hs : ∀ s t r, g s = .inl (t, r) → r.length < s.length ∧ ∃ q, r = s.drop q) (hne : ∀ s e, g s = .inr e → e ≠ 0) :
    ∀ (m i : Nat) (acc : List Tree), o + n - i ≤ m → i ≤ o + n → acc.length + (o + n - i) ≤ 65536 →
      loopO (stepd37_0 G) (b, (i : Int), d, (n : Int), (o : Int), (x, (), ()), (t, (), ()), acc) = some (match rdKs g m (seg b i (o + n)) with | .inl ks => .inr (((o + n : Nat) : Int), (x, (), ()), (t, (), ()), acc ++ ks) | .inr e => .inl (0, e, (0, (), ()))) := by
  have e1 : IntKind.i64.wrap ((o : Int) + (n : Int)) = ((o + n : Nat) : Int) := by rw [wi64 (by omega) (by omega)]; omega
  intro m
  induction m with
  | zero =>
    intro i acc h1 h2 h3
    have hi : i = o + n := by omega
    rw [loopO_eq, s55, e1, ite_f (decide_eq_false (by omega)), seg_nil (by omega), hi]
    simp [rdKs]
  | succ m ih =>
    intro i acc h1 h2 h3
    by_cases hi : i = o + n
    · rw [loopO_eq, s55, e1, ite_f (decide_eq_false (by omega)), seg_nil (by omega), hi]
      simp [rdKs]
    · have hlt : i < o + n := by omega
      have hcons := seg_cons (b := b) hlt ho
      have hks : rdKs g (m + 1) (seg b i (o + n)) = (match g (seg b i (o + n)) with
        | .inr e => .inr e
        | .inl (t, r) => (match rdKs g m r with | .inl ks => .inl (t :: ks) | .inr e => .inr e)) := by rw [hcons]; rfl
      rw [hks]
      have hGi := hG i h2
      cases hg : g (seg b i (o + n)) with
      | inr e =>
        rw [hg] at hGi
        have hGi : G (b, (i : Int), ((o + n : Nat) : Int), d + 1) = some (.node 0 [] [], 0, e) := hGi
        have hd1 : (e != 0) = true := by simpa using hne _ _ hg
        rw [loopO_eq, s55, e1, ite_t (decide_eq_true (by omega)), wi64 (n := d + 1) (by omega) (by omega), hGi]
        simp only [Option.bind_some, hd1, if_true]
      | inl p =>
        obtain ⟨k, r⟩ := p
        rw [hg] at hGi
        have hGi : G (b, (i : Int), ((o + n : Nat) : Int), d + 1) = some (k, ((o + n : Nat) : Int) - (r.length : Int), 0) := hGi
        obtain ⟨h4, q, h5⟩ := hs _ _ _ hg
        have hsl : (seg b i (o + n)).length = o + n - i := seg_len ho
        rw [hsl] at h4
        have hrl : r.length = o + n - i - q := by rw [h5, List.length_drop, hsl]
        rw [seg_drop] at h5
        obtain ⟨j, hj1, hj2, hj3⟩ : ∃ j : Nat, i < j ∧ j ≤ o + n ∧ r = seg b j (o + n) ∧ r.length = o + n - j := by
          by_cases hq : i + q ≤ o + n
          · exact ⟨i + q, by omega, hq, h5, by omega⟩
          · exact ⟨o + n, hlt, Nat.le_refl _, by rw [h5, seg_nil (by omega), seg_nil (Nat.le_refl _)], by omega⟩
        have ej : ((o + n : Nat) : Int) - (r.length : Int) = (j : Int) := by omega
        rw [ej] at hGi
        have hd1 : ((0 : Int) != 0) = false := rfl
        rw [loopO_eq, s55, e1, ite_t (decide_eq_true (by omega)), wi64 (n := d + 1) (by omega) (by omega), hGi]
        simp only [Option.bind_some, hd1, Bool.false_eq_true, if_false]
        rw [if_pos (okB56 (by omega)), Tree.eta]
        simp only []
        rw [ih j (acc ++ [k]) (by omega) hj2 (by simp; omega), ← hj3.1]
        cases rdKs g m r with
        | inl ks => simp
        | inr e => rfl

theorem rdLen_drop {s r : List Int} {n : Int} (h : rdLen s = .inl (n, r)) : ∃ q, r = s.drop q := by
  cases s with
  | nil => cases h
  | cons c s =>
    rw [rdLen_cons] at h
    split at h
    · cases h; exact ⟨1, rfl⟩
    · split at h
      · cases h
      · split at h
        · cases h
        · split at h
          · cases h
          · cases h; exact ⟨(c - 128).toNat + 1, rfl⟩
theorem rdI_drop {f : Nat} {s r : List Int} {t : Tree} (h : rdI f s = .inl (t, r)) : ∃ q, r = s.drop q := by
  cases f with
  | zero => cases h
  | succ f =>
    cases s with
    | nil => cases h
    | cons x s =>
      rw [rdI_cons] at h
      split at h
      · cases h
      · split at h
        · cases h
        · rename_i n r' hl
          obtain ⟨q, hq⟩ := rdLen_drop hl
          have key : ∃ q, r'.drop n.toNat = (x :: s).drop q := ⟨q + n.toNat + 1, by rw [hq, List.drop_drop]; rfl⟩
          split at h
          · cases h
          · split at h
            · split at h
              · cases h; exact key
              · cases h
            · cases h; exact key

theorem read55 {b : List Int} (hb : By b) (hl : b.length ≤ 65536) : ∀ (k f i e : Nat), f < k → f ≤ 17 → i ≤ e → e ≤ b.length → FRd37 k (b, (i : Int), (e : Int), 17 - (f : Int)) = some (rv e (rdI f (seg b i e))) := by
  intro k
  induction k with
  | zero => intro f i e h; omega
  | succ k ih =>
    intro f i e hf hf2 hi he
    show Bd37 (FRd37 k) (b, (i : Int), (e : Int), 17 - (f : Int)) = _
    simp only [Bd37]
    cases f with
    | zero => rfl
    | succ f =>
      rw [ite_f (decide_eq_false (by omega))]
      by_cases h1 : e ≤ i
      · rw [ite_t (decide_eq_true (by omega)), seg_nil h1]; rfl
      · rw [ite_f (decide_eq_false (by omega)), if_pos ⟨by omega, by omega⟩, seg_cons (by omega) he, rdI_cons, Int.toNat_natCast]
        obtain ⟨g1, g2⟩ := getD_by hb i
        generalize hc : b.getD i 0 = t at g1 g2
        have e89 : Fd52 t = some (decide (t % 32 = 31)) := by simp only [Fd52, none_ref g1]
        have e91 : Fd54 t = some (bltT t) := by simp only [Fd54, blt_ref g1 g2]
        rw [e89]
        simp only [Option.bind_some]
        by_cases h2 : t % 32 = 31
        · rw [ite_t (decide_eq_true h2), if_pos h2]; rfl
        · rw [ite_f (decide_eq_false h2), if_neg h2]
          have ei : IntKind.i64.wrap ((i : Int) + 1) = ((i + 1 : Nat) : Int) := by rw [wi64 (by omega) (by omega)]; omega
          rw [ei, len90 hb hl (by omega) he]
          have hsl : (seg b (i + 1) e).length = e - (i + 1) := seg_len he
          cases hr : rdLen (seg b (i + 1) e) with
          | inr c =>
            have hce := rdLen_err hr
            simp only [lv3, Option.bind_some]
            rw [ite_t (by rcases hce with h | h <;> rw [h] <;> rfl)]; rfl
          | inl p =>
            obtain ⟨n, r⟩ := p
            obtain ⟨e1, e2, e3⟩ := rdLen_spec (seg_by hb _ _) hr
            have hrs := rdLen_short hr
            obtain ⟨q, hq⟩ := rdLen_drop hr
            rw [seg_drop] at hq
            have hrl : r.length ≤ e := by omega
            obtain ⟨o, ho⟩ : ∃ o : Nat, (e : Int) - (r.length : Int) = o := ⟨e - r.length, by omega⟩
            have hro : r = seg b o e := by
              have h5 : r.length = e - (i + 1 + q) := by rw [hq, seg_len he]
              by_cases h6 : i + 1 + q ≤ e
              · have : o = i + 1 + q := by omega
                rw [this]; exact hq
              · rw [hq, seg_nil (by omega), seg_nil (by omega)]
            obtain ⟨m, rfl⟩ : ∃ m : Nat, n = m := ⟨n.toNat, by omega⟩
            simp only [lv3, Option.bind_some]
            rw [ite_f (by rfl), ho, wi64 (n := (e : Int) - (o : Int)) (by omega) (by omega)]
            by_cases h3 : (r.length : Int) < (m : Int)
            · rw [ite_t (decide_eq_true (by omega)), if_pos h3]; rfl
            · rw [ite_f (decide_eq_false (by omega)), if_neg h3, e91, Int.toNat_natCast]
              simp only [Option.bind_some]
              have hom : o + m ≤ e := by omega
              have ew : IntKind.i64.wrap ((o : Int) + (m : Int)) = ((o + m : Nat) : Int) := by rw [wi64 (by omega) (by omega)]; omega
              have hdl : (r.drop m).length = r.length - m := List.length_drop ..
              have hpl : ((e : Int) - ((r.drop m).length : Int)) = ((o + m : Nat) : Int) := by rw [hdl]; omega
              cases hbt : bltT t with
              | false =>
                rw [ite_t (by rfl), ew, if_pos ⟨by omega, by omega, by omega⟩]
                have hsg : ((b.drop o).take (((o + m : Nat) : Int).toNat - o)) = r.take m := by
                  rw [hro, seg_take hom, Int.toNat_natCast]
                  unfold seg
                  rw [List.drop_take]
                rw [hsg, if_pos (okB1 (by simp; omega))]
                simp only [List.replicate_zero, List.nil_append]
                show _ = some (rv e (.inl (.node t (r.take m) [], r.drop m)))
                simp only [rv]
                rw [hpl]
              | true =>
                rw [ite_f (by rfl)]
                have hK := ref_kids (G := FRd37 k) (g := rdI f) hb hl (d := 17 - ((f + 1 : Nat) : Int)) (x := 0) (t := t) (by omega) (o := o) (n := m) (by omega) (fun j hj => by
                  have := ih f j (o + m) (by omega) (by omega) hj (by omega)
                  rw [show (17 : Int) - ((f + 1 : Nat) : Int) + 1 = 17 - (f : Int) by omega]
                  exact this) (fun s t r h => ⟨rdI_short h, rdI_drop h⟩) (fun s e h => by have := rdI_err h; omega) m o [] (by omega) (by omega) (by simp; omega)
                refine (congrArg (Option.bind · _) hK).trans ?_
                have hst : seg b o (o + m) = r.take m := by rw [hro, seg_take hom]
                rw [hst]
                show _ = some (rv e (match rdKs (rdI f) m (r.take m) with | .inl ks => .inl (.node t [] ks, r.drop m) | .inr e => .inr e))
                cases rdKs (rdI f) m (r.take m) with
                | inr c => rfl
                | inl ks =>
                  simp only [Option.bind_some, rv, List.nil_append]
                  rw [hpl]

theorem refDecode {b : List Int} (hb : By b) : Fd10 b = some (decB b) := by
  simp only [Fd10]
  unfold decB
  by_cases h : 65536 < b.length
  · rw [ite_t (decide_eq_true (by omega)), if_pos h]
  · rw [ite_f (decide_eq_false (by omega)), if_neg h]
    have hseg : seg b 0 b.length = b := by simp [seg]
    have h55 : Fd37 (b, 0, (b.length : Int), 1) = some (rv b.length (rdI 16 b)) := by
      have := read55 hb (by omega) 20 16 0 b.length (by omega) (by omega) (Nat.zero_le _) (Nat.le_refl _)
      rw [hseg] at this
      exact this
    rw [h55]
    cases hr : rdI 16 b with
    | inr n =>
      have hn := rdI_err hr
      simp only [rv, Option.bind_some]
      rw [ite_t (by simp; omega)]
    | inl p =>
      obtain ⟨t, r⟩ := p
      have hs := rdI_short hr
      simp only [rv, Option.bind_some]
      rw [ite_f (by rfl)]
      cases r with
      | nil => rw [ite_f (decide_eq_false (by simp)), if_pos rfl, Tree.eta]
      | cons x r => rw [ite_t (decide_eq_true (by simp only [List.length_cons]; omega)), if_neg (by simp)]
end Go.Abs
