import Derived.Test.YtkkamfhppokooaaCCert1L
/- The document's Decode. -/
set_option linter.unusedVariables false
set_option linter.unusedSimpArgs false
namespace Go.Abs

def seg (b : List Int) (i e : Nat) : List Int := (b.take e).drop i
theorem seg_len {b : List Int} {i e : Nat} (he : e ≤ b.length) : (seg b i e).length = e - i := by simp [seg]; omega
theorem seg_by {b : List Int} (hb : By b) (i e : Nat) : By (seg b i e) := (hb.take e).drop i
theorem seg_cons {b : List Int} {i e : Nat} (h : i < e) (he : e ≤ b.length) : seg b i e = b.getD i 0 :: seg b (i + 1) e := by
  unfold seg
  have hi : i < (b.take e).length := by simp; omega
  rw [List.drop_eq_getElem_cons hi, List.getElem_take, List.getD_eq_getElem?_getD, List.getElem?_eq_getElem (by omega)]
  rfl
theorem seg_nil {b : List Int} {i e : Nat} (h : e ≤ i) : seg b i e = [] := by
  unfold seg
  exact List.drop_eq_nil_of_le (by simp; omega)
theorem seg_drop (b : List Int) (i e n : Nat) : (seg b i e).drop n = seg b (i + n) e := by simp [seg, List.drop_drop]
theorem seg_take {b : List Int} {i e n : Nat} (h : i + n ≤ e) : (seg b i e).take n = seg b i (i + n) := by
  unfold seg
  rw [List.take_drop, List.take_take]
  congr 2
  omega
theorem getD_by {b : List Int} (hb : By b) (i : Nat) : 0 ≤ b.getD i 0 ∧ b.getD i 0 < 256 := by
  rw [List.getD_eq_getElem?_getD]
  cases h : b[i]? with
  | none => simp
  | some y => exact hb y (List.mem_of_getElem? h)

theorem s90 (b : List Int) (i n z k : Int) : stepc90_0 (b, i, n, z, k) = (if (decide (k ≤ n)) = true then
      if (0 : Int) ≤ (IntKind.i64.wrap (i + k)) ∧ (IntKind.i64.wrap (i + k)) < (b.length : Int) then
        some (.inl (b, i, n, (IntKind.i64.wrap ((IntKind.i64.wrap (256 * z)) + (IntKind.i64.wrap (b.getD (IntKind.i64.wrap (i + k)).toNat 0)))), (IntKind.i64.wrap (k + 1))))
      else none
    else some (.inr (b, i, n, z))) := rfl

theorem loop90 {b : List Int} (hb : By b) (hl : b.length ≤ 65536) {i n : Nat} (hn : n ≤ 3) (hi : i + n < b.length) :
    loopO stepc90_0 (b, (i : Int), (n : Int), 0, 1) = some (b, (i : Int), (n : Int), num (seg b (i + 1) (i + 1 + n))) := by
  have h := loopO_run (step := stepc90_0) (fun k => (b, (i : Int), (n : Int), num (seg b (i + 1) (i + 1 + k)), ((k + 1 : Nat) : Int))) n (b, (i : Int), (n : Int), num (seg b (i + 1) (i + 1 + n))) ?_ ?_
  · have e : num (seg b (i + 1) (i + 1 + 0)) = 0 := by rw [seg_nil (by omega)]; rfl
    simp only [e] at h
    exact h
  · intro k hk
    have hsl : (seg b (i + 1) (i + 1 + k)).length = k := by rw [seg_len (by omega)]; omega
    obtain ⟨b1, b2⟩ := num_bound (seg_by hb (i + 1) (i + 1 + k)) (by omega)
    have hg := getD_by hb (i + (k + 1))
    have hs : seg b (i + 1) (i + 1 + (k + 1)) = seg b (i + 1) (i + 1 + k) ++ [b.getD (i + (k + 1)) 0] := by
      unfold seg
      have e1 : i + 1 + (k + 1) = (i + 1 + k) + 1 := by omega
      have hlt : i + 1 + k < b.length := by omega
      rw [e1, List.take_succ_eq_append_getElem hlt, List.drop_append_of_le_length (by simp; omega), List.getD_eq_getElem?_getD, List.getElem?_eq_getElem (by omega)]
      simp only [Option.getD_some]
      congr 3
      omega
    rw [s90, ite_t (decide_eq_true (by omega)), wi64 (n := (i : Int) + ((k + 1 : Nat) : Int)) (by omega) (by omega), if_pos ⟨by omega, by omega⟩]
    have e2 : ((i : Int) + ((k + 1 : Nat) : Int)).toNat = i + (k + 1) := by omega
    rw [e2, wi64 (n := b.getD (i + (k + 1)) 0) (by omega) (by omega), wi64 (n := 256 * _) (by omega) (by omega), wi64 (by omega) (by omega), wi64 (by omega) (by omega), hs, num_snoc]
    rfl
  · rw [s90, ite_f (decide_eq_false (by omega))]

def lv3 (e : Nat) : (Int × List Int) ⊕ Int → Int × Int × Int
  | .inl (n, r) => (n, (e : Int) - (r.length : Int), 0)
  | .inr c => (0, 0, c)

theorem rdL1 {c : Int} {s : List Int} (h : c < 128) : rdLen (c :: s) = .inl (c, s) := by rw [rdLen_cons, if_pos h]
theorem rdL2 {c : Int} {s : List Int} (h : ¬ c < 128) (h2 : c = 128 ∨ 131 < c) : rdLen (c :: s) = .inr 124 := by rw [rdLen_cons, if_neg h, if_pos h2]
theorem rdL3 {c : Int} {s : List Int} (h : ¬ c < 128) (h2 : ¬ (c = 128 ∨ 131 < c)) (h3 : s.length < (c - 128).toNat) : rdLen (c :: s) = .inr 122 := by rw [rdLen_cons, if_neg h, if_neg h2, if_pos h3]
theorem rdL4 {c : Int} {s : List Int} (h : ¬ c < 128) (h2 : ¬ (c = 128 ∨ 131 < c)) (h3 : ¬ s.length < (c - 128).toNat) (h4 : s.getD 0 0 = 0 ∨ num (s.take (c - 128).toNat) < 128) : rdLen (c :: s) = .inr 124 := by rw [rdLen_cons, if_neg h, if_neg h2, if_neg h3, if_pos h4]
theorem rdL5 {c : Int} {s : List Int} (h : ¬ c < 128) (h2 : ¬ (c = 128 ∨ 131 < c)) (h3 : ¬ s.length < (c - 128).toNat) (h4 : ¬ (s.getD 0 0 = 0 ∨ num (s.take (c - 128).toNat) < 128)) : rdLen (c :: s) = .inl (num (s.take (c - 128).toNat), s.drop (c - 128).toNat) := by rw [rdLen_cons, if_neg h, if_neg h2, if_neg h3, if_neg h4]

theorem len90 {b : List Int} (hb : By b) (hl : b.length ≤ 65536) {i e : Nat} (hi : i ≤ e) (he : e ≤ b.length) : Fc90 (b, (i : Int), (e : Int)) = some (lv3 e (rdLen (seg b i e))) := by
  simp only [Fc90]
  by_cases h1 : e ≤ i
  · rw [ite_t (decide_eq_true (by omega)), seg_nil h1]; rfl
  · rw [ite_f (decide_eq_false (by omega)), if_pos ⟨by omega, by omega⟩, seg_cons (by omega) he, Int.toNat_natCast]
    obtain ⟨g1, g2⟩ := getD_by hb i
    generalize hc : b.getD i 0 = c at g1 g2
    have hsl : (seg b (i + 1) e).length = e - (i + 1) := seg_len he
    rw [wi64 (n := c) (by omega) (by omega)]
    by_cases h2 : c < 128
    · rw [ite_t (decide_eq_true h2), rdL1 h2]
      simp only [lv3]
      rw [hsl, wi64 (by omega) (by omega)]
      congr 3
      omega
    · rw [ite_f (decide_eq_false h2), wi64 (n := c - 128) (by omega) (by omega)]
      by_cases h3 : c = 128
      · rw [itf_t (by simp [h3]), rdL2 h2 (.inl h3)]; rfl
      · rw [itf_f (by simp; omega)]
        by_cases h4 : 131 < c
        · rw [ite_t (decide_eq_true (by omega)), rdL2 h2 (.inr h4)]; rfl
        · have h34 : ¬ (c = 128 ∨ 131 < c) := fun h => h.elim h3 h4
          rw [ite_f (decide_eq_false (by omega)), wi64 (n := (e : Int) - i) (by omega) (by omega), wi64 (n := (e : Int) - i - 1) (by omega) (by omega)]
          by_cases h5 : (seg b (i + 1) e).length < (c - 128).toNat
          · rw [ite_t (decide_eq_true (by omega)), rdL3 h2 h34 h5]; rfl
          · rw [ite_f (decide_eq_false (by omega))]
            obtain ⟨n, hn⟩ : ∃ n : Nat, c - 128 = n := ⟨(c - 128).toNat, by omega⟩
            have hn1 : 1 ≤ n := by omega
            have hn3 : n ≤ 3 := by omega
            have hnt : (c - 128).toNat = n := by omega
            rw [hn]
            refine (congrArg (Option.bind · _) (loop90 hb hl hn3 (by omega))).trans ?_
            simp only [Option.bind_some]
            have e1 : IntKind.i64.wrap ((i : Int) + 1) = ((i + 1 : Nat) : Int) := by rw [wi64 (by omega) (by omega)]; omega
            rw [e1, if_pos ⟨by omega, by omega⟩, Int.toNat_natCast]
            have htk : (seg b (i + 1) e).take (c - 128).toNat = seg b (i + 1) (i + 1 + n) := by rw [hnt, seg_take (by omega)]
            have hfirst : (seg b (i + 1) e).getD 0 0 = b.getD (i + 1) 0 := by rw [seg_cons (by omega) he]; rfl
            by_cases h6 : b.getD (i + 1) 0 = 0
            · rw [itf_t (by simpa using h6), rdL4 h2 h34 h5 (.inl (by rw [hfirst]; exact h6))]; rfl
            · rw [itf_f (by simpa using h6)]
              by_cases h7 : num (seg b (i + 1) (i + 1 + n)) < 128
              · rw [ite_t (decide_eq_true h7), rdL4 h2 h34 h5 (.inr (by rw [htk]; exact h7))]; rfl
              · rw [ite_f (decide_eq_false h7), rdL5 h2 h34 h5 (fun h => h.elim (fun h => h6 (hfirst ▸ h)) (fun h => h7 (htk ▸ h))), htk, hnt]
                simp only [lv3]
                rw [seg_drop, seg_len he, wi64 (by omega) (by omega)]
                congr 3
                omega

def rv (e : Nat) : (Tree × List Int) ⊕ Int → Tree × Int × Int
  | .inl (t, r) => (t, (e : Int) - (r.length : Int), 0)
  | .inr c => (.node 0 [] [], 0, c)

theorem s55 (G : (List Int) × Int × Int × Int → Option (Tree × Int × Int)) (b : List Int) (i d n o : Int) (x t : Int) (acc : List Tree) : stepc55_0 G (b, i, d, n, o, (x, (), ()), (t, (), ()), acc) = (if (decide (i < (IntKind.i64.wrap (o + n)))) = true then
      (G (b, i, (IntKind.i64.wrap (o + n)), (IntKind.i64.wrap (d + 1)))).bind fun (y7, y8, y9) =>
        if (y9 != 0) = true then some (.inr (.inl (0, y9, (0, (), ()))))
        else
          if okBytes (acc.length + 1) 56 then some (.inl (b, y8, d, n, o, (x, (), ()), (t, (), ()), acc ++ [Tree.node y7.tag y7.body y7.kids]))
          else none
    else some (.inr (.inr (i, (x, (), ()), (t, (), ()), acc)))) := rfl

theorem ref_kids {G : (List Int) × Int × Int × Int → Option (Tree × Int × Int)} {g : List Int → (Tree × List Int) ⊕ Int} {b : List Int} (hb : By b) (hl : b.length ≤ 65536) {d x t : Int} (hd : 0 ≤ d ∧ d < 100) {o n : Nat} (ho : o + n ≤ b.length)
    (hG : ∀ i, i ≤ o + n → G (b, (i : Int), ((o + n : Nat) : Int), d + 1) = some (rv (o + n) (g (seg b i (o + n))))) (hs : ∀ s t r, g s = .inl (t, r) → r.length < s.length ∧ ∃ q, r = s.drop q) (hne : ∀ s e, g s = .inr e → e ≠ 0) :
    ∀ (m i : Nat) (acc : List Tree), o + n - i ≤ m → i ≤ o + n → acc.length + (o + n - i) ≤ 65536 →
      loopO (stepc55_0 G) (b, (i : Int), d, (n : Int), (o : Int), (x, (), ()), (t, (), ()), acc) = some (match rdKs g m (seg b i (o + n)) with | .inl ks => .inr (((o + n : Nat) : Int), (x, (), ()), (t, (), ()), acc ++ ks) | .inr e => .inl (0, e, (0, (), ()))) := by
  have e1 : IntKind.i64.wrap ((o : Int) + (n : Int)) = ((o + n : Nat) : Int) := by rw [wi64 (by omega) (by omega)]; omega
  intro m
  induction m with
  | zero =>
    intro i acc h1 h2 h3
    have hi : i = o + n := by omega
    rw [loopO_eq, s55, e1, ite_f (decide_eq_false (by omega)), seg_nil (by omega), hi]
    simp [rdKs]
  | succ m ih =>
    intro i acc h1 h2 h3
    by_cases hi : i = o + n
    · rw [loopO_eq, s55, e1, ite_f (decide_eq_false (by omega)), seg_nil (by omega), hi]
      simp [rdKs]
    · have hlt : i < o + n := by omega
      have hcons := seg_cons (b := b) hlt ho
      have hks : rdKs g (m + 1) (seg b i (o + n)) = (match g (seg b i (o + n)) with
        | .inr e => .inr e
        | .inl (t, r) => (match rdKs g m r with | .inl ks => .inl (t :: ks) | .inr e => .inr e)) := by rw [hcons]; rfl
      rw [hks]
      have hGi := hG i h2
      cases hg : g (seg b i (o + n)) with
      | inr e =>
        rw [hg] at hGi
        have hGi : G (b, (i : Int), ((o + n : Nat) : Int), d + 1) = some (.node 0 [] [], 0, e) := hGi
        have hd1 : (e != 0) = true := by simpa using hne _ _ hg
        rw [loopO_eq, s55, e1, ite_t (decide_eq_true (by omega)), wi64 (n := d + 1) (by omega) (by omega), hGi]
        simp only [Option.bind_some, hd1, if_true]
      | inl p =>
        obtain ⟨k, r⟩ := p
        rw [hg] at hGi
        have hGi : G (b, (i : Int), ((o + n : Nat) : Int), d + 1) = some (k, ((o + n : Nat) : Int) - (r.length : Int), 0) := hGi
        obtain ⟨h4, q, h5⟩ := hs _ _ _ hg
        have hsl : (seg b i (o + n)).length = o + n - i := seg_len ho
        rw [hsl] at h4
        have hrl : r.length = o + n - i - q := by rw [h5, List.length_drop, hsl]
        rw [seg_drop] at h5
        obtain ⟨j, hj1, hj2, hj3⟩ : ∃ j : Nat, i < j ∧ j ≤ o + n ∧ r = seg b j (o + n) ∧ r.length = o + n - j := by
          by_cases hq : i + q ≤ o + n
          · exact ⟨i + q, by omega, hq, h5, by omega⟩
          · exact ⟨o + n, hlt, Nat.le_refl _, by rw [h5, seg_nil (by omega), seg_nil (Nat.le_refl _)], by omega⟩
        have ej : ((o + n : Nat) : Int) - (r.length : Int) = (j : Int) := by omega
        rw [ej] at hGi
        have hd1 : ((0 : Int) != 0) = false := rfl
        rw [loopO_eq, s55, e1, ite_t (decide_eq_true (by omega)), wi64 (n := d + 1) (by omega) (by omega), hGi]
        simp only [Option.bind_some, hd1, Bool.false_eq_true, if_false]
        rw [if_pos (okB56 (by omega)), Tree.eta]
        simp only []
        rw [ih j (acc ++ [k]) (by omega) hj2 (by simp; omega), ← hj3.1]
        cases rdKs g m r with
        | inl ks => simp
        | inr e => rfl

theorem rdLen_drop {s r : List Int} {n : Int} (h : rdLen s = .inl (n, r)) : ∃ q, r = s.drop q := by
  cases s with
  | nil => cases h
  | cons c s =>
    rw [rdLen_cons] at h
    split at h
    · cases h; exact ⟨1, rfl⟩
    · split at h
      · cases h
      · split at h
        · cases h
        · split at h
          · cases h
          · cases h; exact ⟨(c - 128).toNat + 1, rfl⟩
theorem rdI_drop {f : Nat} {s r : List Int} {t : Tree} (h : rdI f s = .inl (t, r)) : ∃ q, r = s.drop q := by
  cases f with
  | zero => cases h
  | succ f =>
    cases s with
    | nil => cases h
    | cons x s =>
      rw [rdI_cons] at h
      split at h
      · cases h
      · split at h
        · cases h
        · rename_i n r' hl
          obtain ⟨q, hq⟩ := rdLen_drop hl
          have key : ∃ q, r'.drop n.toNat = (x :: s).drop q := ⟨q + n.toNat + 1, by rw [hq, List.drop_drop]; rfl⟩
          split at h
          · cases h
          · split at h
            · split at h
              · cases h; exact key
              · cases h
            · cases h; exact key

theorem read55 {b : List Int} (hb : By b) (hl : b.length ≤ 65536) : ∀ (k f i e : Nat), f < k → f ≤ 17 → i ≤ e → e ≤ b.length → FRc55 k (b, (i : Int), (e : Int), 17 - (f : Int)) = some (rv e (rdI f (seg b i e))) := by
  intro k
  induction k with
  | zero => intro f i e h; omega
  | succ k ih =>
    intro f i e hf hf2 hi he
    show Bc55 (FRc55 k) (b, (i : Int), (e : Int), 17 - (f : Int)) = _
    simp only [Bc55]
    cases f with
    | zero => rfl
    | succ f =>
      rw [ite_f (decide_eq_false (by omega))]
      by_cases h1 : e ≤ i
      · rw [ite_t (decide_eq_true (by omega)), seg_nil h1]; rfl
      · rw [ite_f (decide_eq_false (by omega)), if_pos ⟨by omega, by omega⟩, seg_cons (by omega) he, rdI_cons, Int.toNat_natCast]
        obtain ⟨g1, g2⟩ := getD_by hb i
        generalize hc : b.getD i 0 = t at g1 g2
        have e89 : Fc89 t = some (decide (t % 32 = 31)) := by simp only [Fc89, none_ref g1]
        have e91 : Fc91 t = some (bltT t) := by simp only [Fc91, blt_ref g1 g2]
        rw [e89]
        simp only [Option.bind_some]
        by_cases h2 : t % 32 = 31
        · rw [ite_t (decide_eq_true h2), if_pos h2]; rfl
        · rw [ite_f (decide_eq_false h2), if_neg h2]
          have ei : IntKind.i64.wrap ((i : Int) + 1) = ((i + 1 : Nat) : Int) := by rw [wi64 (by omega) (by omega)]; omega
          rw [ei, len90 hb hl (by omega) he]
          have hsl : (seg b (i + 1) e).length = e - (i + 1) := seg_len he
          cases hr : rdLen (seg b (i + 1) e) with
          | inr c =>
            have hce := rdLen_err hr
            simp only [lv3, Option.bind_some]
            rw [ite_t (by rcases hce with h | h <;> rw [h] <;> rfl)]; rfl
          | inl p =>
            obtain ⟨n, r⟩ := p
            obtain ⟨e1, e2, e3⟩ := rdLen_spec (seg_by hb _ _) hr
            have hrs := rdLen_short hr
            obtain ⟨q, hq⟩ := rdLen_drop hr
            rw [seg_drop] at hq
            have hrl : r.length ≤ e := by omega
            obtain ⟨o, ho⟩ : ∃ o : Nat, (e : Int) - (r.length : Int) = o := ⟨e - r.length, by omega⟩
            have hro : r = seg b o e := by
              have h5 : r.length = e - (i + 1 + q) := by rw [hq, seg_len he]
              by_cases h6 : i + 1 + q ≤ e
              · have : o = i + 1 + q := by omega
                rw [this]; exact hq
              · rw [hq, seg_nil (by omega), seg_nil (by omega)]
            obtain ⟨m, rfl⟩ : ∃ m : Nat, n = m := ⟨n.toNat, by omega⟩
            simp only [lv3, Option.bind_some]
            rw [ite_f (by rfl), ho, wi64 (n := (e : Int) - (o : Int)) (by omega) (by omega)]
            by_cases h3 : (r.length : Int) < (m : Int)
            · rw [ite_t (decide_eq_true (by omega)), if_pos h3]; rfl
            · rw [ite_f (decide_eq_false (by omega)), if_neg h3, e91, Int.toNat_natCast]
              simp only [Option.bind_some]
              have hom : o + m ≤ e := by omega
              have ew : IntKind.i64.wrap ((o : Int) + (m : Int)) = ((o + m : Nat) : Int) := by rw [wi64 (by omega) (by omega)]; omega
              have hdl : (r.drop m).length = r.length - m := List.length_drop ..
              have hpl : ((e : Int) - ((r.drop m).length : Int)) = ((o + m : Nat) : Int) := by rw [hdl]; omega
              cases hbt : bltT t with
              | false =>
                rw [ite_t (by rfl), ew, if_pos ⟨by omega, by omega, by omega⟩]
                have hsg : ((b.drop o).take (((o + m : Nat) : Int).toNat - o)) = r.take m := by
                  rw [hro, seg_take hom, Int.toNat_natCast]
                  unfold seg
                  rw [List.drop_take]
                rw [hsg, if_pos (okB1 (by simp; omega))]
                simp only [List.replicate_zero, List.nil_append]
                show _ = some (rv e (.inl (.node t (r.take m) [], r.drop m)))
                simp only [rv]
                rw [hpl]
              | true =>
                rw [ite_f (by rfl)]
                have hK := ref_kids (G := FRc55 k) (g := rdI f) hb hl (d := 17 - ((f + 1 : Nat) : Int)) (x := 0) (t := t) (by omega) (o := o) (n := m) (by omega) (fun j hj => by
                  have := ih f j (o + m) (by omega) (by omega) hj (by omega)
                  rw [show (17 : Int) - ((f + 1 : Nat) : Int) + 1 = 17 - (f : Int) by omega]
                  exact this) (fun s t r h => ⟨rdI_short h, rdI_drop h⟩) (fun s e h => by have := rdI_err h; omega) m o [] (by omega) (by omega) (by simp; omega)
                refine (congrArg (Option.bind · _) hK).trans ?_
                have hst : seg b o (o + m) = r.take m := by rw [hro, seg_take hom]
                rw [hst]
                show _ = some (rv e (match rdKs (rdI f) m (r.take m) with | .inl ks => .inl (.node t [] ks, r.drop m) | .inr e => .inr e))
                cases rdKs (rdI f) m (r.take m) with
                | inr c => rfl
                | inl ks =>
                  simp only [Option.bind_some, rv, List.nil_append]
                  rw [hpl]

theorem refDecode {b : List Int} (hb : By b) : Fc27 b = some (decB b) := by
  simp only [Fc27]
  unfold decB
  by_cases h : 65536 < b.length
  · rw [ite_t (decide_eq_true (by omega)), if_pos h]
  · rw [ite_f (decide_eq_false (by omega)), if_neg h]
    have hseg : seg b 0 b.length = b := by simp [seg]
    have h55 : Fc55 (b, 0, (b.length : Int), 1) = some (rv b.length (rdI 16 b)) := by
      have := read55 hb (by omega) 20 16 0 b.length (by omega) (by omega) (Nat.zero_le _) (Nat.le_refl _)
      rw [hseg] at this
      exact this
    rw [h55]
    cases hr : rdI 16 b with
    | inr n =>
      have hn := rdI_err hr
      simp only [rv, Option.bind_some]
      rw [ite_t (by simp; omega)]
    | inl p =>
      obtain ⟨t, r⟩ := p
      have hs := rdI_short hr
      simp only [rv, Option.bind_some]
      rw [ite_f (by rfl)]
      cases r with
      | nil => rw [ite_f (decide_eq_false (by simp)), if_pos rfl, Tree.eta]
      | cons x r => rw [ite_t (decide_eq_true (by simp only [List.length_cons]; omega)), if_neg (by simp)]
end Go.Abs

/- Chapter 13: extensions are found and read. -/
set_option linter.unusedVariables false
set_option linter.unusedSimpArgs false
namespace Go.Abs

def f19 : Option Ex → (Int × Bool × Unit) × List Int × Bool
  | some x => ((x.1, x.2.1, ()), x.2.2, true)
  | none => ((0, false, ()), [], false)
def f20 : Option Ex → (Int × Bool × List Int) × Bool
  | some x => ((x.1, x.2.1, x.2.2), true)
  | none => ((0, false, []), false)

theorem s19 (n : Int) (l : List Ex) (m : Int) (k : Nat) : stepc19_0 (n, l, m, (k : Int), (0, false, ())) = (if (decide ((k : Int) < m)) = true then
      if (0 : Int) ≤ (k : Int) ∧ (k : Int) < (l.length : Int) then
        if ((ix l k).1 == n) = true then
          (Fc50 (ix l k).2.2).bind fun y4 => some (.inr (.inl (true, ((ix l k).1, (ix l k).2.1, ()), y4)))
        else some (.inl (n, l, m, (IntKind.i64.wrap ((k : Int) + 1)), (0, false, ())))
      else none
    else some (.inr (.inr (0, false, ())))) := rfl
theorem s20 (n : Int) (k : Nat) (c : Ce) : stepc20_0 (n, (k : Int), c, (0, false, ())) = (if (decide ((k : Int) < (c.2.2.2.2.1.length : Int))) = true then
      if (0 : Int) ≤ (k : Int) ∧ (k : Int) < (c.2.2.2.2.1.length : Int) then
        if ((ix c.2.2.2.2.1 k).1 == n) = true then
          if (0 : Int) ≤ (k : Int) ∧ (k : Int) < (c.2.2.2.2.1.length : Int) then
            some (.inr (.inl (true, ((ix c.2.2.2.2.1 k).1, (ix c.2.2.2.2.1 k).2.1, (ix c.2.2.2.2.1 k).2.2))))
          else none
        else some (.inl (n, (IntKind.i64.wrap ((k : Int) + 1)), c, (0, false, ())))
      else none
    else some (.inr (.inr (0, false, ())))) := rfl

theorem e19 (c : Ce) (n : Int) : Fc19 (c, n) = (loopO stepc19_0 (n, c.2.2.2.2.1, (c.2.2.2.2.1.length : Int), 0, (0, false, ()))).bind fun
      | (.inl (z5, z6, z7)) => some ((z6.1, z6.2.1, ()), z7, z5)
      | (.inr z8) => some ((0, false, ()), ([] : List Int), false) := rfl
theorem e20 (c : Ce) (n : Int) : Fc20 (c, n) = (loopO stepc20_0 (n, 0, c, (0, false, ()))).bind fun
      | (.inl (z5, z6)) => some ((z6.1, z6.2.1, z6.2.2), z5)
      | (.inr z7) => some ((0, false, ([] : List Int)), false) := rfl

theorem find_both {c : Ce} (hc : CeOk c) (n : Int) : ∃ r : Option Ex, (∀ x, r = some x → x ∈ c.2.2.2.2.1) ∧ Fc19 (c, n) = some (f19 r) ∧ Fc20 (c, n) = some (f20 r) := by
  have hn := hc.num
  by_cases h : ∃ j, j < c.2.2.2.2.1.length ∧ (ix c.2.2.2.2.1 j).1 = n
  · obtain ⟨j, ⟨hj, hjn⟩, hmin⟩ := exists_least h
    have hm : ix c.2.2.2.2.1 j ∈ c.2.2.2.2.1 := by rw [ix_get hj]; exact List.getElem_mem hj
    have hne : ∀ k, k < j → (ix c.2.2.2.2.1 k).1 ≠ n := fun k hk h => by have := hmin k ⟨by omega, h⟩; omega
    refine ⟨some (ix c.2.2.2.2.1 j), fun x hx => by cases hx; exact hm, ?_, ?_⟩
    · have hl := loopO_run (step := stepc19_0) (fun k => (n, c.2.2.2.2.1, (c.2.2.2.2.1.length : Int), ((k : Nat) : Int), (0, false, ()))) j (.inl (true, ((ix c.2.2.2.2.1 j).1, (ix c.2.2.2.2.1 j).2.1, ()), (ix c.2.2.2.2.1 j).2.2)) ?_ ?_
      · rw [e19]
        exact (congrArg (Option.bind · _) hl).trans rfl
      · intro k hk
        rw [s19, ite_t (decide_eq_true (by omega)), if_pos ⟨by omega, by omega⟩, ite_f (by simpa using hne k hk), wi64 (by omega) (by omega)]
        rfl
      · have e50 : Fc50 (ix c.2.2.2.2.1 j).2.2 = some (ix c.2.2.2.2.1 j).2.2 := by
          unfold Fc50
          rw [if_pos (okB1 (by have := (hc.exs _ hm).2; omega))]
        rw [s19, ite_t (decide_eq_true (by omega)), if_pos ⟨by omega, by omega⟩, ite_t (by simpa using hjn), e50]
        rfl
    · have hl := loopO_run (step := stepc20_0) (fun k => (n, ((k : Nat) : Int), c, (0, false, ()))) j (.inl (true, ((ix c.2.2.2.2.1 j).1, (ix c.2.2.2.2.1 j).2.1, (ix c.2.2.2.2.1 j).2.2))) ?_ ?_
      · rw [e20]
        exact (congrArg (Option.bind · _) hl).trans rfl
      · intro k hk
        rw [s20, ite_t (decide_eq_true (by omega)), if_pos ⟨by omega, by omega⟩, ite_f (by simpa using hne k hk), wi64 (by omega) (by omega)]
        rfl
      · rw [s20, ite_t (decide_eq_true (by omega)), if_pos ⟨by omega, by omega⟩, ite_t (by simpa using hjn), if_pos ⟨by omega, by omega⟩]
  · have hne : ∀ k, k < c.2.2.2.2.1.length → (ix c.2.2.2.2.1 k).1 ≠ n := fun k hk h2 => h ⟨k, hk, h2⟩
    refine ⟨none, fun x hx => (by cases hx), ?_, ?_⟩
    · have hl := loopO_run (step := stepc19_0) (fun k => (n, c.2.2.2.2.1, (c.2.2.2.2.1.length : Int), ((k : Nat) : Int), (0, false, ()))) c.2.2.2.2.1.length (.inr (0, false, ())) ?_ ?_
      · rw [e19]
        exact (congrArg (Option.bind · _) hl).trans rfl
      · intro k hk
        rw [s19, ite_t (decide_eq_true (by omega)), if_pos ⟨by omega, by omega⟩, ite_f (by simpa using hne k hk), wi64 (by omega) (by omega)]
        rfl
      · rw [s19, ite_f (decide_eq_false (by omega))]
    · have hl := loopO_run (step := stepc20_0) (fun k => (n, ((k : Nat) : Int), c, (0, false, ()))) c.2.2.2.2.1.length (.inr (0, false, ())) ?_ ?_
      · rw [e20]
        exact (congrArg (Option.bind · _) hl).trans rfl
      · intro k hk
        rw [s20, ite_t (decide_eq_true (by omega)), if_pos ⟨by omega, by omega⟩, ite_f (by simpa using hne k hk), wi64 (by omega) (by omega)]
        rfl
      · rw [s20, ite_f (decide_eq_false (by omega))]

/-! ### the item of an extension's value -/
theorem item_both {c : Ce} (hc : CeOk c) (n : Int) : ∃ (t : Tree) (e : Int), (e = 0 → TreeOk t) ∧ Fc51 (c, n) = some (t, e, c) ∧ Fc54 (c, n) = some (t, e) := by
  obtain ⟨r, hr, h1, h2⟩ := find_both hc n
  have e51 : Fc51 (c, n) = (Fc19 (c, n)).bind fun (y1, y2, y3) => if (!y3) = true then some (Tree.node 0 [] [], (131 : Int), c)
      else (Fc41 y2).bind fun (y4, y5) => if (y5 != 0) = true then some (Tree.node 0 [] [], 134, c) else some (Tree.node y4.tag y4.body y4.kids, 0, c) := rfl
  have e54 : Fc54 (c, n) = (Fc20 (c, n)).bind fun (y1, y2) => if (!y2) = true then some (Tree.node 0 [] [], (131 : Int))
      else (Fc27 y1.2.2).bind fun (y3, y4) => if (y4 != 0) = true then some (Tree.node 0 [] [], 134) else some (Tree.node y3.tag y3.body y3.kids, 0) := rfl
  rw [e51, e54, h1, h2]
  cases r with
  | none => exact ⟨.node 0 [] [], 131, fun h => absurd h (by decide), rfl, rfl⟩
  | some x =>
    have hx := hc.exs x (hr x rfl)
    simp only [f19, f20, Option.bind_some]
    rw [ite_f (by rfl), ite_f (by rfl), decode_eq hx.1, refDecode hx.1]
    simp only [Option.bind_some]
    by_cases hd : (decB x.2.2).2 = 0
    · refine ⟨(decB x.2.2).1, 0, fun _ => (encO_decB hx.1 hd).2, ?_, ?_⟩
      · rw [ite_f (by simpa using hd), Tree.eta]
      · rw [ite_f (by simpa using hd), Tree.eta]
    · refine ⟨.node 0 [] [], 134, fun h => absurd h (by decide), ?_, ?_⟩
      · rw [ite_t (by simpa using hd)]
      · rw [ite_t (by simpa using hd)]

theorem cnt_both {c : Ce} (hc : CeOk c) (n : Int) : ∃ z, Fc21 (c, n) = some z ∧ Fc24 (c, n) = some z := by
  obtain ⟨t, e, ht, h1, h2⟩ := item_both hc n
  have e21 : Fc21 (c, n) = (Fc51 (c, n)).bind fun (y1, y2, y3) => if (y2 != 0) = true then some (0, y2)
      else (Fc52 (Tree.node y1.tag y1.body y1.kids)).bind fun (y4, y5) => if (y5 != 0) = false then if (decide (y4 > 4294967295)) = true then some (0, 134) else some (IntKind.u32.wrap y4, 0) else some (0, 134) := rfl
  have e24 : Fc24 (c, n) = (Fc54 (c, n)).bind fun (y1, y2) => if (y2 != 0) = true then some (0, y2)
      else (Fc30 (Tree.node y1.tag y1.body y1.kids)).bind fun (y4, y5) => if (y5 != 0) = false then if (decide (y4 > 4294967295)) = true then some (0, 134) else some (IntKind.u32.wrap y4, 0) else some (0, 134) := rfl
  rw [e21, e24, h1, h2]
  simp only [Option.bind_some]
  by_cases he : e = 0
  · rw [ite_f (by simpa using he), ite_f (by simpa using he), Tree.eta, uint_eq (ht he), refUint_eq (ht he)]
    simp only [Option.bind_some]
    by_cases h3 : (uintO t).2 = 0
    · rw [itf_f (by simpa using h3)]
      by_cases h4 : (uintO t).1 > 4294967295
      · exact ⟨_, by rw [ite_t (decide_eq_true h4)], by rw [ite_t (decide_eq_true h4)]⟩
      · exact ⟨_, by rw [ite_f (decide_eq_false h4)], by rw [ite_f (decide_eq_false h4)]⟩
    · rw [itf_t (by simpa using h3)]
      exact ⟨_, rfl, rfl⟩
  · rw [ite_t (by simpa using he), ite_t (by simpa using he)]
    exact ⟨_, rfl, rfl⟩

theorem hash_both {c : Ce} (hc : CeOk c) (n : Int) : ∃ z, Fc22 (c, n) = some z ∧ Fc25 (c, n) = some z := by
  obtain ⟨t, e, ht, h1, h2⟩ := item_both hc n
  have e22 : Fc22 (c, n) = (Fc51 (c, n)).bind fun (y1, y2, y3) => if (y2 != 0) = true then some ((fun _ => 0), y2)
      else if (y1.tag != 4) = false then if ((y1.body.length : Int) != 32) = true then some ((fun _ => 0), 134)
        else if (32 : Int) ≤ (y1.body.length : Int) then some ((fun j => List.getD (α := Int) y1.body j 0), 0) else none
      else some ((fun _ => 0), 134) := rfl
  have e25 : Fc25 (c, n) = (Fc54 (c, n)).bind fun (y1, y2) => if (y2 != 0) = true then some ((fun _ => 0), y2)
      else if (y1.tag != 4) = false then if ((y1.body.length : Int) != 32) = true then some ((fun _ => 0), 134)
        else if (32 : Int) ≤ (y1.body.length : Int) then some ((fun j => List.getD (α := Int) y1.body j 0), 0) else none
      else some ((fun _ => 0), 134) := rfl
  rw [e22, e25, h1, h2]
  simp only [Option.bind_some]
  by_cases he : e = 0
  · rw [ite_f (by simpa using he)]
    by_cases h3 : t.tag = 4
    · rw [itf_f (by simpa using h3)]
      by_cases h4 : t.body.length = 32
      · rw [ite_f (by simp [h4]), if_pos (by omega)]
        exact ⟨_, rfl, rfl⟩
      · rw [ite_t (by simp; omega)]
        exact ⟨_, rfl, rfl⟩
    · rw [itf_t (by simpa using h3)]
      exact ⟨_, rfl, rfl⟩
  · rw [ite_t (by simpa using he)]
    exact ⟨_, rfl, rfl⟩

theorem key_both {c : Ce} (hc : CeOk c) (n : Int) : ∃ z : List Int × Int, z.1.length ≤ 9000000000000000 ∧ Fc23 (c, n) = some z ∧ Fc26 (c, n) = some z := by
  obtain ⟨t, e, ht, h1, h2⟩ := item_both hc n
  have e23 : Fc23 (c, n) = (Fc51 (c, n)).bind fun (y1, y2, y3) => if (y2 != 0) = true then some ([], y2)
      else (Fc53 (Tree.node y1.tag y1.body y1.kids)).bind fun (y4, y5) => if (y5 != 0) = false then if ((y4.length : Int) != 2017) = true then some ([], 134) else some (y4, 0) else some ([], 134) := rfl
  have e26 : Fc26 (c, n) = (Fc54 (c, n)).bind fun (y1, y2) => if (y2 != 0) = true then some ([], y2)
      else (Fc31 (Tree.node y1.tag y1.body y1.kids)).bind fun (y4, y5) => if (y5 != 0) = false then if ((y4.length : Int) != 2017) = true then some ([], 134) else some (y4, 0) else some ([], 134) := rfl
  rw [e23, e26, h1, h2]
  simp only [Option.bind_some]
  by_cases he : e = 0
  · rw [ite_f (by simpa using he), ite_f (by simpa using he), Tree.eta, bits_eq (ht he), refBits_eq (ht he)]
    simp only [Option.bind_some]
    by_cases h3 : (bitsO t).2 = 0
    · rw [itf_f (by simpa using h3)]
      by_cases h4 : (bitsO t).1.length = 2017
      · refine ⟨((bitsO t).1, 0), by show (bitsO t).1.length ≤ _; omega, ?_, ?_⟩ <;> rw [ite_f (by simp [h4])]
      · refine ⟨([], 134), by simp, ?_, ?_⟩ <;> rw [ite_t (by simp; omega)]
    · rw [itf_t (by simpa using h3)]
      exact ⟨([], 134), by simp, rfl, rfl⟩
  · rw [ite_t (by simpa using he), ite_t (by simpa using he)]
    exact ⟨([], e), by simp, rfl, rfl⟩

/-! ### the law -/
theorem s6 (n : Int) (k : Nat) (c : Ce) (u : Int × Bool × Unit) (row : List Int) : stepc6_0 (n, (k : Int), c, u, row) = (if (decide ((k : Int) < (row.length : Int))) = true then
      if (0 : Int) ≤ (k : Int) ∧ (k : Int) < (row.length : Int) then
        if (0 : Int) ≤ (k : Int) ∧ (k : Int) < (row.length : Int) then
          some (.inl (n, (IntKind.i64.wrap ((k : Int) + 1)), c, u, row.set k (bitsXor .u8 (row.getD k 0) 255)))
        else none
      else none
    else some (.inr (n, c))) := rfl
theorem loop6 (n : Int) (c : Ce) (u : Int × Bool × Unit) {L : Nat} (hL : L ≤ 9000000000000000) : ∀ (j k : Nat) (row : List Int), row.length = L → j = L - k → k ≤ L → loopO stepc6_0 (n, (k : Int), c, u, row) = some (n, c) := by
  intro j
  induction j with
  | zero =>
    intro k row h1 h2 h3
    rw [loopO_eq, s6, ite_f (decide_eq_false (by omega))]
  | succ j ih =>
    intro k row h1 h2 h3
    have e : IntKind.i64.wrap ((k : Int) + 1) = ((k + 1 : Nat) : Int) := by rw [wi64 (by omega) (by omega)]; omega
    rw [loopO_eq, s6, ite_t (decide_eq_true (by omega)), if_pos ⟨by omega, by omega⟩, if_pos ⟨by omega, by omega⟩, e]
    exact ih (k + 1) _ (by simp [h1]) (by omega) (by omega)

theorem finds {w : Wh} {n : Int} (h : WhOk w) (ha : Fc12 () = some true) : Fc6 (w, n) = some true := by
  have hc := h.ce
  obtain ⟨r, hr, h1, h2⟩ := find_both hc n
  obtain ⟨⟨a1, b1⟩, k1, k2⟩ := cnt_both hc n
  obtain ⟨⟨a2, b2⟩, k3, k4⟩ := hash_both hc n
  obtain ⟨⟨a3, b3⟩, hl, k5, k6⟩ := key_both hc n
  have e : Fc6 (w, n) = (Fc13 w).bind fun y1 => (Fc19 (y1, n)).bind fun (y2, y3, y4) => (Fc20 (y1, n)).bind fun (y5, y6) =>
      if (!(y4 == y6)) = false then if (y2.1 != y5.1) = false then if (!(y2.2.1 == y5.2.1)) = false then
        if (!((ofBytes y3).toList == (ofBytes y5.2.2).toList)) = true then some false
        else (loopO stepc6_0 (n, 0, y1, (y2.1, y2.2.1, ()), y3)).bind fun (z8, z9) => (Fc21 (z9, z8)).bind fun (y10, y11) => (Fc22 (z9, z8)).bind fun (y12, y13) => (Fc23 (z9, z8)).bind fun (y14, y15) =>
          (Fc24 (z9, z8)).bind fun (y16, y17) => (Fc25 (z9, z8)).bind fun (y18, y19) => (Fc26 (z9, z8)).bind fun (y20, y21) => (Fc10 (y14, y20)).bind fun y22 => (Fc12 ()).bind fun y23 =>
            if y23 = true then if (y10 == y16) = true then if (y11 == y17) = true then if (arrEq 32 y12 y18) = true then if (y13 == y19) = true then if y22 = true then some (y15 == y21) else some false else some false else some false else some false else some false else some false
      else some false else some false else some false := rfl
  have tail : ∀ (u : Int × Bool × Unit) (row : List Int), row.length ≤ 9000000000000000 → ((loopO stepc6_0 (n, 0, whC w, u, row)).bind fun (z8, z9) => (Fc21 (z9, z8)).bind fun (y10, y11) => (Fc22 (z9, z8)).bind fun (y12, y13) => (Fc23 (z9, z8)).bind fun (y14, y15) =>
          (Fc24 (z9, z8)).bind fun (y16, y17) => (Fc25 (z9, z8)).bind fun (y18, y19) => (Fc26 (z9, z8)).bind fun (y20, y21) => (Fc10 (y14, y20)).bind fun y22 => (Fc12 ()).bind fun y23 =>
            if y23 = true then if (y10 == y16) = true then if (y11 == y17) = true then if (arrEq 32 y12 y18) = true then if (y13 == y19) = true then if y22 = true then some (y15 == y21) else some false else some false else some false else some false else some false else some false) = some true := by
    intro u row hrow
    have hl6 := loop6 n (whC w) u hrow row.length 0 row rfl rfl (Nat.zero_le _)
    refine (congrArg (Option.bind · _) hl6).trans ?_
    simp only [Option.bind_some]
    rw [k1, k2, k3, k4, k5, k6]
    simp only [Option.bind_some]
    rw [same_eq hl, ha]
    simp only [Option.bind_some]
    have har : arrEq 32 a2 a2 = true := by simp [arrEq]
    simp only [har, beq_self_eq_true, decide_true, if_true]
  rw [e, cert13]
  simp only [Option.bind_some]
  rw [h1, h2]
  cases r with
  | none =>
    simp only [f19, f20, Option.bind_some]
    rw [itf_f (by rfl), itf_f (by rfl), itf_f (by rfl), ite_f (by simp)]
    exact tail _ _ (by simp)
  | some x =>
    simp only [f19, f20, Option.bind_some]
    rw [itf_f (by rfl), itf_f (by simp), itf_f (by simp), ite_f (by simp)]
    exact tail _ _ (by have := (hc.exs x (hr x rfl)).2; omega)
end Go.Abs

set_option linter.unusedVariables false
set_option linter.unusedSimpArgs false
namespace Go.Abs
theorem Finds_law {x0 : Ce × Bool × List Int × List Int} {x1 : Int} (h0 : WfD dWholeD x0) (h1 : (Lit.int .i64 x1).wf = true) : Fc6 (flatW x0, x1) = some true := Go.Abs.finds (whOk h0) Go.Abs.alive
end Go.Abs

