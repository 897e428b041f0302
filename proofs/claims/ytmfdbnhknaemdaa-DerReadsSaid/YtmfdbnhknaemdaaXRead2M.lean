/- Reading an item: the code's reader is the plain one; there and back. -/
import Derived.Test.YtmfdbnhknaemdaaXReadM
set_option linter.unusedVariables false
set_option linter.unusedSimpArgs false
namespace Go.Abs

theorem lookE_node (n : Nat) (t : Int) (b : List Int) (k : List Tree) : lookE (n + 1) (.node t b k) = if t % 32 = 31 then 123 else if (bltT t = true ∧ b ≠ []) ∨ (bltT t = false ∧ k ≠ []) then 127 else lookL (lookE n) k := rfl

def cv {α : Type} : (Tree × α) ⊕ Int → (Tree × α) ⊕ (Int × Unit)
  | .inl x => .inl x
  | .inr e => .inr (e, ())

theorem rdLen_short {s r : List Int} {n : Int} (h : rdLen s = .inl (n, r)) : r.length < s.length := by
  cases s with
  | nil => cases h
  | cons c s =>
    rw [rdLen_cons] at h
    split at h
    · cases h; simp
    · split at h
      · cases h
      · split at h
        · cases h
        · split at h
          · cases h
          · cases h; simp; omega

theorem rdI_short {f : Nat} {s r : List Int} {t : Tree} (h : rdI f s = .inl (t, r)) : r.length < s.length := by
  cases f with
  | zero => cases h
  | succ f =>
    cases s with
    | nil => cases h
    | cons x s =>
      rw [rdI_cons] at h
      split at h
      · cases h
      · split at h
        · cases h
        · rename_i n r' hl
          have h1 := rdLen_short hl
          split at h
          · cases h
          · split at h
            · split at h
              · cases h; simp; omega
              · cases h
            · cases h; simp; omega

/-- errors are numbers of their own -/
theorem rdLen_err {s : List Int} {e : Int} (h : rdLen s = .inr e) : e = 122 ∨ e = 124 := by
  cases s with
  | nil => cases h; exact .inl rfl
  | cons c s =>
    rw [rdLen_cons] at h
    split at h
    · cases h
    · split at h
      · cases h; exact .inr rfl
      · split at h
        · cases h; exact .inl rfl
        · split at h
          · cases h; exact .inr rfl
          · cases h
theorem rdKs_err {g : List Int → (Tree × List Int) ⊕ Int} (hg : ∀ s e, g s = .inr e → 122 ≤ e ∧ e ≤ 125) (hs : ∀ s t r, g s = .inl (t, r) → r.length < s.length) :
    ∀ {m : Nat} {s : List Int} {e : Int}, s.length ≤ m → rdKs g m s = .inr e → 122 ≤ e ∧ e ≤ 125 := by
  intro m
  induction m with
  | zero => intro s e hl h; cases s with
    | nil => cases h
    | cons => simp at hl
  | succ m ih =>
    intro s e hl h
    cases s with
    | nil => cases h
    | cons x s =>
      rw [rdKs_cons] at h
      split at h
      · rename_i e' he; cases h; exact hg _ _ he
      · rename_i t r he
        have := hs _ _ _ he
        split at h
        · cases h
        · rename_i e' he'; cases h; exact ih (by simp at hl this; omega) he'
theorem rdI_err : ∀ {f : Nat} {s : List Int} {e : Int}, rdI f s = .inr e → 122 ≤ e ∧ e ≤ 125 := by
  intro f
  induction f with
  | zero => intro s e h; cases h; omega
  | succ f ih =>
    intro s e h
    cases s with
    | nil => cases h; omega
    | cons x s =>
      rw [rdI_cons] at h
      split at h
      · cases h; omega
      · split at h
        · rename_i e' he; cases h; have := rdLen_err he; omega
        · rename_i n r hl
          split at h
          · cases h; omega
          · split at h
            · split at h
              · cases h
              · rename_i hb _ _ he
                cases h
                exact rdKs_err (fun s e h => ih h) (fun s t r h => rdI_short h) (by simp; omega) he
            · cases h

theorem kids_loop {G : List Int × Int → Option ((Tree × List Int) ⊕ (Int × Unit))} {g : List Int → (Tree × List Int) ⊕ Int} {d t : Int} {out : List Int} (hd : 0 ≤ d ∧ d < 100)
    (hG : ∀ s, By s → s.length ≤ 65536 → G (s, d + 1) = some (cv (g s))) (hs : ∀ s t r, g s = .inl (t, r) → r.length < s.length) (hby : ∀ s t r, By s → g s = .inl (t, r) → By r) :
    ∀ (m : Nat) (s : List Int) (acc : List Tree), s.length ≤ m → By s → acc.length + s.length ≤ 65536 →
      loopO (stepd40_0 G) (d, (0, (), ()), (t, (), ()), acc, s, out) = some (match rdKs g m s with | .inl ks => .inr ((0, (), ()), (t, (), ()), acc ++ ks, out) | .inr e => .inl (e, ())) := by
  intro m
  induction m with
  | zero =>
    intro s acc hl hb ha
    have : s = [] := List.eq_nil_of_length_eq_zero (by omega)
    subst this
    rw [loopO_eq]
    have : stepd40_0 G (d, (0, (), ()), (t, (), ()), acc, [], out) = some (.inr (.inr ((0, (), ()), (t, (), ()), acc, out))) := rfl
    rw [this]
    simp [rdKs]
  | succ m ih =>
    intro s acc hl hb ha
    cases s with
    | nil =>
      rw [loopO_eq]
      have : stepd40_0 G (d, (0, (), ()), (t, (), ()), acc, [], out) = some (.inr (.inr ((0, (), ()), (t, (), ()), acc, out))) := rfl
      rw [this]
      simp [rdKs]
    | cons x s =>
      rw [loopO_eq]
      have d1 : decide (((x :: s).length : Int) > 0) = true := decide_eq_true (by simp only [List.length_cons]; omega)
      simp only [stepd40_0, d1, if_true]
      rw [wi64 (by omega) (by omega), hG _ hb (by omega)]
      rw [rdKs_cons]
      cases hg : g (x :: s) with
      | inr e => rfl
      | inl p =>
        obtain ⟨k, r⟩ := p
        have h1 := hs _ _ _ hg
        have h2 := hby _ _ _ hb hg
        simp only [cv, Option.bind_some]
        rw [if_pos (okB56 (by simp only [List.length_append, List.length_cons, List.length_nil] at *; omega))]
        simp only [Tree.eta]
        rw [ih r (acc ++ [k]) (by simp only [List.length_cons] at *; omega) h2 (by simp only [List.length_append, List.length_cons, List.length_nil] at *; omega)]
        cases rdKs g m r with
        | inl ks => simp
        | inr e => rfl

theorem rdLen_by {s r : List Int} {n : Int} (hs : By s) (h : rdLen s = .inl (n, r)) : By r := by
  obtain ⟨h1, _⟩ := rdLen_spec hs h
  rw [h1] at hs
  exact (By.append.1 hs).2

theorem rdI_by : ∀ {f : Nat} {s r : List Int} {t : Tree}, By s → rdI f s = .inl (t, r) → By r := by
  intro f s r t hs h
  cases f with
  | zero => cases h
  | succ f =>
    cases s with
    | nil => cases h
    | cons x s =>
      have hs := (By.cons.1 hs).2
      rw [rdI_cons] at h
      split at h
      · cases h
      · split at h
        · cases h
        · rename_i n r' hl
          have hr := rdLen_by hs hl
          split at h
          · cases h
          · split at h
            · split at h
              · cases h; exact hr.drop _
              · cases h
            · cases h; exact hr.drop _

theorem item_eq : ∀ (k f : Nat) (s : List Int), f < k → f ≤ 17 → By s → s.length ≤ 65536 → FRd40 k (s, 17 - (f : Int)) = some (cv (rdI f s)) := by
  intro k
  induction k with
  | zero => intro f s h; omega
  | succ k ih =>
    intro f s hf hf2 hs hl
    show Bd40 (FRd40 k) (s, 17 - (f : Int)) = _
    unfold Bd40
    cases f with
    | zero => rfl
    | succ f =>
      have d1 : decide ((17 : Int) - ((f + 1 : Nat) : Int) > 16) = false := decide_eq_false (by omega)
      simp only [d1, Bool.false_eq_true, if_false, take_eq]
      cases s with
      | nil => rfl
      | cons x s =>
        obtain ⟨hx, hs⟩ := By.cons.1 hs
        simp only [Option.bind_some, none_tag hx.1 hx.2]
        rw [rdI_cons]
        by_cases h1 : x % 32 = 31
        · rw [if_pos (decide_eq_true h1), if_pos h1]; rfl
        · rw [if_neg (by simpa using h1), if_neg h1, len_eq hs]
          cases hr : rdLen s with
          | inr e => rfl
          | inl p =>
            obtain ⟨n, r⟩ := p
            obtain ⟨e1, e2, e3⟩ := rdLen_spec hs hr
            have hrl := rdLen_short hr
            have hrb := rdLen_by hs hr
            simp only [sw, Option.bind_some, cut_eq e2]
            by_cases h2 : (r.length : Int) < n
            · rw [if_pos h2, if_pos h2]; rfl
            · rw [if_neg h2, if_neg h2]
              have e58 : Fd58 x = some (bltT x) := by simp only [Fd58, blt_tag hx.1 hx.2]
              simp only [Option.bind_some, e58]
              have hlen : (r.take n.toNat).length = n.toNat := take_ge (by omega)
              simp only [List.length_cons] at hl
              cases hb : bltT x with
              | false =>
                simp only [Bool.not_false, if_true, Bool.false_eq_true, if_false]
                have e44 : Fd44 (r.take n.toNat) = some (r.take n.toNat) := by
                  unfold Fd44
                  rw [if_pos (okB1 (by rw [hlen]; omega))]
                rw [e44]; rfl
              | true =>
                simp only [Bool.not_true, Bool.false_eq_true, if_false, if_true]
                rw [kids_loop (g := rdI f) (by omega) (fun s' h3 h4 => by
                  have := ih f s' (by omega) (by omega) h3 h4
                  rw [show (17 : Int) - ((f + 1 : Nat) : Int) + 1 = 17 - (f : Int) by omega]
                  exact this) (fun s t r h => rdI_short h) (fun s t r h1 h2 => rdI_by h1 h2) n.toNat (r.take n.toNat) [] (by omega) (hrb.take _) (by simp only [List.length_nil]; omega)]
                cases rdKs (rdI f) n.toNat (r.take n.toNat) with
                | inl ks => simp [cv]
                | inr e => rfl

/-- what der.Decode answers -/
def decB (b : List Int) : Tree × Int :=
  if 65536 < b.length then (.node 0 [] [], 121) else match rdI 16 b with
    | .inr e => (.node 0 [] [], e)
    | .inl (t, r) => if r = [] then (t, 0) else (.node 0 [] [], 126)

theorem decode_eq {b : List Int} (hb : By b) : Fd11 b = some (decB b) := by
  have e : FMd11 (b, 0, (0, [], [])) = some (decB b) := by
    unfold FMd11 decB
    by_cases h : 65536 < b.length
    · have d1 : decide ((b.length : Int) > 65536) = true := decide_eq_true (by omega)
      simp only [d1, if_true]
      rw [if_pos h]
    · have d1 : decide ((b.length : Int) > 65536) = false := decide_eq_false (by omega)
      simp only [d1, Bool.false_eq_true, if_false]
      rw [if_neg h]
      have h40 : Fd40 (b, 1) = some (cv (rdI 16 b)) := item_eq 20 16 b (by omega) (by omega) hb (by omega)
      rw [h40]
      cases hr : rdI 16 b with
      | inr n =>
        have hn := rdI_err hr
        simp only [cv, Option.bind_some]
        have : FPd38 n (0, 0, [], []) = some (n, 0, [], []) := by
          unfold FPd38
          simp only []
          split <;> rfl
        rw [this]; rfl
      | inl p =>
        obtain ⟨t, r⟩ := p
        simp only [cv, Option.bind_some]
        cases r with
        | nil =>
          have d2 : decide ((([] : List Int).length : Int) > 0) = false := rfl
          simp only [d2, Bool.false_eq_true, if_false, if_true]
          rw [show Tree.node t.tag t.body t.kids = t from t.eta]
        | cons x r =>
          have d2 : decide (((x :: r).length : Int) > 0) = true := decide_eq_true (by simp only [List.length_cons]; omega)
          simp only [d2, if_true]
          have : Fd41 126 = some (126, ()) := rfl
          rw [this]
          simp only [Option.bind_some]
          have : FPd38 126 (0, t.tag, t.body, t.kids) = some (126, 0, [], []) := rfl
          rw [this]
          simp
  show (FMd11 (b, 0, (0, [], []))).bind _ = _
  rw [e]
  simp only [Option.bind_some]
  rw [show Tree.node (decB b).1.tag (decB b).1.body (decB b).1.kids = (decB b).1 from (decB b).1.eta]

/-! ### there and back -/
theorem enc_pos (t : Tree) : t.enc ≠ [] := by rw [Tree.enc_eq]; simp

theorem rdKs_encs {g : List Int → (Tree × List Int) ⊕ Int} : ∀ {ks : List Tree} {m : Nat}, (∀ c ∈ ks, ∀ r, g (c.enc ++ r) = .inl (c, r)) → (Tree.encs ks).length ≤ m → rdKs g m (Tree.encs ks) = .inl ks := by
  intro ks
  induction ks with
  | nil => intro m _ _; cases m <;> rfl
  | cons c ks ih =>
    intro m hg hl
    simp only [Tree.encs, List.length_append] at hl ⊢
    have h1 := hg c (by simp) (Tree.encs ks)
    have hp := enc_pos c
    cases hc : c.enc with
    | nil => exact absurd hc hp
    | cons x e =>
      rw [hc] at h1 hl
      cases m with
      | zero => simp only [List.length_cons] at hl; omega
      | succ m =>
        simp only [List.cons_append] at h1 ⊢
        rw [rdKs_cons, h1]
        simp only []
        rw [ih (fun c hc => hg c (by simp [hc])) (by simp only [List.length_cons] at hl; omega)]

theorem lookL_zero {f : Tree → Int} : ∀ {l : List Tree}, lookL f l = 0 ↔ ∀ c ∈ l, f c = 0 := by
  intro l
  induction l with
  | nil => simp [lookL]
  | cons c l ih =>
    simp only [lookL]
    split
    · rename_i h
      rw [ih]
      constructor
      · intro h2 d hd
        rcases List.mem_cons.1 hd with rfl | hd
        · exact h
        · exact h2 d hd
      · intro h2 d hd; exact h2 d (by simp [hd])
    · rename_i h
      constructor
      · intro h2; exact absurd h2 h
      · intro h2; exact absurd (h2 c (by simp)) h

theorem encs_mem {c : Tree} : ∀ {l : List Tree}, c ∈ l → c.enc.length ≤ (Tree.encs l).length := by
  intro l
  induction l with
  | nil => intro h; simp at h
  | cons a l ih =>
    intro h
    simp only [Tree.encs, List.length_append]
    rcases List.mem_cons.1 h with rfl | h
    · omega
    · have := ih h; omega

/-- what is written is read as it was -/
theorem rdI_enc : ∀ (f : Nat) (t : Tree), lookE f t = 0 → t.enc.length < 16777216 → ∀ r, rdI f (t.enc ++ r) = .inl (t, r) := by
  intro f
  induction f with
  | zero => intro t h; cases h
  | succ f ih =>
    intro t h hl r
    unfold lookE at h
    split at h
    · cases h
    · rename_i h1
      split at h
      · cases h
      · rename_i h2
        rw [lookL_zero] at h
        rw [Tree.enc_eq] at hl ⊢
        simp only [List.cons_append, List.append_assoc, List.length_cons, List.length_append] at hl ⊢
        rw [rdI_cons, if_neg h1, rdLen_szB (by omega)]
        simp only []
        rw [if_neg (by simp only [List.length_append]; omega)]
        have e1 : ((((if bltT t.tag then Tree.encs t.kids else t.body).length : Nat) : Int)).toNat = (if bltT t.tag then Tree.encs t.kids else t.body).length := by omega
        rw [e1, List.take_left, List.drop_left]
        cases hb : bltT t.tag with
        | true =>
          have hbody : t.body = [] := by
            by_cases hx : t.body = []
            · exact hx
            · exact absurd (.inl ⟨hb, hx⟩) h2
          simp only [hb, if_true] at hl ⊢
          rw [rdKs_encs (fun c hc r => ih c (h c hc) (by have := encs_mem hc; omega) r) (Nat.le_refl _)]
          simp only []
          have := t.eta
          rw [hbody] at this
          rw [this]
        | false =>
          have hkids : t.kids = [] := by
            by_cases hx : t.kids = []
            · exact hx
            · exact absurd (.inr ⟨hb, hx⟩) h2
          simp only [Bool.false_eq_true, if_false]
          have := t.eta
          rw [hkids] at this
          rw [this]

theorem TreeOk.mk {t : Int} {b : List Int} {k : List Tree} (h1 : 0 ≤ t ∧ t < 256) (h2 : By b) (h3 : b.length ≤ 65536) (h4 : k.length ≤ 65536) (h5 : ∀ c ∈ k, TreeOk c) : TreeOk (.node t b k) :=
  .node h1 h2.to (by unfold reachBytes; omega) (by unfold reachBytes; omega) h5

theorem rdKs_spec {g : List Int → (Tree × List Int) ⊕ Int} {f : Nat} (hg : ∀ s t r, By s → s.length ≤ 65536 → g s = .inl (t, r) → s = t.enc ++ r ∧ lookE f t = 0 ∧ TreeOk t) (hby : ∀ s t r, By s → g s = .inl (t, r) → By r) :
    ∀ {m : Nat} {s : List Int} {ks : List Tree}, By s → s.length ≤ 65536 → rdKs g m s = .inl ks → s = Tree.encs ks ∧ (∀ c ∈ ks, lookE f c = 0 ∧ TreeOk c) ∧ ks.length ≤ s.length := by
  intro m
  induction m with
  | zero =>
    intro s ks hs hl h
    cases s with
    | nil => cases h; exact ⟨rfl, by simp, by simp⟩
    | cons x s => cases h
  | succ m ih =>
    intro s ks hs hl h
    cases s with
    | nil => cases h; exact ⟨rfl, by simp, by simp⟩
    | cons x s =>
      rw [rdKs_cons] at h
      split at h
      · cases h
      · rename_i t r he
        obtain ⟨h1, h2, h3⟩ := hg _ _ _ hs hl he
        have hp := enc_pos t
        have hlen : r.length < (x :: s).length := by
          rw [h1]
          have : 0 < t.enc.length := by
            cases hc : t.enc with
            | nil => exact absurd hc hp
            | cons => simp
          simp only [List.length_append]; omega
        split at h
        · rename_i ks' hk
          cases h
          obtain ⟨h4, h5, h6⟩ := ih (hby _ _ _ hs he) (by omega) hk
          refine ⟨?_, ?_, by simp only [List.length_cons] at hlen ⊢; omega⟩
          · simp only [Tree.encs]; rw [← h4]; exact h1
          · intro c hc
            rcases List.mem_cons.1 hc with rfl | hc
            · exact ⟨h2, h3⟩
            · exact h5 c hc
        · cases h

/-- what is read is the item's one form -/
theorem rdI_spec : ∀ (f : Nat) (s : List Int) (t : Tree) (r : List Int), By s → s.length ≤ 65536 → rdI f s = .inl (t, r) → s = t.enc ++ r ∧ lookE f t = 0 ∧ TreeOk t := by
  intro f
  induction f with
  | zero => intro s t r _ _ h; cases h
  | succ f ih =>
    intro s t r hs hl h
    cases s with
    | nil => cases h
    | cons x s =>
      obtain ⟨hx, hs⟩ := By.cons.1 hs
      simp only [List.length_cons] at hl
      rw [rdI_cons] at h
      split at h
      · cases h
      · rename_i h1
        split at h
        · cases h
        · rename_i n r' hr
          obtain ⟨e1, e2, e3⟩ := rdLen_spec hs hr
          have hrl := rdLen_short hr
          have hrb := rdLen_by hs hr
          split at h
          · cases h
          · rename_i h2
            have hlen : (r'.take n.toNat).length = n.toNat := take_ge (by omega)
            split at h
            · rename_i hb
              split at h
              · rename_i ks hk
                cases h
                obtain ⟨h3, h4, h5⟩ := rdKs_spec (f := f) (fun s t r a b c => ih s t r a b c) (fun s t r a b => rdI_by a b) (hrb.take _) (by omega) hk
                refine ⟨?_, ?_, TreeOk.mk hx By.nil (by simp) (by omega) (fun c hc => (h4 c hc).2)⟩
                · rw [Tree.enc_eq]
                  simp only [Tree.tag, Tree.kids, hb, if_true, List.cons_append, List.append_assoc]
                  rw [← h3, hlen, List.take_append_drop, ← e1]
                · rw [lookE_node, if_neg h1, if_neg (by simp [hb]), lookL_zero]
                  exact fun c hc => (h4 c hc).1
              · cases h
            · rename_i hb
              cases h
              have hb : bltT x = false := by simpa using hb
              refine ⟨?_, ?_, TreeOk.mk hx (hrb.take _) (by omega) (by simp) (by simp)⟩
              · rw [Tree.enc_eq]
                simp only [Tree.tag, Tree.body, hb, Bool.false_eq_true, if_false, List.cons_append, List.append_assoc]
                rw [hlen, List.take_append_drop, ← e1]
              · rw [lookE_node, if_neg h1, if_neg (by simp [hb])]
                rfl
end Go.Abs
