/- Are two items one; an item in new memory; a live question; the laws of one form, of writing, of cutting short. -/
import Derived.Test.YtmfdbnhknaemdaaXWriteM
set_option linter.unusedVariables false
set_option linter.unusedSimpArgs false
namespace Go.Abs

theorem getD_at {l : List Int} {k : Nat} (h : k < l.length) : l.getD ((k : Nat) : Int).toNat 0 = l[k] := by
  show l.getD k 0 = l[k]
  simp [List.getD_eq_getElem?_getD, h]

theorem drop_iff {α : Type} {a b : List α} {k : Nat} (ha : k < a.length) (hb : k < b.length) (h : a[k] = b[k]) : (a.drop k = b.drop k) ↔ (a.drop (k + 1) = b.drop (k + 1)) := by
  have da : a.drop k = a[k] :: a.drop (k + 1) := List.drop_eq_getElem_cons ha
  have db : b.drop k = b[k] :: b.drop (k + 1) := List.drop_eq_getElem_cons hb
  rw [da, db, h]
  exact ⟨fun e => (List.cons.inj e).2, fun e => by rw [e]⟩
theorem drop_ne {α : Type} {a b : List α} {k : Nat} (ha : k < a.length) (hb : k < b.length) (h : a[k] ≠ b[k]) : ¬ (a.drop k = b.drop k) := by
  have da : a.drop k = a[k] :: a.drop (k + 1) := List.drop_eq_getElem_cons ha
  have db : b.drop k = b[k] :: b.drop (k + 1) := List.drop_eq_getElem_cons hb
  rw [da, db]
  exact fun e => h (List.cons.inj e).1
theorem same_loop {a b : List Int} (hl : a.length = b.length) (ha : a.length ≤ 9000000000000000) :
    ∀ (j k : Nat), j = a.length - k → k ≤ a.length → loopO stepd14_0 (a, b, (k : Int)) = some (if a.drop k = b.drop k then .inr () else .inl false) := by
  intro j
  induction j with
  | zero =>
    intro k hj hk
    have e : k = a.length := by omega
    subst e
    rw [loopO_eq]
    simp only [stepd14_0, Int.lt_irrefl, decide_false, Bool.false_eq_true, if_false]
    rw [if_pos (by rw [List.drop_length, hl, List.drop_length])]
  | succ j ih =>
    intro k hj hk
    have hka : k < a.length := by omega
    have hkb : k < b.length := by omega
    have d1 : decide (((k : Nat) : Int) < (a.length : Int)) = true := decide_eq_true (by omega)
    rw [loopO_eq]
    simp only [stepd14_0, d1, if_true]
    rw [if_pos (by omega), if_pos (by omega), getD_at hka, getD_at hkb]
    have da : a.drop k = a[k] :: a.drop (k + 1) := List.drop_eq_getElem_cons hka
    have db : b.drop k = b[k] :: b.drop (k + 1) := List.drop_eq_getElem_cons hkb
    by_cases h : a[k] = b[k]
    · have d2 : (a[k] != b[k]) = false := by simpa using h
      rw [if_neg (by rw [d2]; decide), wi64 (by omega) (by omega)]
      have ek : ((k : Nat) : Int) + 1 = ((k + 1 : Nat) : Int) := by omega
      rw [ek]
      show loopO stepd14_0 (a, b, ((k + 1 : Nat) : Int)) = _
      rw [ih (k + 1) (by omega) (by omega)]
      have e := drop_iff hka hkb h
      simp only [e]
    · have d2 : (a[k] != b[k]) = true := by simpa using h
      rw [if_pos d2]
      have e := drop_ne hka hkb h
      rw [if_neg e]

/-- barbicanref01.Same -/
theorem same_eq {a b : List Int} (ha : a.length ≤ 9000000000000000) : Fd14 (a, b) = some (decide (a = b)) := by
  simp only [Fd14]
  by_cases h : a.length = b.length
  · rw [if_neg (by simp [h])]
    have e0 : (0 : Int) = ((0 : Nat) : Int) := rfl
    rw [e0, same_loop h ha _ 0 rfl (Nat.zero_le _)]
    simp only [List.drop_zero]
    by_cases h2 : a = b
    · rw [if_pos h2, decide_eq_true h2]; rfl
    · rw [if_neg h2, decide_eq_false h2]; rfl
  · have d1 : ((a.length : Int) != (b.length : Int)) = true := by simp; omega
    rw [if_pos d1, decide_eq_false (fun h2 => h (by rw [h2]))]

/-! ### barbicanref12.Same -/
theorem same12_loop0 {G : Tree × Tree → Option Bool} {a b : Tree} (hl : a.body.length = b.body.length) (ha : a.body.length ≤ 9000000000000000) :
    ∀ (j k : Nat), j = a.body.length - k → k ≤ a.body.length → loopO (stepd12_0 G) ((k : Int), (a.tag, a.body, a.kids), (b.tag, b.body, b.kids)) =
      some (if a.body.drop k = b.body.drop k then .inr ((a.tag, a.body, a.kids), (b.tag, b.body, b.kids)) else .inl false) := by
  intro j
  induction j with
  | zero =>
    intro k hj hk
    have e : k = a.body.length := by omega
    subst e
    rw [loopO_eq]
    simp only [stepd12_0, Int.lt_irrefl, decide_false, Bool.false_eq_true, if_false]
    rw [if_pos (by rw [List.drop_length, hl, List.drop_length])]
  | succ j ih =>
    intro k hj hk
    have hka : k < a.body.length := by omega
    have hkb : k < b.body.length := by omega
    have d1 : decide (((k : Nat) : Int) < (a.body.length : Int)) = true := decide_eq_true (by omega)
    rw [loopO_eq]
    simp only [stepd12_0, d1, if_true]
    rw [if_pos (by omega), if_pos (by omega), getD_at hka, getD_at hkb]
    have da : a.body.drop k = a.body[k] :: a.body.drop (k + 1) := List.drop_eq_getElem_cons hka
    have db : b.body.drop k = b.body[k] :: b.body.drop (k + 1) := List.drop_eq_getElem_cons hkb
    by_cases h : a.body[k] = b.body[k]
    · have d2 : (a.body[k] != b.body[k]) = false := by simpa using h
      rw [if_neg (by rw [d2]; decide), wi64 (by omega) (by omega)]
      have ek : ((k : Nat) : Int) + 1 = ((k + 1 : Nat) : Int) := by omega
      rw [ek]
      show loopO (stepd12_0 G) (((k + 1 : Nat) : Int), (a.tag, a.body, a.kids), (b.tag, b.body, b.kids)) = _
      rw [ih (k + 1) (by omega) (by omega)]
      have e := drop_iff hka hkb h
      simp only [e]
    · have d2 : (a.body[k] != b.body[k]) = true := by simpa using h
      rw [if_pos d2]
      have e := drop_ne hka hkb h
      rw [if_neg e]

open Classical in
theorem same12_loop1 {G : Tree × Tree → Option Bool} {a b : Tree} (hl : a.kids.length = b.kids.length) (ha : a.kids.length ≤ 9000000000000000)
    (hG : ∀ c ∈ a.kids, ∀ d ∈ b.kids, G (c, d) = some (decide (c = d))) :
    ∀ (j k : Nat), j = a.kids.length - k → k ≤ a.kids.length → loopO (stepd12_1 G) ((k : Int), (a.tag, a.body, a.kids), (b.tag, b.body, b.kids)) =
      some (if a.kids.drop k = b.kids.drop k then .inr () else .inl false) := by
  intro j
  induction j with
  | zero =>
    intro k hj hk
    have e : k = a.kids.length := by omega
    subst e
    rw [loopO_eq]
    simp only [stepd12_1, Int.lt_irrefl, decide_false, Bool.false_eq_true, if_false]
    rw [if_pos (by rw [List.drop_length, hl, List.drop_length])]
  | succ j ih =>
    intro k hj hk
    have hka : k < a.kids.length := by omega
    have hkb : k < b.kids.length := by omega
    have d1 : decide (((k : Nat) : Int) < (a.kids.length : Int)) = true := decide_eq_true (by omega)
    rw [loopO_eq]
    simp only [stepd12_1, d1, if_true]
    rw [if_pos (by omega), if_pos (by omega), kid_at hka, kid_at hkb, Tree.eta, Tree.eta, hG _ (List.getElem_mem hka) _ (List.getElem_mem hkb)]
    have da : a.kids.drop k = a.kids[k] :: a.kids.drop (k + 1) := List.drop_eq_getElem_cons hka
    have db : b.kids.drop k = b.kids[k] :: b.kids.drop (k + 1) := List.drop_eq_getElem_cons hkb
    simp only [Option.bind_some]
    by_cases h : a.kids[k] = b.kids[k]
    · rw [decide_eq_true h, if_neg (by decide), wi64 (by omega) (by omega)]
      have ek : ((k : Nat) : Int) + 1 = ((k + 1 : Nat) : Int) := by omega
      rw [ek]
      show loopO (stepd12_1 G) (((k + 1 : Nat) : Int), (a.tag, a.body, a.kids), (b.tag, b.body, b.kids)) = _
      rw [ih (k + 1) (by omega) (by omega)]
      have e := drop_iff hka hkb h
      simp only [e]
    · rw [decide_eq_false h, if_pos (by decide)]
      have e := drop_ne hka hkb h
      rw [if_neg e]

theorem Tree.ext' {a b : Tree} (h1 : a.tag = b.tag) (h2 : a.body = b.body) (h3 : a.kids = b.kids) : a = b := by
  cases a; cases b; simp only [Tree.tag, Tree.body, Tree.kids] at h1 h2 h3; subst h1 h2 h3; rfl

open Classical in
theorem same12_eq : ∀ (k : Nat) (a b : Tree), a.rank < k → TreeOk a → FRd12 k (a, b) = some (decide (a = b)) := by
  intro k
  induction k with
  | zero => intro a b h; omega
  | succ k ih =>
    intro a b hr ha
    show Bd12 (FRd12 k) (a, b) = _
    simp only [Bd12]
    have hlen := ha.len
    by_cases h1 : a.tag = b.tag
    · rw [if_pos (by simp [h1])]
      by_cases h2 : a.body.length = b.body.length
      · rw [if_pos (by simp [h2])]
        by_cases h3 : a.kids.length = b.kids.length
        · rw [if_neg (by simp [h3])]
          have e0 : (0 : Int) = ((0 : Nat) : Int) := rfl
          rw [e0, same12_loop0 h2 (by omega) _ 0 rfl (Nat.zero_le _)]
          simp only [List.drop_zero]
          by_cases h4 : a.body = b.body
          · rw [if_pos h4]
            simp only [Option.bind_some]
            rw [same12_loop1 h3 (by omega) (fun c hc d hd => ih c d (by have := Tree.rank_kid hc; omega) (ha.kid hc)) _ 0 rfl (Nat.zero_le _)]
            simp only [List.drop_zero]
            by_cases h5 : a.kids = b.kids
            · rw [if_pos h5, decide_eq_true (Tree.ext' h1 h4 h5)]; rfl
            · rw [if_neg h5, decide_eq_false (fun h => h5 (by rw [h]))]; rfl
          · rw [if_neg h4, decide_eq_false (fun h => h4 (by rw [h]))]; rfl
        · have d : ((a.kids.length : Int) != (b.kids.length : Int)) = true := by simp; omega
          rw [if_pos d, decide_eq_false (fun h => h3 (by rw [h]))]
      · have d : ((a.body.length : Int) != (b.body.length : Int)) = true := by simp; omega
        rw [if_neg (by rw [d]; decide), decide_eq_false (fun h => h2 (by rw [h]))]
    · have d : (a.tag != b.tag) = true := by simpa using h1
      rw [if_neg (by rw [d]; decide), decide_eq_false (fun h => h1 (by rw [h]))]

open Classical in
theorem same12 {a b : Tree} (ha : TreeOk a) : Fd12 (a, b) = some (decide (a = b)) := same12_eq (a.rank + 1) a b (by omega) ha
open Classical in
theorem same12_self {a : Tree} (ha : TreeOk a) : Fd12 (a, a) = some true := by rw [same12 ha, decide_eq_true rfl]

/-! ### Copied -/
/-! ### alive -/
theorem alive : Fd15 () = some true := by
  have b1 : By [48, 3, 2, 1, 5] := by
    intro y hy
    simp at hy
    rcases hy with rfl | rfl | rfl | rfl | rfl <;> omega
  have b2 : By [4, 128] := by
    intro y hy
    simp at hy
    rcases hy with rfl | rfl <;> omega
  have e1 : decB [48, 3, 2, 1, 5] = (.node 48 [] [.node 2 [5] []], 0) := rfl
  have e2 : decB [4, 128] = (.node 0 [] [], 124) := rfl
  have h1 := decode_eq b1
  have h2 := decode_eq b2
  rw [e1] at h1
  rw [e2] at h2
  have e : Fd15 () = (Fd11 [48, 3, 2, 1, 5]).bind fun x => (Fd11 [4, 128]).bind fun y =>
        if (x.2 == 0) = true then (if (x.1.tag == 48) = true then (if ((x.1.kids.length : Int) == 1) = true then some (y.2 == 124) else some false) else some false) else some false := rfl
  rw [e, h1, h2]
  rfl

/-! ### the laws -/
theorem decB_encO {t : Tree} (h : (encO t).2 = 0) : decB (encO t).1 = (t, 0) ∧ (encO t).1 = t.enc ∧ t.enc.length ≤ 65536 ∧ lookE 16 t = 0 := by
  unfold encO at h ⊢
  by_cases h1 : lookE 16 t = 0
  · rw [if_pos h1] at h ⊢
    by_cases h2 : t.enc.length ≤ 65536
    · rw [if_pos h2] at h ⊢
      refine ⟨?_, rfl, h2, h1⟩
      show decB t.enc = _
      unfold decB
      rw [if_neg (by omega)]
      have := rdI_enc 16 t h1 (by omega) []
      rw [List.append_nil] at this
      rw [this]
      simp
    · rw [if_neg h2] at h; simp at h
  · rw [if_neg h1] at h
    exact absurd h h1

theorem encO_decB {b : List Int} (hb : By b) (h : (decB b).2 = 0) : encO (decB b).1 = (b, 0) ∧ TreeOk (decB b).1 := by
  unfold decB at h ⊢
  split at h
  · simp at h
  · rename_i hl
    rw [if_neg hl]
    split at h
    · rename_i e he
      have := rdI_err he
      simp only at h; omega
    · rename_i t r hr
      by_cases hnil : r = []
      · rw [if_pos hnil] at h ⊢
        subst hnil
        obtain ⟨h1, h2, h3⟩ := rdI_spec 16 b t [] hb (by omega) hr
        rw [List.append_nil] at h1
        refine ⟨?_, h3⟩
        show encO t = (b, 0)
        unfold encO
        rw [if_pos h2, if_pos (by rw [← h1]; omega), ← h1]
      · rw [if_neg hnil] at h; simp at h

theorem decB_err {b : List Int} (h : (decB b).2 ≠ 0) : (decB b).1 = .node 0 [] [] := by
  unfold decB at h ⊢
  split
  · rfl
  · rename_i hl
    rw [if_neg hl] at h
    split
    · rfl
    · rename_i t r hr
      simp only [hr] at h
      split
      · rename_i hnil; rw [if_pos hnil] at h; exact absurd rfl h
      · rfl

theorem treeOk_zero : TreeOk (.node 0 [] []) := TreeOk.mk (by omega) By.nil (by simp) (by simp) (by simp)

theorem encO_by {t : Tree} (ht : TreeOk t) (h : (encO t).2 = 0) : By (encO t).1 := by
  obtain ⟨h1, h2, h3, h4⟩ := decB_encO h
  rw [h2]
  have key : ∀ (t : Tree), TreeOk t → t.enc.length < 16777216 → By t.enc := by
    refine Tree.ind fun t ih ht hl => ?_
    rw [Tree.enc_eq] at hl ⊢
    simp only [List.length_cons, List.length_append] at hl
    refine By.cons.2 ⟨ht.tag, By.append.2 ⟨szB_by (by omega), ?_⟩⟩
    cases hb : bltT t.tag with
    | false => simp only [Bool.false_eq_true, if_false]; exact By.of ht.byt
    | true =>
      simp only [hb, if_true] at hl ⊢
      have : ∀ l : List Tree, (∀ c ∈ l, c ∈ t.kids) → (Tree.encs l).length < 16777216 → By (Tree.encs l) := by
        intro l
        induction l with
        | nil => intro _ _; exact By.nil
        | cons c l ihl =>
          intro hc hl
          simp only [Tree.encs, List.length_append] at hl ⊢
          exact By.append.2 ⟨ih c (hc c (by simp)) (ht.kid (hc c (by simp))) (by omega), ihl (fun d hd => hc d (by simp [hd])) (by omega)⟩
      exact this _ (fun c hc => hc) (by omega)
  exact key t ht (by omega)

end Go.Abs
