/- Writing an item: what der.Encode answers, and what the document's does. -/
import Derived.Test.YtmfdbnhknaemdaaXRead2L
set_option linter.unusedVariables false
set_option linter.unusedSimpArgs false
namespace Go.Abs

/-! ### look -/
def lkA (e : Int) : Unit ⊕ (Int × Unit) := if e = 0 then .inl () else .inr (e, ())
def lkB (e : Int) : (Int × Unit) ⊕ Unit := if e = 0 then .inr () else .inl (e, ())
def lkC (e : Int) : Int ⊕ Unit := if e = 0 then .inr () else .inl e
theorem lkA_ne {e : Int} (h : e ≠ 0) : lkA e = .inr (e, ()) := if_neg h
theorem lkB_ne {e : Int} (h : e ≠ 0) : lkB e = .inl (e, ()) := if_neg h
theorem lkC_ne {e : Int} (h : e ≠ 0) : lkC e = .inl e := if_neg h
theorem lookL_pos {g : Tree → Int} {c : Tree} {l : List Tree} (h : g c = 0) : lookL g (c :: l) = lookL g l := if_pos h
theorem lookL_neg {g : Tree → Int} {c : Tree} {l : List Tree} (h : g c ≠ 0) : lookL g (c :: l) = g c := if_neg h
theorem look_loop {G : Tree × Int → Option (Unit ⊕ (Int × Unit))} {t : Tree} (ht : TreeOk t) {d : Int} (hd : 0 ≤ d ∧ d < 100) {g : Tree → Int}
    (hG : ∀ c ∈ t.kids, G (c, d + 1) = some (lkA (g c))) :
    ∀ (j k : Nat), j = t.kids.length - k → k ≤ t.kids.length → loopO (stepd46_0 G) ((t.tag, (t.body, t.kids)), d, (t.kids.length : Int), (k : Int)) =
      some (lkB (lookL g (t.kids.drop k))) := by
  have hlen := ht.len.2
  intro j
  induction j with
  | zero =>
    intro k hj hk
    have e : k = t.kids.length := by omega
    subst e
    rw [loopO_eq]
    simp only [stepd46_0, Int.lt_irrefl, decide_false, Bool.false_eq_true, if_false, List.drop_length]
    rfl
  | succ j ih =>
    intro k hj hk
    have hkl : k < t.kids.length := by omega
    have hdrop : t.kids.drop k = t.kids[k] :: t.kids.drop (k + 1) := List.drop_eq_getElem_cons hkl
    have d1 : decide (((k : Nat) : Int) < (t.kids.length : Int)) = true := decide_eq_true (by omega)
    rw [loopO_eq]
    simp only [stepd46_0, d1, if_true]
    rw [if_pos (by omega), kid_at hkl, Tree.eta, wi64 (by omega) (by omega), hG _ (List.getElem_mem hkl), hdrop]
    by_cases h : g t.kids[k] = 0
    · rw [h, lookL_pos h]
      have e0 : lkA 0 = .inl () := rfl
      rw [e0]
      simp only [Option.bind_some]
      rw [wi64 (by omega) (by omega)]
      have ek : ((k : Nat) : Int) + 1 = ((k + 1 : Nat) : Int) := by omega
      rw [ek]
      exact ih (k + 1) (by omega) (by omega)
    · rw [lookL_neg h, lkA_ne h, lkB_ne h]
      rfl

theorem Fd41_eq (n : Int) : Fd41 n = some (n, ()) := rfl
theorem Fd58_eq {t : Tree} (ht : TreeOk t) : Fd58 t.tag = some (bltT t.tag) := by simp only [Fd58, blt_tag ht.tag.1 ht.tag.2]

theorem lk_end (e : Int) : ((some (lkB e)).bind fun
                | (.inl (e8, _)) => some (.inr (e8, ()))
                | (.inr _) => some (.inl ()) : Option (Unit ⊕ (Int × Unit))) = some (lkA e) := by
  by_cases h : e = 0
  · subst h; rfl
  · rw [lkB_ne h, lkA_ne h]; rfl
theorem lk_endC (e : Int) : ((some (lkC e)).bind fun
                | (.inl z) => some z
                | (.inr _) => some 0 : Option Int) = some e := by
  by_cases h : e = 0
  · subst h; rfl
  · rw [lkC_ne h]; rfl
theorem look_eq : ∀ (k f : Nat) (t : Tree), f < k → f ≤ 17 → TreeOk t → FRd46 k (t, 17 - (f : Int)) = some (lkA (lookE f t)) := by
  intro k
  induction k with
  | zero => intro f t h; omega
  | succ k ih =>
    intro f t hf hf2 ht
    show Bd46 (FRd46 k) (t, 17 - (f : Int)) = _
    unfold Bd46
    cases f with
    | zero => rfl
    | succ f =>
      have d1 : decide ((17 : Int) - ((f + 1 : Nat) : Int) > 16) = false := decide_eq_false (by omega)
      have hlen := ht.len
      simp only [d1, Bool.false_eq_true, if_false, none_tag ht.tag.1 ht.tag.2, Fd58_eq ht, Fd41_eq, Option.bind_some]
      have hloop := look_loop ht (d := 17 - ((f + 1 : Nat) : Int)) (by omega) (g := lookE f) (G := FRd46 k) (fun c hc => by
        have := ih f c (by omega) (by omega) (ht.kid hc)
        rw [show (17 : Int) - ((f + 1 : Nat) : Int) + 1 = 17 - (f : Int) by omega]
        exact this) _ 0 rfl (Nat.zero_le _)
      simp only [List.drop_zero] at hloop
      have e0 : ((0 : Nat) : Int) = 0 := rfl
      rw [e0] at hloop
      unfold lookE
      by_cases h1 : t.tag % 32 = 31
      · rw [if_pos (decide_eq_true h1), if_pos h1]; rfl
      · rw [if_neg (by simpa using h1), if_neg h1]
        cases hb : bltT t.tag with
        | true =>
          simp only [if_true, Bool.not_true, Bool.false_eq_true, if_false]
          by_cases h2 : t.body = []
          · have d2 : decide ((t.body.length : Int) > 0) = false := decide_eq_false (by rw [h2]; simp)
            rw [if_pos d2, if_neg (by simp [h2]), hloop]
            exact lk_end _
          · have d2 : decide ((t.body.length : Int) > 0) = true := decide_eq_true (by have := List.length_pos_iff.2 h2; omega)
            rw [if_neg (by rw [d2]; decide), if_pos (.inl ⟨trivial, h2⟩)]; rfl
        | false =>
          simp only [Bool.false_eq_true, if_false, Bool.not_false, if_true]
          by_cases h2 : t.kids = []
          · have d2 : decide ((t.kids.length : Int) > 0) = false := decide_eq_false (by rw [h2]; simp)
            rw [if_neg (by rw [d2]; decide), if_neg (by simp [h2]), hloop]
            exact lk_end _
          · have d2 : decide ((t.kids.length : Int) > 0) = true := decide_eq_true (by have := List.length_pos_iff.2 h2; omega)
            rw [if_pos d2, if_pos (.inr ⟨trivial, h2⟩)]; rfl

/-! ### write -/
theorem size_eq {n : Nat} (h : n ≤ 65536) : Fd59 (n : Int) = some (szB n) := by
  have sh8 : shrI .i64 (n : Int) 8 = ((n / 256 : Nat) : Int) := by
    rw [shrN (by omega) (by omega) (by decide)]
    simp [Nat.shiftRight_eq_div_pow]
  have sh16 : shrI .i64 (n : Int) 16 = ((n / 65536 : Nat) : Int) := by
    rw [shrN (by omega) (by omega) (by decide)]
    simp [Nat.shiftRight_eq_div_pow]
  unfold szB
  simp only [Fd59, sh8, sh16, IntKind.wrap_u8']
  by_cases h1 : n < 128
  · rw [if_pos (decide_eq_true (by omega)), if_pos h1]
    have : ((n : Int)) % 256 = n := by omega
    rw [this]; rfl
  · rw [if_neg (by simp only [decide_eq_true_eq]; omega), if_neg h1]
    by_cases h2 : n < 256
    · rw [if_pos (decide_eq_true (by omega)), if_pos h2]
      have : ((n : Int)) % 256 = n := by omega
      rw [this]; rfl
    · rw [if_neg (by simp only [decide_eq_true_eq]; omega), if_neg h2]
      by_cases h3 : n < 65536
      · rw [if_pos (decide_eq_true (by omega)), if_pos h3]
        have e1 : ((n : Int)) % 256 = ((n % 256 : Nat) : Int) := by omega
        have e2 : ((n / 256 : Nat) : Int) % 256 = ((n / 256 : Nat) : Int) := by omega
        rw [e1, e2]; rfl
      · rw [if_neg (by simp only [decide_eq_true_eq]; omega), if_neg h3]
        have e1 : ((n : Int)) % 256 = ((n % 256 : Nat) : Int) := by omega
        have e2 : ((n / 256 : Nat) : Int) % 256 = ((n / 256 % 256 : Nat) : Int) := by omega
        have e3 : ((n / 65536 : Nat) : Int) % 256 = ((n / 65536 : Nat) : Int) := by omega
        rw [e1, e2, e3]; rfl

theorem write_loop12 {G : List Int × Tree → Option (List Int ⊕ (Int × Unit))} {t : Tree} (ht : TreeOk t) {out : List Int}
    (hG : ∀ c ∈ t.kids, ∀ o : List Int, o.length ≤ 65536 → G (o, c) = some (if o.length + c.enc.length ≤ 65536 then .inl (o ++ c.enc) else .inr (121, ()))) :
    ∀ (j k : Nat) (acc : List Int), j = t.kids.length - k → k ≤ t.kids.length → acc.length ≤ 65536 → loopO (stepd47_0 G) ((t.tag, (t.body, t.kids)), (t.kids.length : Int), (k : Int), out, acc) =
      some (if acc.length + (Tree.encs (t.kids.drop k)).length ≤ 65536 then .inr ((t.tag, (t.body, t.kids)), out, acc ++ Tree.encs (t.kids.drop k)) else .inl (121, ())) := by
  have hlen := ht.len.2
  intro j
  induction j with
  | zero =>
    intro k acc hj hk ha
    have e : k = t.kids.length := by omega
    subst e
    rw [loopO_eq]
    simp only [stepd47_0, Int.lt_irrefl, decide_false, Bool.false_eq_true, if_false, List.drop_length, Tree.encs, List.length_nil, Nat.add_zero, List.append_nil]
    rw [if_pos ha]
  | succ j ih =>
    intro k acc hj hk ha
    have hkl : k < t.kids.length := by omega
    have hdrop : t.kids.drop k = t.kids[k] :: t.kids.drop (k + 1) := List.drop_eq_getElem_cons hkl
    have d1 : decide (((k : Nat) : Int) < (t.kids.length : Int)) = true := decide_eq_true (by omega)
    rw [loopO_eq]
    simp only [stepd47_0, d1, if_true]
    rw [if_pos (by omega), kid_at hkl, Tree.eta, hG _ (List.getElem_mem hkl) _ ha, hdrop]
    simp only [Tree.encs, List.length_append]
    by_cases h : acc.length + t.kids[k].enc.length ≤ 65536
    · rw [if_pos h]
      simp only [Option.bind_some]
      rw [wi64 (by omega) (by omega)]
      have ek : ((k : Nat) : Int) + 1 = ((k + 1 : Nat) : Int) := by omega
      rw [ek, ih (k + 1) (acc ++ t.kids[k].enc) (by omega) (by omega) (by simpa using h)]
      simp only [List.length_append, List.append_assoc, Nat.add_assoc]
    · rw [if_neg h, if_neg (by omega)]
      rfl

theorem len1 (x : Int) : ((List.replicate 1 (0 : Int)).set 0 x) = [x] := rfl

theorem write_eq12 : ∀ (k : Nat) (t : Tree) (out : List Int), t.rank < k → TreeOk t → out.length ≤ 65536 → FRd47 k (out, t) = some (if out.length + t.enc.length ≤ 65536 then .inl (out ++ t.enc) else .inr (121, ())) := by
  intro k
  induction k with
  | zero => intro t out h; omega
  | succ k ih =>
    intro t out hr ht ho
    show Bd47 (FRd47 k) (out, t) = _
    unfold Bd47
    have fin : ∀ inn : List Int, inn.length ≤ 65536 →
        (if okBytes (out.length + [t.tag].length) 1 then
            (Fd59 (inn.length : Int)).bind fun y13 =>
              if okBytes ((out ++ [t.tag]).length + y13.length) 1 then
                if okBytes (((out ++ [t.tag]) ++ y13).length + inn.length) 1 then
                  let f14 : List Int := (((out ++ [t.tag]) ++ y13) ++ inn)
                  if (decide ((f14.length : Int) > 65536)) = true then
                    (Fd41 121).bind fun (e15, _) =>
                      some (.inr (e15, ()))
                  else
                    some (.inl f14)
                else none
              else none
          else none : Option (List Int ⊕ (Int × Unit))) = some (if out.length + (t.tag :: (szB inn.length ++ inn)).length ≤ 65536 then .inl (out ++ (t.tag :: (szB inn.length ++ inn))) else .inr (121, ())) := by
      intro inn hi
      have hz := szB_len inn.length
      rw [if_pos (okB1 (by simp only [List.length_cons, List.length_nil]; omega)), size_eq hi]
      simp only [Option.bind_some]
      rw [if_pos (okB1 (by simp only [List.length_append, List.length_cons, List.length_nil]; omega)), if_pos (okB1 (by simp only [List.length_append, List.length_cons, List.length_nil]; omega))]
      have e : ((out ++ [t.tag]) ++ szB inn.length) ++ inn = out ++ (t.tag :: (szB inn.length ++ inn)) := by simp
      rw [e]
      have el : (out ++ (t.tag :: (szB inn.length ++ inn))).length = out.length + (t.tag :: (szB inn.length ++ inn)).length := by simp only [List.length_append]
      rw [el]
      by_cases h : out.length + (t.tag :: (szB inn.length ++ inn)).length ≤ 65536
      · rw [if_neg (by simp only [decide_eq_true_eq]; omega), if_pos h]
      · rw [if_pos (decide_eq_true (by omega)), if_neg h]; rfl
    simp only [Fd58_eq ht, Option.bind_some]
    rw [Tree.enc_eq]
    have hlen := ht.len
    cases hb : bltT t.tag with
    | true =>
      simp only [if_true]
      have hl := write_loop12 ht (out := out) (G := FRd47 k) (fun c hc o h => ih c o (by have := Tree.rank_kid hc; omega) (ht.kid hc) h) _ 0 [] rfl (Nat.zero_le _) (by simp)
      simp only [List.drop_zero, List.length_nil, Nat.zero_add, List.nil_append] at hl
      have e0 : ((0 : Nat) : Int) = 0 := rfl
      rw [e0] at hl
      rw [hl]
      by_cases h : (Tree.encs t.kids).length ≤ 65536
      · rw [if_pos h]
        simp only [Option.bind_some]
        rw [if_neg (by simp only [decide_eq_true_eq]; omega)]
        exact fin _ h
      · rw [if_neg h]
        simp only [Option.bind_some]
        rw [if_neg (by simp only [List.length_cons, List.length_append]; omega)]
    | false =>
      simp only [Bool.false_eq_true, if_false]
      by_cases h : t.body.length ≤ 65536
      · rw [if_neg (by simp only [decide_eq_true_eq]; omega)]
        exact fin _ h
      · rw [if_pos (decide_eq_true (by omega)), if_neg (by simp only [List.length_cons, List.length_append]; omega)]; rfl

/-- what der.Encode answers -/
def encO (t : Tree) : List Int × Int :=
  if lookE 16 t = 0 then (if t.enc.length ≤ 65536 then (t.enc, 0) else ([], 121)) else ([], lookE 16 t)

theorem lookE_pos : ∀ {f : Nat} {t : Tree}, lookE f t = 0 ∨ 123 ≤ lookE f t := by
  intro f
  induction f with
  | zero => intro t; right; show (123 : Int) ≤ 125; omega
  | succ f ih =>
    intro t
    unfold lookE
    split
    · right; omega
    · split
      · right; omega
      · have : ∀ l : List Tree, lookL (lookE f) l = 0 ∨ 123 ≤ lookL (lookE f) l := by
          intro l
          induction l with
          | nil => left; rfl
          | cons c l ihl =>
            simp only [lookL]
            split
            · exact ihl
            · rename_i h; rcases ih (t := c) with h' | h'
              · exact absurd h' h
              · exact .inr h'
        exact this _

theorem encode_eq {t : Tree} (ht : TreeOk t) : Fd22 t = some (encO t) := by
  have e : FMd22 (t, 0, []) = some (encO t) := by
    unfold FMd22 encO
    simp only [Tree.eta]
    have h46 : Fd46 (t, 1) = some (lkA (lookE 16 t)) := look_eq 20 16 t (by omega) (by omega) ht
    rw [h46]
    by_cases h : lookE 16 t = 0
    · rw [if_pos h, h]
      have e0 : lkA 0 = .inl () := rfl
      rw [e0]
      simp only [Option.bind_some]
      have h47 : Fd47 ([], t) = some (if ([] : List Int).length + t.enc.length ≤ 65536 then .inl ([] ++ t.enc) else .inr (121, ())) := write_eq12 (t.rank + 1) t [] (by omega) ht (by simp)
      rw [h47]
      simp only [List.length_nil, Nat.zero_add, List.nil_append]
      by_cases h2 : t.enc.length ≤ 65536
      · rw [if_pos h2, if_pos h2]; rfl
      · rw [if_neg h2, if_neg h2]; rfl
    · rw [if_neg h, lkA_ne h]
      simp only [Option.bind_some]
      have hn : lookE 16 t ≠ 0 := h
      have : FPd45 (lookE 16 t) (0, []) = some (lookE 16 t, []) := by
        unfold FPd45
        simp only []
        split <;> rfl
      rw [this]; rfl
  have e1 : Fd22 t = (FMd22 (Tree.node t.tag t.body t.kids, 0, [])).bind fun (b, e) => some (b, e) := rfl
  rw [e1, Tree.eta, e]; rfl

/-! ### the document's -/
theorem right_loop {G : Tree × Int → Option Int} {t : Tree} (ht : TreeOk t) {d : Int} (hd : 0 ≤ d ∧ d < 100) {g : Tree → Int}
    (hG : ∀ c ∈ t.kids, G (c, d + 1) = some (g c)) :
    ∀ (j k : Nat), j = t.kids.length - k → k ≤ t.kids.length → loopO (stepd48_0 G) (d, (k : Int), (t.tag, t.body, t.kids)) =
      some (lkC (lookL g (t.kids.drop k))) := by
  have hlen := ht.len.2
  intro j
  induction j with
  | zero =>
    intro k hj hk
    have e : k = t.kids.length := by omega
    subst e
    rw [loopO_eq]
    simp only [stepd48_0, Int.lt_irrefl, decide_false, Bool.false_eq_true, if_false, List.drop_length]
    rfl
  | succ j ih =>
    intro k hj hk
    have hkl : k < t.kids.length := by omega
    have hdrop : t.kids.drop k = t.kids[k] :: t.kids.drop (k + 1) := List.drop_eq_getElem_cons hkl
    have d1 : decide (((k : Nat) : Int) < (t.kids.length : Int)) = true := decide_eq_true (by omega)
    rw [loopO_eq]
    simp only [stepd48_0, d1, if_true]
    rw [if_pos (by omega), kid_at hkl, Tree.eta, wi64 (by omega) (by omega), hG _ (List.getElem_mem hkl), hdrop]
    simp only [Option.bind_some]
    by_cases h : g t.kids[k] = 0
    · have d2 : (g t.kids[k] != 0) = false := by simpa using h
      rw [if_neg (by rw [d2]; decide), lookL_pos h]
      rw [wi64 (by omega) (by omega)]
      have ek : ((k : Nat) : Int) + 1 = ((k + 1 : Nat) : Int) := by omega
      rw [ek]
      exact ih (k + 1) (by omega) (by omega)
    · have d2 : (g t.kids[k] != 0) = true := by simpa using h
      rw [if_pos d2, lookL_neg h, lkC_ne h]

theorem Fd54_eq {t : Tree} (ht : TreeOk t) : Fd54 t.tag = some (bltT t.tag) := by simp only [Fd54, blt_ref ht.tag.1 ht.tag.2]
theorem Fd52_eq {t : Tree} (ht : TreeOk t) : Fd52 t.tag = some (decide (t.tag % 32 = 31)) := by simp only [Fd52, none_ref ht.tag.1]

theorem right_eq : ∀ (k f : Nat) (t : Tree), f < k → f ≤ 17 → TreeOk t → FRd48 k (t, 17 - (f : Int)) = some (lookE f t) := by
  intro k
  induction k with
  | zero => intro f t h; omega
  | succ k ih =>
    intro f t hf hf2 ht
    show Bd48 (FRd48 k) (t, 17 - (f : Int)) = _
    unfold Bd48
    cases f with
    | zero => rfl
    | succ f =>
      have d1 : decide ((17 : Int) - ((f + 1 : Nat) : Int) > 16) = false := decide_eq_false (by omega)
      have hlen := ht.len
      simp only [d1, Bool.false_eq_true, if_false, Fd52_eq ht, Fd54_eq ht, Option.bind_some]
      have hloop := right_loop ht (d := 17 - ((f + 1 : Nat) : Int)) (by omega) (g := lookE f) (G := FRd48 k) (fun c hc => by
        have := ih f c (by omega) (by omega) (ht.kid hc)
        rw [show (17 : Int) - ((f + 1 : Nat) : Int) + 1 = 17 - (f : Int) by omega]
        exact this) _ 0 rfl (Nat.zero_le _)
      simp only [List.drop_zero] at hloop
      have e0 : ((0 : Nat) : Int) = 0 := rfl
      rw [e0] at hloop
      unfold lookE
      by_cases h1 : t.tag % 32 = 31
      · rw [if_pos (decide_eq_true h1), if_pos h1]
      · rw [if_neg (by simpa using h1), if_neg h1]
        cases hb : bltT t.tag with
        | true =>
          simp only [if_true, Bool.not_true, Bool.false_eq_true, if_false]
          by_cases h2 : t.body = []
          · have d2 : decide ((t.body.length : Int) > 0) = false := decide_eq_false (by rw [h2]; simp)
            rw [if_pos d2, if_neg (by simp [h2]), hloop]
            exact lk_endC _
          · have d2 : decide ((t.body.length : Int) > 0) = true := decide_eq_true (by have := List.length_pos_iff.2 h2; omega)
            rw [if_neg (by rw [d2]; decide), if_pos (.inl ⟨trivial, h2⟩)]
        | false =>
          simp only [Bool.false_eq_true, if_false, Bool.not_false, if_true]
          by_cases h2 : t.kids = []
          · have d2 : decide ((t.kids.length : Int) > 0) = false := decide_eq_false (by rw [h2]; simp)
            rw [if_neg (by rw [d2]; decide), if_neg (by simp [h2]), hloop]
            exact lk_endC _
          · have d2 : decide ((t.kids.length : Int) > 0) = true := decide_eq_true (by have := List.length_pos_iff.2 h2; omega)
            rw [if_pos d2, if_pos (.inr ⟨trivial, h2⟩)]

theorem head_eq {t : Int} {n : Nat} (h : n ≤ 65536) : Fd60 (t, (n : Int)) = some (t :: szB n) := by
  unfold szB
  simp only [Fd60, IntKind.wrap_u8']
  have t256 : (n : Int).tdiv 256 = ((n / 256 : Nat) : Int) := by rw [tdivP (by omega)]; omega
  have t65536 : (n : Int).tdiv 65536 = ((n / 65536 : Nat) : Int) := by rw [tdivP (by omega)]; omega
  have m256 : (n : Int).tmod 256 = ((n % 256 : Nat) : Int) := by rw [tmodP (by omega)]; omega
  rw [t256, t65536, m256, wi64 (by omega) (by omega), wi64 (by omega) (by omega)]
  by_cases h1 : n < 128
  · rw [if_pos (decide_eq_true (by omega)), if_pos h1]
    have : ((n : Int)) % 256 = n := by omega
    rw [this]; rfl
  · rw [if_neg (by simp only [decide_eq_true_eq]; omega), if_neg h1]
    by_cases h2 : n < 256
    · rw [if_pos (decide_eq_true (by omega)), if_pos h2]
      have : ((n : Int)) % 256 = n := by omega
      rw [this]; rfl
    · rw [if_neg (by simp only [decide_eq_true_eq]; omega), if_neg h2]
      by_cases h3 : n < 65536
      · rw [if_pos (decide_eq_true (by omega)), if_pos h3]
        have e1 : ((n % 256 : Nat) : Int) % 256 = ((n % 256 : Nat) : Int) := by omega
        have e2 : ((n / 256 : Nat) : Int) % 256 = ((n / 256 : Nat) : Int) := by omega
        rw [e1, e2]; rfl
      · rw [if_neg (by simp only [decide_eq_true_eq]; omega), if_neg h3]
        have e1 : ((n % 256 : Nat) : Int) % 256 = ((n % 256 : Nat) : Int) := by omega
        have e2 : ((n / 256 : Nat) : Int).tmod 256 % 256 = ((n / 256 % 256 : Nat) : Int) := by rw [tmodP (by omega)]; omega
        have e3 : ((n / 65536 : Nat) : Int) % 256 = ((n / 65536 : Nat) : Int) := by omega
        rw [e1, e2, e3]; rfl

/-- the same bytes, as long as these are no more than the limit; else more than it -/
def Cap (x l : List Int) : Prop := (l.length ≤ 65536 → x = l) ∧ (65536 < l.length → 65536 < x.length)
theorem Cap.refl (l : List Int) : Cap l l := ⟨fun _ => rfl, id⟩
theorem Cap.append {x y l m : List Int} (h : Cap x l) (hx : x.length ≤ 65536) (h2 : Cap y m) : Cap (x ++ y) (l ++ m) := by
  have hl : l.length ≤ 65536 := by
    by_cases hl : l.length ≤ 65536
    · exact hl
    · have := h.2 (by omega); omega
  have e := h.1 hl
  subst e
  refine ⟨fun h3 => ?_, fun h3 => ?_⟩
  · rw [h2.1 (by simp only [List.length_append] at h3; omega)]
  · by_cases hm : m.length ≤ 65536
    · rw [h2.1 hm]; exact h3
    · have := h2.2 (by omega); simp only [List.length_append]; omega

theorem bytes_loop {G : Tree → Option (List Int)} {t : Tree} (ht : TreeOk t) (hz : t.sz ≤ 65536)
    (hG : ∀ c ∈ t.kids, Ret (α := List Int) (G c) fun x => Cap x c.enc ∧ x.length ≤ 6 * c.sz) :
    ∀ (j k : Nat) (acc : List Int), j = t.kids.length - k → k ≤ t.kids.length → Cap acc (Tree.encs (t.kids.take k)) → acc.length + 6 * Tree.szs (t.kids.drop k) ≤ 6 * Tree.szs t.kids →
      Ret (α := (Int × List Int × List Tree) × List Int) (loopO (stepd49_0 G) ((k : Int), (t.tag, t.body, t.kids), acc)) fun z => z.1 = (t.tag, t.body, t.kids) ∧ Cap z.2 (Tree.encs t.kids) ∧ z.2.length ≤ 6 * Tree.szs t.kids := by
  have hlen := ht.len.2
  have hts := t.sz_eq
  intro j
  induction j with
  | zero =>
    intro k acc hj hk ha hs
    have e : k = t.kids.length := by omega
    subst e
    rw [loopO_eq]
    simp only [stepd49_0, Int.lt_irrefl, decide_false, Bool.false_eq_true, if_false]
    rw [List.take_length] at ha
    exact ⟨_, rfl, rfl, ha, by simp only [List.drop_length, Tree.szs] at hs; omega⟩
  | succ j ih =>
    intro k acc hj hk ha hs
    have hkl : k < t.kids.length := by omega
    have hdrop : t.kids.drop k = t.kids[k] :: t.kids.drop (k + 1) := List.drop_eq_getElem_cons hkl
    have htake : t.kids.take (k + 1) = t.kids.take k ++ [t.kids[k]] := by rw [List.take_succ_eq_append_getElem hkl]
    have encs_app : ∀ a b : List Tree, Tree.encs (a ++ b) = Tree.encs a ++ Tree.encs b := by
      intro a b
      induction a with
      | nil => rfl
      | cons x a ih => simp only [List.cons_append, Tree.encs, ih, List.append_assoc]
    have d1 : decide (((k : Nat) : Int) < (t.kids.length : Int)) = true := decide_eq_true (by omega)
    rw [loopO_eq]
    simp only [stepd49_0, d1, if_true]
    by_cases h : acc.length ≤ 65536
    · rw [if_pos (decide_eq_true (by omega)), if_pos (by omega), kid_at hkl, Tree.eta]
      obtain ⟨y, hy, h1, h2⟩ := hG _ (List.getElem_mem hkl)
      rw [hy]
      simp only [Option.bind_some]
      rw [hdrop] at hs
      simp only [Tree.szs] at hs
      rw [if_pos (okB1 (by omega)), wi64 (by omega) (by omega)]
      have ek : ((k : Nat) : Int) + 1 = ((k + 1 : Nat) : Int) := by omega
      rw [ek]
      refine ih (k + 1) (acc ++ y) (by omega) (by omega) ?_ ?_
      · rw [htake, encs_app]
        have : Tree.encs [t.kids[k]] = t.kids[k].enc := by simp [Tree.encs]
        rw [this]
        exact ha.append h h1
      · simp only [List.length_append]; omega
    · rw [if_neg (by simp only [decide_eq_true_eq]; omega)]
      refine ⟨_, rfl, rfl, ⟨fun h3 => ?_, fun _ => by show 65536 < acc.length; omega⟩, by show acc.length ≤ _; omega⟩
      have e : Tree.encs t.kids = Tree.encs (t.kids.take k) ++ Tree.encs (t.kids.drop k) := by rw [← encs_app, List.take_append_drop]
      have h4 : (Tree.encs (t.kids.take k)).length ≤ 65536 := by rw [e] at h3; simp only [List.length_append] at h3; omega
      have := ha.1 h4
      rw [this] at h; exact absurd h4 h

theorem bytes_eq : ∀ (k : Nat) (t : Tree), t.rank < k → TreeOk t → t.sz ≤ 65536 → Ret (α := List Int) (FRd49 k t) fun x => Cap x t.enc ∧ x.length ≤ 6 * t.sz := by
  intro k
  induction k with
  | zero => intro t h; omega
  | succ k ih =>
    intro t hr ht hz
    show Ret (α := List Int) (Bd49 (FRd49 k) t) _
    simp only [Bd49, Fd54_eq ht, Option.bind_some]
    have hlen := ht.len
    have hts := t.sz_eq
    rw [Tree.enc_eq]
    cases hb : bltT t.tag with
    | true =>
      simp only [if_true]
      refine Ret.bind (bytes_loop ht hz (G := FRd49 k) (fun c hc => ih c (by have := Tree.rank_kid hc; omega) (ht.kid hc) (by have := Tree.szs_mem hc; omega)) _ 0 [] rfl (Nat.zero_le _) (by simp only [List.take_zero, Tree.encs]; exact Cap.refl _) (by simp)) ?_
      rintro ⟨a, x⟩ ⟨h1, h2, h3⟩
      simp only at h1 h2 h3
      subst h1
      have hx2 : ((((t.tag, t.body, t.kids), x) : (Int × List Int × List Tree) × List Int).2.length) = x.length := rfl
      by_cases h : x.length ≤ 65536
      · rw [if_neg (by simp only [decide_eq_true_eq]; omega), head_eq h]
        have hzl := szB_len x.length
        simp only [Option.bind_some]
        rw [if_pos (okB1 (by simp only [List.length_cons]; omega))]
        have he : x = Tree.encs t.kids := h2.1 (by
          by_cases h4 : (Tree.encs t.kids).length ≤ 65536
          · exact h4
          · have h5 : 65536 < x.length := h2.2 (by omega)
            omega)
        refine Ret.some ⟨?_, by simp only [List.length_append, List.length_cons]; omega⟩
        rw [he, List.cons_append]
        exact Cap.refl _
      · have e : ((65536 : Nat) : Int) = 65536 := rfl
        rw [if_pos (decide_eq_true (by omega)), ← e, head_eq (Nat.le_refl _)]
        have hzl := szB_len 65536
        simp only [Option.bind_some]
        rw [if_pos (okB1 (by simp only [List.length_cons]; omega))]
        refine Ret.some ⟨⟨fun h4 => ?_, fun _ => by simp only [List.length_append, List.length_cons]; omega⟩, by simp only [List.length_append, List.length_cons]; omega⟩
        simp only [List.length_cons, List.length_append] at h4
        have := h2.1 (by omega)
        rw [this] at h; omega
    | false =>
      simp only [Bool.false_eq_true, if_false]
      have h : t.body.length ≤ 65536 := by omega
      rw [if_neg (by simp only [decide_eq_true_eq]; omega), head_eq h]
      have hzl := szB_len t.body.length
      simp only [Option.bind_some]
      rw [if_pos (okB1 (by simp only [List.length_cons]; omega))]
      refine Ret.some ⟨?_, by simp only [List.length_append, List.length_cons]; omega⟩
      rw [List.cons_append]
      exact Cap.refl _

/-- the document's Encode: the same -/
theorem ref_encode {t : Tree} (ht : TreeOk t) (hz : t.sz ≤ 65536) : Fd23 t = some (encO t) := by
  simp only [Fd23]
  rw [Tree.eta]
  have h48 : Fd48 (t, 1) = some (lookE 16 t) := right_eq 20 16 t (by omega) (by omega) ht
  rw [h48]
  simp only [Option.bind_some]
  unfold encO
  by_cases h : lookE 16 t = 0
  · rw [if_neg (by rw [h]; decide), if_pos h]
    obtain ⟨x, hx, h1, h2⟩ := bytes_eq (t.rank + 1) t (by omega) ht hz
    have h49 : Fd49 t = some x := hx
    rw [h49]
    simp only [Option.bind_some]
    by_cases h3 : t.enc.length ≤ 65536
    · rw [h1.1 h3, if_neg (by simp only [decide_eq_true_eq]; omega), if_pos h3]
    · have := h1.2 (by omega)
      rw [if_pos (decide_eq_true (by omega)), if_neg h3]
  · have d2 : (lookE 16 t != 0) = true := by simpa using h
    rw [if_pos d2, if_neg h]
end Go.Abs
