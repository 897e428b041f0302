/- Objects' names: the document's reader, and the law. -/
import Derived.Test.YtmfdbnhknaemdaaXOid2L
set_option linter.unusedVariables false
set_option linter.unusedSimpArgs false
namespace Go.Abs

def oidO (t : Tree) : List Int × Int :=
  if t.tag ≠ 6 then ([], 123) else if t.kids ≠ [] ∨ t.body = [] then ([], 127) else match rdF true 0 t.body with
    | none => ([], 127)
    | some vals => if 20 < (ext [] vals).length then ([], 127) else (ext [] vals, 0)
theorem oidO_tag {t : Tree} (h : t.tag ≠ 6) : oidO t = ([], 123) := if_pos h
theorem oidO_form {t : Tree} (h : t.tag = 6) (h2 : t.kids ≠ [] ∨ t.body = []) : oidO t = ([], 127) := by unfold oidO; rw [if_neg (by simpa using h), if_pos h2]
theorem oidO_body {t : Tree} (h : t.tag = 6) (h2 : t.kids = []) (h3 : t.body ≠ []) : oidO t = match rdF true 0 t.body with
    | none => ([], 127)
    | some vals => if 20 < (ext [] vals).length then ([], 127) else (ext [] vals, 0) := by unfold oidO; rw [if_neg (by simpa using h), if_neg (by simp [h2, h3])]
theorem oidO_none {t : Tree} (h : t.tag = 6) (h2 : t.kids = []) (h3 : t.body ≠ []) (h4 : rdF true 0 t.body = none) : oidO t = ([], 127) := by rw [oidO_body h h2 h3, h4]
theorem oidO_long {t : Tree} {vals : List Int} (h : t.tag = 6) (h2 : t.kids = []) (h3 : t.body ≠ []) (h4 : rdF true 0 t.body = some vals) (h5 : 20 < (ext [] vals).length) : oidO t = ([], 127) := by
  rw [oidO_body h h2 h3, h4]; exact if_pos h5
theorem oidO_ok {t : Tree} {vals : List Int} (h : t.tag = 6) (h2 : t.kids = []) (h3 : t.body ≠ []) (h4 : rdF true 0 t.body = some vals) (h5 : ¬ 20 < (ext [] vals).length) : oidO t = (ext [] vals, 0) := by
  rw [oidO_body h h2 h3, h4]; exact if_neg h5

theorem oid_eq {t : Tree} (ht : TreeOk t) (hz : t.body.length ≤ 65536) : Fd32 t = some (oidO t) := by
  simp only [Fd32]
  rw [Tree.eta, plain_eq]
  simp only [Option.bind_some]
  have hby := By.of ht.byt
  by_cases h1 : t.tag = 6
  · by_cases h2 : t.kids ≠ [] ∨ t.body = []
    · rw [plainO_bad h1 h2, oidO_form h1 h2]; rfl
    · have hk : t.kids = [] := by
        by_cases hk : t.kids = []
        · exact hk
        · exact absurd (.inl hk) h2
      have hb : t.body ≠ [] := fun h => h2 (.inr h)
      rw [plainO_ok h1 hk hb, ite_f (b := ((0 : Int) != 0)) rfl]
      obtain ⟨z, hz, z1, z2⟩ := loop32 hby hz _ 0 0 true [] rfl (Nat.zero_le _) (Int.le_refl _) (by unfold mx; omega) (by simp)
      have hz : loopO stepd32_0 (0, true, t.body, (t.body.length : Int), 0, []) = some z := hz
      rw [List.drop_zero] at z1 z2
      rw [hz]
      simp only [Option.bind_some]
      cases hr : rdF true 0 t.body with
      | none =>
        rw [oidO_none h1 hk hb hr]
        rcases z1 hr with e | ⟨r', e⟩
        · subst e; rfl
        · subst e; rfl
      | some vals =>
        have e := z2 vals hr
        subst e
        by_cases h5 : 20 < (ext [] vals).length
        · rw [oidO_long h1 hk hb hr h5]
          show (if (!true) = false then (if (decide (((ext [] vals).length : Int) > 20)) = true then some (([] : List Int), (127 : Int)) else some (ext [] vals, 0)) else some ([], 127)) = _
          rw [itf_f (b := !true) rfl, ite_t (decide_eq_true (by omega))]
        · rw [oidO_ok h1 hk hb hr h5]
          show (if (!true) = false then (if (decide (((ext [] vals).length : Int) > 20)) = true then some (([] : List Int), (127 : Int)) else some (ext [] vals, 0)) else some ([], 127)) = _
          rw [itf_f (b := !true) rfl, ite_f (decide_eq_false (by omega))]
  · rw [plainO_tag h1, oidO_tag h1]; rfl

/-! ### the document's loop -/
theorem put32_w64 {r : List Int} {x : Int} (hr : W64 r) (h0 : 0 ≤ x) (h1 : x < 18446744073709551616) : W64 (put32 r x) := by
  have hf := fst2_bd h0
  unfold put32
  split
  · intro y hy
    simp only [List.mem_cons, List.not_mem_nil, or_false] at hy
    rcases hy with rfl | rfl <;> omega
  · intro y hy
    rcases List.mem_append.1 hy with hy | hy
    · exact hr y hy
    · simp only [List.mem_cons, List.not_mem_nil, or_false] at hy
      subst hy; exact ⟨h0, h1⟩

theorem step33_eq {t : Tree} {k : Nat} {v : Int} {r : List Int} (hb : By t.body) (hkl : k < t.body.length) (hl : t.body.length ≤ 65536) (h0 : 0 ≤ v) (h1 : v ≤ mx) (hr : r.length ≤ 100000) :
    stepd33_0 (v, (k : Int), (t.tag, t.body, t.kids), r) = if 128 ≤ t.body[k] then some (.inl (128 * v + t.body[k] % 128, ((k + 1 : Nat) : Int), (t.tag, t.body, t.kids), r)) else
      some (.inl (0, ((k + 1 : Nat) : Int), (t.tag, t.body, t.kids), put32 r (128 * v + t.body[k] % 128))) := by
  have hx := hb t.body[k] (List.getElem_mem hkl)
  have ek : ((k : Nat) : Int) + 1 = ((k + 1 : Nat) : Int) := by omega
  have d1 : decide (((k : Nat) : Int) < (t.body.length : Int)) = true := decide_eq_true (by omega)
  unfold mx at h1
  simp only [stepd33_0]
  rw [ite_t d1, ite_f (decide_eq_false (by omega)), if_pos (by omega), if_pos (by omega), getD_at hkl, tmodP hx.1, wu64 (n := 128 * v) (by omega) (by omega), wu64 (n := t.body[k] % 128) (by omega) (by omega), wu64 (n := _ + _) (by omega) (by omega), wi64 (by omega) (by omega), ek]
  by_cases c2 : 128 ≤ t.body[k]
  · rw [ite_t (decide_eq_true (by omega)), if_pos c2]
  · have hge : 0 ≤ 128 * v + t.body[k] % 128 := by omega
    have hfb := fst2_bd hge
    rw [ite_f (decide_eq_false (by omega)), if_neg c2, fst2_eq hge (by omega), wu64 (n := 40 * fst2 (128 * v + t.body[k] % 128)) (by omega) (by omega), wu64 (n := _ - _) (by omega) (by omega)]
    unfold put32
    by_cases hr0 : r = []
    · have d3 : ((r.length : Int) == 0) = true := by rw [hr0]; rfl
      rw [ite_t d3, if_pos (okB8 (by show r.length + 1 ≤ _; omega)), if_pos (okB8 (by show (r ++ [_]).length + 1 ≤ _; rw [List.length_append]; simp only [List.length_cons, List.length_nil]; omega)), if_pos hr0, hr0]
      rfl
    · have hp := List.length_pos_iff.2 hr0
      have d3 : ((r.length : Int) == 0) = false := beq_eq_false_iff_ne.2 (by omega)
      rw [ite_f d3, if_pos (okB8 (by show r.length + 1 ≤ _; omega)), if_neg hr0]
      rfl

theorem loop33 {t : Tree} (hb : By t.body) (hl : t.body.length ≤ 65536) : ∀ (j k : Nat) (v : Int) (r : List Int), j = t.body.length - k → k ≤ t.body.length → 0 ≤ v → v ≤ 1000000000000 → W64 r → r.length ≤ k + 1 →
    Ret (α := (Int × List Int) ⊕ ((Int × List Int × List Tree) × List Int)) (loopO stepd33_0 (v, (k : Int), (t.tag, t.body, t.kids), r)) fun z =>
      (z = .inl (127, []) ∨ ∃ l, z = .inr ((t.tag, t.body, t.kids), l) ∧ W64 l) ∧ ∀ fresh vals, v ≤ mx → rdF fresh v (t.body.drop k) = some vals → z = .inr ((t.tag, t.body, t.kids), ext r vals) := by
  intro j
  induction j with
  | zero =>
    intro k v r hj hk h0 h1 hw hr
    have e : k = t.body.length := by omega
    subst e
    refine ⟨.inr ((t.tag, t.body, t.kids), r), ?_, .inr ⟨r, rfl, hw⟩, ?_⟩
    · rw [loopO_eq]
      simp only [stepd33_0, Int.lt_irrefl, decide_false, Bool.false_eq_true, if_false]
    · rw [List.drop_length]
      intro fresh vals _ h
      cases fresh with
      | true => cases h; rfl
      | false => cases h
  | succ j ih =>
    intro k v r hj hk h0 h1 hw hr
    have hkl : k < t.body.length := by omega
    have hdrop : t.body.drop k = t.body[k] :: t.body.drop (k + 1) := List.drop_eq_getElem_cons hkl
    have hx := hb t.body[k] (List.getElem_mem hkl)
    rw [loopO_thenO, hdrop]
    by_cases hv : v ≤ mx
    · have hv' := hv
      unfold mx at hv'
      rw [step33_eq hb hkl hl h0 hv (by omega)]
      by_cases c2 : 128 ≤ t.body[k]
      · rw [if_pos c2]
        obtain ⟨z, hz, z1, z2⟩ := ih (k + 1) (128 * v + t.body[k] % 128) r (by omega) (by omega) (by omega) (by omega) hw (by omega)
        refine ⟨z, hz, z1, fun fresh vals _ h => ?_⟩
        rw [rdF_cons] at h
        split at h
        · cases h
        · split at h
          · cases h
          · rename_i c1
            exact z2 false vals (by omega) h
      · rw [if_neg c2]
        have hpl2 : (put32 r (128 * v + t.body[k] % 128)).length ≤ k + 2 := by
          unfold put32
          split
          · simp
          · simp; omega
        obtain ⟨z, hz, z1, z2⟩ := ih (k + 1) 0 (put32 r (128 * v + t.body[k] % 128)) (by omega) (by omega) (Int.le_refl _) (by omega) (put32_w64 hw (by omega) (by omega)) (by omega)
        refine ⟨z, hz, z1, fun fresh vals _ h => ?_⟩
        rw [rdF_cons] at h
        split at h
        · cases h
        · split at h
          · cases h
          · rename_i c1
            cases hq : rdF true 0 (t.body.drop (k + 1)) with
            | none => rw [hq] at h; cases h
            | some l =>
              rw [hq] at h
              simp only [Option.map_some, Option.some.injEq] at h
              subst h
              rw [z2 true l (by unfold mx; omega) hq]
              unfold put32
              rw [ext_step]
    · have hv' := hv
      unfold mx at hv'
      have d1 : decide (((k : Nat) : Int) < (t.body.length : Int)) = true := decide_eq_true (by omega)
      have e : stepd33_0 (v, (k : Int), (t.tag, t.body, t.kids), r) = some (.inr (.inl (127, []))) := by
        simp only [stepd33_0]
        rw [ite_t d1, ite_t (decide_eq_true (by omega))]
      rw [e]
      exact ⟨_, rfl, .inl rfl, fun fresh vals h => absurd h hv⟩

/-! ### there and back -/
theorem list2 {l : List Int} (h : 2 ≤ l.length) : l = l.getD 0 0 :: l.getD 1 0 :: l.drop 2 := by
  match l, h with
  | [], h => simp at h
  | [a], h => simp at h
  | a :: b :: r, _ => rfl

theorem oid_of {l : List Int} (hw : W64 l) (h : okOf l) : oidO (ofO l).1 = (l, 0) := by
  have w0 := w64_getD hw 0
  have w1 := w64_getD hw 1
  obtain ⟨h1, h2, h3, h4, h5, h6⟩ := h
  rw [ofO_ok ⟨h1, h2, h3, h4, h5, h6⟩]
  obtain ⟨n, hn⟩ : ∃ n : Nat, 40 * l.getD 0 0 + l.getD 1 0 = (n : Int) := ⟨(40 * l.getD 0 0 + l.getD 1 0).toNat, by omega⟩
  have e6 : ((n : Int)).toNat = n := by omega
  have hr : rdF true 0 (fig n ++ figs (l.drop 2)) = some ((n : Int) :: l.drop 2) := by
    rw [rdF_fig (by unfold mx; omega), rdF_figs _ (fun y hy => ⟨(hw y (List.mem_of_mem_drop hy)).1, by unfold mx; exact h6 y hy⟩)]; rfl
  have hf : fst2 (n : Int) = l.getD 0 0 := by
    unfold fst2
    split <;> omega
  have hext : ext [] ((n : Int) :: l.drop 2) = l := by
    show fst2 (n : Int) :: ((n : Int) - 40 * fst2 (n : Int)) :: l.drop 2 = l
    rw [hf, ← hn, show 40 * l.getD 0 0 + l.getD 1 0 - 40 * l.getD 0 0 = l.getD 1 0 by omega]
    exact (list2 h1).symm
  have hfl := fig_len (n := n) (by omega)
  rw [hn, e6]
  rw [oidO_ok (t := .node 6 (fig n ++ figs (l.drop 2)) []) (vals := (n : Int) :: l.drop 2) rfl rfl (by
    show fig n ++ figs (l.drop 2) ≠ []
    intro h
    have := congrArg List.length h
    simp only [List.length_append, List.length_nil] at this
    omega) hr (by rw [hext]; omega), hext]

theorem of_oid {t : Tree} (ht : TreeOk t) (h : (oidO t).2 = 0) : ofO (oidO t).1 = (t, 0) ∧ W64 (oidO t).1 ∧ (oidO t).1.length ≤ 20 ∧ t.tag = 6 := by
  have hby := By.of ht.byt
  have h1 : t.tag = 6 := by
    by_cases h1 : t.tag = 6
    · exact h1
    · rw [oidO_tag h1] at h; simp at h
  have hform : ¬ (t.kids ≠ [] ∨ t.body = []) := by
    intro h2; rw [oidO_form h1 h2] at h; simp at h
  have hk : t.kids = [] := by
    by_cases hk : t.kids = []
    · exact hk
    · exact absurd (.inl hk) hform
  have hb : t.body ≠ [] := fun h => hform (.inr h)
  cases hr : rdF true 0 t.body with
  | none => rw [oidO_none h1 hk hb hr] at h; simp at h
  | some vals =>
    by_cases h5 : 20 < (ext [] vals).length
    · rw [oidO_long h1 hk hb hr h5] at h; simp at h
    · rw [oidO_ok h1 hk hb hr h5]
      obtain ⟨e1, e2⟩ := (rdF_spec t.body hby).1 vals hr
      cases vals with
      | nil => exact absurd e1 hb
      | cons x xs =>
        have hx := e2 x (by simp)
        have hfb := fst2_bd hx.1
        have hx' := hx
        unfold mx at hx'
        have e : ext [] (x :: xs) = fst2 x :: (x - 40 * fst2 x) :: xs := rfl
        rw [e] at h5 ⊢
        simp only [List.length_cons] at h5
        have hok : okOf (fst2 x :: (x - 40 * fst2 x) :: xs) := by
          refine ⟨by simp, by simp only [List.length_cons]; omega, by simp only [List.getD_cons_zero]; omega, fun h => ?_, ?_, fun y hy => ?_⟩
          · simp only [List.getD_cons_zero, List.getD_cons_succ] at h ⊢; omega
          · simp only [List.getD_cons_zero, List.getD_cons_succ]; omega
          · have := e2 y (by simp only [List.mem_cons]; exact .inr hy)
            unfold mx at this; omega
        refine ⟨?_, ?_, by simp only [List.length_cons]; omega, h1⟩
        · rw [ofO_ok hok]
          simp only [List.getD_cons_zero, List.getD_cons_succ]
          have e3 : 40 * fst2 x + (x - 40 * fst2 x) = x := by omega
          have e4 : (fst2 x :: (x - 40 * fst2 x) :: xs).drop 2 = xs := rfl
          rw [e3, e4, ← figs_cons, ← e1, ← h1, ← hk]
          rw [t.eta]
        · intro y hy
          simp only [List.mem_cons] at hy
          rcases hy with rfl | rfl | hy
          · omega
          · omega
          · have := e2 y (by simp [hy])
            unfold mx at this; omega

theorem ofO_tree {l : List Int} (hw : W64 l) : TreeOk (ofO l).1 := by
  by_cases h : okOf l
  · rw [ofO_ok h]
    have w0 := w64_getD hw 0
    have w1 := w64_getD hw 1
    obtain ⟨h1, h2, h3, h4, h5, h6⟩ := h
    have key : ∀ m : List Int, (∀ y ∈ m, y ≤ 4294967295) → By (figs m) ∧ (figs m).length ≤ 5 * m.length := by
      intro m
      induction m with
      | nil => intro _; exact ⟨By.nil, by simp [figs]⟩
      | cons x m ih =>
        intro hm
        obtain ⟨i1, i2⟩ := ih fun y hy => hm y (by simp [hy])
        have := fig_len (n := x.toNat) (by have := hm x (by simp); omega)
        rw [figs_cons]
        exact ⟨By.append.2 ⟨fig_by _, i1⟩, by simp only [List.length_append, List.length_cons]; omega⟩
    obtain ⟨k1, k2⟩ := key _ h6
    have := fig_len (n := (40 * l.getD 0 0 + l.getD 1 0).toNat) (by omega)
    refine treeOk_bytes (by omega) (By.append.2 ⟨fig_by _, k1⟩) ?_
    simp only [List.length_append, List.length_drop] at k2 ⊢
    omega
  · rw [ofO_bad h]; exact treeOk_zero

open Classical in
theorem refOid_eq {t : Tree} (ht : TreeOk t) (hz : t.body.length ≤ 65536) : Fd33 t = some (oidO t) := by
  simp only [Fd33]
  have hby := By.of ht.byt
  by_cases h1 : t.tag = 6
  · rw [ite_f (b := (t.tag != 6)) (by rw [h1]; rfl)]
    obtain ⟨z, hz2, z1, z2⟩ := loop33 hby hz _ 0 0 [] rfl (Nat.zero_le _) (Int.le_refl _) (by omega) (fun y hy => by simp at hy) (by simp)
    have hz2 : loopO stepd33_0 (0, 0, (t.tag, t.body, t.kids), []) = some z := hz2
    rw [List.drop_zero] at z2
    rw [hz2]
    simp only [Option.bind_some]
    -- behind the loop
    have tail : ∀ l, W64 l → ((Fd35r l).bind fun (y8, y9, y10) =>
            (Fd12 ((Tree.node y8.tag y8.body y8.kids), (Tree.node t.tag t.body t.kids))).bind fun y11 =>
              if (y9 != 0) = false then
                if (!y11) = true then
                  some (([] : List Int), (127 : Int))
                else
                  some (y10, 0)
              else
                some (([] : List Int), 127)) = some (if ofO l = (t, 0) then (l, 0) else ([], 127)) := by
      intro l hw
      rw [refOfOidR_eq hw]
      simp only [Option.bind_some]
      rw [Tree.eta, Tree.eta, same12 (ofO_tree hw)]
      simp only [Option.bind_some]
      by_cases e1 : (ofO l).2 = 0
      · rw [itf_f (by rw [e1]; rfl)]
        by_cases e2 : (ofO l).1 = t
        · have e3 : ofO l = (t, 0) := Prod.ext e2 e1
          rw [if_pos e3, decide_eq_true e2]; rfl
        · have e3 : ¬ ofO l = (t, 0) := fun e => e2 (by rw [e])
          rw [if_neg e3, decide_eq_false e2]; rfl
      · have e3 : ¬ ofO l = (t, 0) := fun e => e1 (by rw [e])
        rw [itf_t (bne_iff_ne.2 e1), if_neg e3]
    by_cases ho : (oidO t).2 = 0
    · obtain ⟨o1, o2, o3, _⟩ := of_oid ht ho
      have hform : ¬ (t.kids ≠ [] ∨ t.body = []) := by
        intro h2; rw [oidO_form h1 h2] at ho; simp at ho
      have hk : t.kids = [] := by
        by_cases hk : t.kids = []
        · exact hk
        · exact absurd (.inl hk) hform
      have hb : t.body ≠ [] := fun h => hform (.inr h)
      cases hr : rdF true 0 t.body with
      | none => rw [oidO_none h1 hk hb hr] at ho; simp at ho
      | some vals =>
        have e := z2 true vals (by unfold mx; omega) hr
        subst e
        by_cases h5 : 20 < (ext [] vals).length
        · rw [oidO_long h1 hk hb hr h5] at ho; simp at ho
        · have e5 := oidO_ok h1 hk hb hr h5
          rw [e5] at o1 o2 ⊢
          have := tail (ext [] vals) o2
          rw [if_pos o1] at this
          exact this
    · have hbad : oidO t = ([], 127) := by
        by_cases h2 : t.kids ≠ [] ∨ t.body = []
        · exact oidO_form h1 h2
        · have hk : t.kids = [] := by
            by_cases hk : t.kids = []
            · exact hk
            · exact absurd (.inl hk) h2
          have hb : t.body ≠ [] := fun h => h2 (.inr h)
          cases hr : rdF true 0 t.body with
          | none => exact oidO_none h1 hk hb hr
          | some vals =>
            by_cases h5 : 20 < (ext [] vals).length
            · exact oidO_long h1 hk hb hr h5
            · rw [oidO_ok h1 hk hb hr h5] at ho; exact absurd rfl ho
      rw [hbad]
      rcases z1 with e | ⟨l, e, hw⟩
      · subst e; rfl
      · subst e
        have := tail l hw
        have hne : ¬ ofO l = (t, 0) := fun e => by
          have hok : okOf l := by
            by_cases hok : okOf l
            · exact hok
            · rw [ofO_bad hok] at e; injection e with _ e2; simp at e2
          have := oid_of hw hok
          rw [e] at this
          simp only at this
          rw [this] at ho; exact ho rfl
        rw [if_neg hne] at this
        exact this
  · rw [oidO_tag h1, ite_t (bne_iff_ne.2 h1)]

/-! ### sameWords, and the law -/
theorem words_loop {a b : List Int} (hl : a.length = b.length) (ha : a.length ≤ 9000000000000000) :
    ∀ (j k : Nat), j = a.length - k → k ≤ a.length → loopO stepd36_0 (a, b, (k : Int)) = some (if a.drop k = b.drop k then .inr () else .inl false) := by
  intro j
  induction j with
  | zero =>
    intro k hj hk
    have e : k = a.length := by omega
    subst e
    rw [loopO_eq]
    simp only [stepd36_0, Int.lt_irrefl, decide_false, Bool.false_eq_true, if_false]
    rw [if_pos (by rw [List.drop_length, hl, List.drop_length])]
  | succ j ih =>
    intro k hj hk
    have hka : k < a.length := by omega
    have hkb : k < b.length := by omega
    have d1 : decide (((k : Nat) : Int) < (a.length : Int)) = true := decide_eq_true (by omega)
    rw [loopO_eq]
    simp only [stepd36_0, d1, if_true]
    rw [if_pos (by omega), if_pos (by omega), getD_at hka, getD_at hkb]
    by_cases h : a[k] = b[k]
    · have d2 : (a[k] != b[k]) = false := by simpa using h
      rw [if_neg (by rw [d2]; decide), wi64 (by omega) (by omega)]
      have ek : ((k : Nat) : Int) + 1 = ((k + 1 : Nat) : Int) := by omega
      rw [ek]
      show loopO stepd36_0 (a, b, ((k + 1 : Nat) : Int)) = _
      rw [ih (k + 1) (by omega) (by omega)]
      have e := drop_iff hka hkb h
      simp only [e]
    · have d2 : (a[k] != b[k]) = true := by simpa using h
      rw [if_pos d2]
      have e := drop_ne hka hkb h
      rw [if_neg e]

theorem words_eq {a b : List Int} (ha : a.length ≤ 9000000000000000) : Fd36 (a, b) = some (decide (a = b)) := by
  simp only [Fd36]
  by_cases h : a.length = b.length
  · rw [if_neg (by simp [h])]
    have e0 : (0 : Int) = ((0 : Nat) : Int) := rfl
    rw [e0, words_loop h ha _ 0 rfl (Nat.zero_le _)]
    simp only [List.drop_zero]
    by_cases h2 : a = b
    · rw [if_pos h2, decide_eq_true h2]; rfl
    · rw [if_neg h2, decide_eq_false h2]; rfl
  · have d1 : ((a.length : Int) != (b.length : Int)) = true := by simp; omega
    rw [if_pos d1, decide_eq_false (fun h2 => h (by rw [h2]))]

theorem objects_law {t : Tree} {l : List Int} (ht : TreeOk t) (hw : W64 l) (hl : l.length ≤ 9000000000000000) : Fd9 (t, l) = some true := by
  simp only [Fd9]
  rw [Tree.eta, great_eq ht]
  simp only [Option.bind_some]
  by_cases hg : 65536 < t.sz
  · rw [if_pos (decide_eq_true hg), alive]; rfl
  · have hts := t.sz_eq
    have hz : t.body.length ≤ 65536 := by omega
    have hlo : (oidO t).1.length ≤ 9000000000000000 := by
      by_cases h : (oidO t).2 = 0
      · have := (of_oid ht h).2.2.1; omega
      · have : (oidO t).1 = [] := by
          unfold oidO at h ⊢
          split
          · rfl
          · rename_i h1
            rw [if_neg h1] at h
            split
            · rfl
            · rename_i h2
              rw [if_neg h2] at h
              cases hr : rdF true 0 t.body with
              | none => rfl
              | some vals =>
                rw [hr] at h
                simp only at h ⊢
                split
                · rfl
                · rename_i h3; rw [if_neg h3] at h; exact absurd rfl h
        rw [this]; simp
    have heta : ∀ x : Tree, Tree.node x.tag x.body x.kids = x := Tree.eta
    have hT := ofO_tree hw
    rw [if_neg (by simpa using hg), oid_eq ht hz, refOid_eq ht hz, ofOid_eq hw, refOfOid_eq hw]
    simp only [Option.bind_some]
    rw [words_eq hlo, heta (ofO l).1, same12_self hT, alive]
    simp only [Option.bind_some]
    rw [itf_f (b := !true) rfl, itf_f (bne_self_eq_false _), itf_f (bne_self_eq_false _), itf_f (by simp), ite_f (b := !true) rfl]
    -- what was read is written
    have back : ∀ (h : (oidO t).2 = 0), ((Fd34 (oidO t).1).bind fun (y20, y21) =>
                      if (y21 == 0) = true then
                        (Fd12 ((Tree.node y20.tag y20.body y20.kids), t)).bind fun y22 =>
                          some y22
                      else
                        some false) = some true := by
      intro h
      obtain ⟨o1, o2, o3, _⟩ := of_oid ht h
      rw [ofOid_eq o2, o1]
      simp only [Option.bind_some]
      rw [heta t, same12_self ht]; rfl
    by_cases h : okOf l
    · have e0 : (ofO l).2 = 0 := by rw [ofO_ok h]
      have hbl : (ofO l).1.body.length ≤ 65536 := by
        have := oid_of hw h
        rw [ofO_ok h]
        obtain ⟨h1, h2, h3, h4, h5, h6⟩ := h
        have w0 := w64_getD hw 0
        have w1 := w64_getD hw 1
        have key : ∀ m : List Int, (∀ y ∈ m, y ≤ 4294967295) → (figs m).length ≤ 5 * m.length := by
          intro m
          induction m with
          | nil => intro _; simp [figs]
          | cons x m ih =>
            intro hm
            have i2 := ih fun y hy => hm y (by simp [hy])
            have := fig_len (n := x.toNat) (by have := hm x (by simp); omega)
            rw [figs_cons]
            simp only [List.length_append, List.length_cons]; omega
        have k2 := key _ h6
        have := fig_len (n := (40 * l.getD 0 0 + l.getD 1 0).toNat) (by omega)
        show (fig _ ++ figs _).length ≤ _
        simp only [List.length_append, List.length_drop] at k2 ⊢
        omega
      rw [ite_t (beq_iff_eq.2 e0), oid_eq hT hbl, oid_of hw h]
      simp only [Option.bind_some]
      rw [itf_f (bne_self_eq_false _), words_eq hl]
      simp only [Option.bind_some]
      rw [ite_f (by simp)]
      by_cases ho : (oidO t).2 = 0
      · rw [ite_t (beq_iff_eq.2 ho)]
        exact back ho
      · rw [ite_f (beq_eq_false_iff_ne.2 ho)]
    · have e0 : (ofO l).2 ≠ 0 := by rw [ofO_bad h]; decide
      rw [ite_f (beq_eq_false_iff_ne.2 e0)]
      by_cases ho : (oidO t).2 = 0
      · rw [ite_t (beq_iff_eq.2 ho)]
        exact back ho
      · rw [ite_f (beq_eq_false_iff_ne.2 ho)]
end Go.Abs
