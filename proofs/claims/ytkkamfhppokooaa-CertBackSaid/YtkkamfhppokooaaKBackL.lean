import Derived.Test.YtkkamfhppokooaaKCert1L
/- Chapter 13: what is read is what was written. -/
set_option linter.unusedVariables false
set_option linter.unusedSimpArgs false
namespace Go.Abs

noncomputable def thenG {α β : Type} (o : Option ((Int × Unit) ⊕ α)) (k : α → Option ((Int × Unit) ⊕ β)) : Option ((Int × Unit) ⊕ β) := o.bind fun
  | .inl (e, _) => some (.inl (e, ()))
  | .inr y => k y
noncomputable def thenJ {β : Type} (o : Option (Unit ⊕ (Int × Unit))) (k : Option ((Int × Unit) ⊕ β)) : Option ((Int × Unit) ⊕ β) := o.bind fun
  | .inl _ => k
  | .inr (e, _) => some (.inl (e, ()))
theorem thenG_ok {α β : Type} {o : Option ((Int × Unit) ⊕ α)} {y : α} {k : α → Option ((Int × Unit) ⊕ β)} (h : o = some (.inr y)) : thenG o k = k y := by rw [h]; rfl
theorem thenG_no {α β : Type} {o : Option ((Int × Unit) ⊕ α)} {k : α → Option ((Int × Unit) ⊕ β)} (h : o = some (.inl (131, ()))) : thenG o k = some (.inl (131, ())) := by rw [h]; rfl
theorem thenJ_ok {β : Type} {o : Option (Unit ⊕ (Int × Unit))} {k : Option ((Int × Unit) ⊕ β)} (h : o = some (.inl ())) : thenJ o k = k := by rw [h]; rfl
theorem thenJ_no {β : Type} {o : Option (Unit ⊕ (Int × Unit))} {k : Option ((Int × Unit) ⊕ β)} (h : o = some (.inr (131, ()))) : thenJ o k = some (.inl (131, ())) := by rw [h]; rfl

/-- it refuses, or answers so -/
def Tot {β : Type} (o : Option ((Int × Unit) ⊕ β)) (p : β → Prop) : Prop := o = some (.inl (131, ())) ∨ ∃ y, p y ∧ o = some (.inr y)
theorem Tot.no {β : Type} {p : β → Prop} : Tot (some (.inl (131, ())) : Option ((Int × Unit) ⊕ β)) p := .inl rfl
theorem Tot.yes {β : Type} {p : β → Prop} {y : β} (h : p y) : Tot (some (.inr y)) p := .inr ⟨y, h, rfl⟩

/-! ### inverses -/
theorem uint_inv {t : Tree} (ht : TreeOk t) (h : (uintO t).2 = 0) : ∃ n : Int, 0 ≤ n ∧ n < 18446744073709551616 ∧ t = uintT n ∧ uintO t = (n, 0) := by
  by_cases h1 : t.tag = 2
  · by_cases h2 : t.kids ≠ [] ∨ t.body = []
    · rw [uintO_form h1 h2] at h; cases h
    · simp only [not_or, Classical.not_not] at h2
      have hb := By.of ht.byt
      by_cases h3 : badU t.body
      · rw [uintO_bad h1 h2.1 h2.2 h3] at h; cases h
      · have hn := num_small hb h2.2 h3
        have h0 : 0 ≤ num t.body := by rw [num_numF]; exact numF_ge hb (Int.le_refl _)
        refine ⟨num t.body, h0, hn, ?_, uintO_ok h1 h2.1 h2.2 h3⟩
        unfold uintT
        rw [be_num hb h2.2 h3]
        exact (Tree.ext3 (by exact h1) rfl h2.1)
  · rw [uintO_tag h1] at h; cases h
theorem bits_inv {t : Tree} (ht : TreeOk t) (h : (bitsO t).2 = 0) : ∃ b, t = bitsT b ∧ bitsO t = (b, 0) ∧ By b := by
  by_cases h1 : t.tag = 3
  · by_cases h2 : t.kids ≠ [] ∨ t.body = [] ∨ t.body.getD 0 0 ≠ 0
    · rw [bitsO_bad h1 h2] at h; cases h
    · simp only [not_or, Classical.not_not] at h2
      obtain ⟨a1, a2, a3⟩ := h2
      refine ⟨t.body.drop 1, ?_, bitsO_ok h1 a1 a2 a3, (By.of ht.byt).drop _⟩
      refine Tree.ext3 h1 ?_ a1
      show t.body = 0 :: t.body.drop 1
      cases hb : t.body with
      | nil => exact absurd hb a2
      | cons x r =>
        rw [hb] at a3
        have : x = 0 := a3
        rw [this]; rfl
  · rw [bitsO_tag h1] at h; cases h

/-- what such a tag's item has -/
theorem lk_built {n : Nat} {t : Tree} (h : lookE n t = 0) (hb : bltT t.tag = true) : t.body = [] := by
  cases n with
  | zero => cases h
  | succ n =>
    rw [← Tree.eta t, lookE_node] at h
    split at h
    · cases h
    · split at h
      · cases h
      · rename_i h2
        exact Classical.not_not.1 (fun h3 => h2 (.inl ⟨hb, h3⟩))
theorem lk_plain {n : Nat} {t : Tree} (h : lookE n t = 0) (hb : bltT t.tag = false) : t.kids = [] := by
  cases n with
  | zero => cases h
  | succ n =>
    rw [← Tree.eta t, lookE_node] at h
    split at h
    · cases h
    · split at h
      · cases h
      · rename_i h2
        exact Classical.not_not.1 (fun h3 => h2 (.inr ⟨hb, h3⟩))
theorem lk_kid {n : Nat} {t c : Tree} (h : lookE (n + 1) t = 0) (hc : c ∈ t.kids) : lookE n c = 0 := by
  rw [← Tree.eta t, lookE_node] at h
  split at h
  · cases h
  · split at h
    · cases h
    · exact lookL_zero.1 h c hc
theorem lk_mono : ∀ {n : Nat} {t : Tree}, lookE n t = 0 → lookE (n + 1) t = 0 := by
  intro n
  induction n with
  | zero => intro t h; cases h
  | succ n ih =>
    intro t h
    have h' := h
    rw [← Tree.eta t, lookE_node] at h
    rw [← Tree.eta t, lookE_node]
    split at h
    · cases h
    · rename_i h1
      split at h
      · cases h
      · rename_i h2
        rw [if_neg h1, if_neg h2]
        exact lookL_zero.2 (fun c hc => ih (lookL_zero.1 h c hc))

/-! ### names -/
theorem e74 (t : Tree) : Fc74 t = thenG (Fc70 (Tree.node t.tag t.body t.kids, 48, 1)) fun y2 => if (0 : Int) ≤ (0 : Int) ∧ (0 : Int) < (y2.length : Int) then
      thenG (Fc70 (Tree.node (kx y2 0).tag (kx y2 0).body (kx y2 0).kids, 49, 1)) fun y4 => if (0 : Int) ≤ (0 : Int) ∧ (0 : Int) < (y4.length : Int) then
        thenG (Fc70 (Tree.node (kx y4 0).tag (kx y4 0).body (kx y4 0).kids, 48, 2)) fun y6 => if (0 : Int) ≤ (0 : Int) ∧ (0 : Int) < (y6.length : Int) then
          (Fc85 [2, 5, 4, 3]).bind fun y8 => thenJ (Fc73 (Tree.node (kx y6 0).tag (kx y6 0).body (kx y6 0).kids, Tree.node y8.tag y8.body y8.kids)) <|
            if (0 : Int) ≤ (1 : Int) ∧ (1 : Int) < (y6.length : Int) then
              thenG (Fc71 ((kx y6 1).tag == 12)) fun _ => if (0 : Int) ≤ (1 : Int) ∧ (1 : Int) < (y6.length : Int) then some (.inr (ofBytes (kx y6 1).body)) else none
            else none
          else none
        else none
      else none := by kernel_rfl

theorem kid1 {l : List Tree} (h : (l.length : Int) = 1) : ∃ a, l = [a] := by
  match l, h with
  | [a], _ => exact ⟨a, rfl⟩
theorem kid2 {l : List Tree} (h : (l.length : Int) = 2) : ∃ a b, l = [a, b] := by
  match l, h with
  | [a, b], _ => exact ⟨a, b, rfl⟩
theorem kid3 {l : List Tree} (h : (l.length : Int) = 3) : ∃ a b c, l = [a, b, c] := by
  match l, h with
  | [a, b, c], _ => exact ⟨a, b, c, rfl⟩
theorem i1 {a : Tree} : (0 : Int) ≤ (0 : Int) ∧ (0 : Int) < (([a] : List Tree).length : Int) := ⟨by omega, by simp⟩
theorem i2 {a b : Tree} : (0 : Int) ≤ (0 : Int) ∧ (0 : Int) < (([a, b] : List Tree).length : Int) := ⟨by omega, by simp⟩
theorem i2' {a b : Tree} : (0 : Int) ≤ (1 : Int) ∧ (1 : Int) < (([a, b] : List Tree).length : Int) := ⟨by omega, by simp⟩

theorem name_total {n : Nat} {t : Tree} (ht : TreeOk t) (hk : lookE (n + 3) t = 0) : Tot (Fc74 t) fun s => t = nameT s := by
  rw [e74, Tree.eta]
  by_cases h1 : t.tag = 48 ∧ (t.kids.length : Int) = 1
  · obtain ⟨x, hx⟩ := kid1 h1.2
    have hxm : x ∈ t.kids := by rw [hx]; simp
    have hkx := lk_kid hk hxm
    have e1 : t = .node 48 [] [x] := Tree.ext3 h1.1 (lk_built hk (by rw [h1.1]; decide)) hx
    rw [thenG_ok (kids70 h1.1 h1.2), hx, if_pos i1, Tree.eta]
    show Tot (thenG (Fc70 (x, 49, 1)) _) _
    by_cases h2 : x.tag = 49 ∧ (x.kids.length : Int) = 1
    · obtain ⟨y, hy⟩ := kid1 h2.2
      have hym : y ∈ x.kids := by rw [hy]; simp
      have hky := lk_kid hkx hym
      have e2 : x = .node 49 [] [y] := Tree.ext3 h2.1 (lk_built hkx (by rw [h2.1]; decide)) hy
      rw [thenG_ok (kids70 h2.1 h2.2), hy, if_pos i1, Tree.eta]
      show Tot (thenG (Fc70 (y, 48, 2)) _) _
      by_cases h3 : y.tag = 48 ∧ (y.kids.length : Int) = 2
      · obtain ⟨p, q, hpq⟩ := kid2 h3.2
        have hpm : p ∈ y.kids := by rw [hpq]; simp
        have hqm : q ∈ y.kids := by rw [hpq]; simp
        have e3 : y = .node 48 [] [p, q] := Tree.ext3 h3.1 (lk_built hky (by rw [h3.1]; decide)) hpq
        have hkq : lookE n q = 0 := lk_kid hky hqm
        have hp : TreeOk p := ((ht.kid hxm).kid hym).kid hpm
        have hq : TreeOk q := ((ht.kid hxm).kid hym).kid hqm
        rw [thenG_ok (kids70 h3.1 h3.2), hpq, if_pos i2, obj85 w64_cn]
        simp only [Option.bind_some, Tree.eta]
        show Tot (thenJ (Fc73 (p, objT [2, 5, 4, 3])) _) _
        by_cases h4 : p = objT [2, 5, 4, 3]
        · rw [h4, thenJ_ok (is73_t (okO _ w64_cn)), if_pos i2']
          show Tot (thenG (Fc71 (q.tag == 12)) _) _
          by_cases h5 : q.tag = 12
          · rw [thenG_ok (show Fc71 (q.tag == 12) = some (.inr ()) from by rw [h5]; rfl), if_pos i2']
            refine Tot.yes ?_
            have eq : q = strT 12 (toBytes (ofBytes q.body)) := by
              rw [toB_ofB (By.of hq.byt)]
              exact Tree.ext3 h5 rfl (lk_plain hkq (by rw [h5]; decide))
            show t = nameT (ofBytes q.body)
            unfold nameT
            rw [e1, e2, e3, h4, ← eq]
          · rw [thenG_no (show Fc71 (q.tag == 12) = some (.inl (131, ())) from by rw [show (q.tag == 12) = false from by simpa using h5]; rfl)]
            exact Tot.no
        · rw [thenJ_no (is73_f hp h4)]
          exact Tot.no
      · rw [thenG_no (kids70_f h3)]
        exact Tot.no
    · rw [thenG_no (kids70_f h2)]
      exact Tot.no
  · rw [thenG_no (kids70_f h1)]
    exact Tot.no

/-! ### small ones -/
theorem body_small {n : Nat} {t : Tree} (hk : lookE n t = 0) (hs : t.enc.length ≤ 65536) : t.body.length ≤ 65536 := by
  cases hb : bltT t.tag with
  | true => rw [lk_built hk hb]; simp
  | false =>
    rw [Tree.enc_eq, hb] at hs
    simp only [Bool.false_eq_true, if_false, List.length_cons, List.length_append] at hs
    omega
theorem kid_small {n : Nat} {t c : Tree} (hk : lookE n t = 0) (hs : t.enc.length ≤ 65536) (hc : c ∈ t.kids) : c.enc.length ≤ 65536 := by
  cases hb : bltT t.tag with
  | false => rw [lk_plain hk hb] at hc; simp at hc
  | true =>
    rw [Tree.enc_eq, hb] at hs
    simp only [if_true, List.length_cons, List.length_append] at hs
    have := encs_mem hc
    omega
theorem eq103 {a b : List Int} (ha : a.length ≤ 9000000000000000) : Fc103 (a, b) = some (decide (a = b)) := eq100 ha
theorem must101 (v : List Int) : Fc101 (v, 0) = some (.inr v) := rfl
theorem must101_f (v : List Int) {e : Int} (h : e ≠ 0) : Fc101 (v, e) = some (.inl (131, ())) := must76_f v h
theorem must104 (v : Bool) : Fc104 (v, 0) = some (.inr v) := rfl
theorem must104_f (v : Bool) {e : Int} (h : e ≠ 0) : Fc104 (v, e) = some (.inl (131, ())) := by
  simp only [Fc104]
  rw [show ((e == 0) = false) from by simpa using h, chkF]
  rfl
theorem chk {b : Bool} (h : b = true) : Fc71 b = some (.inr ()) := by rw [h]; rfl
theorem chkN {b : Bool} (h : b = false) : Fc71 b = some (.inl (131, ())) := by rw [h]; rfl

theorem bool_inv {t : Tree} (h : boolO t = (true, 0)) : t = strT 1 [255] := by
  by_cases h1 : t.tag = 1
  · by_cases h2 : t.kids ≠ [] ∨ t.body.length ≠ 1 ∨ (t.body.getD 0 0 ≠ 0 ∧ t.body.getD 0 0 ≠ 255)
    · rw [boolO_bad h1 h2] at h; cases h
    · simp only [not_or, Classical.not_not, not_and] at h2
      obtain ⟨a1, a2, a3⟩ := h2
      match hb : t.body, a2 with
      | [x], _ =>
        rw [hb] at a3
        have a3 : x ≠ 0 → x = 255 := a3
        have hx : x = 255 := by
          apply a3
          intro h0
          rw [boolO_ok h1 a1 (by rw [hb]; rfl) (by rw [hb, h0]; exact .inl rfl), hb, h0] at h
          cases h
        refine Tree.ext3 h1 ?_ a1
        rw [hb, hx]; rfl
  · rw [boolO_tag h1] at h; cases h
theorem boolO_T : boolO (strT 1 [255]) = (true, 0) := by
  rw [boolO_ok (t := strT 1 [255]) rfl rfl rfl (.inr rfl)]
  rfl

theorem okOf_ext {x : Int} (h0 : 0 ≤ x) (h : x ≤ 4294967295) : okOf [1, 3, 6, 1, 4, 1, 4128, 2100, x] := by
  refine ⟨by simp, by simp, (by show (1 : Int) ≤ 2; decide), (fun _ => by show (3 : Int) < 40; decide), (by show (3 : Int) ≤ 4294967295 - 40 * 1; decide), ?_⟩
  intro y hy
  simp only [List.drop_succ_cons, List.drop_zero, List.mem_cons, List.not_mem_nil, or_false] at hy
  omega
theorem w64_ext' {x : Int} (h0 : 0 ≤ x) (h : x ≤ 4294967295) : W64 [1, 3, 6, 1, 4, 1, 4128, 2100, x] := by
  intro y hy
  simp only [List.mem_cons, List.not_mem_nil, or_false] at hy
  omega
theorem obj_body {l : List Int} (h : okOf l) : (objT l).body.length ≤ 65536 := by
  obtain ⟨h1, h2, h3, h4, h5, h6⟩ := h
  unfold objT
  rw [ofO_ok ⟨h1, h2, h3, h4, h5, h6⟩]
  have a1 := (fig_len (n := (40 * l.getD 0 0 + l.getD 1 0).toNat) (by omega)).2
  have a2 := figs_len (l := l.drop 2) (fun y hy => by have := h6 y hy; omega)
  show (fig (40 * l.getD 0 0 + l.getD 1 0).toNat ++ figs (l.drop 2)).length ≤ _
  rw [List.length_append]
  simp only [List.length_drop] at a2
  omega

/-! ### extensions -/
def exP (e : Ex) : Prop := 1 ≤ e.1 ∧ e.1 ≤ 4294967295 ∧ By e.2.2
theorem e77_2 (bd : List Int) (a b : Tree) : Fc77 (.node 48 bd [a, b]) = (Fc102 (Tree.node a.tag a.body a.kids)).bind fun (y2, y3) => thenG (Fc101 (y2, y3)) fun o =>
      if ((o.length : Int) == 9) = true then
        if (0 : Int) ≤ (8 : Int) ∧ (8 : Int) ≤ (o.length : Int) then
          (Fc103 (o.take 8, [1, 3, 6, 1, 4, 1, 4128, 2100])).bind fun y => if y = true then
            if (0 : Int) ≤ (8 : Int) ∧ (8 : Int) < (o.length : Int) then
              thenG (Fc71 (decide ((o.getD 8 0) ≥ 1))) fun _ => thenG (Fc71 (b.tag == 4)) fun _ =>
                if (0 : Int) ≤ (8 : Int) ∧ (8 : Int) < (o.length : Int) then some (.inr ((IntKind.i64.wrap (o.getD 8 0)), false, b.body)) else none
            else none
          else some (.inl (131, ()))
        else none
      else some (.inl (131, ())) := by kernel_rfl
theorem e77_3 (bd : List Int) (a k b : Tree) : Fc77 (.node 48 bd [a, k, b]) = (Fc102 (Tree.node a.tag a.body a.kids)).bind fun (y2, y3) => thenG (Fc101 (y2, y3)) fun o =>
      if ((o.length : Int) == 9) = true then
        if (0 : Int) ≤ (8 : Int) ∧ (8 : Int) ≤ (o.length : Int) then
          (Fc103 (o.take 8, [1, 3, 6, 1, 4, 1, 4128, 2100])).bind fun y => if y = true then
            if (0 : Int) ≤ (8 : Int) ∧ (8 : Int) < (o.length : Int) then
              thenG (Fc71 (decide ((o.getD 8 0) ≥ 1))) fun _ => (Fc105 (Tree.node k.tag k.body k.kids)).bind fun (y9, y10) => thenG (Fc104 (y9, y10)) fun y12 => thenG (Fc71 y12) fun _ => thenG (Fc71 (b.tag == 4)) fun _ =>
                if (0 : Int) ≤ (8 : Int) ∧ (8 : Int) < (o.length : Int) then some (.inr ((IntKind.i64.wrap (o.getD 8 0)), true, b.body)) else none
            else none
          else some (.inl (131, ()))
        else none
      else some (.inl (131, ())) := by kernel_rfl

theorem ext_no {t : Tree} (h : ¬ (t.tag = 48 ∧ ((t.kids.length : Int) = 2 ∨ (t.kids.length : Int) = 3))) : Fc77 t = some (.inl (131, ())) := by
  simp only [Fc77]
  by_cases h1 : t.tag = 48
  · have h2 : ¬ (t.kids.length : Int) = 2 := fun h2 => h ⟨h1, .inl h2⟩
    have h3 : ¬ (t.kids.length : Int) = 3 := fun h3 => h ⟨h1, .inr h3⟩
    rw [ite_t (by simpa using h1), itf_f (by simpa using h2), chkN (by simpa using h3)]
    rfl
  · rw [ite_f (by simpa using h1), chkF]
    rfl

theorem nine {l : List Int} (h : l.length = 9) (h8 : l.take 8 = [1, 3, 6, 1, 4, 1, 4128, 2100]) : l = [1, 3, 6, 1, 4, 1, 4128, 2100, l.getD 8 0] := by
  match l, h with
  | [a, b, c, d, e, f, g, k, m], _ =>
    simp only [List.take_succ_cons, List.take_zero, List.cons.injEq, and_true] at h8
    obtain ⟨rfl, rfl, rfl, rfl, rfl, rfl, rfl, rfl⟩ := h8
    rfl

/-- the first part: the number -/
theorem oid_part {β : Type} {n : Nat} {a : Tree} (ha : TreeOk a) (hk : lookE n a = 0) (hs : a.enc.length ≤ 65536) {p : β → Prop} {K : List Int → Option ((Int × Unit) ⊕ β)}
    (hK : ∀ x : Int, 1 ≤ x → x ≤ 4294967295 → a = objT [1, 3, 6, 1, 4, 1, 4128, 2100, x] → Tot (K [1, 3, 6, 1, 4, 1, 4128, 2100, x]) p) :
    Tot ((Fc102 a).bind fun (y2, y3) => thenG (Fc101 (y2, y3)) fun o =>
      if ((o.length : Int) == 9) = true then
        if (0 : Int) ≤ (8 : Int) ∧ (8 : Int) ≤ (o.length : Int) then
          (Fc103 (o.take 8, [1, 3, 6, 1, 4, 1, 4128, 2100])).bind fun y => if y = true then
            if (0 : Int) ≤ (8 : Int) ∧ (8 : Int) < (o.length : Int) then thenG (Fc71 (decide ((o.getD 8 0) ≥ 1))) fun _ => K o
            else none
          else some (.inl (131, ()))
        else none
      else some (.inl (131, ()))) p := by
  rw [oid_eq ha (body_small hk hs)]
  simp only [Option.bind_some]
  by_cases h1 : (oidO a).2 = 0
  · obtain ⟨g1, g2, g3, g4⟩ := of_oid ha h1
    rw [h1, thenG_ok (must101 _)]
    generalize (oidO a).1 = l at g1 g2 g3
    have hok : okOf l := by
      apply Classical.byContradiction
      intro hno
      rw [ofO_bad hno] at g1
      cases g1
    have hobj : a = objT l := by unfold objT; rw [g1]
    by_cases h2 : l.length = 9
    · rw [ite_t (by simp [h2]), if_pos ⟨by omega, by omega⟩, eq103 (by simp; omega)]
      simp only [Option.bind_some]
      by_cases h3 : l.take 8 = [1, 3, 6, 1, 4, 1, 4128, 2100]
      · have h9 := nine h2 h3
        have hle : l.getD 8 0 ≤ 4294967295 := by
          refine hok.2.2.2.2.2 _ ?_
          rw [h9]
          simp
        rw [ite_t (decide_eq_true h3), if_pos ⟨by omega, by omega⟩]
        by_cases h4 : l.getD 8 0 ≥ 1
        · rw [thenG_ok (chk (decide_eq_true h4))]
          have := hK _ h4 hle (by rw [← h9]; exact hobj)
          rw [← h9] at this
          exact this
        · rw [thenG_no (chkN (decide_eq_false h4))]
          exact Tot.no
      · rw [ite_f (decide_eq_false h3)]
        exact Tot.no
    · rw [ite_f (by simp; omega)]
      exact Tot.no
  · rw [thenG_no (must101_f _ h1)]
    exact Tot.no

theorem ext_total {n : Nat} {t : Tree} (ht : TreeOk t) (hk : lookE (n + 1) t = 0) (hs : t.enc.length ≤ 65536) : Tot (Fc77 t) fun e => t = extT e ∧ exP e := by
  have last : ∀ {b : Tree}, b ∈ t.kids → b.tag = 4 → b = strT 4 b.body ∧ By b.body := fun {b} hb h => ⟨Tree.ext3 h rfl (lk_plain (lk_kid hk hb) (by rw [h]; decide)), By.of (ht.kid hb).byt⟩
  by_cases h2 : t.tag = 48 ∧ (t.kids.length : Int) = 2
  · obtain ⟨a, b, hab⟩ := kid2 h2.2
    have ham : a ∈ t.kids := by rw [hab]; simp
    have hbm : b ∈ t.kids := by rw [hab]; simp
    have e1 : t = .node 48 [] [a, b] := Tree.ext3 h2.1 (lk_built hk (by rw [h2.1]; decide)) hab
    have : Tot (Fc77 (.node 48 [] [a, b])) fun e => t = extT e ∧ exP e := by
      rw [e77_2, Tree.eta]
      refine oid_part (ht.kid ham) (lk_kid hk ham) (kid_small hk hs ham) (K := fun o => thenG (Fc71 (b.tag == 4)) fun _ => if (0 : Int) ≤ (8 : Int) ∧ (8 : Int) < (o.length : Int) then some (.inr ((IntKind.i64.wrap (o.getD 8 0)), false, b.body)) else none) ?_
      intro x hx1 hx2 hax
      show Tot (thenG (Fc71 (b.tag == 4)) _) _
      by_cases h5 : b.tag = 4
      · obtain ⟨hb1, hb2⟩ := last hbm h5
        rw [thenG_ok (chk (by simpa using h5)), if_pos ⟨by omega, by simp⟩]
        show Tot (some (.inr ((IntKind.i64.wrap x), false, b.body))) _
        rw [wi64 (by omega) (by omega)]
        refine Tot.yes ⟨?_, hx1, hx2, hb2⟩
        show t = Tree.node 48 [] [objT [1, 3, 6, 1, 4, 1, 4128, 2100, x], strT 4 b.body]
        rw [e1, ← hax, ← hb1]
      · rw [thenG_no (chkN (by simpa using h5))]
        exact Tot.no
    rw [← e1] at this
    exact this
  · by_cases h3 : t.tag = 48 ∧ (t.kids.length : Int) = 3
    · obtain ⟨a, k, b, hab⟩ := kid3 h3.2
      have ham : a ∈ t.kids := by rw [hab]; simp
      have hkm : k ∈ t.kids := by rw [hab]; simp
      have hbm : b ∈ t.kids := by rw [hab]; simp
      have e1 : t = .node 48 [] [a, k, b] := Tree.ext3 h3.1 (lk_built hk (by rw [h3.1]; decide)) hab
      have : Tot (Fc77 (.node 48 [] [a, k, b])) fun e => t = extT e ∧ exP e := by
        rw [e77_3, Tree.eta, Tree.eta]
        refine oid_part (ht.kid ham) (lk_kid hk ham) (kid_small hk hs ham) (K := fun o => (Fc105 k).bind fun (y9, y10) => thenG (Fc104 (y9, y10)) fun y12 => thenG (Fc71 y12) fun _ => thenG (Fc71 (b.tag == 4)) fun _ => if (0 : Int) ≤ (8 : Int) ∧ (8 : Int) < (o.length : Int) then some (.inr ((IntKind.i64.wrap (o.getD 8 0)), true, b.body)) else none) ?_
        intro x hx1 hx2 hax
        show Tot ((Fc105 k).bind _) _
        rw [bool_eq (ht.kid hkm)]
        simp only [Option.bind_some]
        by_cases h6 : (boolO k).2 = 0
        · rw [h6, thenG_ok (must104 _)]
          cases h7 : (boolO k).1 with
          | false => rw [thenG_no chkF]; exact Tot.no
          | true =>
            have hkk : k = strT 1 [255] := bool_inv (by rw [← h7, ← h6])
            rw [thenG_ok chkT]
            by_cases h5 : b.tag = 4
            · obtain ⟨hb1, hb2⟩ := last hbm h5
              rw [thenG_ok (chk (by simpa using h5)), if_pos ⟨by omega, by simp⟩]
              show Tot (some (.inr ((IntKind.i64.wrap x), true, b.body))) _
              rw [wi64 (by omega) (by omega)]
              refine Tot.yes ⟨?_, hx1, hx2, hb2⟩
              show t = Tree.node 48 [] [objT [1, 3, 6, 1, 4, 1, 4128, 2100, x], strT 1 [255], strT 4 b.body]
              rw [e1, ← hax, ← hb1, ← hkk]
            · rw [thenG_no (chkN (by simpa using h5))]
              exact Tot.no
        · rw [thenG_no (must104_f _ h6)]
          exact Tot.no
      rw [← e1] at this
      exact this
    · rw [ext_no (fun h => h.2.elim (fun h4 => h2 ⟨h.1, h4⟩) (fun h4 => h3 ⟨h.1, h4⟩))]
      exact Tot.no

theorem ext_back {e : Ex} (h0 : exP e) (hl : e.2.2.length ≤ 140737488351232) : Fc77 (extT e) = some (.inr e) := by
  obtain ⟨x, cr, v⟩ := e
  obtain ⟨h1, h2, h3⟩ := h0
  have h1 : 1 ≤ x := h1
  have h2 : x ≤ 4294967295 := h2
  have hok := okOf_ext (x := x) (by omega) h2
  have hw := w64_ext' (x := x) (by omega) h2
  have ho : Fc102 (objT [1, 3, 6, 1, 4, 1, 4128, 2100, x]) = some ([1, 3, 6, 1, 4, 1, 4128, 2100, x], 0) := by
    rw [oid_eq (okO _ hw) (obj_body hok)]
    have := oid_of hw hok
    unfold objT
    rw [this]
  cases cr with
  | false =>
    have e1 : extT (x, false, v) = .node 48 [] [objT [1, 3, 6, 1, 4, 1, 4128, 2100, x], strT 4 v] := rfl
    rw [e1, e77_2, Tree.eta, ho]
    simp only [Option.bind_some]
    rw [thenG_ok (must101 _), ite_t (by rfl), if_pos ⟨by omega, by simp⟩, eq103 (by simp)]
    simp only [Option.bind_some]
    rw [ite_t (by rfl), if_pos ⟨by omega, by simp⟩, thenG_ok (chk (by show decide (x ≥ 1) = true; exact decide_eq_true h1)), thenG_ok (chk (by rfl)), if_pos ⟨by omega, by simp⟩]
    show some (Sum.inr ((IntKind.i64.wrap x), false, v)) = _
    rw [wi64 (by omega) (by omega)]
  | true =>
    have e1 : extT (x, true, v) = .node 48 [] [objT [1, 3, 6, 1, 4, 1, 4128, 2100, x], strT 1 [255], strT 4 v] := rfl
    rw [e1, e77_3, Tree.eta, ho]
    simp only [Option.bind_some, Tree.eta]
    rw [thenG_ok (must101 _), ite_t (by rfl), if_pos ⟨by omega, by simp⟩, eq103 (by simp)]
    simp only [Option.bind_some]
    rw [ite_t (by rfl), if_pos ⟨by omega, by simp⟩, thenG_ok (chk (by show decide (x ≥ 1) = true; exact decide_eq_true h1)), bool_eq (okStr (by omega) (by intro y hy; simp at hy; omega) (by simp)), boolO_T]
    simp only [Option.bind_some]
    rw [thenG_ok (must104 _), thenG_ok chkT, thenG_ok (chk (by rfl)), if_pos ⟨by omega, by simp⟩]
    show some (Sum.inr ((IntKind.i64.wrap x), true, v)) = _
    rw [wi64 (by omega) (by omega)]

/-! ### the list of extensions -/
theorem s42 (y : List Tree) (l : List Tree) (n : Int) (k : Nat) (u v : Int × ByteArray × ByteArray × Unit × Unit × Unit) (acc : List Ex) (row : List Int) : stepc42_0 (y, l, n, (k : Int), u, v, acc, row) = (if (decide ((k : Int) < n)) = true then
      if (0 : Int) ≤ (k : Int) ∧ (k : Int) < (l.length : Int) then
        (Fc77 (Tree.node (kx l k).tag (kx l k).body (kx l k).kids)).bind fun
          | (.inl (e56, _)) => some (.inr (.inl (e56, ())))
          | (.inr y57) => if okBytes (acc.length + 1) 40 then some (.inl (y, l, n, (IntKind.i64.wrap ((k : Int) + 1)), u, v, acc ++ [y57], row)) else none
      else none
    else some (.inr (.inr (y, u, v, row, acc)))) := by kernel_rfl

def exsP (l : List Ex) : Prop := ∀ e ∈ l, exP e
theorem exts_total {y : List Tree} {l : List Tree} {u v : Int × ByteArray × ByteArray × Unit × Unit × Unit} {row : List Int} {n : Nat} (hl : l.length ≤ 1000000) (ht : ∀ c ∈ l, TreeOk c) (hk : ∀ c ∈ l, lookE (n + 1) c = 0) (hs : ∀ c ∈ l, c.enc.length ≤ 65536) :
    ∀ (j k : Nat) (acc : List Ex), j = l.length - k → k ≤ l.length → acc.length = k → l.take k = acc.map extT → exsP acc →
      loopO stepc42_0 (y, l, (l.length : Int), (k : Int), u, v, acc, row) = some (.inl (131, ())) ∨ ∃ es, l = es.map extT ∧ exsP es ∧ loopO stepc42_0 (y, l, (l.length : Int), (k : Int), u, v, acc, row) = some (.inr (y, u, v, row, es)) := by
  intro j
  induction j with
  | zero =>
    intro k acc hj hk1 ha htk hP
    have e : k = l.length := by omega
    subst e
    rw [loopO_eq, s42, ite_f (decide_eq_false (by omega))]
    rw [List.take_length] at htk
    exact .inr ⟨acc, htk, hP, rfl⟩
  | succ j ih =>
    intro k acc hj hk1 ha htk hP
    have hkl : k < l.length := by omega
    have hm : kx l k ∈ l := by rw [kx_get hkl]; exact List.getElem_mem hkl
    rcases ext_total (ht _ hm) (hk _ hm) (hs _ hm) with h | ⟨e, ⟨he1, he2⟩, h⟩
    · rw [loopO_eq, s42, ite_t (decide_eq_true (by omega)), if_pos ⟨by omega, by omega⟩, Tree.eta, h]
      exact .inl rfl
    · have hstep : loopO stepc42_0 (y, l, (l.length : Int), (k : Int), u, v, acc, row) = loopO stepc42_0 (y, l, (l.length : Int), ((k + 1 : Nat) : Int), u, v, acc ++ [e], row) := by
        rw [loopO_eq, s42, ite_t (decide_eq_true (by omega)), if_pos ⟨by omega, by omega⟩, Tree.eta, h]
        simp only [Option.bind_some]
        rw [if_pos (okB40 (by omega)), wi64 (by omega) (by omega)]
        rfl
      rw [hstep]
      refine ih (k + 1) (acc ++ [e]) (by omega) (by omega) (by simp [ha]) ?_ ?_
      · rw [List.take_succ_eq_append_getElem hkl, htk, List.map_append, ← kx_get hkl, he1]
        rfl
      · intro z hz
        rcases List.mem_append.1 hz with hz | hz
        · exact hP z hz
        · rw [List.mem_singleton] at hz; subst hz; exact he2
theorem exts_back {y : List Tree} {es : List Ex} {u v : Int × ByteArray × ByteArray × Unit × Unit × Unit} {row : List Int} (hl : es.length ≤ 1000000) (hP : ∀ e ∈ es, exP e ∧ e.2.2.length ≤ 140737488351232) :
    loopO stepc42_0 (y, es.map extT, ((es.map extT).length : Int), 0, u, v, [], row) = some (.inr (y, u, v, row, es)) := by
  have h := loopO_run (step := stepc42_0) (fun k => (y, es.map extT, ((es.map extT).length : Int), ((k : Nat) : Int), u, v, es.take k, row)) es.length (.inr (y, u, v, row, es)) ?_ ?_
  · exact h
  · intro k hk
    have hm : ix es k ∈ es := by rw [ix_get hk]; exact List.getElem_mem hk
    have hkx : kx (es.map extT) k = extT (ix es k) := by
      rw [kx_get (by simpa using hk), ix_get hk]
      simp
    have hlt : (es.take k).length ≤ 1000000 := by simp; omega
    rw [s42, ite_t (decide_eq_true (by simp; omega)), if_pos ⟨by omega, by simp; omega⟩, hkx, Tree.eta, ext_back (hP _ hm).1 (hP _ hm).2]
    simp only [Option.bind_some]
    rw [if_pos (okB40 (by omega)), wi64 (by omega) (by omega), List.take_succ_eq_append_getElem hk, ix_get hk]
    rfl
  · rw [s42, ite_f (decide_eq_false (by simp)), List.take_length]
end Go.Abs

/- Chapter 13: cert.read, there and back. -/
set_option linter.unusedVariables false
set_option linter.unusedSimpArgs false
namespace Go.Abs

noncomputable def mid (l0 l1 l2 l3 l4 l5 l6 : Tree) (K : Int → ByteArray → ByteArray → List Int → Option RdT) : Option RdT :=
  thenG (Fc70 (Tree.node l0.tag l0.body l0.kids, 160, 1)) fun y8 => if (0 : Int) ≤ (0 : Int) ∧ (0 : Int) < (y8.length : Int) then
    (Fc52 (Tree.node (kx y8 0).tag (kx y8 0).body (kx y8 0).kids)).bind fun (y9, y10) => thenG (Fc72 (y9, y10)) fun y12 => thenG (Fc71 (y12 == 2)) fun _ =>
      (Fc52 (Tree.node l1.tag l1.body l1.kids)).bind fun (y17, y18) => thenG (Fc72 (y17, y18)) fun y20 => (Fc48 ()).bind fun y24 => thenJ (Fc73 (Tree.node l2.tag l2.body l2.kids, Tree.node y24.tag y24.body y24.kids)) <|
      thenG (Fc74 (Tree.node l3.tag l3.body l3.kids)) fun y29 => (Fc75 ()).bind fun y33 => thenJ (Fc73 (Tree.node l4.tag l4.body l4.kids, Tree.node y33.tag y33.body y33.kids)) <|
      thenG (Fc74 (Tree.node l5.tag l5.body l5.kids)) fun y38 => thenG (Fc70 (Tree.node l6.tag l6.body l6.kids, 48, 2)) fun y43 => if (0 : Int) ≤ (0 : Int) ∧ (0 : Int) < (y43.length : Int) then
        (Fc48 ()).bind fun y44 => thenJ (Fc73 (Tree.node (kx y43 0).tag (kx y43 0).body (kx y43 0).kids, Tree.node y44.tag y44.body y44.kids)) <| if (0 : Int) ≤ (1 : Int) ∧ (1 : Int) < (y43.length : Int) then
          (Fc53 (Tree.node (kx y43 1).tag (kx y43 1).body (kx y43 1).kids)).bind fun (y45, y46) => thenG (Fc76 (y45, y46)) fun y48 => K y20 y29 y38 y48
        else none
      else none
  else none
noncomputable def fin3 (g sb : Tree) (n : Int) (s1 s2 : ByteArray) (key : List Int) (es : List Ex) : Option RdT :=
  (Fc48 ()).bind fun y84 => thenJ (Fc73 (Tree.node g.tag g.body g.kids, Tree.node y84.tag y84.body y84.kids)) <|
    (Fc53 (Tree.node sb.tag sb.body sb.kids)).bind fun (y85, y86) => thenG (Fc76 (y85, y86)) fun y88 => some (.inr ((n, s1, s2, (), (), ()), key, es, y88))

theorem e42_7 (b b' : List Int) (l0 l1 l2 l3 l4 l5 l6 g sb : Tree) : Fc42 (.node 48 b [.node 48 b' [l0, l1, l2, l3, l4, l5, l6], g, sb]) = mid l0 l1 l2 l3 l4 l5 l6 fun n s1 s2 key => fin3 g sb n s1 s2 key [] := by kernel_rfl
theorem e42_8 (b b' : List Int) (l0 l1 l2 l3 l4 l5 l6 l7 g sb : Tree) : Fc42 (.node 48 b [.node 48 b' [l0, l1, l2, l3, l4, l5, l6, l7], g, sb]) = mid l0 l1 l2 l3 l4 l5 l6 fun n s1 s2 key =>
    thenG (Fc70 (Tree.node l7.tag l7.body l7.kids, 163, 1)) fun y53 => if (0 : Int) ≤ (0 : Int) ∧ (0 : Int) < (y53.length : Int) then
      if ((kx y53 0).tag == 48) = true then
        thenG (Fc71 (decide (((kx y53 0).kids.length : Int) > 0))) fun _ =>
          (loopO stepc42_0 ([.node 48 b' [l0, l1, l2, l3, l4, l5, l6, l7], g, sb], (kx y53 0).kids, ((kx y53 0).kids.length : Int), 0, (0, ByteArray.empty, ByteArray.empty, (), (), ()), (n, s1, s2, (), (), ()), [], key)).bind fun
            | (.inl (e59, _)) => some (.inl (e59, ()))
            | (.inr (z60, z61, z62, z63, z64)) => if (0 : Int) ≤ (1 : Int) ∧ (1 : Int) < (z60.length : Int) then
                (Fc48 ()).bind fun y65 => thenJ (Fc73 (Tree.node (kx z60 1).tag (kx z60 1).body (kx z60 1).kids, Tree.node y65.tag y65.body y65.kids)) <| if (0 : Int) ≤ (2 : Int) ∧ (2 : Int) < (z60.length : Int) then
                  (Fc53 (Tree.node (kx z60 2).tag (kx z60 2).body (kx z60 2).kids)).bind fun (y66, y67) => thenG (Fc76 (y66, y67)) fun y69 => some (.inr ((z62.1, z62.2.1, z62.2.2.1, (), (), ()), z63, z64, y69))
                else none
              else none
      else some (.inl (131, ()))
    else none := by kernel_rfl

/-- what reading tells of a certificate -/
structure CeForm (c : Ce) : Prop where
  ser : 0 ≤ c.1 ∧ c.1 < 18446744073709551616
  key : By c.2.2.2.1
  exs : exsP c.2.2.2.2.1
  sig : By c.2.2.2.2.2

theorem mid_total {m : Nat} {l0 l1 l2 l3 l4 l5 l6 : Tree} {K : Int → ByteArray → ByteArray → List Int → Option RdT} {p : (Int × ByteArray × ByteArray × Unit × Unit × Unit) × List Int × List Ex × List Int → Prop}
    (ht : ∀ t ∈ [l0, l1, l2, l3, l4, l5, l6], TreeOk t ∧ lookE (m + 4) t = 0)
    (hK : ∀ n s1 s2 key, 0 ≤ n → n < 18446744073709551616 → By key → (∀ es sg, [l0, l1, l2, l3, l4, l5, l6] = tbs7 (n, s1, s2, key, es, sg)) → Tot (K n s1 s2 key) p) : Tot (mid l0 l1 l2 l3 l4 l5 l6 K) p := by
  obtain ⟨t0, k0⟩ := ht l0 (by simp)
  obtain ⟨t1, k1⟩ := ht l1 (by simp)
  obtain ⟨t2, k2⟩ := ht l2 (by simp)
  obtain ⟨t3, k3⟩ := ht l3 (by simp)
  obtain ⟨t4, k4⟩ := ht l4 (by simp)
  obtain ⟨t5, k5⟩ := ht l5 (by simp)
  obtain ⟨t6, k6⟩ := ht l6 (by simp)
  unfold mid
  simp only [Tree.eta]
  by_cases a0 : l0.tag = 160 ∧ (l0.kids.length : Int) = 1
  rotate_left
  · rw [thenG_no (kids70_f a0)]; exact Tot.no
  obtain ⟨u, hu⟩ := kid1 a0.2
  have hum : u ∈ l0.kids := by rw [hu]; simp
  have e0 : l0 = .node 160 [] [u] := Tree.ext3 a0.1 (lk_built k0 (by rw [a0.1]; decide)) hu
  rw [thenG_ok (kids70 a0.1 a0.2), hu, if_pos i1]
  show Tot ((Fc52 u).bind _) p
  rw [uint_eq (t0.kid hum)]
  simp only [Option.bind_some]
  by_cases b0 : (uintO u).2 = 0
  rotate_left
  · rw [thenG_no (must72_f _ b0)]; exact Tot.no
  obtain ⟨n0, g1, g2, hu2, hu3⟩ := uint_inv (t0.kid hum) b0
  rw [hu3, thenG_ok (must72 _)]
  by_cases c0 : n0 = 2
  rotate_left
  · rw [thenG_no (chkN (by simpa using c0))]; exact Tot.no
  rw [thenG_ok (chk (by simpa using c0)), uint_eq t1]
  simp only [Option.bind_some]
  by_cases b1 : (uintO l1).2 = 0
  rotate_left
  · rw [thenG_no (must72_f _ b1)]; exact Tot.no
  obtain ⟨n, n1, n2, e1, h1⟩ := uint_inv t1 b1
  rw [h1, thenG_ok (must72 _), alg48]
  simp only [Option.bind_some, Tree.eta]
  by_cases a2 : l2 = algT
  rotate_left
  · rw [thenJ_no (is73_f t2 a2)]; exact Tot.no
  rw [a2, thenJ_ok (is73_t okAlg)]
  rcases name_total (n := m + 1) t3 k3 with h | ⟨s1, e3, h⟩
  · rw [thenG_no h]; exact Tot.no
  rw [thenG_ok h, times75]
  simp only [Option.bind_some, Tree.eta]
  by_cases a4 : l4 = timesT
  rotate_left
  · rw [thenJ_no (is73_f t4 a4)]; exact Tot.no
  rw [a4, thenJ_ok (is73_t okTimes)]
  rcases name_total (n := m + 1) t5 k5 with h | ⟨s2, e5, h⟩
  · rw [thenG_no h]; exact Tot.no
  rw [thenG_ok h]
  by_cases a6 : l6.tag = 48 ∧ (l6.kids.length : Int) = 2
  rotate_left
  · rw [thenG_no (kids70_f a6)]; exact Tot.no
  obtain ⟨q1, q2, hq⟩ := kid2 a6.2
  have hq1 : q1 ∈ l6.kids := by rw [hq]; simp
  have hq2 : q2 ∈ l6.kids := by rw [hq]; simp
  have e6 : l6 = .node 48 [] [q1, q2] := Tree.ext3 a6.1 (lk_built k6 (by rw [a6.1]; decide)) hq
  rw [thenG_ok (kids70 a6.1 a6.2), hq, if_pos i2]
  show Tot (thenJ (Fc73 (q1, algT)) _) p
  by_cases aq : q1 = algT
  rotate_left
  · rw [thenJ_no (is73_f (t6.kid hq1) aq)]; exact Tot.no
  rw [aq, thenJ_ok (is73_t okAlg), if_pos i2']
  show Tot ((Fc53 q2).bind _) p
  rw [bits_eq (t6.kid hq2)]
  simp only [Option.bind_some]
  by_cases bq : (bitsO q2).2 = 0
  rotate_left
  · rw [thenG_no (must76_f _ bq)]; exact Tot.no
  obtain ⟨key, ekey, hkey, bkey⟩ := bits_inv (t6.kid hq2) bq
  rw [hkey, thenG_ok (must76 _)]
  refine hK n s1 s2 key n1 n2 bkey (fun es sg => ?_)
  show [l0, l1, l2, l3, l4, l5, l6] = [.node 160 [] [uintT 2], uintT n, algT, nameT s1, timesT, nameT s2, .node 48 [] [algT, bitsT key]]
  rw [e0, hu2, c0, e1, a2, e3, a4, e5, e6, aq, ekey]

theorem fin3_total {g sb : Tree} (hg : TreeOk g) (hs : TreeOk sb) {n : Int} {s1 s2 : ByteArray} {key : List Int} {es : List Ex} {p : (Int × ByteArray × ByteArray × Unit × Unit × Unit) × List Int × List Ex × List Int → Prop}
    (hp : ∀ sg, g = algT → sb = bitsT sg → By sg → p ((n, s1, s2, (), (), ()), key, es, sg)) : Tot (fin3 g sb n s1 s2 key es) p := by
  unfold fin3
  rw [alg48]
  simp only [Option.bind_some, Tree.eta]
  by_cases a2 : g = algT
  rotate_left
  · rw [thenJ_no (is73_f hg a2)]; exact Tot.no
  rw [thenJ_ok (by rw [a2]; exact is73_t okAlg), bits_eq hs]
  simp only [Option.bind_some]
  by_cases bq : (bitsO sb).2 = 0
  rotate_left
  · rw [thenG_no (must76_f _ bq)]; exact Tot.no
  obtain ⟨sg, e, h, b⟩ := bits_inv hs bq
  rw [h, thenG_ok (must76 _)]
  exact Tot.yes (hp sg a2 e b)

theorem kid7 {l : List Tree} (h : (l.length : Int) = 7) : ∃ a0 a1 a2 a3 a4 a5 a6, l = [a0, a1, a2, a3, a4, a5, a6] := by
  match l, h with
  | [a0, a1, a2, a3, a4, a5, a6], _ => exact ⟨a0, a1, a2, a3, a4, a5, a6, rfl⟩
theorem kid8 {l : List Tree} (h : (l.length : Int) = 8) : ∃ a0 a1 a2 a3 a4 a5 a6 a7, l = [a0, a1, a2, a3, a4, a5, a6, a7] := by
  match l, h with
  | [a0, a1, a2, a3, a4, a5, a6, a7], _ => exact ⟨a0, a1, a2, a3, a4, a5, a6, a7, rfl⟩

/-- what a tuple of cert.read is -/
def ceOf (y : (Int × ByteArray × ByteArray × Unit × Unit × Unit) × List Int × List Ex × List Int) : Ce := (y.1.1, y.1.2.1, y.1.2.2.1, y.2.1, y.2.2.1, y.2.2.2)
def tupOf (c : Ce) : (Int × ByteArray × ByteArray × Unit × Unit × Unit) × List Int × List Ex × List Int := ((c.1, c.2.1, c.2.2.1, (), (), ()), c.2.2.2.1, c.2.2.2.2.1, c.2.2.2.2.2)

theorem read_no {i : Tree} (h : ¬ (i.tag = 48 ∧ (i.kids.length : Int) = 3)) : Fc42 i = some (.inl (131, ())) := by
  simp only [Fc42, Tree.eta]
  rw [kids70_f h]
  rfl
theorem read_no2 {b : List Int} {t g sb : Tree} (h : ¬ (t.tag = 48 ∧ ((t.kids.length : Int) = 7 ∨ (t.kids.length : Int) = 8))) : Fc42 (.node 48 b [t, g, sb]) = some (.inl (131, ())) := by
  by_cases h1 : t.tag = 48
  · have h2 : ¬ (t.kids.length : Int) = 7 := fun h2 => h ⟨h1, .inl h2⟩
    have h3 : ¬ (t.kids.length : Int) = 8 := fun h3 => h ⟨h1, .inr h3⟩
    simp only [Fc42]
    rw [kids70 (t := .node (Tree.node 48 b [t, g, sb]).tag (Tree.node 48 b [t, g, sb]).body (Tree.node 48 b [t, g, sb]).kids) (k := 48) (n := 3) rfl rfl]
    simp only [Option.bind_some]
    refine (if_pos (show (0 : Int) ≤ 0 ∧ (0 : Int) < ((([t, g, sb] : List Tree).length : Nat) : Int) from ⟨by omega, by simp⟩)).trans ?_
    refine (ite_t (show (t.tag == 48) = true from by simpa using h1)).trans ?_
    refine (itf_f (show (((t.kids.length : Nat) : Int) == 7) = false from by simpa using h2)).trans ?_
    exact congrArg (Option.bind · _) (chkN (show (((t.kids.length : Nat) : Int) == 8) = false from by simpa using h3))
  · simp only [Fc42]
    rw [kids70 (t := .node (Tree.node 48 b [t, g, sb]).tag (Tree.node 48 b [t, g, sb]).body (Tree.node 48 b [t, g, sb]).kids) (k := 48) (n := 3) rfl rfl]
    simp only [Option.bind_some]
    refine (if_pos (show (0 : Int) ≤ 0 ∧ (0 : Int) < ((([t, g, sb] : List Tree).length : Nat) : Int) from ⟨by omega, by simp⟩)).trans ?_
    refine (ite_f (show (t.tag == 48) = false from by simpa using h1)).trans ?_
    exact congrArg (Option.bind · _) chkF

theorem mid_ok {c : Ce} (h : CeGood c) {K : Int → ByteArray → ByteArray → List Int → Option RdT} :
    mid (.node 160 [] [uintT 2]) (uintT c.1) algT (nameT c.2.1) timesT (nameT c.2.2.1) (.node 48 [] [algT, bitsT c.2.2.2.1]) K = K c.1 c.2.1 c.2.2.1 c.2.2.2.1 := by
  unfold mid
  simp only [Tree.eta]
  rw [thenG_ok (kids70 (k := 160) (n := 1) rfl rfl)]
  show (if (0 : Int) ≤ 0 ∧ (0 : Int) < ((([uintT 2] : List Tree).length : Nat) : Int) then (Fc52 (uintT 2)).bind _ else none) = _
  rw [if_pos i1, uint_eq (okU (by omega) (by omega)), uintO_T (by omega) (by omega)]
  simp only [Option.bind_some]
  rw [thenG_ok (must72 2), thenG_ok (chk (by rfl)), uint_eq (okU h.ser.1 h.ser.2), uintO_T h.ser.1 h.ser.2]
  simp only [Option.bind_some]
  rw [thenG_ok (must72 c.1), alg48]
  simp only [Option.bind_some, Tree.eta]
  rw [thenJ_ok (is73_t okAlg), thenG_ok (nameOf74 h.iss.2.1), times75]
  simp only [Option.bind_some, Tree.eta]
  rw [thenJ_ok (is73_t okTimes), thenG_ok (nameOf74 h.sub.2.1), thenG_ok (kids70 (k := 48) (n := 2) rfl rfl)]
  show (if (0 : Int) ≤ 0 ∧ (0 : Int) < ((([algT, bitsT c.2.2.2.1] : List Tree).length : Nat) : Int) then thenJ (Fc73 (algT, algT)) (if (0 : Int) ≤ 1 ∧ (1 : Int) < ((([algT, bitsT c.2.2.2.1] : List Tree).length : Nat) : Int) then (Fc53 (bitsT c.2.2.2.1)).bind _ else none) else none) = _
  rw [if_pos i2, thenJ_ok (is73_t okAlg), if_pos i2', bits_eq (okB h.key.2 (by have := h.key.1; omega)), bitsO_T]
  simp only [Option.bind_some]
  rw [thenG_ok (must76 _)]
theorem fin3_ok {sg : List Int} (hs : By sg) (hl : sg.length ≤ 100000) {n : Int} {s1 s2 : ByteArray} {key : List Int} {es : List Ex} : fin3 algT (bitsT sg) n s1 s2 key es = some (.inr ((n, s1, s2, (), (), ()), key, es, sg)) := by
  unfold fin3
  rw [alg48]
  simp only [Option.bind_some, Tree.eta]
  rw [thenJ_ok (is73_t okAlg), bits_eq (okB hs hl), bitsO_T]
  simp only [Option.bind_some]
  rw [thenG_ok (must76 _)]

/-- what was written is read -/
theorem read_ok {c : Ce} (h : CeGood c) (hs : By c.2.2.2.2.2) (hl : c.2.2.2.2.2.length ≤ 100000) : Fc42 (certT c) = some (.inr (tupOf c)) := by
  by_cases hx : c.2.2.2.2.1 = []
  · rw [read_nil h hx hs hl]
    unfold tupOf
    rw [hx]
  · have e : certT c = .node 48 [] [.node 48 [] [.node 160 [] [uintT 2], uintT c.1, algT, nameT c.2.1, timesT, nameT c.2.2.1, .node 48 [] [algT, bitsT c.2.2.2.1], .node 163 [] [.node 48 [] (c.2.2.2.2.1.map extT)]], algT, bitsT c.2.2.2.2.2] := by
      unfold certT tbsT tbsK
      rw [if_neg hx]
      rfl
    rw [e, e42_8, mid_ok h]
    rw [thenG_ok (kids70 (k := 163) (n := 1) rfl rfl)]
    have hex : ∀ e ∈ c.2.2.2.2.1, exP e ∧ e.2.2.length ≤ 140737488351232 := fun e he => by
      obtain ⟨a1, a2, a3⟩ := h.exs e he
      exact ⟨⟨a1.1, by have := a1.2; omega, a2⟩, a3⟩
    have hlen : 0 < c.2.2.2.2.1.length := List.length_pos_iff.2 hx
    refine (if_pos (show (0 : Int) ≤ 0 ∧ (0 : Int) < ((([.node 48 [] (c.2.2.2.2.1.map extT)] : List Tree).length : Nat) : Int) from ⟨by omega, by simp⟩)).trans ?_
    refine (ite_t (show ((48 : Int) == 48) = true from rfl)).trans ?_
    refine (thenG_ok (chk (show decide ((((c.2.2.2.2.1.map extT).length : Nat) : Int) > 0) = true from decide_eq_true (by simp; omega)))).trans ?_
    refine (congrArg (Option.bind · _) (exts_back (es := c.2.2.2.2.1) (by have := h.num; omega) hex)).trans ?_
    simp only [Option.bind_some]
    refine (if_pos (show (0 : Int) ≤ 1 ∧ (1 : Int) < ((([_, _, _] : List Tree).length : Nat) : Int) from ⟨by omega, by simp⟩)).trans ?_
    rw [alg48]
    simp only [Option.bind_some, Tree.eta]
    show thenJ (Fc73 (algT, algT)) (if _ then (Fc53 (bitsT c.2.2.2.2.2)).bind _ else none) = _
    rw [thenJ_ok (is73_t okAlg)]
    refine (if_pos (show (0 : Int) ≤ 2 ∧ (2 : Int) < ((([_, _, _] : List Tree).length : Nat) : Int) from ⟨by omega, by simp⟩)).trans ?_
    rw [bits_eq (okB hs hl), bitsO_T]
    simp only [Option.bind_some]
    rw [thenG_ok (must76 _)]
    rfl

/-- whatever is read was written so -/
theorem read_total {m : Nat} {i : Tree} (hi : TreeOk i) (hk : lookE (m + 8) i = 0) (hs : i.enc.length ≤ 65536) : Tot (Fc42 i) fun y => i = certT (ceOf y) ∧ CeForm (ceOf y) := by
  by_cases h1 : i.tag = 48 ∧ (i.kids.length : Int) = 3
  rotate_left
  · rw [read_no h1]; exact Tot.no
  obtain ⟨t, g, sb, hkids⟩ := kid3 h1.2
  have htm : t ∈ i.kids := by rw [hkids]; simp
  have hgm : g ∈ i.kids := by rw [hkids]; simp
  have hsm : sb ∈ i.kids := by rw [hkids]; simp
  have ei : i = .node 48 [] [t, g, sb] := Tree.ext3 h1.1 (lk_built hk (by rw [h1.1]; decide)) hkids
  have tg := hi.kid hgm
  have ts := hi.kid hsm
  have tt := hi.kid htm
  have kt := lk_kid hk htm
  have st := kid_small hk hs htm
  by_cases h2 : t.tag = 48 ∧ ((t.kids.length : Int) = 7 ∨ (t.kids.length : Int) = 8)
  rotate_left
  · rw [ei, read_no2 h2]; exact Tot.no
  have hb : t.body = [] := lk_built kt (by rw [h2.1]; decide)
  rcases h2.2 with h7 | h8
  · obtain ⟨a0, a1, a2, a3, a4, a5, a6, hl⟩ := kid7 h7
    have et : t = .node 48 [] [a0, a1, a2, a3, a4, a5, a6] := Tree.ext3 h2.1 hb hl
    have hall : ∀ c ∈ [a0, a1, a2, a3, a4, a5, a6], TreeOk c ∧ lookE (m + 2 + 4) c = 0 := fun c hc => by
      have hc' : c ∈ t.kids := by rw [hl]; exact hc
      exact ⟨tt.kid hc', lk_kid kt hc'⟩
    have key : Tot (Fc42 (.node 48 [] [.node 48 [] [a0, a1, a2, a3, a4, a5, a6], g, sb])) fun y => i = certT (ceOf y) ∧ CeForm (ceOf y) := by
      rw [e42_7]
      refine mid_total hall (fun n s1 s2 key n1 n2 bk h7 => fin3_total tg ts (fun sg eg es bs => ⟨?_, ⟨⟨n1, n2⟩, bk, fun e he => by simp [ceOf] at he, bs⟩⟩))
      show i = certT (n, s1, s2, key, [], sg)
      have hx := h7 [] sg
      unfold certT tbsT tbsK
      rw [if_pos rfl, ei, et, eg, es, hx]
    rw [← et, ← ei] at key
    exact key
  · obtain ⟨a0, a1, a2, a3, a4, a5, a6, a7, hl⟩ := kid8 h8
    have et : t = .node 48 [] [a0, a1, a2, a3, a4, a5, a6, a7] := Tree.ext3 h2.1 hb hl
    have hall : ∀ c ∈ [a0, a1, a2, a3, a4, a5, a6], TreeOk c ∧ lookE (m + 2 + 4) c = 0 := fun c hc => by
      have hc' : c ∈ t.kids := by
        rw [hl]
        simp only [List.mem_cons, List.not_mem_nil, or_false] at hc ⊢
        rcases hc with h | h | h | h | h | h | h <;> simp [h]
      exact ⟨tt.kid hc', lk_kid kt hc'⟩
    have h7m : a7 ∈ t.kids := by rw [hl]; simp
    have t7 := tt.kid h7m
    have k7 := lk_kid kt h7m
    have s7 := kid_small kt st h7m
    have key : Tot (Fc42 (.node 48 [] [.node 48 [] [a0, a1, a2, a3, a4, a5, a6, a7], g, sb])) fun y => i = certT (ceOf y) ∧ CeForm (ceOf y) := by
      rw [e42_8]
      refine mid_total hall (fun n s1 s2 key n1 n2 bk h7 => ?_)
      show Tot (thenG (Fc70 (Tree.node a7.tag a7.body a7.kids, 163, 1)) _) _
      rw [Tree.eta]
      by_cases b7 : a7.tag = 163 ∧ (a7.kids.length : Int) = 1
      rotate_left
      · rw [thenG_no (kids70_f b7)]; exact Tot.no
      obtain ⟨x, hx⟩ := kid1 b7.2
      have hxm : x ∈ a7.kids := by rw [hx]; simp
      have e7 : a7 = .node 163 [] [x] := Tree.ext3 b7.1 (lk_built k7 (by rw [b7.1]; decide)) hx
      have tx := t7.kid hxm
      have kx' := lk_kid k7 hxm
      have sx := kid_small k7 s7 hxm
      rw [thenG_ok (kids70 b7.1 b7.2), hx, if_pos i1]
      show Tot (if (x.tag == 48) = true then thenG (Fc71 (decide ((x.kids.length : Int) > 0))) _ else _) _
      by_cases b8 : x.tag = 48
      rotate_left
      · rw [ite_f (by simpa using b8)]; exact Tot.no
      rw [ite_t (by simpa using b8)]
      by_cases b9 : (x.kids.length : Int) > 0
      rotate_left
      · rw [thenG_no (chkN (decide_eq_false b9))]; exact Tot.no
      rw [thenG_ok (chk (decide_eq_true b9))]
      have ex' : x = .node 48 [] x.kids := Tree.ext3 b8 (lk_built kx' (by rw [b8]; decide)) rfl
      have hxl : x.kids.length ≤ 1000000 := by
        have hz : x.kids.length ≤ (Tree.encs x.kids).length := by
          have : ∀ l : List Tree, l.length ≤ (Tree.encs l).length := by
            intro l
            induction l with
            | nil => simp
            | cons a l ih =>
              have := List.length_pos_iff.2 (enc_pos a)
              simp only [List.length_cons, Tree.encs, List.length_append]
              omega
          exact this _
        rw [Tree.enc_eq, b8] at sx
        simp only [show bltT 48 = true from by decide, if_true, List.length_cons, List.length_append] at sx
        omega
      rcases exts_total (y := [.node 48 [] [a0, a1, a2, a3, a4, a5, a6, a7], g, sb]) (u := (0, ByteArray.empty, ByteArray.empty, (), (), ())) (v := (n, s1, s2, (), (), ())) (row := key) (n := m + 3) hxl (fun c hc => tx.kid hc) (fun c hc => lk_kid kx' hc) (fun c hc => kid_small kx' sx hc) x.kids.length 0 [] rfl (Nat.zero_le _) rfl (by simp) (fun e he => by simp at he) with h | ⟨es, hes, hP, h⟩
      · have h' : loopO stepc42_0 ([.node 48 [] [a0, a1, a2, a3, a4, a5, a6, a7], g, sb], (kx [x] 0).kids, ((kx [x] 0).kids.length : Int), 0, (0, ByteArray.empty, ByteArray.empty, (), (), ()), (n, s1, s2, (), (), ()), [], key) = some (.inl (131, ())) := h
        rw [h']
        exact Tot.no
      · have h' : loopO stepc42_0 ([.node 48 [] [a0, a1, a2, a3, a4, a5, a6, a7], g, sb], (kx [x] 0).kids, ((kx [x] 0).kids.length : Int), 0, (0, ByteArray.empty, ByteArray.empty, (), (), ()), (n, s1, s2, (), (), ()), [], key) = some (.inr ([.node 48 [] [a0, a1, a2, a3, a4, a5, a6, a7], g, sb], (0, ByteArray.empty, ByteArray.empty, (), (), ()), (n, s1, s2, (), (), ()), key, es)) := h
        rw [h']
        simp only [Option.bind_some]
        have c1 : (0 : Int) ≤ 1 ∧ (1 : Int) < ((([.node 48 [] [a0, a1, a2, a3, a4, a5, a6, a7], g, sb] : List Tree).length : Nat) : Int) := ⟨by omega, by simp⟩
        have c2 : (0 : Int) ≤ 2 ∧ (2 : Int) < ((([.node 48 [] [a0, a1, a2, a3, a4, a5, a6, a7], g, sb] : List Tree).length : Nat) : Int) := ⟨by omega, by simp⟩
        rw [if_pos c1, if_pos c2]
        refine fin3_total (n := n) (s1 := s1) (s2 := s2) (key := key) (es := es) tg ts (fun sg eg esb bs => ⟨?_, ⟨⟨n1, n2⟩, bk, hP, bs⟩⟩)
        show i = certT (n, s1, s2, key, es, sg)
        have hne : es ≠ [] := fun h => by rw [hes, h] at b9; simp at b9
        have h77 := h7 es sg
        have h88 : [a0, a1, a2, a3, a4, a5, a6, a7] = tbs7 (n, s1, s2, key, es, sg) ++ [a7] := by rw [← h77]; rfl
        unfold certT tbsT tbsK
        rw [if_neg hne, ei, et, eg, esb, h88, e7, ex', hes]
    rw [← et, ← ei] at key
    exact key
end Go.Abs

/- Chapter 13: a certificate is read as what it was. -/
set_option linter.unusedVariables false
set_option linter.unusedSimpArgs false
namespace Go.Abs

theorem e8b (b : List Int) : Fc8b b = (Fc41 b).bind fun (y1, y2) =>
      if (y2 != 0) = true then some ((0, ByteArray.empty, ByteArray.empty, [], [], ()), [], y2, [])
      else (Fc42 (Tree.node y1.tag y1.body y1.kids)).bind fun
        | .inl (e3, _) => some ((0, ByteArray.empty, ByteArray.empty, [], [], ()), [], e3, [])
        | .inr (y4, y5, y6, y7) =>
          (Fc43 (y4.1, (y4.2.1, (y4.2.2.1, (y5, (y6, y7)))))).bind fun y8 =>
            if (y8 == 134) = false then
              if ((y7.length : Int) != 3373) = true then some ((0, ByteArray.empty, ByteArray.empty, [], [], ()), [], 134, [])
              else
                if (y8 != 0) = true then some ((0, ByteArray.empty, ByteArray.empty, [], [], ()), [], y8, [])
                else
                  if (0 : Int) ≤ (0 : Int) ∧ (0 : Int) < (y1.kids.length : Int) then
                    (Fc45 (Tree.node (y1.kids.getD 0 (DT.dflt .item)).tag (y1.kids.getD 0 (DT.dflt .item)).body (y1.kids.getD 0 (DT.dflt .item)).kids)).bind fun (y11, y12) => some ((y4.1, y4.2.1, y4.2.2.1, y5, y6, ()), y11, 0, y7)
                  else none
            else some ((0, ByteArray.empty, ByteArray.empty, [], [], ()), [], 134, []) := by
  unfold Fc8b FMc8b
  dsimp only
  cases Fc41 b with
  | none => rfl
  | some p =>
    obtain ⟨y1, y2⟩ := p
    simp only [Option.bind_some]
    split
    · rfl
    · cases Fc42 (Tree.node y1.tag y1.body y1.kids) with
      | none => rfl
      | some q =>
        rcases q with ⟨e3, _⟩ | ⟨y4, y5, y6, y7⟩
        · rfl
        · simp only [Option.bind_some]
          cases Fc43 (y4.1, (y4.2.1, (y4.2.2.1, (y5, (y6, y7))))) with
          | none => rfl
          | some y8 =>
            simp only [Option.bind_some]
            split
            · split
              · rfl
              · split
                · rfl
                · split
                  · cases Fc45 (Tree.node (y1.kids.getD 0 (DT.dflt .item)).tag (y1.kids.getD 0 (DT.dflt .item)).body (y1.kids.getD 0 (DT.dflt .item)).kids) with
                    | none => rfl
                    | some r => rfl
                  · rfl
            · rfl

/-- behind the reading -/
theorem e8c {b : List Int} {t : Tree} {c : Ce} (h1 : Fc41 b = some (t, 0)) (h2 : Fc42 t = some (.inr (tupOf c))) {v : Int} (h3 : Fc43 c = some v) : Fc8b b =
      if (v == 134) = false then
        if ((c.2.2.2.2.2.length : Int) != 3373) = true then some ((0, ByteArray.empty, ByteArray.empty, [], [], ()), [], 134, [])
        else
          if (v != 0) = true then some ((0, ByteArray.empty, ByteArray.empty, [], [], ()), [], v, [])
          else
            if (0 : Int) ≤ (0 : Int) ∧ (0 : Int) < (t.kids.length : Int) then
              (Fc45 (kx t.kids 0)).bind fun (y11, y12) => some ((c.1, c.2.1, c.2.2.1, c.2.2.2.1, c.2.2.2.2.1, ()), y11, 0, c.2.2.2.2.2)
            else none
      else some ((0, ByteArray.empty, ByteArray.empty, [], [], ()), [], 134, []) := by
  rw [e8b, h1]
  simp only [Option.bind_some]
  rw [ite_f (by rfl), Tree.eta, h2]
  simp only [Option.bind_some, tupOf]
  have h3' : Fc43 (c.1, (c.2.1, (c.2.2.1, (c.2.2.2.1, (c.2.2.2.2.1, c.2.2.2.2.2))))) = some v := h3
  rw [h3']
  simp only [Option.bind_some, Tree.eta]
  rfl

theorem sub_ok {n : Nat} {t c : Tree} (hk : lookE (n + 1) t = 0) (hs : t.enc.length ≤ 65536) (hc : c ∈ t.kids) : lookE n c = 0 ∧ c.enc.length ≤ 65536 := ⟨lk_kid hk hc, kid_small hk hs hc⟩

theorem str_size {n : Nat} {s : ByteArray} (hk : lookE (n + 4) (nameT s) = 0) (hs : (nameT s).enc.length ≤ 65536) : s.size ≤ 65536 := by
  obtain ⟨k1, s1⟩ := sub_ok (c := .node 49 [] [.node 48 [] [objT [2, 5, 4, 3], strT 12 (toBytes s)]]) hk hs (by simp [nameT, Tree.kids])
  obtain ⟨k2, s2⟩ := sub_ok (c := .node 48 [] [objT [2, 5, 4, 3], strT 12 (toBytes s)]) k1 s1 (by simp [Tree.kids])
  obtain ⟨k3, s3⟩ := sub_ok (c := strT 12 (toBytes s)) k2 s2 (by simp [Tree.kids])
  have := body_small k3 s3
  have e : (strT 12 (toBytes s)).body = toBytes s := rfl
  rw [e, toBytes_len] at this
  exact this
theorem bits_size {n : Nat} {b : List Int} (hk : lookE n (bitsT b) = 0) (hs : (bitsT b).enc.length ≤ 65536) : b.length ≤ 65536 := by
  have := body_small hk hs
  have e : (bitsT b).body = 0 :: b := rfl
  rw [e, List.length_cons] at this
  omega

theorem form_ok {c : Ce} (hf : CeForm c) (hk : lookE 16 (certT c) = 0) (hs : (certT c).enc.length ≤ 65536) : CeOk c := by
  obtain ⟨k1, s1⟩ := sub_ok (n := 15) (c := tbsT c) hk hs (by simp [certT, Tree.kids])
  obtain ⟨k2, s2⟩ := sub_ok (n := 15) (c := bitsT c.2.2.2.2.2) hk hs (by simp [certT, Tree.kids])
  have hmem : ∀ t ∈ tbs7 c, t ∈ (tbsT c).kids := by
    intro t ht
    show t ∈ tbsK c
    unfold tbsK
    split
    · exact ht
    · exact List.mem_append_left _ ht
  obtain ⟨k3, s3⟩ := sub_ok (n := 14) (c := nameT c.2.1) k1 s1 (hmem _ (by simp [tbs7]))
  obtain ⟨k4, s4⟩ := sub_ok (n := 14) (c := nameT c.2.2.1) k1 s1 (hmem _ (by simp [tbs7]))
  obtain ⟨k5, s5⟩ := sub_ok (n := 14) (c := .node 48 [] [algT, bitsT c.2.2.2.1]) k1 s1 (hmem _ (by simp [tbs7]))
  obtain ⟨k6, s6⟩ := sub_ok (n := 13) (c := bitsT c.2.2.2.1) k5 s5 (by simp [Tree.kids])
  have z1 := str_size (n := 10) k3 s3
  have z2 := str_size (n := 10) k4 s4
  have z3 := bits_size k6 s6
  have z4 := bits_size k2 s2
  have hex : c.2.2.2.2.1.length ≤ 65536 ∧ ∀ e ∈ c.2.2.2.2.1, e.2.2.length ≤ 65536 := by
    by_cases hx : c.2.2.2.2.1 = []
    · rw [hx]; exact ⟨by simp, fun e he => by simp at he⟩
    · have hm : Tree.node 163 [] [.node 48 [] (c.2.2.2.2.1.map extT)] ∈ (tbsT c).kids := by
        show _ ∈ tbsK c
        unfold tbsK
        rw [if_neg hx]
        exact List.mem_append_right _ (by simp)
      obtain ⟨k7, s7⟩ := sub_ok (n := 14) k1 s1 hm
      obtain ⟨k8, s8⟩ := sub_ok (n := 13) (c := .node 48 [] (c.2.2.2.2.1.map extT)) k7 s7 (by simp [Tree.kids])
      refine ⟨?_, fun e he => ?_⟩
      · have hz : (c.2.2.2.2.1.map extT).length ≤ (Tree.encs (c.2.2.2.2.1.map extT)).length := by
          have : ∀ l : List Tree, l.length ≤ (Tree.encs l).length := by
            intro l
            induction l with
            | nil => simp
            | cons a l ih =>
              have := List.length_pos_iff.2 (enc_pos a)
              simp only [List.length_cons, Tree.encs, List.length_append]
              omega
          exact this _
        rw [Tree.enc_eq] at s8
        simp only [show bltT (Tree.node 48 [] (c.2.2.2.2.1.map extT)).tag = true from by show bltT 48 = true; decide, if_true, List.length_cons, List.length_append] at s8
        have e : (Tree.node 48 [] (c.2.2.2.2.1.map extT)).kids = c.2.2.2.2.1.map extT := rfl
        rw [e] at s8
        simp only [List.length_map] at hz
        omega
      · obtain ⟨k9, s9⟩ := sub_ok (n := 12) (c := extT e) k8 s8 (List.mem_map.2 ⟨e, he, rfl⟩)
        have hl : strT 4 e.2.2 ∈ (extT e).kids := by
          show _ ∈ extK e
          unfold extK
          split <;> simp
        obtain ⟨k10, s10⟩ := sub_ok (n := 11) k9 s9 hl
        exact body_small k10 s10
  exact ⟨hf.ser, by omega, by omega, ⟨by omega, hf.key⟩, by omega, fun e he => ⟨(hf.exs e he).2.2, by have := hex.2 e he; omega⟩, ⟨by omega, hf.sig⟩⟩

theorem tbs_enc {c : Ce} (hk : lookE 16 (certT c) = 0) (hs : (certT c).enc.length ≤ 65536) : encO (tbsT c) = ((tbsT c).enc, 0) := by
  obtain ⟨k1, s1⟩ := sub_ok (n := 15) (c := tbsT c) hk hs (by simp [certT, Tree.kids])
  unfold encO
  rw [if_pos (lk_mono k1), if_pos s1]

theorem sign15g {c : Ce} (h1 : c.2.1.size ≤ 9000000000000000) (h2 : c.2.2.1.size ≤ 9000000000000000) (hg : CeGood c) (h0 : valO c = 0) : Fc15 c = some (encO (tbsT c)) := by
  have e : Fc15 c = (Fc43 c).bind fun y1 => if (y1 != 0) = true then some ([], y1) else (Fc46 c).bind fun y2 => (Fc45 (Tree.node y2.tag y2.body y2.kids)).bind fun (y3, y4) => some (y3, y4) := rfl
  rw [e, val43 h1 h2]
  simp only [Option.bind_some]
  rw [ite_f (by simpa using h0), tbs46 hg.tbs]
  simp only [Option.bind_some, Tree.eta]
  rw [encode_eq (okTbs hg)]
  rfl

theorem parse_ok {c : Ce} (hc : CeOk c) (h0 : errB c = 0) (he : (bytesO c).2 = 0) : Fc8b (bytesO c).1 = some ((c.1, c.2.1, c.2.2.1, c.2.2.2.1, c.2.2.2.2.1, ()), (encO (tbsT c)).1, 0, c.2.2.2.2.2) := by
  obtain ⟨h1, h2⟩ := errB_zero h0
  have hg := hc.good h2
  have hk := okCert hg hc.sig.2 (by omega)
  rw [bytesO_0 h0] at he ⊢
  obtain ⟨d1, d2, d3, d4⟩ := decB_encO he
  have h43 : Fc43 c = some 0 := by rw [val43 (size9 hc.iss) (size9 hc.sub), h2]
  rw [e8c (t := certT c) (c := c) (v := 0) (by rw [decode_eq (encO_by hk he), d1]) (read_ok hg hc.sig.2 (by omega)) h43]
  rw [itf_f (by decide), ite_f (by simp [h1]), ite_f (by decide)]
  have hlen : (certT c).kids.length = 3 := rfl
  rw [if_pos ⟨by omega, by rw [hlen]; decide⟩]
  have hget : kx (certT c).kids 0 = tbsT c := rfl
  rw [hget, encode_eq (okTbs hg)]
  rfl

theorem parse_total {b : List Int} (hb : By b) : ∃ d s f sg, Fc8b b = some (d, s, f, sg) ∧ (f = 0 → ∃ c, CeOk c ∧ errB c = 0 ∧ bytesO c = (b, 0) ∧ d = (c.1, c.2.1, c.2.2.1, c.2.2.2.1, c.2.2.2.2.1, ()) ∧ sg = c.2.2.2.2.2) := by
  by_cases hd : (decB b).2 = 0
  · obtain ⟨g1, g2⟩ := encO_decB hb hd
    have hdec : Fc41 b = some ((decB b).1, 0) := by rw [decode_eq hb, ← hd]
    generalize (decB b).1 = t at g1 g2 hdec
    have hz : (encO t).2 = 0 := by rw [g1]
    obtain ⟨_, d2, d3, d4⟩ := decB_encO hz
    rcases read_total (m := 8) g2 d4 d3 with h | ⟨y, ⟨hy1, hy2⟩, h⟩
    · refine ⟨(0, ByteArray.empty, ByteArray.empty, [], [], ()), [], 131, [], ?_, fun h => absurd h (by decide)⟩
      rw [e8b, hdec]
      simp only [Option.bind_some]
      rw [ite_f (by rfl), Tree.eta, h]
      rfl
    · have hc := form_ok hy2 (by rw [← hy1]; exact d4) (by rw [← hy1]; exact d3)
      have h' : Fc42 t = some (.inr (tupOf (ceOf y))) := h
      generalize ceOf y = c at hy1 hy2 hc h'
      have h43 := val43 (c := c) (size9 hc.iss) (size9 hc.sub)
      rw [e8c hdec h' h43]
      by_cases v1 : valO c = 134
      · rw [itf_t (by simpa using v1)]
        exact ⟨_, _, _, _, rfl, fun h => absurd h (by decide)⟩
      · rw [itf_f (by simpa using v1)]
        by_cases v2 : c.2.2.2.2.2.length = 3373
        · rw [ite_f (by simp [v2])]
          by_cases v3 : valO c = 0
          · have hE : errB c = 0 := by rw [errB_val v2, v3]
            have hg := hc.good v3
            have hlen : t.kids.length = 3 := by rw [hy1]; rfl
            have hget : kx t.kids 0 = tbsT c := by rw [hy1]; rfl
            rw [ite_f (by simpa using v3), if_pos ⟨by omega, by rw [hlen]; decide⟩, hget, encode_eq (okTbs hg)]
            refine ⟨_, _, _, _, rfl, fun _ => ⟨c, hc, hE, ?_, rfl, rfl⟩⟩
            rw [bytesO_0 hE, ← hy1, g1]
          · rw [ite_t (by simpa using v3)]
            exact ⟨_, _, _, _, rfl, fun h => absurd h v3⟩
        · rw [ite_t (by simp; omega)]
          exact ⟨_, _, _, _, rfl, fun h => absurd h (by decide)⟩
  · refine ⟨(0, ByteArray.empty, ByteArray.empty, [], [], ()), [], (decB b).2, [], ?_, fun h => absurd h hd⟩
    rw [e8b, decode_eq hb]
    simp only [Option.bind_some]
    rw [ite_t (by simpa using hd)]

theorem back {w : Wh} {b : List Int} (h : WhOk w) (hb : By b) (hl : b.length ≤ 9000000000000000) (ha : Fc12 () = some true) : Fc5 (w, b) = some true := by
  have hc := h.ce
  have e : Fc5 (w, b) = (Fc13 w).bind fun y1 => (Fc16 y1).bind fun (y2, y3) =>
      if (y3 == 0) = true then
        (Fc8b y2).bind fun (y4, y5, y6, y7) => (Fc15 y1).bind fun (y8, y9) => (Fc9 ((y4.1, y4.2.1, y4.2.2.1, y4.2.2.2.1, y4.2.2.2.2.1, y7), y1)).bind fun y10 => (Fc10 (y5, y8)).bind fun y11 =>
          if (y6 != 0) = false then if (y9 != 0) = false then if (!y10) = false then if (!y11) = true then some false else
            if (0 : Int) ≤ (0 : Int) ∧ (0 : Int) < (y7.length : Int) then if (0 : Int) ≤ (0 : Int) ∧ (0 : Int) < (y7.length : Int) then
              (Fc15 (y4.1, y4.2.1, y4.2.2.1, y4.2.2.2.1, y4.2.2.2.2.1, (y7.set 0 (bitsXor .u8 (y7.getD 0 0) 1)))).bind fun (y12, y13) => (Fc10 (y12, y8)).bind fun y14 =>
                if (y13 != 0) = false then if (!y14) = true then some false else
                  (Fc8b b).bind fun (y15, y16, y17, y18) => if (y17 != 0) = true then (Fc12 ()).bind fun y19 => some y19 else
                    (Fc16 (y15.1, y15.2.1, y15.2.2.1, y15.2.2.2.1, y15.2.2.2.2.1, y18)).bind fun (y20, y21) => (Fc12 ()).bind fun y22 => if y22 = true then if (y21 == 0) = true then (Fc10 (y20, b)).bind fun y23 => some y23 else some false else some false
                else some false
            else none else none
          else some false else some false else some false
      else
        (Fc8b b).bind fun (y15, y16, y17, y18) => if (y17 != 0) = true then (Fc12 ()).bind fun y19 => some y19 else
          (Fc16 (y15.1, y15.2.1, y15.2.2.1, y15.2.2.2.1, y15.2.2.2.2.1, y18)).bind fun (y20, y21) => (Fc12 ()).bind fun y22 => if y22 = true then if (y21 == 0) = true then (Fc10 (y20, b)).bind fun y23 => some y23 else some false else some false := by kernel_rfl
  -- the second half
  have half : ((Fc8b b).bind fun (y15, y16, y17, y18) => if (y17 != 0) = true then (Fc12 ()).bind fun y19 => some y19 else
          (Fc16 (y15.1, y15.2.1, y15.2.2.1, y15.2.2.2.1, y15.2.2.2.2.1, y18)).bind fun (y20, y21) => (Fc12 ()).bind fun y22 => if y22 = true then if (y21 == 0) = true then (Fc10 (y20, b)).bind fun y23 => some y23 else some false else some false) = some true := by
    obtain ⟨d, s, f, sg, h1, h2⟩ := parse_total hb
    rw [h1]
    simp only [Option.bind_some]
    by_cases hf : f = 0
    · obtain ⟨c, k1, k2, k3, rfl, rfl⟩ := h2 hf
      rw [ite_f (by simpa using hf)]
      have e16 : Fc16 (c.1, c.2.1, c.2.2.1, c.2.2.2.1, c.2.2.2.2.1, c.2.2.2.2.2) = some (b, 0) := by
        have := bytes16 k1
        rw [k3] at this
        exact this
      refine (congrArg (Option.bind · _) e16).trans ?_
      simp only [Option.bind_some]
      rw [ha]
      simp only [Option.bind_some]
      rw [same_eq hl]
      simp
    · rw [ite_t (by simpa using hf), ha]
      rfl
  rw [e, cert13]
  simp only [Option.bind_some]
  rw [bytes16 hc]
  simp only [Option.bind_some]
  generalize whC w = c at hc ⊢
  by_cases he : (bytesO c).2 = 0
  · rw [ite_t (by simpa using he)]
    have h0 : errB c = 0 := by
      apply Classical.byContradiction
      intro hne
      rw [bytesO_1 hne] at he
      exact hne he
    obtain ⟨z1, z2⟩ := errB_zero h0
    have hg := hc.good z2
    have hp := parse_ok hc h0 he
    have he' := he
    rw [bytesO_0 h0] at he'
    obtain ⟨d1, d2, d3, d4⟩ := decB_encO he'
    have ht := tbs_enc d4 d3
    have hs := sign15g (size9 hc.iss) (size9 hc.sub) hg z2
    have htl : (tbsT c).enc.length ≤ 9000000000000000 := by
      have := (sub_ok (n := 15) (c := tbsT c) d4 d3 (by simp [certT, Tree.kids])).2
      omega
    rw [ht] at hs hp
    rw [hp, hs]
    simp only [Option.bind_some]
    have h9 : Fc9 ((c.1, c.2.1, c.2.2.1, c.2.2.2.1, c.2.2.2.2.1, c.2.2.2.2.2), c) = some true := same9 (c := c) (by have := hc.num; omega)
    refine (congrArg (Option.bind · _) h9).trans ?_
    simp only [Option.bind_some]
    rw [same_eq htl]
    simp only [Option.bind_some]
    rw [itf_f (by rfl), itf_f (by rfl), itf_f (by rfl), ite_f (by simp), if_pos ⟨by omega, by omega⟩, if_pos ⟨by omega, by omega⟩]
    have hs2 : Fc15 (c.1, c.2.1, c.2.2.1, c.2.2.2.1, c.2.2.2.2.1, (c.2.2.2.2.2.set 0 (bitsXor .u8 (c.2.2.2.2.2.getD 0 0) 1))) = some ((tbsT c).enc, 0) := by
      have := sign15g (c := (c.1, c.2.1, c.2.2.1, c.2.2.2.1, c.2.2.2.2.1, (c.2.2.2.2.2.set 0 (bitsXor .u8 (c.2.2.2.2.2.getD 0 0) 1)))) (size9 hc.iss) (size9 hc.sub) ⟨hg.ser, hg.iss, hg.sub, hg.key, hg.num, hg.exs, hg.dup, hg.cri⟩ z2
      rw [this]
      exact congrArg some ht
    rw [hs2]
    simp only [Option.bind_some]
    rw [same_eq htl]
    simp only [Option.bind_some]
    rw [itf_f (by rfl), ite_f (by simp)]
    exact half
  · rw [ite_f (by simpa using he)]
    exact half
end Go.Abs

set_option linter.unusedVariables false
set_option linter.unusedSimpArgs false
namespace Go.Abs
theorem Back_law {x0 : Ce × Bool × List Int × List Int} {x1 : List Int} (h0 : WfD dWholeD x0) (h1 : ∀ y ∈ x1, (Lit.int .u8 y).wf = true) (g1 : x1.length * 1 ≤ 140737488351232) : Fc5 (flatW x0, x1) = some true := Go.Abs.back (whOk h0) (By.of h1) (by omega) Go.Abs.alive
end Go.Abs

