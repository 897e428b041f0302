/- Plain laws of chapter 13. -/
import Derived.Test.YtkkamfhppokooaaRLaw1R
import Derived.KernelRfl
set_option linter.unusedVariables false
set_option linter.unusedSimpArgs false
namespace Go.Abs
noncomputable def thenG {α β : Type} (o : Option ((Int × Unit) ⊕ α)) (k : α -> Option ((Int × Unit) ⊕ β)) : Option ((Int × Unit) ⊕ β) := o.bind fun
 | .inl (e, _) => some (.inl (e, ()))
 | .inr y => k y
noncomputable def thenJ {β : Type} (o : Option (Unit ⊕ (Int × Unit))) (k : Option ((Int × Unit) ⊕ β)) : Option ((Int × Unit) ⊕ β) := o.bind fun
 | .inl _ => k
 | .inr (e, _) => some (.inl (e, ()))
theorem thenG_ok {α β : Type} {o : Option ((Int × Unit) ⊕ α)} {y : α} {k : α -> Option ((Int × Unit) ⊕ β)} (h : o = some (.inr y)) : thenG o k = k y := by rw [h]; rfl
theorem thenG_no {α β : Type} {o : Option ((Int × Unit) ⊕ α)} {k : α -> Option ((Int × Unit) ⊕ β)} (h : o = some (.inl (131, ()))) : thenG o k = some (.inl (131, ())) := by rw [h]; rfl
theorem thenJ_ok {β : Type} {o : Option (Unit ⊕ (Int × Unit))} {k : Option ((Int × Unit) ⊕ β)} (h : o = some (.inl ())) : thenJ o k = k := by rw [h]; rfl
theorem thenJ_no {β : Type} {o : Option (Unit ⊕ (Int × Unit))} {k : Option ((Int × Unit) ⊕ β)} (h : o = some (.inr (131, ()))) : thenJ o k = some (.inl (131, ())) := by rw [h]; rfl
def Tot {β : Type} (o : Option ((Int × Unit) ⊕ β)) (p : β -> Prop) : Prop := o = some (.inl (131, ())) ∨ ∃ y, p y ∧ o = some (.inr y)
theorem Tot.no {β : Type} {p : β -> Prop} : Tot (some (.inl (131, ())) : Option ((Int × Unit) ⊕ β)) p := .inl rfl
theorem Tot.yes {β : Type} {p : β -> Prop} {y : β} (h : p y) : Tot (some (.inr y)) p := .inr ⟨y, h, rfl⟩
theorem uint_inv {t : Tree} (ht : TreeOk t) (h : (uintO t).2 = 0) : ∃ n : Int, 0 ≤ n ∧ n < 18446744073709551616 ∧ t = uintT n ∧ uintO t = (n, 0) := by
 by_cases h1 : t.tag = 2
 ·by_cases h2 : t.kids ≠ [] ∨ t.body = []
  ·rw [uintO_form h1 h2] at h; cases h
  ·simp only [not_or, Classical.not_not] at h2
   have hb := By.of ht.byt
   by_cases h3 : badU t.body
   ·rw [uintO_bad h1 h2.1 h2.2 h3] at h; cases h
   ·have hn := num_small hb h2.2 h3
    have h0 : 0 ≤ num t.body := by rw [num_numF]; exact numF_ge hb (Int.le_refl _)
    refine ⟨num t.body, h0, hn, ?_, uintO_ok h1 h2.1 h2.2 h3⟩
    unfold uintT
    rw [be_num hb h2.2 h3]
    exact (Tree.ext3 (by exact h1) rfl h2.1)
 ·rw [uintO_tag h1] at h; cases h
theorem bits_inv {t : Tree} (ht : TreeOk t) (h : (bitsO t).2 = 0) : ∃ b, t = bitsT b ∧ bitsO t = (b, 0) ∧ By b := by
 by_cases h1 : t.tag = 3
 ·by_cases h2 : t.kids ≠ [] ∨ t.body = [] ∨ t.body.getD 0 0 ≠ 0
  ·rw [bitsO_bad h1 h2] at h; cases h
  ·simp only [not_or, Classical.not_not] at h2
   obtain ⟨a1, a2, a3⟩ := h2
   refine ⟨t.body.drop 1, ?_, bitsO_ok h1 a1 a2 a3, (By.of ht.byt).drop _⟩
   refine Tree.ext3 h1 ?_ a1
   show t.body = 0 :: t.body.drop 1
   cases hb : t.body with
   | nil => exact absurd hb a2
   | cons x r =>
    rw [hb] at a3
    have : x = 0 := a3
    rw [this]; rfl
 ·rw [bitsO_tag h1] at h; cases h
theorem lk_built {n : Nat} {t : Tree} (h : lookE n t = 0) (hb : bltT t.tag = true) : t.body = [] := by
 cases n with
 | zero => cases h
 | succ n =>
  rw [<- Tree.eta t, lookE_node] at h
  split at h
  ·cases h
  ·split at h
   ·cases h
   ·rename_i h2
    exact Classical.not_not.1 (fun h3 => h2 (.inl ⟨hb, h3⟩))
theorem lk_plain {n : Nat} {t : Tree} (h : lookE n t = 0) (hb : bltT t.tag = false) : t.kids = [] := by
 cases n with
 | zero => cases h
 | succ n =>
  rw [<- Tree.eta t, lookE_node] at h
  split at h
  ·cases h
  ·split at h
   ·cases h
   ·rename_i h2
    exact Classical.not_not.1 (fun h3 => h2 (.inr ⟨hb, h3⟩))
theorem lk_kid {n : Nat} {t c : Tree} (h : lookE (n + 1) t = 0) (hc : c ∈ t.kids) : lookE n c = 0 := by
 rw [<- Tree.eta t, lookE_node] at h
 split at h
 ·cases h
 ·split at h
  ·cases h
  ·exact lookL_zero.1 h c hc
theorem lk_mono : ∀ {n : Nat} {t : Tree}, lookE n t = 0 -> lookE (n + 1) t = 0 := by
 intro n
 induction n with
 | zero => intro t h; cases h
 | succ n ih =>
  intro t h
  have h' := h
  rw [<- Tree.eta t, lookE_node] at h
  rw [<- Tree.eta t, lookE_node]
  split at h
  ·cases h
  ·rename_i h1
   split at h
   ·cases h
   ·rename_i h2
    rw [if_neg h1, if_neg h2]
    exact lookL_zero.2 (fun c hc => ih (lookL_zero.1 h c hc))
theorem e74 (t : Tree) : Fc74 t = thenG (Fc70 (Tree.node t.tag t.body t.kids, 48, 1)) fun y2 => if (0 : Int) ≤ (0 : Int) ∧ (0 : Int) < (y2.length : Int) then
   thenG (Fc70 (Tree.node (kx y2 0).tag (kx y2 0).body (kx y2 0).kids, 49, 1)) fun y4 => if (0 : Int) ≤ (0 : Int) ∧ (0 : Int) < (y4.length : Int) then
    thenG (Fc70 (Tree.node (kx y4 0).tag (kx y4 0).body (kx y4 0).kids, 48, 2)) fun y6 => if (0 : Int) ≤ (0 : Int) ∧ (0 : Int) < (y6.length : Int) then
     (Fc85 [2, 5, 4, 3]).bind fun y8 => thenJ (Fc73 (Tree.node (kx y6 0).tag (kx y6 0).body (kx y6 0).kids, Tree.node y8.tag y8.body y8.kids)) <|
      if (0 : Int) ≤ (1 : Int) ∧ (1 : Int) < (y6.length : Int) then
       thenG (Fc71 ((kx y6 1).tag == 12)) fun _ => if (0 : Int) ≤ (1 : Int) ∧ (1 : Int) < (y6.length : Int) then some (.inr (ofBytes (kx y6 1).body)) else none
      else none
     else none
    else none
   else none := by kernel_rfl
theorem kid1 {l : List Tree} (h : (l.length : Int) = 1) : ∃ a, l = [a] := by
 match l, h with
 | [a], _ => exact ⟨a, rfl⟩
theorem kid2 {l : List Tree} (h : (l.length : Int) = 2) : ∃ a b, l = [a, b] := by
 match l, h with
 | [a, b], _ => exact ⟨a, b, rfl⟩
theorem kid3 {l : List Tree} (h : (l.length : Int) = 3) : ∃ a b c, l = [a, b, c] := by
 match l, h with
 | [a, b, c], _ => exact ⟨a, b, c, rfl⟩
theorem i1 {a : Tree} : (0 : Int) ≤ (0 : Int) ∧ (0 : Int) < (([a] : List Tree).length : Int) := ⟨by omega, by simp⟩
theorem i2 {a b : Tree} : (0 : Int) ≤ (0 : Int) ∧ (0 : Int) < (([a, b] : List Tree).length : Int) := ⟨by omega, by simp⟩
theorem i2' {a b : Tree} : (0 : Int) ≤ (1 : Int) ∧ (1 : Int) < (([a, b] : List Tree).length : Int) := ⟨by omega, by simp⟩
theorem name_total {n : Nat} {t : Tree} (ht : TreeOk t) (hk : lookE (n + 3) t = 0) : Tot (Fc74 t) fun s => t = nameT s := by
 rw [e74, Tree.eta]
 by_cases h1 : t.tag = 48 ∧ (t.kids.length : Int) = 1
 ·obtain ⟨x, hx⟩ := kid1 h1.2
  have hxm : x ∈ t.kids := by rw [hx]; simp
  have hkx := lk_kid hk hxm
  have e1 : t = .node 48 [] [x] := Tree.ext3 h1.1 (lk_built hk (by rw [h1.1]; decide)) hx
  rw [thenG_ok (kids70 h1.1 h1.2), hx, if_pos i1, Tree.eta]
  show Tot (thenG (Fc70 (x, 49, 1)) _) _
  by_cases h2 : x.tag = 49 ∧ (x.kids.length : Int) = 1
  ·obtain ⟨y, hy⟩ := kid1 h2.2
   have hym : y ∈ x.kids := by rw [hy]; simp
   have hky := lk_kid hkx hym
   have e2 : x = .node 49 [] [y] := Tree.ext3 h2.1 (lk_built hkx (by rw [h2.1]; decide)) hy
   rw [thenG_ok (kids70 h2.1 h2.2), hy, if_pos i1, Tree.eta]
   show Tot (thenG (Fc70 (y, 48, 2)) _) _
   by_cases h3 : y.tag = 48 ∧ (y.kids.length : Int) = 2
   ·obtain ⟨p, q, hpq⟩ := kid2 h3.2
    have hpm : p ∈ y.kids := by rw [hpq]; simp
    have hqm : q ∈ y.kids := by rw [hpq]; simp
    have e3 : y = .node 48 [] [p, q] := Tree.ext3 h3.1 (lk_built hky (by rw [h3.1]; decide)) hpq
    have hkq : lookE n q = 0 := lk_kid hky hqm
    have hp : TreeOk p := ((ht.kid hxm).kid hym).kid hpm
    have hq : TreeOk q := ((ht.kid hxm).kid hym).kid hqm
    rw [thenG_ok (kids70 h3.1 h3.2), hpq, if_pos i2, obj85 w64_cn]
    simp only [Option.bind_some, Tree.eta]
    show Tot (thenJ (Fc73 (p, objT [2, 5, 4, 3])) _) _
    by_cases h4 : p = objT [2, 5, 4, 3]
    ·rw [h4, thenJ_ok (is73_t (okO _ w64_cn)), if_pos i2']
     show Tot (thenG (Fc71 (q.tag == 12)) _) _
     by_cases h5 : q.tag = 12
     ·rw [thenG_ok (show Fc71 (q.tag == 12) = some (.inr ()) from by rw [h5]; rfl), if_pos i2']
      refine Tot.yes ?_
      have eq : q = strT 12 (toBytes (ofBytes q.body)) := by
       rw [toB_ofB (By.of hq.byt)]
       exact Tree.ext3 h5 rfl (lk_plain hkq (by rw [h5]; decide))
      show t = nameT (ofBytes q.body)
      unfold nameT
      rw [e1, e2, e3, h4, <- eq]
     ·rw [thenG_no (show Fc71 (q.tag == 12) = some (.inl (131, ())) from by rw [show (q.tag == 12) = false from by simpa using h5]; rfl)]
      exact Tot.no
    ·rw [thenJ_no (is73_f hp h4)]
     exact Tot.no
   ·rw [thenG_no (kids70_f h3)]
    exact Tot.no
  ·rw [thenG_no (kids70_f h2)]
   exact Tot.no
 ·rw [thenG_no (kids70_f h1)]
  exact Tot.no
theorem body_small {n : Nat} {t : Tree} (hk : lookE n t = 0) (hs : t.enc.length ≤ 65536) : t.body.length ≤ 65536 := by
 cases hb : bltT t.tag with
 | true => rw [lk_built hk hb]; simp
 | false =>
  rw [Tree.enc_eq, hb] at hs
  simp only [Bool.false_eq_true, if_false, List.length_cons, List.length_append] at hs
  omega
theorem kid_small {n : Nat} {t c : Tree} (hk : lookE n t = 0) (hs : t.enc.length ≤ 65536) (hc : c ∈ t.kids) : c.enc.length ≤ 65536 := by
 cases hb : bltT t.tag with
 | false => rw [lk_plain hk hb] at hc; simp at hc
 | true =>
  rw [Tree.enc_eq, hb] at hs
  simp only [if_true, List.length_cons, List.length_append] at hs
  have := encs_mem hc
  omega
theorem eq103 {a b : List Int} (ha : a.length ≤ 9000000000000000) : Fc103 (a, b) = some (decide (a = b)) := eq100 ha
theorem must101 (v : List Int) : Fc101 (v, 0) = some (.inr v) := rfl
theorem must101_f (v : List Int) {e : Int} (h : e ≠ 0) : Fc101 (v, e) = some (.inl (131, ())) := must76_f v h
theorem must104 (v : Bool) : Fc104 (v, 0) = some (.inr v) := rfl
theorem must104_f (v : Bool) {e : Int} (h : e ≠ 0) : Fc104 (v, e) = some (.inl (131, ())) := by
 simp only [Fc104]
 rw [show ((e == 0) = false) from by simpa using h, chkF]
 rfl
theorem chk {b : Bool} (h : b = true) : Fc71 b = some (.inr ()) := by rw [h]; rfl
theorem chkN {b : Bool} (h : b = false) : Fc71 b = some (.inl (131, ())) := by rw [h]; rfl
theorem bool_inv {t : Tree} (h : boolO t = (true, 0)) : t = strT 1 [255] := by
 by_cases h1 : t.tag = 1
 ·by_cases h2 : t.kids ≠ [] ∨ t.body.length ≠ 1 ∨ (t.body.getD 0 0 ≠ 0 ∧ t.body.getD 0 0 ≠ 255)
  ·rw [boolO_bad h1 h2] at h; cases h
  ·simp only [not_or, Classical.not_not, not_and] at h2
   obtain ⟨a1, a2, a3⟩ := h2
   match hb : t.body, a2 with
   | [x], _ =>
    rw [hb] at a3
    have a3 : x ≠ 0 -> x = 255 := a3
    have hx : x = 255 := by
     apply a3
     intro h0
     rw [boolO_ok h1 a1 (by rw [hb]; rfl) (by rw [hb, h0]; exact .inl rfl), hb, h0] at h
     cases h
    refine Tree.ext3 h1 ?_ a1
    rw [hb, hx]; rfl
 ·rw [boolO_tag h1] at h; cases h
theorem boolO_T : boolO (strT 1 [255]) = (true, 0) := by
 rw [boolO_ok (t := strT 1 [255]) rfl rfl rfl (.inr rfl)]
 rfl
theorem okOf_ext {x : Int} (h0 : 0 ≤ x) (h : x ≤ 4294967295) : okOf [1, 3, 6, 1, 4, 1, 4128, 2100, x] := by
 refine ⟨by simp, by simp, (by show (1 : Int) ≤ 2; decide), (fun _ => by show (3 : Int) < 40; decide), (by show (3 : Int) ≤ 4294967295 - 40 * 1; decide), ?_⟩
 intro y hy
 simp only [List.drop_succ_cons, List.drop_zero, List.mem_cons, List.not_mem_nil, or_false] at hy
 omega
theorem w64_ext' {x : Int} (h0 : 0 ≤ x) (h : x ≤ 4294967295) : W64 [1, 3, 6, 1, 4, 1, 4128, 2100, x] := by
 intro y hy
 simp only [List.mem_cons, List.not_mem_nil, or_false] at hy
 omega
theorem obj_body {l : List Int} (h : okOf l) : (objT l).body.length ≤ 65536 := by
 obtain ⟨h1, h2, h3, h4, h5, h6⟩ := h
 unfold objT
 rw [ofO_ok ⟨h1, h2, h3, h4, h5, h6⟩]
 have a1 := (fig_len (n := (40 * l.getD 0 0 + l.getD 1 0).toNat) (by omega)).2
 have a2 := figs_len (l := l.drop 2) (fun y hy => by have := h6 y hy; omega)
 show (fig (40 * l.getD 0 0 + l.getD 1 0).toNat ++ figs (l.drop 2)).length ≤ _
 rw [List.length_append]
 simp only [List.length_drop] at a2
 omega
def exP (e : Ex) : Prop := 1 ≤ e.1 ∧ e.1 ≤ 4294967295 ∧ By e.2.2
theorem e77_2 (bd : List Int) (a b : Tree) : Fc77 (.node 48 bd [a, b]) = (Fc102 (Tree.node a.tag a.body a.kids)).bind fun (y2, y3) => thenG (Fc101 (y2, y3)) fun o =>
   if ((o.length : Int) == 9) = true then
    if (0 : Int) ≤ (8 : Int) ∧ (8 : Int) ≤ (o.length : Int) then
     (Fc103 (o.take 8, [1, 3, 6, 1, 4, 1, 4128, 2100])).bind fun y => if y = true then
      if (0 : Int) ≤ (8 : Int) ∧ (8 : Int) < (o.length : Int) then
       thenG (Fc71 (decide ((o.getD 8 0) ≥ 1))) fun _ => thenG (Fc71 (b.tag == 4)) fun _ =>
        if (0 : Int) ≤ (8 : Int) ∧ (8 : Int) < (o.length : Int) then some (.inr ((IntKind.i64.wrap (o.getD 8 0)), false, b.body)) else none
      else none
     else some (.inl (131, ()))
    else none
   else some (.inl (131, ())) := by kernel_rfl
theorem e77_3 (bd : List Int) (a k b : Tree) : Fc77 (.node 48 bd [a, k, b]) = (Fc102 (Tree.node a.tag a.body a.kids)).bind fun (y2, y3) => thenG (Fc101 (y2, y3)) fun o =>
   if ((o.length : Int) == 9) = true then
    if (0 : Int) ≤ (8 : Int) ∧ (8 : Int) ≤ (o.length : Int) then
     (Fc103 (o.take 8, [1, 3, 6, 1, 4, 1, 4128, 2100])).bind fun y => if y = true then
      if (0 : Int) ≤ (8 : Int) ∧ (8 : Int) < (o.length : Int) then
       thenG (Fc71 (decide ((o.getD 8 0) ≥ 1))) fun _ => (Fc105 (Tree.node k.tag k.body k.kids)).bind fun (y9, y10) => thenG (Fc104 (y9, y10)) fun y12 => thenG (Fc71 y12) fun _ => thenG (Fc71 (b.tag == 4)) fun _ =>
        if (0 : Int) ≤ (8 : Int) ∧ (8 : Int) < (o.length : Int) then some (.inr ((IntKind.i64.wrap (o.getD 8 0)), true, b.body)) else none
      else none
     else some (.inl (131, ()))
    else none
   else some (.inl (131, ())) := by kernel_rfl
theorem ext_no {t : Tree} (h : ¬ (t.tag = 48 ∧ ((t.kids.length : Int) = 2 ∨ (t.kids.length : Int) = 3))) : Fc77 t = some (.inl (131, ())) := by
 simp only [Fc77]
 by_cases h1 : t.tag = 48
 ·have h2 : ¬ (t.kids.length : Int) = 2 := fun h2 => h ⟨h1, .inl h2⟩
  have h3 : ¬ (t.kids.length : Int) = 3 := fun h3 => h ⟨h1, .inr h3⟩
  rw [ite_t (by simpa using h1), itf_f (by simpa using h2), chkN (by simpa using h3)]
  rfl
 ·rw [ite_f (by simpa using h1), chkF]
  rfl
theorem nine {l : List Int} (h : l.length = 9) (h8 : l.take 8 = [1, 3, 6, 1, 4, 1, 4128, 2100]) : l = [1, 3, 6, 1, 4, 1, 4128, 2100, l.getD 8 0] := by
 match l, h with
 | [a, b, c, d, e, f, g, k, m], _ =>
  simp only [List.take_succ_cons, List.take_zero, List.cons.injEq, and_true] at h8
  obtain ⟨rfl, rfl, rfl, rfl, rfl, rfl, rfl, rfl⟩ := h8
  rfl
theorem oid_part {β : Type} {n : Nat} {a : Tree} (ha : TreeOk a) (hk : lookE n a = 0) (hs : a.enc.length ≤ 65536) {p : β -> Prop} {K : List Int -> Option ((Int × Unit) ⊕ β)}
  (hK : ∀ x : Int, 1 ≤ x -> x ≤ 4294967295 -> a = objT [1, 3, 6, 1, 4, 1, 4128, 2100, x] -> Tot (K [1, 3, 6, 1, 4, 1, 4128, 2100, x]) p) :
  Tot ((Fc102 a).bind fun (y2, y3) => thenG (Fc101 (y2, y3)) fun o =>
   if ((o.length : Int) == 9) = true then
    if (0 : Int) ≤ (8 : Int) ∧ (8 : Int) ≤ (o.length : Int) then
     (Fc103 (o.take 8, [1, 3, 6, 1, 4, 1, 4128, 2100])).bind fun y => if y = true then
      if (0 : Int) ≤ (8 : Int) ∧ (8 : Int) < (o.length : Int) then thenG (Fc71 (decide ((o.getD 8 0) ≥ 1))) fun _ => K o
      else none
     else some (.inl (131, ()))
    else none
   else some (.inl (131, ()))) p := by
 rw [oid_eq ha (body_small hk hs)]
 simp only [Option.bind_some]
 by_cases h1 : (oidO a).2 = 0
 ·obtain ⟨g1, g2, g3, g4⟩ := of_oid ha h1
  rw [h1, thenG_ok (must101 _)]
  generalize (oidO a).1 = l at g1 g2 g3
  have hok : okOf l := by
   apply Classical.byContradiction
   intro hno
   rw [ofO_bad hno] at g1
   cases g1
  have hobj : a = objT l := by unfold objT; rw [g1]
  by_cases h2 : l.length = 9
  ·rw [ite_t (by simp [h2]), if_pos ⟨by omega, by omega⟩, eq103 (by simp; omega)]
   simp only [Option.bind_some]
   by_cases h3 : l.take 8 = [1, 3, 6, 1, 4, 1, 4128, 2100]
   ·have h9 := nine h2 h3
    have hle : l.getD 8 0 ≤ 4294967295 := by
     refine hok.2.2.2.2.2 _ ?_
     rw [h9]
     simp
    rw [ite_t (decide_eq_true h3), if_pos ⟨by omega, by omega⟩]
    by_cases h4 : l.getD 8 0 ≥ 1
    ·rw [thenG_ok (chk (decide_eq_true h4))]
     have := hK _ h4 hle (by rw [<- h9]; exact hobj)
     rw [<- h9] at this
     exact this
    ·rw [thenG_no (chkN (decide_eq_false h4))]
     exact Tot.no
   ·rw [ite_f (decide_eq_false h3)]
    exact Tot.no
  ·rw [ite_f (by simp; omega)]
   exact Tot.no
 ·rw [thenG_no (must101_f _ h1)]
  exact Tot.no
theorem ext_total {n : Nat} {t : Tree} (ht : TreeOk t) (hk : lookE (n + 1) t = 0) (hs : t.enc.length ≤ 65536) : Tot (Fc77 t) fun e => t = extT e ∧ exP e := by
 have last : ∀ {b : Tree}, b ∈ t.kids -> b.tag = 4 -> b = strT 4 b.body ∧ By b.body := fun {b} hb h => ⟨Tree.ext3 h rfl (lk_plain (lk_kid hk hb) (by rw [h]; decide)), By.of (ht.kid hb).byt⟩
 by_cases h2 : t.tag = 48 ∧ (t.kids.length : Int) = 2
 ·obtain ⟨a, b, hab⟩ := kid2 h2.2
  have ham : a ∈ t.kids := by rw [hab]; simp
  have hbm : b ∈ t.kids := by rw [hab]; simp
  have e1 : t = .node 48 [] [a, b] := Tree.ext3 h2.1 (lk_built hk (by rw [h2.1]; decide)) hab
  have : Tot (Fc77 (.node 48 [] [a, b])) fun e => t = extT e ∧ exP e := by
   rw [e77_2, Tree.eta]
   refine oid_part (ht.kid ham) (lk_kid hk ham) (kid_small hk hs ham) (K := fun o => thenG (Fc71 (b.tag == 4)) fun _ => if (0 : Int) ≤ (8 : Int) ∧ (8 : Int) < (o.length : Int) then some (.inr ((IntKind.i64.wrap (o.getD 8 0)), false, b.body)) else none) ?_
   intro x hx1 hx2 hax
   show Tot (thenG (Fc71 (b.tag == 4)) _) _
   by_cases h5 : b.tag = 4
   ·obtain ⟨hb1, hb2⟩ := last hbm h5
    rw [thenG_ok (chk (by simpa using h5)), if_pos ⟨by omega, by simp⟩]
    show Tot (some (.inr ((IntKind.i64.wrap x), false, b.body))) _
    rw [wi64 (by omega) (by omega)]
    refine Tot.yes ⟨?_, hx1, hx2, hb2⟩
    show t = Tree.node 48 [] [objT [1, 3, 6, 1, 4, 1, 4128, 2100, x], strT 4 b.body]
    rw [e1, <- hax, <- hb1]
   ·rw [thenG_no (chkN (by simpa using h5))]
    exact Tot.no
  rw [<- e1] at this
  exact this
 ·by_cases h3 : t.tag = 48 ∧ (t.kids.length : Int) = 3
  ·obtain ⟨a, k, b, hab⟩ := kid3 h3.2
   have ham : a ∈ t.kids := by rw [hab]; simp
   have hkm : k ∈ t.kids := by rw [hab]; simp
   have hbm : b ∈ t.kids := by rw [hab]; simp
   have e1 : t = .node 48 [] [a, k, b] := Tree.ext3 h3.1 (lk_built hk (by rw [h3.1]; decide)) hab
   have : Tot (Fc77 (.node 48 [] [a, k, b])) fun e => t = extT e ∧ exP e := by
    rw [e77_3, Tree.eta, Tree.eta]
    refine oid_part (ht.kid ham) (lk_kid hk ham) (kid_small hk hs ham) (K := fun o => (Fc105 k).bind fun (y9, y10) => thenG (Fc104 (y9, y10)) fun y12 => thenG (Fc71 y12) fun _ => thenG (Fc71 (b.tag == 4)) fun _ => if (0 : Int) ≤ (8 : Int) ∧ (8 : Int) < (o.length : Int) then some (.inr ((IntKind.i64.wrap (o.getD 8 0)), true, b.body)) else none) ?_
    intro x hx1 hx2 hax
    show Tot ((Fc105 k).bind _) _
    rw [bool_eq (ht.kid hkm)]
    simp only [Option.bind_some]
    by_cases h6 : (boolO k).2 = 0
    ·rw [h6, thenG_ok (must104 _)]
     cases h7 : (boolO k).1 with
     | false => rw [thenG_no chkF]; exact Tot.no
     | true =>
      have hkk : k = strT 1 [255] := bool_inv (by rw [<- h7, <- h6])
      rw [thenG_ok chkT]
      by_cases h5 : b.tag = 4
      ·obtain ⟨hb1, hb2⟩ := last hbm h5
       rw [thenG_ok (chk (by simpa using h5)), if_pos ⟨by omega, by simp⟩]
       show Tot (some (.inr ((IntKind.i64.wrap x), true, b.body))) _
       rw [wi64 (by omega) (by omega)]
       refine Tot.yes ⟨?_, hx1, hx2, hb2⟩
       show t = Tree.node 48 [] [objT [1, 3, 6, 1, 4, 1, 4128, 2100, x], strT 1 [255], strT 4 b.body]
       rw [e1, <- hax, <- hb1, <- hkk]
      ·rw [thenG_no (chkN (by simpa using h5))]
       exact Tot.no
    ·rw [thenG_no (must104_f _ h6)]
     exact Tot.no
   rw [<- e1] at this
   exact this
  ·rw [ext_no (fun h => h.2.elim (fun h4 => h2 ⟨h.1, h4⟩) (fun h4 => h3 ⟨h.1, h4⟩))]
   exact Tot.no
theorem ext_back {e : Ex} (h0 : exP e) (hl : e.2.2.length ≤ 140737488351232) : Fc77 (extT e) = some (.inr e) := by
 obtain ⟨x, cr, v⟩ := e
 obtain ⟨h1, h2, h3⟩ := h0
 have h1 : 1 ≤ x := h1
 have h2 : x ≤ 4294967295 := h2
 have hok := okOf_ext (x := x) (by omega) h2
 have hw := w64_ext' (x := x) (by omega) h2
 have ho : Fc102 (objT [1, 3, 6, 1, 4, 1, 4128, 2100, x]) = some ([1, 3, 6, 1, 4, 1, 4128, 2100, x], 0) := by
  rw [oid_eq (okO _ hw) (obj_body hok)]
  have := oid_of hw hok
  unfold objT
  rw [this]
 cases cr with
 | false =>
  have e1 : extT (x, false, v) = .node 48 [] [objT [1, 3, 6, 1, 4, 1, 4128, 2100, x], strT 4 v] := rfl
  rw [e1, e77_2, Tree.eta, ho]
  simp only [Option.bind_some]
  rw [thenG_ok (must101 _), ite_t (by rfl), if_pos ⟨by omega, by simp⟩, eq103 (by simp)]
  simp only [Option.bind_some]
  rw [ite_t (by rfl), if_pos ⟨by omega, by simp⟩, thenG_ok (chk (by show decide (x ≥ 1) = true; exact decide_eq_true h1)), thenG_ok (chk (by rfl)), if_pos ⟨by omega, by simp⟩]
  show some (Sum.inr ((IntKind.i64.wrap x), false, v)) = _
  rw [wi64 (by omega) (by omega)]
 | true =>
  have e1 : extT (x, true, v) = .node 48 [] [objT [1, 3, 6, 1, 4, 1, 4128, 2100, x], strT 1 [255], strT 4 v] := rfl
  rw [e1, e77_3, Tree.eta, ho]
  simp only [Option.bind_some, Tree.eta]
  rw [thenG_ok (must101 _), ite_t (by rfl), if_pos ⟨by omega, by simp⟩, eq103 (by simp)]
  simp only [Option.bind_some]
  rw [ite_t (by rfl), if_pos ⟨by omega, by simp⟩, thenG_ok (chk (by show decide (x ≥ 1) = true; exact decide_eq_true h1)), bool_eq (okStr (by omega) (by intro y hy; simp at hy; omega) (by simp)), boolO_T]
  simp only [Option.bind_some]
  rw [thenG_ok (must104 _), thenG_ok chkT, thenG_ok (chk (by rfl)), if_pos ⟨by omega, by simp⟩]
  show some (Sum.inr ((IntKind.i64.wrap x), true, v)) = _
  rw [wi64 (by omega) (by omega)]
theorem s42 (y : List Tree) (l : List Tree) (n : Int) (k : Nat) (u v : Int × ByteArray × ByteArray × Unit × Unit × Unit) (acc : List Ex) (row : List Int) : stepc42_0 (y, l, n, (k : Int), u, v, acc, row) = (if (decide ((k : Int) < n)) = true then
   if (0 : Int) ≤ (k : Int) ∧ (k : Int) < (l.length : Int) then
    (Fc77 (Tree.node (kx l k).tag (kx l k).body (kx l k).kids)).bind fun
     | (.inl (e56, _)) => some (.inr (.inl (e56, ())))
     | (.inr y57) => if okBytes (acc.length + 1) 40 then some (.inl (y, l, n, (IntKind.i64.wrap ((k : Int) + 1)), u, v, acc ++ [y57], row)) else none
   else none
  else some (.inr (.inr (y, u, v, row, acc)))) := by kernel_rfl
def exsP (l : List Ex) : Prop := ∀ e ∈ l, exP e
theorem exts_total {y : List Tree} {l : List Tree} {u v : Int × ByteArray × ByteArray × Unit × Unit × Unit} {row : List Int} {n : Nat} (hl : l.length ≤ 1000000) (ht : ∀ c ∈ l, TreeOk c) (hk : ∀ c ∈ l, lookE (n + 1) c = 0) (hs : ∀ c ∈ l, c.enc.length ≤ 65536) :
  ∀ (j k : Nat) (acc : List Ex), j = l.length - k -> k ≤ l.length -> acc.length = k -> l.take k = acc.map extT -> exsP acc ->
   loopO stepc42_0 (y, l, (l.length : Int), (k : Int), u, v, acc, row) = some (.inl (131, ())) ∨ ∃ es, l = es.map extT ∧ exsP es ∧ loopO stepc42_0 (y, l, (l.length : Int), (k : Int), u, v, acc, row) = some (.inr (y, u, v, row, es)) := by
 intro j
 induction j with
 | zero =>
  intro k acc hj hk1 ha htk hP
  have e : k = l.length := by omega
  subst e
  rw [loopO_eq, s42, ite_f (decide_eq_false (by omega))]
  rw [List.take_length] at htk
  exact .inr ⟨acc, htk, hP, rfl⟩
 | succ j ih =>
  intro k acc hj hk1 ha htk hP
  have hkl : k < l.length := by omega
  have hm : kx l k ∈ l := by rw [kx_get hkl]; exact List.getElem_mem hkl
  rcases ext_total (ht _ hm) (hk _ hm) (hs _ hm) with h | ⟨e, ⟨he1, he2⟩, h⟩
  ·rw [loopO_eq, s42, ite_t (decide_eq_true (by omega)), if_pos ⟨by omega, by omega⟩, Tree.eta, h]
   exact .inl rfl
  ·have hstep : loopO stepc42_0 (y, l, (l.length : Int), (k : Int), u, v, acc, row) = loopO stepc42_0 (y, l, (l.length : Int), ((k + 1 : Nat) : Int), u, v, acc ++ [e], row) := by
    rw [loopO_eq, s42, ite_t (decide_eq_true (by omega)), if_pos ⟨by omega, by omega⟩, Tree.eta, h]
    simp only [Option.bind_some]
    rw [if_pos (okB40 (by omega)), wi64 (by omega) (by omega)]
    rfl
   rw [hstep]
   refine ih (k + 1) (acc ++ [e]) (by omega) (by omega) (by simp [ha]) ?_ ?_
   ·rw [List.take_succ_eq_append_getElem hkl, htk, List.map_append, <- kx_get hkl, he1]
    rfl
   ·intro z hz
    rcases List.mem_append.1 hz with hz | hz
    ·exact hP z hz
    ·rw [List.mem_singleton] at hz; subst hz; exact he2
theorem exts_back {y : List Tree} {es : List Ex} {u v : Int × ByteArray × ByteArray × Unit × Unit × Unit} {row : List Int} (hl : es.length ≤ 1000000) (hP : ∀ e ∈ es, exP e ∧ e.2.2.length ≤ 140737488351232) :
  loopO stepc42_0 (y, es.map extT, ((es.map extT).length : Int), 0, u, v, [], row) = some (.inr (y, u, v, row, es)) := by
 have h := loopO_run (step := stepc42_0) (fun k => (y, es.map extT, ((es.map extT).length : Int), ((k : Nat) : Int), u, v, es.take k, row)) es.length (.inr (y, u, v, row, es)) ?_ ?_
 ·exact h
 ·intro k hk
  have hm : ix es k ∈ es := by rw [ix_get hk]; exact List.getElem_mem hk
  have hkx : kx (es.map extT) k = extT (ix es k) := by
   rw [kx_get (by simpa using hk), ix_get hk]
   simp
  have hlt : (es.take k).length ≤ 1000000 := by simp; omega
  rw [s42, ite_t (decide_eq_true (by simp; omega)), if_pos ⟨by omega, by simp; omega⟩, hkx, Tree.eta, ext_back (hP _ hm).1 (hP _ hm).2]
  simp only [Option.bind_some]
  rw [if_pos (okB40 (by omega)), wi64 (by omega) (by omega), List.take_succ_eq_append_getElem hk, ix_get hk]
  rfl
 ·rw [s42, ite_f (decide_eq_false (by simp)), List.take_length]
end Go.Abs
namespace Go.Abs
noncomputable def mid (l0 l1 l2 l3 l4 l5 l6 : Tree) (K : Int -> ByteArray -> ByteArray -> List Int -> Option RdT) : Option RdT :=
 thenG (Fc70 (Tree.node l0.tag l0.body l0.kids, 160, 1)) fun y8 => if (0 : Int) ≤ (0 : Int) ∧ (0 : Int) < (y8.length : Int) then
  (Fc52 (Tree.node (kx y8 0).tag (kx y8 0).body (kx y8 0).kids)).bind fun (y9, y10) => thenG (Fc72 (y9, y10)) fun y12 => thenG (Fc71 (y12 == 2)) fun _ =>
   (Fc52 (Tree.node l1.tag l1.body l1.kids)).bind fun (y17, y18) => thenG (Fc72 (y17, y18)) fun y20 => (Fc48 ()).bind fun y24 => thenJ (Fc73 (Tree.node l2.tag l2.body l2.kids, Tree.node y24.tag y24.body y24.kids)) <|
   thenG (Fc74 (Tree.node l3.tag l3.body l3.kids)) fun y29 => (Fc75 ()).bind fun y33 => thenJ (Fc73 (Tree.node l4.tag l4.body l4.kids, Tree.node y33.tag y33.body y33.kids)) <|
   thenG (Fc74 (Tree.node l5.tag l5.body l5.kids)) fun y38 => thenG (Fc70 (Tree.node l6.tag l6.body l6.kids, 48, 2)) fun y43 => if (0 : Int) ≤ (0 : Int) ∧ (0 : Int) < (y43.length : Int) then
    (Fc48 ()).bind fun y44 => thenJ (Fc73 (Tree.node (kx y43 0).tag (kx y43 0).body (kx y43 0).kids, Tree.node y44.tag y44.body y44.kids)) <| if (0 : Int) ≤ (1 : Int) ∧ (1 : Int) < (y43.length : Int) then
     (Fc53 (Tree.node (kx y43 1).tag (kx y43 1).body (kx y43 1).kids)).bind fun (y45, y46) => thenG (Fc76 (y45, y46)) fun y48 => K y20 y29 y38 y48
    else none
   else none
 else none
noncomputable def fin3 (g sb : Tree) (n : Int) (s1 s2 : ByteArray) (key : List Int) (es : List Ex) : Option RdT :=
 (Fc48 ()).bind fun y84 => thenJ (Fc73 (Tree.node g.tag g.body g.kids, Tree.node y84.tag y84.body y84.kids)) <|
  (Fc53 (Tree.node sb.tag sb.body sb.kids)).bind fun (y85, y86) => thenG (Fc76 (y85, y86)) fun y88 => some (.inr ((n, s1, s2, (), (), ()), key, es, y88))
theorem e42_7 (b b' : List Int) (l0 l1 l2 l3 l4 l5 l6 g sb : Tree) : Fc42 (.node 48 b [.node 48 b' [l0, l1, l2, l3, l4, l5, l6], g, sb]) = mid l0 l1 l2 l3 l4 l5 l6 fun n s1 s2 key => fin3 g sb n s1 s2 key [] := by kernel_rfl
theorem e42_8 (b b' : List Int) (l0 l1 l2 l3 l4 l5 l6 l7 g sb : Tree) : Fc42 (.node 48 b [.node 48 b' [l0, l1, l2, l3, l4, l5, l6, l7], g, sb]) = mid l0 l1 l2 l3 l4 l5 l6 fun n s1 s2 key =>
  thenG (Fc70 (Tree.node l7.tag l7.body l7.kids, 163, 1)) fun y53 => if (0 : Int) ≤ (0 : Int) ∧ (0 : Int) < (y53.length : Int) then
   if ((kx y53 0).tag == 48) = true then
    thenG (Fc71 (decide (((kx y53 0).kids.length : Int) > 0))) fun _ =>
     (loopO stepc42_0 ([.node 48 b' [l0, l1, l2, l3, l4, l5, l6, l7], g, sb], (kx y53 0).kids, ((kx y53 0).kids.length : Int), 0, (0, ByteArray.empty, ByteArray.empty, (), (), ()), (n, s1, s2, (), (), ()), [], key)).bind fun
      | (.inl (e59, _)) => some (.inl (e59, ()))
      | (.inr (z60, z61, z62, z63, z64)) => if (0 : Int) ≤ (1 : Int) ∧ (1 : Int) < (z60.length : Int) then
        (Fc48 ()).bind fun y65 => thenJ (Fc73 (Tree.node (kx z60 1).tag (kx z60 1).body (kx z60 1).kids, Tree.node y65.tag y65.body y65.kids)) <| if (0 : Int) ≤ (2 : Int) ∧ (2 : Int) < (z60.length : Int) then
         (Fc53 (Tree.node (kx z60 2).tag (kx z60 2).body (kx z60 2).kids)).bind fun (y66, y67) => thenG (Fc76 (y66, y67)) fun y69 => some (.inr ((z62.1, z62.2.1, z62.2.2.1, (), (), ()), z63, z64, y69))
        else none
       else none
   else some (.inl (131, ()))
  else none := by kernel_rfl
structure CeForm (c : Ce) : Prop where
 ser : 0 ≤ c.1 ∧ c.1 < 18446744073709551616
 key : By c.2.2.2.1
 exs : exsP c.2.2.2.2.1
 sig : By c.2.2.2.2.2
theorem mid_total {m : Nat} {l0 l1 l2 l3 l4 l5 l6 : Tree} {K : Int -> ByteArray -> ByteArray -> List Int -> Option RdT} {p : (Int × ByteArray × ByteArray × Unit × Unit × Unit) × List Int × List Ex × List Int -> Prop}
  (ht : ∀ t ∈ [l0, l1, l2, l3, l4, l5, l6], TreeOk t ∧ lookE (m + 4) t = 0)
  (hK : ∀ n s1 s2 key, 0 ≤ n -> n < 18446744073709551616 -> By key -> (∀ es sg, [l0, l1, l2, l3, l4, l5, l6] = tbs7 (n, s1, s2, key, es, sg)) -> Tot (K n s1 s2 key) p) : Tot (mid l0 l1 l2 l3 l4 l5 l6 K) p := by
 obtain ⟨t0, k0⟩ := ht l0 (by simp)
 obtain ⟨t1, k1⟩ := ht l1 (by simp)
 obtain ⟨t2, k2⟩ := ht l2 (by simp)
 obtain ⟨t3, k3⟩ := ht l3 (by simp)
 obtain ⟨t4, k4⟩ := ht l4 (by simp)
 obtain ⟨t5, k5⟩ := ht l5 (by simp)
 obtain ⟨t6, k6⟩ := ht l6 (by simp)
 unfold mid
 simp only [Tree.eta]
 by_cases a0 : l0.tag = 160 ∧ (l0.kids.length : Int) = 1
 rotate_left
 ·rw [thenG_no (kids70_f a0)]; exact Tot.no
 obtain ⟨u, hu⟩ := kid1 a0.2
 have hum : u ∈ l0.kids := by rw [hu]; simp
 have e0 : l0 = .node 160 [] [u] := Tree.ext3 a0.1 (lk_built k0 (by rw [a0.1]; decide)) hu
 rw [thenG_ok (kids70 a0.1 a0.2), hu, if_pos i1]
 show Tot ((Fc52 u).bind _) p
 rw [uint_eq (t0.kid hum)]
 simp only [Option.bind_some]
 by_cases b0 : (uintO u).2 = 0
 rotate_left
 ·rw [thenG_no (must72_f _ b0)]; exact Tot.no
 obtain ⟨n0, g1, g2, hu2, hu3⟩ := uint_inv (t0.kid hum) b0
 rw [hu3, thenG_ok (must72 _)]
 by_cases c0 : n0 = 2
 rotate_left
 ·rw [thenG_no (chkN (by simpa using c0))]; exact Tot.no
 rw [thenG_ok (chk (by simpa using c0)), uint_eq t1]
 simp only [Option.bind_some]
 by_cases b1 : (uintO l1).2 = 0
 rotate_left
 ·rw [thenG_no (must72_f _ b1)]; exact Tot.no
 obtain ⟨n, n1, n2, e1, h1⟩ := uint_inv t1 b1
 rw [h1, thenG_ok (must72 _), alg48]
 simp only [Option.bind_some, Tree.eta]
 by_cases a2 : l2 = algT
 rotate_left
 ·rw [thenJ_no (is73_f t2 a2)]; exact Tot.no
 rw [a2, thenJ_ok (is73_t okAlg)]
 rcases name_total (n := m + 1) t3 k3 with h | ⟨s1, e3, h⟩
 ·rw [thenG_no h]; exact Tot.no
 rw [thenG_ok h, times75]
 simp only [Option.bind_some, Tree.eta]
 by_cases a4 : l4 = timesT
 rotate_left
 ·rw [thenJ_no (is73_f t4 a4)]; exact Tot.no
 rw [a4, thenJ_ok (is73_t okTimes)]
 rcases name_total (n := m + 1) t5 k5 with h | ⟨s2, e5, h⟩
 ·rw [thenG_no h]; exact Tot.no
 rw [thenG_ok h]
 by_cases a6 : l6.tag = 48 ∧ (l6.kids.length : Int) = 2
 rotate_left
 ·rw [thenG_no (kids70_f a6)]; exact Tot.no
 obtain ⟨q1, q2, hq⟩ := kid2 a6.2
 have hq1 : q1 ∈ l6.kids := by rw [hq]; simp
 have hq2 : q2 ∈ l6.kids := by rw [hq]; simp
 have e6 : l6 = .node 48 [] [q1, q2] := Tree.ext3 a6.1 (lk_built k6 (by rw [a6.1]; decide)) hq
 rw [thenG_ok (kids70 a6.1 a6.2), hq, if_pos i2]
 show Tot (thenJ (Fc73 (q1, algT)) _) p
 by_cases aq : q1 = algT
 rotate_left
 ·rw [thenJ_no (is73_f (t6.kid hq1) aq)]; exact Tot.no
 rw [aq, thenJ_ok (is73_t okAlg), if_pos i2']
 show Tot ((Fc53 q2).bind _) p
 rw [bits_eq (t6.kid hq2)]
 simp only [Option.bind_some]
 by_cases bq : (bitsO q2).2 = 0
 rotate_left
 ·rw [thenG_no (must76_f _ bq)]; exact Tot.no
 obtain ⟨key, ekey, hkey, bkey⟩ := bits_inv (t6.kid hq2) bq
 rw [hkey, thenG_ok (must76 _)]
 refine hK n s1 s2 key n1 n2 bkey (fun es sg => ?_)
 show [l0, l1, l2, l3, l4, l5, l6] = [.node 160 [] [uintT 2], uintT n, algT, nameT s1, timesT, nameT s2, .node 48 [] [algT, bitsT key]]
 rw [e0, hu2, c0, e1, a2, e3, a4, e5, e6, aq, ekey]
theorem fin3_total {g sb : Tree} (hg : TreeOk g) (hs : TreeOk sb) {n : Int} {s1 s2 : ByteArray} {key : List Int} {es : List Ex} {p : (Int × ByteArray × ByteArray × Unit × Unit × Unit) × List Int × List Ex × List Int -> Prop}
  (hp : ∀ sg, g = algT -> sb = bitsT sg -> By sg -> p ((n, s1, s2, (), (), ()), key, es, sg)) : Tot (fin3 g sb n s1 s2 key es) p := by
 unfold fin3
 rw [alg48]
 simp only [Option.bind_some, Tree.eta]
 by_cases a2 : g = algT
 rotate_left
 ·rw [thenJ_no (is73_f hg a2)]; exact Tot.no
 rw [thenJ_ok (by rw [a2]; exact is73_t okAlg), bits_eq hs]
 simp only [Option.bind_some]
 by_cases bq : (bitsO sb).2 = 0
 rotate_left
 ·rw [thenG_no (must76_f _ bq)]; exact Tot.no
 obtain ⟨sg, e, h, b⟩ := bits_inv hs bq
 rw [h, thenG_ok (must76 _)]
 exact Tot.yes (hp sg a2 e b)
theorem kid7 {l : List Tree} (h : (l.length : Int) = 7) : ∃ a0 a1 a2 a3 a4 a5 a6, l = [a0, a1, a2, a3, a4, a5, a6] := by
 match l, h with
 | [a0, a1, a2, a3, a4, a5, a6], _ => exact ⟨a0, a1, a2, a3, a4, a5, a6, rfl⟩
theorem kid8 {l : List Tree} (h : (l.length : Int) = 8) : ∃ a0 a1 a2 a3 a4 a5 a6 a7, l = [a0, a1, a2, a3, a4, a5, a6, a7] := by
 match l, h with
 | [a0, a1, a2, a3, a4, a5, a6, a7], _ => exact ⟨a0, a1, a2, a3, a4, a5, a6, a7, rfl⟩
def ceOf (y : (Int × ByteArray × ByteArray × Unit × Unit × Unit) × List Int × List Ex × List Int) : Ce := (y.1.1, y.1.2.1, y.1.2.2.1, y.2.1, y.2.2.1, y.2.2.2)
def tupOf (c : Ce) : (Int × ByteArray × ByteArray × Unit × Unit × Unit) × List Int × List Ex × List Int := ((c.1, c.2.1, c.2.2.1, (), (), ()), c.2.2.2.1, c.2.2.2.2.1, c.2.2.2.2.2)
theorem read_no {i : Tree} (h : ¬ (i.tag = 48 ∧ (i.kids.length : Int) = 3)) : Fc42 i = some (.inl (131, ())) := by
 simp only [Fc42, Tree.eta]
 rw [kids70_f h]
 rfl
theorem read_no2 {b : List Int} {t g sb : Tree} (h : ¬ (t.tag = 48 ∧ ((t.kids.length : Int) = 7 ∨ (t.kids.length : Int) = 8))) : Fc42 (.node 48 b [t, g, sb]) = some (.inl (131, ())) := by
 by_cases h1 : t.tag = 48
 ·have h2 : ¬ (t.kids.length : Int) = 7 := fun h2 => h ⟨h1, .inl h2⟩
  have h3 : ¬ (t.kids.length : Int) = 8 := fun h3 => h ⟨h1, .inr h3⟩
  simp only [Fc42]
  rw [kids70 (t := .node (Tree.node 48 b [t, g, sb]).tag (Tree.node 48 b [t, g, sb]).body (Tree.node 48 b [t, g, sb]).kids) (k := 48) (n := 3) rfl rfl]
  simp only [Option.bind_some]
  refine (if_pos (show (0 : Int) ≤ 0 ∧ (0 : Int) < ((([t, g, sb] : List Tree).length : Nat) : Int) from ⟨by omega, by simp⟩)).trans ?_
  refine (ite_t (show (t.tag == 48) = true from by simpa using h1)).trans ?_
  refine (itf_f (show (((t.kids.length : Nat) : Int) == 7) = false from by simpa using h2)).trans ?_
  exact congrArg (Option.bind · _) (chkN (show (((t.kids.length : Nat) : Int) == 8) = false from by simpa using h3))
 ·simp only [Fc42]
  rw [kids70 (t := .node (Tree.node 48 b [t, g, sb]).tag (Tree.node 48 b [t, g, sb]).body (Tree.node 48 b [t, g, sb]).kids) (k := 48) (n := 3) rfl rfl]
  simp only [Option.bind_some]
  refine (if_pos (show (0 : Int) ≤ 0 ∧ (0 : Int) < ((([t, g, sb] : List Tree).length : Nat) : Int) from ⟨by omega, by simp⟩)).trans ?_
  refine (ite_f (show (t.tag == 48) = false from by simpa using h1)).trans ?_
  exact congrArg (Option.bind · _) chkF
theorem fin3_ok {sg : List Int} (hs : By sg) (hl : sg.length ≤ 100000) {n : Int} {s1 s2 : ByteArray} {key : List Int} {es : List Ex} : fin3 algT (bitsT sg) n s1 s2 key es = some (.inr ((n, s1, s2, (), (), ()), key, es, sg)) := by
 unfold fin3
 rw [alg48]
 simp only [Option.bind_some, Tree.eta]
 rw [thenJ_ok (is73_t okAlg), bits_eq (okB hs hl), bitsO_T]
 simp only [Option.bind_some]
 rw [thenG_ok (must76 _)]
theorem read_total {m : Nat} {i : Tree} (hi : TreeOk i) (hk : lookE (m + 8) i = 0) (hs : i.enc.length ≤ 65536) : Tot (Fc42 i) fun y => i = certT (ceOf y) ∧ CeForm (ceOf y) := by
 by_cases h1 : i.tag = 48 ∧ (i.kids.length : Int) = 3
 rotate_left
 ·rw [read_no h1]; exact Tot.no
 obtain ⟨t, g, sb, hkids⟩ := kid3 h1.2
 have htm : t ∈ i.kids := by rw [hkids]; simp
 have hgm : g ∈ i.kids := by rw [hkids]; simp
 have hsm : sb ∈ i.kids := by rw [hkids]; simp
 have ei : i = .node 48 [] [t, g, sb] := Tree.ext3 h1.1 (lk_built hk (by rw [h1.1]; decide)) hkids
 have tg := hi.kid hgm
 have ts := hi.kid hsm
 have tt := hi.kid htm
 have kt := lk_kid hk htm
 have st := kid_small hk hs htm
 by_cases h2 : t.tag = 48 ∧ ((t.kids.length : Int) = 7 ∨ (t.kids.length : Int) = 8)
 rotate_left
 ·rw [ei, read_no2 h2]; exact Tot.no
 have hb : t.body = [] := lk_built kt (by rw [h2.1]; decide)
 rcases h2.2 with h7 | h8
 ·obtain ⟨a0, a1, a2, a3, a4, a5, a6, hl⟩ := kid7 h7
  have et : t = .node 48 [] [a0, a1, a2, a3, a4, a5, a6] := Tree.ext3 h2.1 hb hl
  have hall : ∀ c ∈ [a0, a1, a2, a3, a4, a5, a6], TreeOk c ∧ lookE (m + 2 + 4) c = 0 := fun c hc => by
   have hc' : c ∈ t.kids := by rw [hl]; exact hc
   exact ⟨tt.kid hc', lk_kid kt hc'⟩
  have key : Tot (Fc42 (.node 48 [] [.node 48 [] [a0, a1, a2, a3, a4, a5, a6], g, sb])) fun y => i = certT (ceOf y) ∧ CeForm (ceOf y) := by
   rw [e42_7]
   refine mid_total hall (fun n s1 s2 key n1 n2 bk h7 => fin3_total tg ts (fun sg eg es bs => ⟨?_, ⟨⟨n1, n2⟩, bk, fun e he => by simp [ceOf] at he, bs⟩⟩))
   show i = certT (n, s1, s2, key, [], sg)
   have hx := h7 [] sg
   unfold certT tbsT tbsK
   rw [if_pos rfl, ei, et, eg, es, hx]
  rw [<- et, <- ei] at key
  exact key
 ·obtain ⟨a0, a1, a2, a3, a4, a5, a6, a7, hl⟩ := kid8 h8
  have et : t = .node 48 [] [a0, a1, a2, a3, a4, a5, a6, a7] := Tree.ext3 h2.1 hb hl
  have hall : ∀ c ∈ [a0, a1, a2, a3, a4, a5, a6], TreeOk c ∧ lookE (m + 2 + 4) c = 0 := fun c hc => by
   have hc' : c ∈ t.kids := by
    rw [hl]
    simp only [List.mem_cons, List.not_mem_nil, or_false] at hc ⊢
    rcases hc with h | h | h | h | h | h | h <;> simp [h]
   exact ⟨tt.kid hc', lk_kid kt hc'⟩
  have h7m : a7 ∈ t.kids := by rw [hl]; simp
  have t7 := tt.kid h7m
  have k7 := lk_kid kt h7m
  have s7 := kid_small kt st h7m
  have key : Tot (Fc42 (.node 48 [] [.node 48 [] [a0, a1, a2, a3, a4, a5, a6, a7], g, sb])) fun y => i = certT (ceOf y) ∧ CeForm (ceOf y) := by
   rw [e42_8]
   refine mid_total hall (fun n s1 s2 key n1 n2 bk h7 => ?_)
   show Tot (thenG (Fc70 (Tree.node a7.tag a7.body a7.kids, 163, 1)) _) _
   rw [Tree.eta]
   by_cases b7 : a7.tag = 163 ∧ (a7.kids.length : Int) = 1
   rotate_left
   ·rw [thenG_no (kids70_f b7)]; exact Tot.no
   obtain ⟨x, hx⟩ := kid1 b7.2
   have hxm : x ∈ a7.kids := by rw [hx]; simp
   have e7 : a7 = .node 163 [] [x] := Tree.ext3 b7.1 (lk_built k7 (by rw [b7.1]; decide)) hx
   have tx := t7.kid hxm
   have kx' := lk_kid k7 hxm
   have sx := kid_small k7 s7 hxm
   rw [thenG_ok (kids70 b7.1 b7.2), hx, if_pos i1]
   show Tot (if (x.tag == 48) = true then thenG (Fc71 (decide ((x.kids.length : Int) > 0))) _ else _) _
   by_cases b8 : x.tag = 48
   rotate_left
   ·rw [ite_f (by simpa using b8)]; exact Tot.no
   rw [ite_t (by simpa using b8)]
   by_cases b9 : (x.kids.length : Int) > 0
   rotate_left
   ·rw [thenG_no (chkN (decide_eq_false b9))]; exact Tot.no
   rw [thenG_ok (chk (decide_eq_true b9))]
   have ex' : x = .node 48 [] x.kids := Tree.ext3 b8 (lk_built kx' (by rw [b8]; decide)) rfl
   have hxl : x.kids.length ≤ 1000000 := by
    have hz : x.kids.length ≤ (Tree.encs x.kids).length := by
     have : ∀ l : List Tree, l.length ≤ (Tree.encs l).length := by
      intro l
      induction l with
      | nil => simp
      | cons a l ih =>
       have := List.length_pos_iff.2 (enc_pos a)
       simp only [List.length_cons, Tree.encs, List.length_append]
       omega
     exact this _
    rw [Tree.enc_eq, b8] at sx
    simp only [show bltT 48 = true from by decide, if_true, List.length_cons, List.length_append] at sx
    omega
   rcases exts_total (y := [.node 48 [] [a0, a1, a2, a3, a4, a5, a6, a7], g, sb]) (u := (0, ByteArray.empty, ByteArray.empty, (), (), ())) (v := (n, s1, s2, (), (), ())) (row := key) (n := m + 3) hxl (fun c hc => tx.kid hc) (fun c hc => lk_kid kx' hc) (fun c hc => kid_small kx' sx hc) x.kids.length 0 [] rfl (Nat.zero_le _) rfl (by simp) (fun e he => by simp at he) with h | ⟨es, hes, hP, h⟩
   ·have h' : loopO stepc42_0 ([.node 48 [] [a0, a1, a2, a3, a4, a5, a6, a7], g, sb], (kx [x] 0).kids, ((kx [x] 0).kids.length : Int), 0, (0, ByteArray.empty, ByteArray.empty, (), (), ()), (n, s1, s2, (), (), ()), [], key) = some (.inl (131, ())) := h
    rw [h']
    exact Tot.no
   ·have h' : loopO stepc42_0 ([.node 48 [] [a0, a1, a2, a3, a4, a5, a6, a7], g, sb], (kx [x] 0).kids, ((kx [x] 0).kids.length : Int), 0, (0, ByteArray.empty, ByteArray.empty, (), (), ()), (n, s1, s2, (), (), ()), [], key) = some (.inr ([.node 48 [] [a0, a1, a2, a3, a4, a5, a6, a7], g, sb], (0, ByteArray.empty, ByteArray.empty, (), (), ()), (n, s1, s2, (), (), ()), key, es)) := h
    rw [h']
    simp only [Option.bind_some]
    have c1 : (0 : Int) ≤ 1 ∧ (1 : Int) < ((([.node 48 [] [a0, a1, a2, a3, a4, a5, a6, a7], g, sb] : List Tree).length : Nat) : Int) := ⟨by omega, by simp⟩
    have c2 : (0 : Int) ≤ 2 ∧ (2 : Int) < ((([.node 48 [] [a0, a1, a2, a3, a4, a5, a6, a7], g, sb] : List Tree).length : Nat) : Int) := ⟨by omega, by simp⟩
    rw [if_pos c1, if_pos c2]
    refine fin3_total (n := n) (s1 := s1) (s2 := s2) (key := key) (es := es) tg ts (fun sg eg esb bs => ⟨?_, ⟨⟨n1, n2⟩, bk, hP, bs⟩⟩)
    show i = certT (n, s1, s2, key, es, sg)
    have hne : es ≠ [] := fun h => by rw [hes, h] at b9; simp at b9
    have h77 := h7 es sg
    have h88 : [a0, a1, a2, a3, a4, a5, a6, a7] = tbs7 (n, s1, s2, key, es, sg) ++ [a7] := by rw [<- h77]; rfl
    unfold certT tbsT tbsK
    rw [if_neg hne, ei, et, eg, esb, h88, e7, ex', hes]
  rw [<- et, <- ei] at key
  exact key
end Go.Abs
namespace Go.Abs
theorem sub_ok {n : Nat} {t c : Tree} (hk : lookE (n + 1) t = 0) (hs : t.enc.length ≤ 65536) (hc : c ∈ t.kids) : lookE n c = 0 ∧ c.enc.length ≤ 65536 := ⟨lk_kid hk hc, kid_small hk hs hc⟩
theorem str_size {n : Nat} {s : ByteArray} (hk : lookE (n + 4) (nameT s) = 0) (hs : (nameT s).enc.length ≤ 65536) : s.size ≤ 65536 := by
 obtain ⟨k1, s1⟩ := sub_ok (c := .node 49 [] [.node 48 [] [objT [2, 5, 4, 3], strT 12 (toBytes s)]]) hk hs (by simp [nameT, Tree.kids])
 obtain ⟨k2, s2⟩ := sub_ok (c := .node 48 [] [objT [2, 5, 4, 3], strT 12 (toBytes s)]) k1 s1 (by simp [Tree.kids])
 obtain ⟨k3, s3⟩ := sub_ok (c := strT 12 (toBytes s)) k2 s2 (by simp [Tree.kids])
 have := body_small k3 s3
 have e : (strT 12 (toBytes s)).body = toBytes s := rfl
 rw [e, toBytes_len] at this
 exact this
theorem bits_size {n : Nat} {b : List Int} (hk : lookE n (bitsT b) = 0) (hs : (bitsT b).enc.length ≤ 65536) : b.length ≤ 65536 := by
 have := body_small hk hs
 have e : (bitsT b).body = 0 :: b := rfl
 rw [e, List.length_cons] at this
 omega
theorem tbs_enc {c : Ce} (hk : lookE 16 (certT c) = 0) (hs : (certT c).enc.length ≤ 65536) : encO (tbsT c) = ((tbsT c).enc, 0) := by
 obtain ⟨k1, s1⟩ := sub_ok (n := 15) (c := tbsT c) hk hs (by simp [certT, Tree.kids])
 unfold encO
 rw [if_pos (lk_mono k1), if_pos s1]
end Go.Abs
namespace Go.Abs
def cvO : (Tree × List Int) ⊕ Int -> ((Int × Unit × Unit) × List Int × List Tree × List Int) ⊕ (Int × Unit)
 | .inl (t, r) => .inl ((t.tag, (), ()), t.body, t.kids, r)
 | .inr e => .inr (e, ())
theorem kids_loopO {G : List Int × Int -> Option (((Int × Unit × Unit) × List Int × List Tree × List Int) ⊕ (Int × Unit))} {g : List Int -> (Tree × List Int) ⊕ Int} {d t : Int} {out : List Int} (hd : 0 ≤ d ∧ d < 100)
  (hG : ∀ s, By s -> s.length ≤ 65536 -> G (s, d + 1) = some (cvO (g s))) (hs : ∀ s t r, g s = .inl (t, r) -> r.length < s.length) (hby : ∀ s t r, By s -> g s = .inl (t, r) -> By r) :
  ∀ (m : Nat) (s : List Int) (acc : List Tree), s.length ≤ m -> By s -> acc.length + s.length ≤ 65536 ->
   loopO (stepc68o_0 G) (d, (0, (), ()), (t, (), ()), acc, s, out) = some (match rdKs g m s with | .inl ks => .inr ((0, (), ()), (t, (), ()), acc ++ ks, out) | .inr e => .inl (e, ())) := by
 intro m
 induction m with
 | zero =>
  intro s acc hl hb ha
  have : s = [] := List.eq_nil_of_length_eq_zero (by omega)
  subst this
  rw [loopO_eq]
  have : stepc68o_0 G (d, (0, (), ()), (t, (), ()), acc, [], out) = some (.inr (.inr ((0, (), ()), (t, (), ()), acc, out))) := rfl
  rw [this]
  simp [rdKs]
 | succ m ih =>
  intro s acc hl hb ha
  cases s with
  | nil =>
   rw [loopO_eq]
   have : stepc68o_0 G (d, (0, (), ()), (t, (), ()), acc, [], out) = some (.inr (.inr ((0, (), ()), (t, (), ()), acc, out))) := rfl
   rw [this]
   simp [rdKs]
  | cons x s =>
   rw [loopO_eq]
   have d1 : decide (((x :: s).length : Int) > 0) = true := decide_eq_true (by simp only [List.length_cons]; omega)
   simp only [stepc68o_0, d1, if_true]
   rw [wi64 (by omega) (by omega), hG _ hb (by omega)]
   rw [rdKs_cons]
   cases hg : g (x :: s) with
   | inr e => rfl
   | inl p =>
    obtain ⟨k, r⟩ := p
    have h1 := hs _ _ _ hg
    have h2 := hby _ _ _ hb hg
    simp only [cvO, Option.bind_some]
    rw [if_pos (okB56 (by simp only [List.length_append, List.length_cons, List.length_nil] at *; omega))]
    simp only [Tree.eta]
    rw [ih r (acc ++ [k]) (by simp only [List.length_cons] at *; omega) h2 (by simp only [List.length_append, List.length_cons, List.length_nil] at *; omega)]
    cases rdKs g m r with
    | inl ks => simp
    | inr e => rfl
theorem item_eqO : ∀ (k f : Nat) (s : List Int), f < k -> f ≤ 17 -> By s -> s.length ≤ 65536 -> FRc68o k (s, 17 - (f : Int)) = some (cvO (rdI f s)) := by
 intro k
 induction k with
 | zero => intro f s h; omega
 | succ k ih =>
  intro f s hf hf2 hs hl
  show Bc68o (FRc68o k) (s, 17 - (f : Int)) = _
  unfold Bc68o
  cases f with
  | zero => rfl
  | succ f =>
   have d1 : decide ((17 : Int) - ((f + 1 : Nat) : Int) > 16) = false := decide_eq_false (by omega)
   simp only [d1, Bool.false_eq_true, if_false, take_eq]
   cases s with
   | nil => rfl
   | cons x s =>
    obtain ⟨hx, hs⟩ := By.cons.1 hs
    simp only [Option.bind_some, none_tag hx.1 hx.2]
    rw [rdI_cons]
    by_cases h1 : x % 32 = 31
    ·rw [if_pos (decide_eq_true h1), if_pos h1]; rfl
    ·rw [if_neg (by simpa using h1), if_neg h1, len_eq hs]
     cases hr : rdLen s with
     | inr e => rfl
     | inl p =>
      obtain ⟨n, r⟩ := p
      obtain ⟨e1, e2, e3⟩ := rdLen_spec hs hr
      have hrl := rdLen_short hr
      have hrb := rdLen_by hs hr
      simp only [sw, Option.bind_some, cut_eq e2]
      by_cases h2 : (r.length : Int) < n
      ·rw [if_pos h2, if_pos h2]; rfl
      ·rw [if_neg h2, if_neg h2]
       have e58 : Fc99 x = some (bltT x) := by simp only [Fc99, blt_tag hx.1 hx.2]
       simp only [Option.bind_some, e58]
       have hlen : (r.take n.toNat).length = n.toNat := take_ge (by omega)
       simp only [List.length_cons] at hl
       cases hb : bltT x with
       | false =>
        simp only [Bool.not_false, if_true, Bool.false_eq_true, if_false]
        have e44 : Fc50 (r.take n.toNat) = some (r.take n.toNat) := by
         unfold Fc50
         rw [if_pos (okB1 (by rw [hlen]; omega))]
        rw [e44]; rfl
       | true =>
        simp only [Bool.not_true, Bool.false_eq_true, if_false, if_true]
        rw [kids_loopO (g := rdI f) (by omega) (fun s' h3 h4 => by
         have := ih f s' (by omega) (by omega) h3 h4
         rw [show (17 : Int) - ((f + 1 : Nat) : Int) + 1 = 17 - (f : Int) by omega]
         exact this) (fun s t r h => rdI_short h) (fun s t r h1 h2 => rdI_by h1 h2) n.toNat (r.take n.toNat) [] (by omega) (hrb.take _) (by simp only [List.length_nil]; omega)]
        cases rdKs (rdI f) n.toNat (r.take n.toNat) with
        | inl ks => simp [cvO, Tree.tag, Tree.body, Tree.kids]
        | inr e => rfl
def gO (p : Tree × Int) : (Int × Unit × Unit) × Int × List Int × List Tree := ((p.1.tag, (), ()), p.2, p.1.body, p.1.kids)
theorem decode_eqO {b : List Int} (hb : By b) : Fc41o b = some (((decB b).1.tag, (), ()), (decB b).2, (decB b).1.body, (decB b).1.kids) := by
 have e : FMc41o (b, 0, (0, (), ())) = some (gO (decB b)) := by
  unfold FMc41o decB
  dsimp only
  by_cases h : 65536 < b.length
  ·rw [ite_t (decide_eq_true (by omega)), if_pos h]
   rfl
  ·rw [ite_f (decide_eq_false (by omega)), if_neg h]
   have h40 : Fc68o (b, 1) = some (cvO (rdI 16 b)) := item_eqO 20 16 b (by omega) (by omega) hb (by omega)
   rw [h40]
   cases hr : rdI 16 b with
   | inr n =>
    have hn := rdI_err hr
    have h1 : FPc66o n (0, (0, (), ()), [], []) = some (.inr (n, (0, (), ()))) := by
     unfold FPc66o
     simp only []
     rw [ite_t (by simp; omega)]
    simp only [cvO, Option.bind_some]
    rw [h1]
    rfl
   | inl p =>
    obtain ⟨t, r⟩ := p
    simp only [cvO, Option.bind_some]
    cases r with
    | nil =>
     rw [ite_f (decide_eq_false (by simp)), if_pos rfl]
     rfl
    | cons x r =>
     rw [ite_t (decide_eq_true (by simp only [List.length_cons]; omega)), if_neg (by simp)]
     rfl
 show (FMc41o (b, 0, (0, (), ()))).bind _ = _
 rw [e]
 rfl
end Go.Abs
namespace Go.Abs
theorem same33_loop0 {G : Tree × Tree -> Option Bool} {a b : Tree} (hl : a.body.length = b.body.length) (ha : a.body.length ≤ 9000000000000000) :
  ∀ (j k : Nat), j = a.body.length - k -> k ≤ a.body.length -> loopO (stepc33_0 G) ((k : Int), (a.tag, a.body, a.kids), (b.tag, b.body, b.kids)) =
   some (if a.body.drop k = b.body.drop k then .inr ((a.tag, a.body, a.kids), (b.tag, b.body, b.kids)) else .inl false) := by
 intro j
 induction j with
 | zero =>
  intro k hj hk
  have e : k = a.body.length := by omega
  subst e
  rw [loopO_eq]
  simp only [stepc33_0, Int.lt_irrefl, decide_false, Bool.false_eq_true, if_false]
  rw [if_pos (by rw [List.drop_length, hl, List.drop_length])]
 | succ j ih =>
  intro k hj hk
  have hka : k < a.body.length := by omega
  have hkb : k < b.body.length := by omega
  have d1 : decide (((k : Nat) : Int) < (a.body.length : Int)) = true := decide_eq_true (by omega)
  rw [loopO_eq]
  simp only [stepc33_0, d1, if_true]
  rw [if_pos (by omega), if_pos (by omega), getD_at hka, getD_at hkb]
  have da : a.body.drop k = a.body[k] :: a.body.drop (k + 1) := List.drop_eq_getElem_cons hka
  have db : b.body.drop k = b.body[k] :: b.body.drop (k + 1) := List.drop_eq_getElem_cons hkb
  by_cases h : a.body[k] = b.body[k]
  ·have d2 : (a.body[k] != b.body[k]) = false := by simpa using h
   rw [if_neg (by rw [d2]; decide), wi64 (by omega) (by omega)]
   have ek : ((k : Nat) : Int) + 1 = ((k + 1 : Nat) : Int) := by omega
   rw [ek]
   show loopO (stepc33_0 G) (((k + 1 : Nat) : Int), (a.tag, a.body, a.kids), (b.tag, b.body, b.kids)) = _
   rw [ih (k + 1) (by omega) (by omega)]
   have e := drop_iff hka hkb h
   simp only [e]
  ·have d2 : (a.body[k] != b.body[k]) = true := by simpa using h
   rw [if_pos d2]
   have e := drop_ne hka hkb h
   rw [if_neg e]
open Classical in
theorem same33_loop1 {G : Tree × Tree -> Option Bool} {a b : Tree} (hl : a.kids.length = b.kids.length) (ha : a.kids.length ≤ 9000000000000000)
  (hG : ∀ c ∈ a.kids, ∀ d ∈ b.kids, G (c, d) = some (decide (c = d))) :
  ∀ (j k : Nat), j = a.kids.length - k -> k ≤ a.kids.length -> loopO (stepc33_1 G) ((k : Int), (a.tag, a.body, a.kids), (b.tag, b.body, b.kids)) =
   some (if a.kids.drop k = b.kids.drop k then .inr () else .inl false) := by
 intro j
 induction j with
 | zero =>
  intro k hj hk
  have e : k = a.kids.length := by omega
  subst e
  rw [loopO_eq]
  simp only [stepc33_1, Int.lt_irrefl, decide_false, Bool.false_eq_true, if_false]
  rw [if_pos (by rw [List.drop_length, hl, List.drop_length])]
 | succ j ih =>
  intro k hj hk
  have hka : k < a.kids.length := by omega
  have hkb : k < b.kids.length := by omega
  have d1 : decide (((k : Nat) : Int) < (a.kids.length : Int)) = true := decide_eq_true (by omega)
  rw [loopO_eq]
  simp only [stepc33_1, d1, if_true]
  rw [if_pos (by omega), if_pos (by omega), kid_at hka, kid_at hkb, Tree.eta, Tree.eta, hG _ (List.getElem_mem hka) _ (List.getElem_mem hkb)]
  have da : a.kids.drop k = a.kids[k] :: a.kids.drop (k + 1) := List.drop_eq_getElem_cons hka
  have db : b.kids.drop k = b.kids[k] :: b.kids.drop (k + 1) := List.drop_eq_getElem_cons hkb
  simp only [Option.bind_some]
  by_cases h : a.kids[k] = b.kids[k]
  ·rw [decide_eq_true h, if_neg (by decide), wi64 (by omega) (by omega)]
   have ek : ((k : Nat) : Int) + 1 = ((k + 1 : Nat) : Int) := by omega
   rw [ek]
   show loopO (stepc33_1 G) (((k + 1 : Nat) : Int), (a.tag, a.body, a.kids), (b.tag, b.body, b.kids)) = _
   rw [ih (k + 1) (by omega) (by omega)]
   have e := drop_iff hka hkb h
   simp only [e]
  ·rw [decide_eq_false h, if_pos (by decide)]
   have e := drop_ne hka hkb h
   rw [if_neg e]
open Classical in
theorem same33_eq : ∀ (k : Nat) (a b : Tree), a.rank < k -> TreeOk a -> FRc33 k (a, b) = some (decide (a = b)) := by
 intro k
 induction k with
 | zero => intro a b h; omega
 | succ k ih =>
  intro a b hr ha
  show Bc33 (FRc33 k) (a, b) = _
  simp only [Bc33]
  have hlen := ha.len
  by_cases h1 : a.tag = b.tag
  ·rw [if_pos (by simp [h1])]
   by_cases h2 : a.body.length = b.body.length
   ·rw [if_pos (by simp [h2])]
    by_cases h3 : a.kids.length = b.kids.length
    ·rw [if_neg (by simp [h3])]
     have e0 : (0 : Int) = ((0 : Nat) : Int) := rfl
     rw [e0, same33_loop0 h2 (by omega) _ 0 rfl (Nat.zero_le _)]
     simp only [List.drop_zero]
     by_cases h4 : a.body = b.body
     ·rw [if_pos h4]
      simp only [Option.bind_some]
      rw [same33_loop1 h3 (by omega) (fun c hc d hd => ih c d (by have := Tree.rank_kid hc; omega) (ha.kid hc)) _ 0 rfl (Nat.zero_le _)]
      simp only [List.drop_zero]
      by_cases h5 : a.kids = b.kids
      ·rw [if_pos h5, decide_eq_true (Tree.ext' h1 h4 h5)]; rfl
      ·rw [if_neg h5, decide_eq_false (fun h => h5 (by rw [h]))]; rfl
     ·rw [if_neg h4, decide_eq_false (fun h => h4 (by rw [h]))]; rfl
    ·have d : ((a.kids.length : Int) != (b.kids.length : Int)) = true := by simp; omega
     rw [if_pos d, decide_eq_false (fun h => h3 (by rw [h]))]
   ·have d : ((a.body.length : Int) != (b.body.length : Int)) = true := by simp; omega
    rw [if_neg (by rw [d]; decide), decide_eq_false (fun h => h2 (by rw [h]))]
  ·have d : (a.tag != b.tag) = true := by simpa using h1
   rw [if_neg (by rw [d]; decide), decide_eq_false (fun h => h1 (by rw [h]))]
open Classical in
theorem same33 {a b : Tree} (ha : TreeOk a) : Fc33 (a, b) = some (decide (a = b)) := same33_eq (a.rank + 1) a b (by omega) ha
theorem step33_eq {t : Tree} {k : Nat} {v : Int} {r : List Int} (hb : By t.body) (hkl : k < t.body.length) (hl : t.body.length ≤ 65536) (h0 : 0 ≤ v) (h1 : v ≤ mx) (hr : r.length ≤ 100000) :
  stepc56_0 (v, (k : Int), (t.tag, t.body, t.kids), r) = if 128 ≤ t.body[k] then some (.inl (128 * v + t.body[k] % 128, ((k + 1 : Nat) : Int), (t.tag, t.body, t.kids), r)) else
   some (.inl (0, ((k + 1 : Nat) : Int), (t.tag, t.body, t.kids), put32 r (128 * v + t.body[k] % 128))) := by
 have hx := hb t.body[k] (List.getElem_mem hkl)
 have ek : ((k : Nat) : Int) + 1 = ((k + 1 : Nat) : Int) := by omega
 have d1 : decide (((k : Nat) : Int) < (t.body.length : Int)) = true := decide_eq_true (by omega)
 unfold mx at h1
 simp only [stepc56_0]
 rw [ite_t d1, ite_f (decide_eq_false (by omega)), if_pos (by omega), if_pos (by omega), getD_at hkl, tmodP hx.1, wu64 (n := 128 * v) (by omega) (by omega), wu64 (n := t.body[k] % 128) (by omega) (by omega), wu64 (n := _ + _) (by omega) (by omega), wi64 (by omega) (by omega), ek]
 by_cases c2 : 128 ≤ t.body[k]
 ·rw [ite_t (decide_eq_true (by omega)), if_pos c2]
 ·have hge : 0 ≤ 128 * v + t.body[k] % 128 := by omega
  have hfb := fst2_bd hge
  rw [ite_f (decide_eq_false (by omega)), if_neg c2, fst2_eq hge (by omega), wu64 (n := 40 * fst2 (128 * v + t.body[k] % 128)) (by omega) (by omega), wu64 (n := _ - _) (by omega) (by omega)]
  unfold put32
  by_cases hr0 : r = []
  ·have d3 : ((r.length : Int) == 0) = true := by rw [hr0]; rfl
   rw [ite_t d3, if_pos (okB8 (by show r.length + 1 ≤ _; omega)), if_pos (okB8 (by show (r ++ [_]).length + 1 ≤ _; rw [List.length_append]; simp only [List.length_cons, List.length_nil]; omega)), if_pos hr0, hr0]
   rfl
  ·have hp := List.length_pos_iff.2 hr0
   have d3 : ((r.length : Int) == 0) = false := beq_eq_false_iff_ne.2 (by omega)
   rw [ite_f d3, if_pos (okB8 (by show r.length + 1 ≤ _; omega)), if_neg hr0]
   rfl
theorem loop33 {t : Tree} (hb : By t.body) (hl : t.body.length ≤ 65536) : ∀ (j k : Nat) (v : Int) (r : List Int), j = t.body.length - k -> k ≤ t.body.length -> 0 ≤ v -> v ≤ 1000000000000 -> W64 r -> r.length ≤ k + 1 ->
  Ret (α := (Int × List Int) ⊕ ((Int × List Int × List Tree) × List Int)) (loopO stepc56_0 (v, (k : Int), (t.tag, t.body, t.kids), r)) fun z =>
   (z = .inl (127, []) ∨ ∃ l, z = .inr ((t.tag, t.body, t.kids), l) ∧ W64 l) ∧ ∀ fresh vals, v ≤ mx -> rdF fresh v (t.body.drop k) = some vals -> z = .inr ((t.tag, t.body, t.kids), ext r vals) := by
 intro j
 induction j with
 | zero =>
  intro k v r hj hk h0 h1 hw hr
  have e : k = t.body.length := by omega
  subst e
  refine ⟨.inr ((t.tag, t.body, t.kids), r), ?_, .inr ⟨r, rfl, hw⟩, ?_⟩
  ·rw [loopO_eq]
   simp only [stepc56_0, Int.lt_irrefl, decide_false, Bool.false_eq_true, if_false]
  ·rw [List.drop_length]
   intro fresh vals _ h
   cases fresh with
   | true => cases h; rfl
   | false => cases h
 | succ j ih =>
  intro k v r hj hk h0 h1 hw hr
  have hkl : k < t.body.length := by omega
  have hdrop : t.body.drop k = t.body[k] :: t.body.drop (k + 1) := List.drop_eq_getElem_cons hkl
  have hx := hb t.body[k] (List.getElem_mem hkl)
  rw [loopO_thenO, hdrop]
  by_cases hv : v ≤ mx
  ·have hv' := hv
   unfold mx at hv'
   rw [step33_eq hb hkl hl h0 hv (by omega)]
   by_cases c2 : 128 ≤ t.body[k]
   ·rw [if_pos c2]
    obtain ⟨z, hz, z1, z2⟩ := ih (k + 1) (128 * v + t.body[k] % 128) r (by omega) (by omega) (by omega) (by omega) hw (by omega)
    refine ⟨z, hz, z1, fun fresh vals _ h => ?_⟩
    rw [rdF_cons] at h
    split at h
    ·cases h
    ·split at h
     ·cases h
     ·rename_i c1
      exact z2 false vals (by omega) h
   ·rw [if_neg c2]
    have hpl2 : (put32 r (128 * v + t.body[k] % 128)).length ≤ k + 2 := by
     unfold put32
     split
     ·simp
     ·simp; omega
    obtain ⟨z, hz, z1, z2⟩ := ih (k + 1) 0 (put32 r (128 * v + t.body[k] % 128)) (by omega) (by omega) (Int.le_refl _) (by omega) (put32_w64 hw (by omega) (by omega)) (by omega)
    refine ⟨z, hz, z1, fun fresh vals _ h => ?_⟩
    rw [rdF_cons] at h
    split at h
    ·cases h
    ·split at h
     ·cases h
     ·rename_i c1
      cases hq : rdF true 0 (t.body.drop (k + 1)) with
      | none => rw [hq] at h; cases h
      | some l =>
       rw [hq] at h
       simp only [Option.map_some, Option.some.injEq] at h
       subst h
       rw [z2 true l (by unfold mx; omega) hq]
       unfold put32
       rw [ext_step]
  ·have hv' := hv
   unfold mx at hv'
   have d1 : decide (((k : Nat) : Int) < (t.body.length : Int)) = true := decide_eq_true (by omega)
   have e : stepc56_0 (v, (k : Int), (t.tag, t.body, t.kids), r) = some (.inr (.inl (127, []))) := by
    simp only [stepc56_0]
    rw [ite_t d1, ite_t (decide_eq_true (by omega))]
   rw [e]
   exact ⟨_, rfl, .inl rfl, fun fresh vals h => absurd h hv⟩
open Classical in
theorem refOid_eq {t : Tree} (ht : TreeOk t) (hz : t.body.length ≤ 65536) : Fc56 t = some (oidO t) := by
 simp only [Fc56]
 have hby := By.of ht.byt
 by_cases h1 : t.tag = 6
 ·rw [ite_f (b := (t.tag != 6)) (by rw [h1]; rfl)]
  obtain ⟨z, hz2, z1, z2⟩ := loop33 hby hz _ 0 0 [] rfl (Nat.zero_le _) (Int.le_refl _) (by omega) (fun y hy => by simp at hy) (by simp)
  have hz2 : loopO stepc56_0 (0, 0, (t.tag, t.body, t.kids), []) = some z := hz2
  rw [List.drop_zero] at z2
  rw [hz2]
  simp only [Option.bind_some]
  have tail : ∀ l, W64 l -> ((Fc92r l).bind fun (y8, y9, y10) =>
      (Fc33 ((Tree.node y8.tag y8.body y8.kids), (Tree.node t.tag t.body t.kids))).bind fun y11 =>
       if (y9 != 0) = false then
        if (!y11) = true then
         some (([] : List Int), (127 : Int))
        else
         some (y10, 0)
       else
        some (([] : List Int), 127)) = some (if ofO l = (t, 0) then (l, 0) else ([], 127)) := by
   intro l hw
   rw [refOfOidR_eq hw]
   simp only [Option.bind_some]
   rw [Tree.eta, Tree.eta, same33 (ofO_tree hw)]
   simp only [Option.bind_some]
   by_cases e1 : (ofO l).2 = 0
   ·rw [itf_f (by rw [e1]; rfl)]
    by_cases e2 : (ofO l).1 = t
    ·have e3 : ofO l = (t, 0) := Prod.ext e2 e1
     rw [if_pos e3, decide_eq_true e2]; rfl
    ·have e3 : ¬ ofO l = (t, 0) := fun e => e2 (by rw [e])
     rw [if_neg e3, decide_eq_false e2]; rfl
   ·have e3 : ¬ ofO l = (t, 0) := fun e => e1 (by rw [e])
    rw [itf_t (bne_iff_ne.2 e1), if_neg e3]
  by_cases ho : (oidO t).2 = 0
  ·obtain ⟨o1, o2, o3, _⟩ := of_oid ht ho
   have hform : ¬ (t.kids ≠ [] ∨ t.body = []) := by
    intro h2; rw [oidO_form h1 h2] at ho; simp at ho
   have hk : t.kids = [] := by
    by_cases hk : t.kids = []
    ·exact hk
    ·exact absurd (.inl hk) hform
   have hb : t.body ≠ [] := fun h => hform (.inr h)
   cases hr : rdF true 0 t.body with
   | none => rw [oidO_none h1 hk hb hr] at ho; simp at ho
   | some vals =>
    have e := z2 true vals (by unfold mx; omega) hr
    subst e
    by_cases h5 : 20 < (ext [] vals).length
    ·rw [oidO_long h1 hk hb hr h5] at ho; simp at ho
    ·have e5 := oidO_ok h1 hk hb hr h5
     rw [e5] at o1 o2 ⊢
     have := tail (ext [] vals) o2
     rw [if_pos o1] at this
     exact this
  ·have hbad : oidO t = ([], 127) := by
    by_cases h2 : t.kids ≠ [] ∨ t.body = []
    ·exact oidO_form h1 h2
    ·have hk : t.kids = [] := by
      by_cases hk : t.kids = []
      ·exact hk
      ·exact absurd (.inl hk) h2
     have hb : t.body ≠ [] := fun h => h2 (.inr h)
     cases hr : rdF true 0 t.body with
     | none => exact oidO_none h1 hk hb hr
     | some vals =>
      by_cases h5 : 20 < (ext [] vals).length
      ·exact oidO_long h1 hk hb hr h5
      ·rw [oidO_ok h1 hk hb hr h5] at ho; exact absurd rfl ho
   rw [hbad]
   rcases z1 with e | ⟨l, e, hw⟩
   ·subst e; rfl
   ·subst e
    have := tail l hw
    have hne : ¬ ofO l = (t, 0) := fun e => by
     have hok : okOf l := by
      by_cases hok : okOf l
      ·exact hok
      ·rw [ofO_bad hok] at e; injection e with _ e2; simp at e2
     have := oid_of hw hok
     rw [e] at this
     simp only at this
     rw [this] at ho; exact ho rfl
    rw [if_neg hne] at this
    exact this
 ·rw [oidO_tag h1, ite_t (bne_iff_ne.2 h1)]
end Go.Abs
namespace Go.Abs
structure CeFS (c : Ce) : Prop where
 ser : 0 ≤ c.1 ∧ c.1 < 18446744073709551616
 iss : c.2.1.size ≤ 65536
 sub : c.2.2.1.size ≤ 65536
 key : By c.2.2.2.1 ∧ c.2.2.2.1.length ≤ 65536
 num : c.2.2.2.2.1.length ≤ 65536
 exs : ∀ e ∈ c.2.2.2.2.1, exP e ∧ e.2.2.length ≤ 65536
 sig : By c.2.2.2.2.2 ∧ c.2.2.2.2.2.length ≤ 65536
theorem form_fs {c : Ce} (hf : CeForm c) (hk : lookE 16 (certT c) = 0) (hs : (certT c).enc.length ≤ 65536) : CeFS c := by
 obtain ⟨k1, s1⟩ := sub_ok (n := 15) (c := tbsT c) hk hs (by simp [certT, Tree.kids])
 obtain ⟨k2, s2⟩ := sub_ok (n := 15) (c := bitsT c.2.2.2.2.2) hk hs (by simp [certT, Tree.kids])
 have hmem : ∀ t ∈ tbs7 c, t ∈ (tbsT c).kids := by
  intro t ht
  show t ∈ tbsK c
  unfold tbsK
  split
  ·exact ht
  ·exact List.mem_append_left _ ht
 obtain ⟨k3, s3⟩ := sub_ok (n := 14) (c := nameT c.2.1) k1 s1 (hmem _ (by simp [tbs7]))
 obtain ⟨k4, s4⟩ := sub_ok (n := 14) (c := nameT c.2.2.1) k1 s1 (hmem _ (by simp [tbs7]))
 obtain ⟨k5, s5⟩ := sub_ok (n := 14) (c := .node 48 [] [algT, bitsT c.2.2.2.1]) k1 s1 (hmem _ (by simp [tbs7]))
 obtain ⟨k6, s6⟩ := sub_ok (n := 13) (c := bitsT c.2.2.2.1) k5 s5 (by simp [Tree.kids])
 have z1 := str_size (n := 10) k3 s3
 have z2 := str_size (n := 10) k4 s4
 have z3 := bits_size k6 s6
 have z4 := bits_size k2 s2
 have hex : c.2.2.2.2.1.length ≤ 65536 ∧ ∀ e ∈ c.2.2.2.2.1, e.2.2.length ≤ 65536 := by
  by_cases hx : c.2.2.2.2.1 = []
  ·rw [hx]; exact ⟨by simp, fun e he => by simp at he⟩
  ·have hm : Tree.node 163 [] [.node 48 [] (c.2.2.2.2.1.map extT)] ∈ (tbsT c).kids := by
    show _ ∈ tbsK c
    unfold tbsK
    rw [if_neg hx]
    exact List.mem_append_right _ (by simp)
   obtain ⟨k7, s7⟩ := sub_ok (n := 14) k1 s1 hm
   obtain ⟨k8, s8⟩ := sub_ok (n := 13) (c := .node 48 [] (c.2.2.2.2.1.map extT)) k7 s7 (by simp [Tree.kids])
   refine ⟨?_, fun e he => ?_⟩
   ·have hz : (c.2.2.2.2.1.map extT).length ≤ (Tree.encs (c.2.2.2.2.1.map extT)).length := by
     have : ∀ l : List Tree, l.length ≤ (Tree.encs l).length := by
      intro l
      induction l with
      | nil => simp
      | cons a l ih =>
       have := List.length_pos_iff.2 (enc_pos a)
       simp only [List.length_cons, Tree.encs, List.length_append]
       omega
     exact this _
    rw [Tree.enc_eq] at s8
    simp only [show bltT (Tree.node 48 [] (c.2.2.2.2.1.map extT)).tag = true from by show bltT 48 = true; decide, if_true, List.length_cons, List.length_append] at s8
    have e : (Tree.node 48 [] (c.2.2.2.2.1.map extT)).kids = c.2.2.2.2.1.map extT := rfl
    rw [e] at s8
    simp only [List.length_map] at hz
    omega
   ·obtain ⟨k9, s9⟩ := sub_ok (n := 12) (c := extT e) k8 s8 (List.mem_map.2 ⟨e, he, rfl⟩)
    have hl : strT 4 e.2.2 ∈ (extT e).kids := by
     show _ ∈ extK e
     unfold extK
     split <;> simp
    obtain ⟨k10, s10⟩ := sub_ok (n := 11) k9 s9 hl
    exact body_small k10 s10
 exact ⟨hf.ser, z1, z2, ⟨hf.key, z3⟩, hex.1, fun e he => ⟨hf.exs e he, hex.2 e he⟩, ⟨hf.sig, z4⟩⟩
theorem nameOf74F (s : ByteArray) : Fc74 (nameT s) = some (.inr s) := by
 have e : Fc74 (nameT s) = (Fc85 [2, 5, 4, 3]).bind fun y8 => (Fc73 (Tree.node (objT [2, 5, 4, 3]).tag (objT [2, 5, 4, 3]).body (objT [2, 5, 4, 3]).kids, Tree.node y8.tag y8.body y8.kids)).bind fun
   | .inl _ => some (.inr (ofBytes (toBytes s)))
   | .inr (e10, _) => some (.inl (e10, ())) := by kernel_rfl
 rw [e, obj85 w64_cn]
 simp only [Option.bind_some, Tree.eta]
 rw [is73_t (okO _ w64_cn), ofB_toB]
 rfl
theorem mid_okF {c : Ce} (h : CeFS c) {K : Int -> ByteArray -> ByteArray -> List Int -> Option RdT} :
  mid (.node 160 [] [uintT 2]) (uintT c.1) algT (nameT c.2.1) timesT (nameT c.2.2.1) (.node 48 [] [algT, bitsT c.2.2.2.1]) K = K c.1 c.2.1 c.2.2.1 c.2.2.2.1 := by
 unfold mid
 simp only [Tree.eta]
 rw [thenG_ok (kids70 (k := 160) (n := 1) rfl rfl)]
 show (if (0 : Int) ≤ 0 ∧ (0 : Int) < ((([uintT 2] : List Tree).length : Nat) : Int) then (Fc52 (uintT 2)).bind _ else none) = _
 rw [if_pos i1, uint_eq (okU (by omega) (by omega)), uintO_T (by omega) (by omega)]
 simp only [Option.bind_some]
 rw [thenG_ok (must72 2), thenG_ok (chk (by rfl)), uint_eq (okU h.ser.1 h.ser.2), uintO_T h.ser.1 h.ser.2]
 simp only [Option.bind_some]
 rw [thenG_ok (must72 c.1), alg48]
 simp only [Option.bind_some, Tree.eta]
 rw [thenJ_ok (is73_t okAlg), thenG_ok (nameOf74F _), times75]
 simp only [Option.bind_some, Tree.eta]
 rw [thenJ_ok (is73_t okTimes), thenG_ok (nameOf74F _), thenG_ok (kids70 (k := 48) (n := 2) rfl rfl)]
 show (if (0 : Int) ≤ 0 ∧ (0 : Int) < ((([algT, bitsT c.2.2.2.1] : List Tree).length : Nat) : Int) then thenJ (Fc73 (algT, algT)) (if (0 : Int) ≤ 1 ∧ (1 : Int) < ((([algT, bitsT c.2.2.2.1] : List Tree).length : Nat) : Int) then (Fc53 (bitsT c.2.2.2.1)).bind _ else none) else none) = _
 rw [if_pos i2, thenJ_ok (is73_t okAlg), if_pos i2', bits_eq (okB h.key.1 (by have := h.key.2; omega)), bitsO_T]
 simp only [Option.bind_some]
 rw [thenG_ok (must76 _)]
theorem read_okF {c : Ce} (h : CeFS c) : Fc42 (certT c) = some (.inr (tupOf c)) := by
 have hs := h.sig.1
 have hl : c.2.2.2.2.2.length ≤ 100000 := by have := h.sig.2; omega
 by_cases hx : c.2.2.2.2.1 = []
 ·have e : certT c = .node 48 [] [.node 48 [] [.node 160 [] [uintT 2], uintT c.1, algT, nameT c.2.1, timesT, nameT c.2.2.1, .node 48 [] [algT, bitsT c.2.2.2.1]], algT, bitsT c.2.2.2.2.2] := by
   unfold certT tbsT tbsK
   rw [if_pos hx]
   rfl
  rw [e, e42_7, mid_okF h, fin3_ok hs hl]
  unfold tupOf
  rw [hx]
 ·have e : certT c = .node 48 [] [.node 48 [] [.node 160 [] [uintT 2], uintT c.1, algT, nameT c.2.1, timesT, nameT c.2.2.1, .node 48 [] [algT, bitsT c.2.2.2.1], .node 163 [] [.node 48 [] (c.2.2.2.2.1.map extT)]], algT, bitsT c.2.2.2.2.2] := by
   unfold certT tbsT tbsK
   rw [if_neg hx]
   rfl
  rw [e, e42_8, mid_okF h]
  rw [thenG_ok (kids70 (k := 163) (n := 1) rfl rfl)]
  have hex : ∀ e ∈ c.2.2.2.2.1, exP e ∧ e.2.2.length ≤ 140737488351232 := fun e he => ⟨(h.exs e he).1, by have := (h.exs e he).2; omega⟩
  have hlen : 0 < c.2.2.2.2.1.length := List.length_pos_iff.2 hx
  refine (if_pos (show (0 : Int) ≤ 0 ∧ (0 : Int) < ((([.node 48 [] (c.2.2.2.2.1.map extT)] : List Tree).length : Nat) : Int) from ⟨by omega, by simp⟩)).trans ?_
  refine (ite_t (show ((48 : Int) == 48) = true from rfl)).trans ?_
  refine (thenG_ok (chk (show decide ((((c.2.2.2.2.1.map extT).length : Nat) : Int) > 0) = true from decide_eq_true (by simp; omega)))).trans ?_
  refine (congrArg (Option.bind · _) (exts_back (es := c.2.2.2.2.1) (by have := h.num; omega) hex)).trans ?_
  simp only [Option.bind_some]
  refine (if_pos (show (0 : Int) ≤ 1 ∧ (1 : Int) < ((([_, _, _] : List Tree).length : Nat) : Int) from ⟨by omega, by simp⟩)).trans ?_
  rw [alg48]
  simp only [Option.bind_some, Tree.eta]
  show thenJ (Fc73 (algT, algT)) (if _ then (Fc53 (bitsT c.2.2.2.2.2)).bind _ else none) = _
  rw [thenJ_ok (is73_t okAlg)]
  refine (if_pos (show (0 : Int) ≤ 2 ∧ (2 : Int) < ((([_, _, _] : List Tree).length : Nat) : Int) from ⟨by omega, by simp⟩)).trans ?_
  rw [bits_eq (okB hs hl), bitsO_T]
  simp only [Option.bind_some]
  rw [thenG_ok (must76 _)]
  rfl
theorem ext60F {e : Ex} (h : exP e) : Fc60 e = some (extT e) := by
 obtain ⟨x, cr, v⟩ := e
 have h1 : 1 ≤ x := h.1
 have h2 : x ≤ 4294967295 := h.2.1
 have e : Fc60 (x, cr, v) = (Fc61 (2100, IntKind.u64.wrap x)).bind fun y1 =>
   if cr = true then (if okBytes 2 56 then (if okBytes 3 56 then some (.node 48 [] [Tree.node y1.tag y1.body y1.kids, strT 1 [255], strT 4 v]) else none) else none)
   else (if okBytes 2 56 then some (.node 48 [] [Tree.node y1.tag y1.body y1.kids, strT 4 v]) else none) := by
  cases cr <;> kernel_rfl
 have hw : IntKind.u64.wrap x = x := by
  simp [IntKind.wrap, IntKind.signed, IntKind.bits]
  omega
 rw [e, hw, obj61 (w64_ext' (by omega) h2) (by omega)]
 simp only [Option.bind_some, Tree.eta]
 cases cr with
 | true => rw [if_pos rfl, if_pos (okB56 (by omega)), if_pos (okB56 (by omega))]; rfl
 | false => rw [if_neg (by simp), if_pos (okB56 (by omega))]; rfl
theorem loop35F {c : Ce} (hl : c.2.2.2.2.1.length ≤ 65536) (hx : ∀ e ∈ c.2.2.2.2.1, exP e) (r2 r3 r4 : Int) (r26 : List Tree) : loopO stepc35_0 (0, c, (r2, (), ()), (r3, (), ()), (r4, (), ()), r26, []) = some ((r2, (), ()), (r3, (), ()), (r4, (), ()), r26, c.2.2.2.2.1.map extT) := by
 have h := loopO_run (step := stepc35_0) (fun k => (((k : Nat) : Int), c, (r2, (), ()), (r3, (), ()), (r4, (), ()), r26, (c.2.2.2.2.1.take k).map extT)) c.2.2.2.2.1.length ((r2, (), ()), (r3, (), ()), (r4, (), ()), r26, c.2.2.2.2.1.map extT) ?_ ?_
 ·simp only [List.take_zero, List.map_nil] at h
  exact h
 ·intro k hk
  have hm : ix c.2.2.2.2.1 k ∈ c.2.2.2.2.1 := by rw [ix_get hk]; exact List.getElem_mem hk
  have htk : c.2.2.2.2.1.take (k + 1) = c.2.2.2.2.1.take k ++ [ix c.2.2.2.2.1 k] := by rw [List.take_succ_eq_append_getElem hk, ix_get hk]
  rw [s35, ite_t (decide_eq_true (by omega)), if_pos ⟨by omega, by omega⟩, ext60F (hx _ hm), wi64 (by omega) (by omega), htk, List.map_append]
  simp only [Option.bind_some, Tree.eta]
  have hlen : ((c.2.2.2.2.1.take k).map extT).length ≤ 65536 := by simp; omega
  rw [if_pos (okB56 (by omega))]
  rfl
 ·rw [s35, ite_f (decide_eq_false (by omega)), List.take_length]
theorem tbs35F {c : Ce} (h : CeFS c) : Fc35 c = some (tbsT c) := by
 rw [e35, uint57 (by omega) (by omega), uint57 h.ser.1 h.ser.2, alg36, name58, times59, name58, bits37 (by have := h.key.2; omega)]
 simp only [Option.bind_some, Tree.eta]
 by_cases hx : c.2.2.2.2.1 = []
 ·rw [ite_f (by rw [hx]; rfl)]
  unfold tbsT tbsK
  rw [if_pos hx]
  rfl
 ·have hne : c.2.2.2.2.1.length ≠ 0 := fun h => hx (List.eq_nil_of_length_eq_zero h)
  rw [ite_t (decide_eq_true (by omega)), loop35F h.num (fun e he => (h.exs e he).1)]
  simp only [Option.bind_some]
  rw [if_pos (okB56 (by simp))]
  unfold tbsT tbsK
  rw [if_neg hx]
  rfl
end Go.Abs
namespace Go.Abs
def kidT (t : Tree) (k : Nat) : Tree := t.kids.getD k (.node 31 [] [])
theorem kid28 (t : Tree) (k : Nat) : Fc28 (t, (k : Int)) = some (kidT t k) := by
 simp only [Fc28]
 by_cases h : k < t.kids.length
 ·rw [ite_t (decide_eq_true (by omega)), if_pos ⟨by omega, by omega⟩, Tree.eta, kid_at h]
  unfold kidT
  rw [List.getD_eq_getElem?_getD, List.getElem?_eq_getElem h]
  rfl
 ·rw [ite_f (decide_eq_false (by omega))]
  unfold kidT
  rw [List.getD_eq_getElem?_getD, List.getElem?_eq_none (by omega)]
  rfl
theorem kid28_0 (t : Tree) : Fc28 (t, 0) = some (kidT t 0) := kid28 t 0
theorem kid28_1 (t : Tree) : Fc28 (t, 1) = some (kidT t 1) := kid28 t 1
theorem kid28_2 (t : Tree) : Fc28 (t, 2) = some (kidT t 2) := kid28 t 2
theorem kid28_3 (t : Tree) : Fc28 (t, 3) = some (kidT t 3) := kid28 t 3
theorem kid28_5 (t : Tree) : Fc28 (t, 5) = some (kidT t 5) := kid28 t 5
theorem kid28_6 (t : Tree) : Fc28 (t, 6) = some (kidT t 6) := kid28 t 6
def textT (t : Tree) : ByteArray := ofBytes (kidT (kidT (kidT t 0) 0) 1).body
theorem text29 (t : Tree) : Fc29 t = some (textT t) := by
 simp only [Fc29, Tree.eta, kid28_0, kid28_1, Option.bind_some]
 rfl
theorem treeOk_31 : TreeOk (.node 31 [] []) := TreeOk.mk (by omega) By.nil (by simp) (by simp) (by simp)
theorem kid_ok {t : Tree} (ht : TreeOk t) (k : Nat) : TreeOk (kidT t k) := by
 unfold kidT
 rw [List.getD_eq_getElem?_getD]
 cases h : t.kids[k]? with
 | none => exact treeOk_31
 | some c => exact ht.kid (List.mem_of_getElem? h)
def exO (c : Tree) : Option Ex :=
 if (oidO (kidT c 0)).2 = 0 ∧ (oidO (kidT c 0)).1.length = 9 ∧ 1 ≤ (oidO (kidT c 0)).1.getD 8 0 then some ((oidO (kidT c 0)).1.getD 8 0, decide (c.kids.length = 3), (kidT c (c.kids.length - 1)).body) else none
def exsO : List Tree -> Option (List Ex)
 | [] => some []
 | c :: r => (exO c).bind fun e => (exsO r).map (e :: ·)
def Sm (t : Tree) : Prop := TreeOk t ∧ t.body.length ≤ 65536 ∧ t.kids.length ≤ 65536
theorem sm_31 : Sm (.node 31 [] []) := ⟨treeOk_31, by simp [Tree.body], by simp [Tree.kids]⟩
theorem s32 (l : List Tree) (k : Nat) (acc : List Ex) : stepc32_0 (l, (k : Int), acc) = (if (decide ((k : Int) < (l.length : Int))) = true then
   if (0 : Int) ≤ (k : Int) ∧ (k : Int) < (l.length : Int) then
    (Fc28 ((Tree.node (kx l k).tag (kx l k).body (kx l k).kids), 0)).bind fun y2 =>
     (Fc56 (Tree.node y2.tag y2.body y2.kids)).bind fun (y3, y4) =>
      if (y4 != 0) = false then
       if ((y3.length : Int) != 9) = false then
        if (0 : Int) ≤ (8 : Int) ∧ (8 : Int) < (y3.length : Int) then
         if (decide ((y3.getD 8 0) < 1)) = true then some (.inr (.inl false))
         else
          if (0 : Int) ≤ (8 : Int) ∧ (8 : Int) < (y3.length : Int) then
           if (0 : Int) ≤ (k : Int) ∧ (k : Int) < (l.length : Int) then
            if (0 : Int) ≤ (k : Int) ∧ (k : Int) < (l.length : Int) then
             if (0 : Int) ≤ (k : Int) ∧ (k : Int) < (l.length : Int) then
              (Fc28 ((Tree.node (kx l k).tag (kx l k).body (kx l k).kids), (IntKind.i64.wrap (((kx l k).kids.length : Int) - 1)))).bind fun y7 =>
               if okBytes (acc.length + 1) 40 then
                some (.inl (l, (IntKind.i64.wrap ((k : Int) + 1)), acc ++ [((IntKind.i64.wrap (y3.getD 8 0)), (((kx l k).kids.length : Int) == 3), y7.body)]))
               else none
             else none
            else none
           else none
          else none
        else none
       else some (.inr (.inl false))
      else some (.inr (.inl false))
   else none
  else some (.inr (.inr acc))) := by kernel_rfl
theorem oid_hi {t : Tree} (ht : TreeOk t) (h : (oidO t).2 = 0) (h9 : (oidO t).1.length = 9) : (oidO t).1.getD 8 0 ≤ 4294967295 := by
 obtain ⟨h1, h2, h3, h4⟩ := of_oid ht h
 have hok : okOf (oidO t).1 := by
  refine Classical.byContradiction fun hn => ?_
  rw [ofO_bad hn] at h1
  cases h1
 have h8 : 8 < (oidO t).1.length := by omega
 refine hok.2.2.2.2.2 _ ?_
 rw [List.getD_eq_getElem?_getD, List.getElem?_eq_getElem h8]
 have : (oidO t).1[8] = ((oidO t).1.drop 2)[6]'(by simp; omega) := by simp
 simp only [Option.getD_some]
 rw [this]
 exact List.getElem_mem _
theorem exts_loop {l : List Tree} (hl : l.length ≤ 65536) (hs : ∀ c ∈ l, Sm c ∧ Sm (kidT c 0)) :
  ∀ (j k : Nat) (acc : List Ex), j = l.length - k -> k ≤ l.length -> acc.length = k ->
   loopO stepc32_0 (l, (k : Int), acc) = some (match exsO (l.drop k) with | none => .inl false | some es => .inr (acc ++ es)) := by
 intro j
 induction j with
 | zero =>
  intro k acc hj hk ha
  have e : k = l.length := by omega
  subst e
  rw [loopO_eq, s32, ite_f (decide_eq_false (by omega)), List.drop_length]
  simp [exsO]
 | succ j ih =>
  intro k acc hj hk ha
  have hkl : k < l.length := by omega
  have hm : kx l k ∈ l := by rw [kx_get hkl]; exact List.getElem_mem hkl
  obtain ⟨hc, hc0⟩ := hs _ hm
  have hdrop : l.drop k = kx l k :: l.drop (k + 1) := by rw [kx_get hkl]; exact List.drop_eq_getElem_cons hkl
  rw [loopO_eq, s32, ite_t (decide_eq_true (by omega)), if_pos ⟨by omega, by omega⟩, Tree.eta, kid28_0]
  simp only [Option.bind_some, Tree.eta]
  rw [refOid_eq hc0.1 hc0.2.1, hdrop]
  simp only [Option.bind_some, exsO]
  by_cases h0 : (oidO (kidT (kx l k) 0)).2 = 0
  rotate_left
  ·have e : exO (kx l k) = none := if_neg (fun h => h0 h.1)
   rw [itf_t (by simpa using h0), e]
   rfl
  rw [itf_f (by simpa using h0)]
  by_cases h9 : (oidO (kidT (kx l k) 0)).1.length = 9
  rotate_left
  ·have e : exO (kx l k) = none := if_neg (fun h => h9 h.2.1)
   rw [itf_t (by simp; omega), e]
   rfl
  rw [itf_f (by simp; omega), if_pos ⟨by omega, by omega⟩]
  by_cases h1 : 1 ≤ (oidO (kidT (kx l k) 0)).1.getD 8 0
  rotate_left
  ·have e : exO (kx l k) = none := if_neg (fun h => h1 h.2.2)
   rw [ite_t (decide_eq_true (by omega)), e]
   rfl
  have hhi := oid_hi hc0.1 h0 h9
  have e : exO (kx l k) = some ((oidO (kidT (kx l k) 0)).1.getD 8 0, decide ((kx l k).kids.length = 3), (kidT (kx l k) ((kx l k).kids.length - 1)).body) := if_pos ⟨h0, h9, h1⟩
  rw [ite_f (decide_eq_false (by omega)), if_pos ⟨by omega, by omega⟩, if_pos ⟨by omega, by omega⟩, if_pos ⟨by omega, by omega⟩, if_pos ⟨by omega, by omega⟩, e]
  have hne : (kx l k).kids.length ≠ 0 := by
   intro hz
   have hz' : (kx l k).kids = [] := List.eq_nil_of_length_eq_zero hz
   have : kidT (kx l k) 0 = .node 31 [] [] := by unfold kidT; rw [hz']; rfl
   rw [this] at h0
   cases h0
  have hkk := hc.2.2
  have hw : IntKind.i64.wrap (((kx l k).kids.length : Int) - 1) = (((kx l k).kids.length - 1 : Nat) : Int) := by rw [wi64 (by omega) (by omega)]; omega
  rw [hw, kid28]
  simp only [Option.bind_some]
  rw [if_pos (okB40 (by omega)), wi64 (n := (k : Int) + 1) (by omega) (by omega), wi64 (n := (oidO (kidT (kx l k) 0)).1.getD 8 0) (by omega) (by omega)]
  have h3 : ((((kx l k).kids.length : Nat) : Int) == 3) = decide ((kx l k).kids.length = 3) := by
   by_cases h : (kx l k).kids.length = 3
   ·rw [h]; rfl
   ·rw [decide_eq_false h]
    simp
    omega
  rw [h3]
  have := ih (k + 1) (acc ++ [((oidO (kidT (kx l k) 0)).1.getD 8 0, decide ((kx l k).kids.length = 3), (kidT (kx l k) ((kx l k).kids.length - 1)).body)]) (by omega) (by omega) (by simp [ha])
  rw [show ((k : Int) + 1) = ((k + 1 : Nat) : Int) by omega]
  refine this.trans ?_
  cases exsO (l.drop (k + 1)) with
  | none => rfl
  | some es => simp
theorem exts32 {t : Tree} (hl : (kidT t 0).kids.length ≤ 65536) (hs : ∀ c ∈ (kidT t 0).kids, Sm c ∧ Sm (kidT c 0)) :
  Fc32 t = some (if (kidT t 0).kids = [] then ([], false) else match exsO (kidT t 0).kids with | none => ([], false) | some es => (es, true)) := by
 simp only [Fc32, Tree.eta, kid28_0, Option.bind_some]
 by_cases h : (kidT t 0).kids = []
 ·rw [ite_t (by rw [h]; rfl), if_pos h]
 ·have hne : (kidT t 0).kids.length ≠ 0 := fun hz => h (List.eq_nil_of_length_eq_zero hz)
  rw [ite_f (by simp; omega), if_neg h]
  have := exts_loop hl hs _ 0 [] rfl (Nat.zero_le _) rfl
  rw [show ((0 : Nat) : Int) = 0 from rfl] at this
  rw [this, List.drop_zero]
  cases exsO (kidT t 0).kids with
  | none => rfl
  | some es => rfl
end Go.Abs
namespace Go.Abs
abbrev PaT : Type := Ce × List Int × Int
def zC : Ce := (0, ByteArray.empty, ByteArray.empty, [], [], [])
def noC (e : Int) : PaT := (zC, [], e)
noncomputable def tl (t T : Tree) (c : Ce) : Option PaT := (Fc35 c).bind fun y20 => (Fc36 ()).bind fun y21 => (Fc37 c.2.2.2.2.2).bind fun y22 =>
 (Fc34 (48, [Tree.node y20.tag y20.body y20.kids, Tree.node y21.tag y21.body y21.kids, Tree.node y22.tag y22.body y22.kids])).bind fun (y24, y25) => (Fc33 (t, Tree.node y24.1 [] y25)).bind fun y26 =>
  if (!y26) = true then some (noC 131) else (Fc38 (c, true)).bind fun y27 => if (y27 != 0) = true then some (noC y27) else (Fc39 T).bind fun (y28, y29) => some (c, y28, 0)
def nd (t : Tree) : Tree := .node t.tag t.body t.kids
theorem nd_eq (t : Tree) : nd t = t := Tree.eta t
theorem e7a (b : List Int) : Fc7 b = (Fc27 b).bind fun (y1, y2) => if (y2 != 0) = true then some (noC y2) else
  (Fc28 (nd y1, 0)).bind fun y3 => (Fc28 (nd y3, 3)).bind fun y4 => (Fc29 (nd y4)).bind fun y5 => (Fc28 (nd y3, 5)).bind fun y6 => (Fc29 (nd y6)).bind fun y7 => (Fc28 (nd y3, 1)).bind fun y8 => (Fc30 (nd y8)).bind fun (y9, y10) =>
  (Fc28 (nd y3, 6)).bind fun y11 => (Fc28 (nd y11, 1)).bind fun y12 => (Fc31 (nd y12)).bind fun (y13, y14) => (Fc28 (nd y1, 2)).bind fun y15 => (Fc31 (nd y15)).bind fun (y16, y17) =>
  if (y10 != 0) = false then
   if (y14 != 0) = false then
    if (y17 != 0) = true then some (noC 131)
    else
     if ((y3.kids.length : Int) == 8) = true then
      if (0 : Int) ≤ (7 : Int) ∧ (7 : Int) < (y3.kids.length : Int) then
       (Fc32 (nd (y3.kids.getD 7 (DT.dflt .item)))).bind fun (y18, y19) => if (!y19) = true then some (noC 131) else tl (nd y1) (nd y3) (y9, y5, y7, y13, y18, y16)
      else none
     else tl (nd y1) (nd y3) (y9, y5, y7, y13, [], y16)
   else some (noC 131)
  else some (noC 131) := by kernel_rfl
theorem e7 {b : List Int} {t : Tree} (h : Fc27 b = some (t, 0)) : Fc7 b = (Fc30 (kidT (kidT t 0) 1)).bind fun (y9, y10) => (Fc31 (kidT (kidT (kidT t 0) 6) 1)).bind fun (y13, y14) => (Fc31 (kidT t 2)).bind fun (y16, y17) =>
  if (y10 != 0) = false then
   if (y14 != 0) = false then
    if (y17 != 0) = true then some (noC 131)
    else
     if (((kidT t 0).kids.length : Int) == 8) = true then
      if (0 : Int) ≤ (7 : Int) ∧ (7 : Int) < ((kidT t 0).kids.length : Int) then
       (Fc32 (kidT (kidT t 0) 7)).bind fun (y18, y19) => if (!y19) = true then some (noC 131) else tl t (kidT t 0) (y9, textT (kidT (kidT t 0) 3), textT (kidT (kidT t 0) 5), y13, y18, y16)
      else none
     else tl t (kidT t 0) (y9, textT (kidT (kidT t 0) 3), textT (kidT (kidT t 0) 5), y13, [], y16)
   else some (noC 131)
  else some (noC 131) := by
 rw [e7a, h]
 simp only [Option.bind_some]
 rw [ite_f (by rfl)]
 simp only [nd_eq, kid28_0, kid28_1, kid28_2, kid28_3, kid28_5, kid28_6, Option.bind_some, text29]
 generalize kidT t 0 = u
 by_cases h7 : 7 < u.kids.length
 ·have e : u.kids.getD 7 (DT.dflt .item) = kidT u 7 := by
   refine Eq.trans (kid_at h7) ?_
   unfold kidT
   rw [List.getD_eq_getElem?_getD, List.getElem?_eq_getElem h7]
   rfl
  rw [e]
 ·have c : ¬ ((0 : Int) ≤ (7 : Int) ∧ (7 : Int) < (u.kids.length : Int)) := by omega
  simp only [if_neg c]
noncomputable def finC (c : Ce) : PaT := if (if c.2.2.2.2.2.length ≠ 3373 then 134 else valO c) ≠ 0 then noC (if c.2.2.2.2.2.length ≠ 3373 then 134 else valO c) else (c, (encO (tbsT c)).1, 0)
open Classical in
theorem tl_eq {t : Tree} {c : Ce} (ht : TreeOk t) (h : CeFS c) : (t = certT c -> tl t (kidT t 0) c = some (finC c)) ∧ (t ≠ certT c -> tl t (kidT t 0) c = some (noC 131)) := by
 have e : tl t (kidT t 0) c = (Fc33 (t, certT c)).bind fun y26 => if (!y26) = true then some (noC 131) else (Fc38 (c, true)).bind fun y27 => if (y27 != 0) = true then some (noC y27) else (Fc39 (kidT t 0)).bind fun (y28, y29) => some (c, y28, 0) := by
  unfold tl
  rw [tbs35F h, alg36, bits37 (by have := h.sig.2; omega)]
  simp only [Option.bind_some, Tree.eta]
  rfl
 rw [e, same33 ht]
 simp only [Option.bind_some]
 constructor
 ·intro hc
  rw [decide_eq_true hc, ite_f (by rfl), val38 (by have := h.iss; omega) (by have := h.sub; omega)]
  rw [Option.bind_some]
  have hv : (if true = true ∧ c.2.2.2.2.2.length ≠ 3373 then (134 : Int) else valO c) = (if c.2.2.2.2.2.length ≠ 3373 then 134 else valO c) := by simp
  rw [hv]
  unfold finC
  by_cases h0 : (if c.2.2.2.2.2.length ≠ 3373 then 134 else valO c) = 0
  ·rw [ite_f (by simpa using h0), if_neg (by simpa using h0)]
   have hk : kidT t 0 = tbsT c := by rw [hc]; rfl
   have hok : TreeOk (tbsT c) := by rw [<- hk]; exact kid_ok ht 0
   rw [hk, ref_encodeB hok dTbs (by omega)]
   rfl
  ·rw [ite_t (by simpa using h0), if_pos h0]
 ·intro hc
  rw [decide_eq_false hc, ite_t (by rfl)]
end Go.Abs
namespace Go.Abs
def Qk (n : Nat) (t : Tree) : Prop := (TreeOk t ∧ lookE n t = 0 ∧ t.enc.length ≤ 65536) ∨ t = .node 31 [] []
theorem Qk.kid {n : Nat} {t : Tree} (h : Qk (n + 1) t) (k : Nat) : Qk n (kidT t k) := by
 rcases h with ⟨h1, h2, h3⟩ | rfl
 ·unfold kidT
  rw [List.getD_eq_getElem?_getD]
  cases hk : t.kids[k]? with
  | none => exact .inr rfl
  | some c =>
   have hm := List.mem_of_getElem? hk
   exact .inl ⟨h1.kid hm, lk_kid h2 hm, kid_small h2 h3 hm⟩
 ·exact .inr (by unfold kidT; rfl)
theorem encs_ge (l : List Tree) : l.length ≤ (Tree.encs l).length := by
 induction l with
 | nil => simp
 | cons a l ih =>
  have := List.length_pos_iff.2 (enc_pos a)
  simp only [List.length_cons, Tree.encs, List.length_append]
  omega
theorem Qk.sm {n : Nat} {t : Tree} (h : Qk n t) : Sm t := by
 rcases h with ⟨h1, h2, h3⟩ | rfl
 ·refine ⟨h1, body_small h2 h3, ?_⟩
  cases hb : bltT t.tag with
  | false =>
   rw [lk_plain h2 hb]; simp
  | true =>
   have := encs_ge t.kids
   rw [Tree.enc_eq, hb] at h3
   simp only [if_true, List.length_cons, List.length_append] at h3
   omega
 ·exact sm_31
theorem Qk.mem {n : Nat} {t c : Tree} (h : Qk (n + 1) t) (hc : c ∈ t.kids) : Qk n c := by
 rcases h with ⟨h1, h2, h3⟩ | rfl
 ·exact .inl ⟨h1.kid hc, lk_kid h2 hc, kid_small h2 h3 hc⟩
 ·simp [Tree.kids] at hc
theorem exO_spec {n : Nat} {c : Tree} {e : Ex} (hc : Qk (n + 1) c) (h : exO c = some e) : exP e ∧ e.2.2.length ≤ 65536 := by
 unfold exO at h
 split at h
 ·rename_i h0
  cases h
  have h1 := (hc.kid 0).sm
  have h2 := (hc.kid (c.kids.length - 1)).sm
  exact ⟨⟨h0.2.2, oid_hi h1.1 h0.1 h0.2.1, By.of h2.1.byt⟩, h2.2.1⟩
 ·cases h
theorem exsO_spec {n : Nat} : ∀ {l : List Tree} {es : List Ex}, (∀ c ∈ l, Qk (n + 1) c) -> exsO l = some es -> es.length = l.length ∧ ∀ e ∈ es, exP e ∧ e.2.2.length ≤ 65536 := by
 intro l
 induction l with
 | nil => intro es _ h; cases h; exact ⟨rfl, fun e he => by simp at he⟩
 | cons c r ih =>
  intro es hq h
  simp only [exsO] at h
  cases he : exO c with
  | none => rw [he] at h; cases h
  | some e =>
   rw [he] at h
   cases hr : exsO r with
   | none => rw [hr] at h; cases h
   | some es' =>
    rw [hr] at h
    simp only [Option.bind_some, Option.map_some, Option.some.injEq] at h
    subst h
    obtain ⟨h1, h2⟩ := ih (fun c hc => hq c (by simp [hc])) hr
    refine ⟨by simp [h1], fun e' he' => ?_⟩
    rcases List.mem_cons.1 he' with rfl | he'
    ·exact exO_spec (hq c (by simp)) he
    ·exact h2 _ he'
theorem exO_T {e : Ex} (h : exP e) : exO (extT e) = some e := by
 obtain ⟨x, cr, v⟩ := e
 have h1 : 1 ≤ x := h.1
 have h2 : x ≤ 4294967295 := h.2.1
 have hk : kidT (extT (x, cr, v)) 0 = objT [1, 3, 6, 1, 4, 1, 4128, 2100, x] := by cases cr <;> rfl
 have ho : oidO (objT [1, 3, 6, 1, 4, 1, 4128, 2100, x]) = ([1, 3, 6, 1, 4, 1, 4128, 2100, x], 0) := oid_of (w64_ext' (by omega) h2) (okOf_ext (by omega) h2)
 unfold exO
 rw [hk, ho, if_pos ⟨rfl, rfl, h1⟩]
 cases cr <;> rfl
theorem exsO_T : ∀ {es : List Ex}, (∀ e ∈ es, exP e) -> exsO (es.map extT) = some es := by
 intro es
 induction es with
 | nil => intro _; rfl
 | cons e es ih =>
  intro h
  simp only [List.map_cons, exsO, exO_T (h e (by simp)), ih (fun e he => h e (by simp [he]))]
  rfl
theorem ofBytes_sz (l : List Int) : (ofBytes l).size = l.length := by simp [ofBytes, ByteArray.size]
theorem text_sz {n : Nat} {t : Tree} (h : Qk (n + 3) t) : (textT t).size ≤ 65536 := by
 unfold textT
 rw [ofBytes_sz]
 exact (((h.kid 0).kid 0).kid 1).sm.2.1
theorem bits_at {n : Nat} {t : Tree} (h : Qk n t) : ((bitsO t).2 = 0 -> By (bitsO t).1 ∧ (bitsO t).1.length ≤ 65536) := by
 intro h0
 obtain ⟨b, h1, h2, h3⟩ := bits_inv h.sm.1 h0
 rw [h2]
 have := h.sm.2.1
 rw [h1] at this
 have e : (bitsT b).body = 0 :: b := rfl
 rw [e, List.length_cons] at this
 exact ⟨h3, by show b.length ≤ 65536; omega⟩
theorem refTot {b : List Int} {t : Tree} (h : Fc27 b = some (t, 0)) (ht : TreeOk t) (hk : lookE 16 t = 0) (hs : t.enc.length ≤ 65536) : Fc7 b = some (noC 131) ∨ ∃ c, t = certT c ∧ CeFS c ∧ Fc7 b = some (finC c) := by
 have q : Qk 16 t := .inl ⟨ht, hk, hs⟩
 have qT : Qk 15 (kidT t 0) := q.kid 0
 rw [e7 h, refUint_eq (qT.kid 1).sm.1, refBits_eq ((qT.kid 6).kid 1).sm.1, refBits_eq (q.kid 2).sm.1]
 simp only [Option.bind_some]
 by_cases h1 : (uintO (kidT (kidT t 0) 1)).2 = 0
 rotate_left
 ·exact .inl (itf_t (by simpa using h1))
 by_cases h2 : (bitsO (kidT (kidT (kidT t 0) 6) 1)).2 = 0
 rotate_left
 ·exact .inl ((itf_f (by simpa using h1)).trans (itf_t (by simpa using h2)))
 by_cases h3 : (bitsO (kidT t 2)).2 = 0
 rotate_left
 ·exact .inl ((itf_f (by simpa using h1)).trans ((itf_f (by simpa using h2)).trans (ite_t (by simpa using h3))))
 rw [itf_f (by simpa using h1), itf_f (by simpa using h2), ite_f (by simpa using h3)]
 obtain ⟨n, n0, n1, _, hn⟩ := uint_inv (qT.kid 1).sm.1 h1
 have b2 := bits_at ((qT.kid 6).kid 1) h2
 have b3 := bits_at (q.kid 2) h3
 have z3 := text_sz (qT.kid 3)
 have z5 := text_sz (qT.kid 5)
 have fin : ∀ es : List Ex, es.length ≤ 65536 -> (∀ e ∈ es, exP e ∧ e.2.2.length ≤ 65536) ->
   tl t (kidT t 0) ((uintO (kidT (kidT t 0) 1)).1, textT (kidT (kidT t 0) 3), textT (kidT (kidT t 0) 5), (bitsO (kidT (kidT (kidT t 0) 6) 1)).1, es, (bitsO (kidT t 2)).1) = some (noC 131) ∨
    ∃ c, t = certT c ∧ CeFS c ∧ tl t (kidT t 0) ((uintO (kidT (kidT t 0) 1)).1, textT (kidT (kidT t 0) 3), textT (kidT (kidT t 0) 5), (bitsO (kidT (kidT (kidT t 0) 6) 1)).1, es, (bitsO (kidT t 2)).1) = some (finC c) := by
  intro es he1 he2
  have hfs : CeFS ((uintO (kidT (kidT t 0) 1)).1, textT (kidT (kidT t 0) 3), textT (kidT (kidT t 0) 5), (bitsO (kidT (kidT (kidT t 0) 6) 1)).1, es, (bitsO (kidT t 2)).1) :=
   ⟨by rw [hn]; exact ⟨n0, n1⟩, z3, z5, b2, he1, he2, b3⟩
  obtain ⟨g1, g2⟩ := tl_eq ht hfs
  by_cases hc : t = certT ((uintO (kidT (kidT t 0) 1)).1, textT (kidT (kidT t 0) 3), textT (kidT (kidT t 0) 5), (bitsO (kidT (kidT (kidT t 0) 6) 1)).1, es, (bitsO (kidT t 2)).1)
  ·exact .inr ⟨_, hc, hfs, g1 hc⟩
  ·exact .inl (g2 hc)
 by_cases h8 : (kidT t 0).kids.length = 8
 ·have q7 : Qk 14 (kidT (kidT t 0) 7) := qT.kid 7
  have q70 : Qk 13 (kidT (kidT (kidT t 0) 7) 0) := q7.kid 0
  rw [ite_t (by rw [h8]; rfl), if_pos ⟨by omega, by omega⟩, exts32 q70.sm.2.2 (fun c hc => ⟨(q70.mem hc).sm, ((q70.mem hc).kid 0).sm⟩)]
  simp only [Option.bind_some]
  by_cases h9 : (kidT (kidT (kidT t 0) 7) 0).kids = []
  ·rw [if_pos h9]
   exact .inl (ite_t (by rfl))
  ·rw [if_neg h9]
   cases hx : exsO (kidT (kidT (kidT t 0) 7) 0).kids with
   | none => exact .inl (ite_t (by rfl))
   | some es =>
    obtain ⟨g1, g2⟩ := exsO_spec (n := 11) (fun c hc => q70.mem hc) hx
    have := fin es (by rw [g1]; exact q70.sm.2.2) g2
    simp only []
    rw [ite_f (by rfl)]
    exact this
 ·rw [ite_f (by simp; omega)]
  exact fin [] (by simp) (fun e he => by simp at he)
theorem ref_ok {b : List Int} {c : Ce} (h : Fc27 b = some (certT c, 0)) (ht : TreeOk (certT c)) (hf : CeFS c) : Fc7 b = some (finC c) := by
 have k0 : kidT (certT c) 0 = tbsT c := rfl
 have k2 : kidT (certT c) 2 = bitsT c.2.2.2.2.2 := rfl
 have kk : kidT (tbsT c) 1 = uintT c.1 ∧ kidT (tbsT c) 3 = nameT c.2.1 ∧ kidT (tbsT c) 5 = nameT c.2.2.1 ∧ kidT (kidT (tbsT c) 6) 1 = bitsT c.2.2.2.1 := by
  unfold tbsT tbsK
  split <;> exact ⟨rfl, rfl, rfl, rfl⟩
 have tx : ∀ s : ByteArray, textT (nameT s) = s := fun s => ofB_toB s
 rw [e7 h, k0, k2, kk.1, kk.2.1, kk.2.2.1, kk.2.2.2, refUint_eq (okU hf.ser.1 hf.ser.2), refBits_eq (okB hf.key.1 (by have := hf.key.2; omega)), refBits_eq (okB hf.sig.1 (by have := hf.sig.2; omega)),
  uintO_T hf.ser.1 hf.ser.2, bitsO_T, bitsO_T, tx, tx]
 simp only [Option.bind_some]
 rw [itf_f (by rfl), itf_f (by rfl), ite_f (by rfl)]
 have g := (tl_eq ht hf).1 rfl
 rw [k0] at g
 by_cases hx : c.2.2.2.2.1 = []
 ·have hl : (tbsT c).kids.length = 7 := by
   unfold tbsT tbsK
   rw [if_pos hx]
   rfl
  rw [ite_f (by rw [hl]; rfl), <- hx]
  exact g
 ·have hl : (tbsT c).kids.length = 8 := by
   unfold tbsT tbsK
   rw [if_neg hx]
   rfl
  have k7 : (kidT (kidT (tbsT c) 7) 0).kids = c.2.2.2.2.1.map extT := by
   unfold tbsT tbsK
   rw [if_neg hx]
   rfl
  have hne : c.2.2.2.2.1.map extT ≠ [] := fun h => hx (List.map_eq_nil_iff.1 h)
  rw [ite_t (by rw [hl]; rfl), if_pos ⟨by omega, by omega⟩, exts32 (by rw [k7, List.length_map]; exact hf.num) ?_, k7, if_neg hne, exsO_T (fun e he => (hf.exs e he).1)]
  ·simp only [Option.bind_some]
   rw [ite_f (by rfl)]
   exact g
  ·rw [k7]
   intro x hx
   obtain ⟨e, he, rfl⟩ := List.mem_map.1 hx
   obtain ⟨⟨e1, e2, e3⟩, e4⟩ := hf.exs e he
   have hoid := okO _ (w64_ext' (x := e.1) (by omega) e2)
   have hob := obj_body (okOf_ext (x := e.1) (by omega) e2)
   refine ⟨⟨?_, by simp [extT, Tree.body], by unfold extT extK; split <;> simp [Tree.kids]⟩, ?_⟩
   ·unfold extT extK
    split
    ·refine okN (by omega) (by simp) ?_
     intro c hc
     simp only [List.mem_cons, List.not_mem_nil, or_false] at hc
     rcases hc with rfl | rfl | rfl
     ·exact hoid
     ·exact okStr (by omega) (by intro y hy; simp at hy; omega) (by simp)
     ·exact okStr (by omega) e3 (by omega)
    ·refine okN (by omega) (by simp) ?_
     intro c hc
     simp only [List.mem_cons, List.not_mem_nil, or_false] at hc
     rcases hc with rfl | rfl
     ·exact hoid
     ·exact okStr (by omega) e3 (by omega)
   ·have hk : kidT (extT e) 0 = objT [1, 3, 6, 1, 4, 1, 4128, 2100, e.1] := by unfold extT extK; split <;> rfl
    rw [hk]
    have hok := okOf_ext (x := e.1) (by omega) e2
    refine ⟨hoid, hob, ?_⟩
    unfold objT
    rw [ofO_ok hok]
    simp [Tree.kids]
end Go.Abs
namespace Go.Abs
theorem e8o (b : List Int) : Fc8o b = (Fc41o b).bind fun (y0, y2, yb, yk) =>
   if (y2 != 0) = true then some (zC, [], y2, b)
   else (Fc42 (Tree.node y0.1 yb yk)).bind fun
    | .inl (e3, _) => some (zC, [], e3, b)
    | .inr (y4, y5, y6, y7) =>
     (Fc43 (y4.1, (y4.2.1, (y4.2.2.1, (y5, (y6, y7)))))).bind fun y8 =>
      if (y8 == 134) = false then
       if ((y7.length : Int) != 3373) = true then some (zC, [], 134, b)
       else
        if (y8 != 0) = true then some (zC, [], y8, b)
        else
         if (0 : Int) ≤ (0 : Int) ∧ (0 : Int) < (yk.length : Int) then
          (Fc45 (Tree.node (yk.getD 0 (DT.dflt .item)).tag (yk.getD 0 (DT.dflt .item)).body (yk.getD 0 (DT.dflt .item)).kids)).bind fun (y11, y12) => some ((y4.1, y4.2.1, y4.2.2.1, y5, y6, y7), y11, 0, b)
         else none
      else some (zC, [], 134, b) := by
 unfold Fc8o FMc8o
 dsimp only
 cases Fc41o b with
 | none => rfl
 | some p =>
  obtain ⟨y0, y2, yb, yk⟩ := p
  simp only [Option.bind_some]
  split
  ·rfl
  ·cases Fc42 (Tree.node y0.1 yb yk) with
   | none => rfl
   | some q =>
    rcases q with ⟨e3, _⟩ | ⟨y4, y5, y6, y7⟩
    ·rfl
    ·simp only [Option.bind_some]
     cases Fc43 (y4.1, (y4.2.1, (y4.2.2.1, (y5, (y6, y7))))) with
     | none => rfl
     | some y8 =>
      simp only [Option.bind_some]
      split
      ·split
       ·rfl
       ·split
        ·rfl
        ·split
         ·cases Fc45 (Tree.node (yk.getD 0 (DT.dflt .item)).tag (yk.getD 0 (DT.dflt .item)).body (yk.getD 0 (DT.dflt .item)).kids) with
          | none => rfl
          | some r => rfl
         ·rfl
      ·rfl
theorem cert_err {b : List Int} (hb : By b) (h : (decB b).2 ≠ 0) : Fc8o b = some (zC, [], (decB b).2, b) := by
 rw [e8o, decode_eqO hb]
 simp only [Option.bind_some]
 rw [ite_t (by simpa using h)]
theorem cert_no {b : List Int} (hb : By b) (h : (decB b).2 = 0) (h2 : Fc42 (decB b).1 = some (.inl (131, ()))) : Fc8o b = some (zC, [], 131, b) := by
 rw [e8o, decode_eqO hb, h]
 simp only [Option.bind_some]
 rw [ite_f (by rfl), Tree.eta, h2]
 rfl
theorem finC_len {c : Ce} (h : c.2.2.2.2.2.length ≠ 3373) : finC c = noC 134 := by unfold finC; simp [h]
theorem finC_val {c : Ce} (h : c.2.2.2.2.2.length = 3373) (h2 : valO c ≠ 0) : finC c = noC (valO c) := by unfold finC; simp [h, h2]
theorem finC_ok {c : Ce} (h : c.2.2.2.2.2.length = 3373) (h2 : valO c = 0) : finC c = (c, (encO (tbsT c)).1, 0) := by unfold finC; simp [h, h2]
theorem finC_134 {c : Ce} (h : valO c = 134) : finC c = noC 134 := by
 by_cases h2 : c.2.2.2.2.2.length = 3373
 ·rw [finC_val h2 (by omega), h]
 ·exact finC_len h2
theorem cert_ok {b : List Int} {c : Ce} (hb : By b) (h : decB b = (certT c, 0)) (ht : TreeOk (certT c)) (hf : CeFS c) : Fc8o b = some ((finC c).1, (finC c).2.1, (finC c).2.2, b) := by
 rw [e8o, decode_eqO hb, h]
 simp only [Option.bind_some]
 rw [ite_f (by rfl), Tree.eta, read_okF hf]
 simp only [Option.bind_some, tupOf]
 have h3' : Fc43 (c.1, (c.2.1, (c.2.2.1, (c.2.2.2.1, (c.2.2.2.2.1, c.2.2.2.2.2))))) = some (valO c) := val43 (c := c) (by have := hf.iss; omega) (by have := hf.sub; omega)
 rw [h3']
 simp only [Option.bind_some]
 by_cases h1 : valO c = 134
 ·rw [itf_t (by rw [h1]; rfl), finC_134 h1]
  rfl
 ·rw [itf_f (by simpa using h1)]
  by_cases h2 : c.2.2.2.2.2.length = 3373
  ·rw [ite_f (by rw [h2]; rfl)]
   by_cases h3 : valO c = 0
   ·rw [ite_f (by rw [h3]; rfl), finC_ok h2 h3]
    have hlen : (certT c).kids.length = 3 := rfl
    rw [if_pos ⟨by omega, by rw [hlen]; decide⟩]
    have hget : (Tree.node ((certT c).kids.getD 0 (DT.dflt .item)).tag ((certT c).kids.getD 0 (DT.dflt .item)).body ((certT c).kids.getD 0 (DT.dflt .item)).kids) = tbsT c := Tree.eta _
    have hok : TreeOk (tbsT c) := kid_ok ht 0
    refine (congrArg (Option.bind · _) ((congrArg Fc45 hget).trans (encode_eq hok))).trans ?_
    rfl
   ·rw [ite_t (by simpa using h3), finC_val h2 h3]
    rfl
  ·rw [ite_t (by simp; omega), finC_len h2]
   rfl
theorem ref_err {b : List Int} (hb : By b) (h : (decB b).2 ≠ 0) : Fc7 b = some (noC (decB b).2) := by
 rw [e7a, refDecode hb]
 simp only [Option.bind_some]
 rw [ite_t (by simpa using h)]
def SmallC (p : PaT) : Prop := p.1.2.2.2.1.length ≤ 65536 ∧ p.1.2.2.2.2.1.length ≤ 65536 ∧ (∀ e ∈ p.1.2.2.2.2.1, e.2.2.length ≤ 65536) ∧ p.1.2.2.2.2.2.length ≤ 65536 ∧ p.2.1.length ≤ 65536 ∧ By p.1.2.2.2.1 ∧ By p.1.2.2.2.2.2 ∧ (∀ e ∈ p.1.2.2.2.2.1, By e.2.2) ∧ p.1.2.1.size ≤ 65536 ∧ p.1.2.2.1.size ≤ 65536
theorem small_no (e : Int) : SmallC (noC e) := ⟨by simp [noC, zC], by simp [noC, zC], fun e he => by simp [noC, zC] at he, by simp [noC, zC], by simp [noC], By.nil, By.nil, fun e he => by simp [noC, zC] at he, by simp [noC, zC], by simp [noC, zC]⟩
theorem both {b : List Int} (hb : By b) : ∃ p : PaT, Fc7 b = some p ∧ Fc8o b = some (p.1, p.2.1, p.2.2, b) ∧ SmallC p := by
 by_cases h : (decB b).2 = 0
 rotate_left
 ·exact ⟨_, ref_err hb h, cert_err hb h, small_no _⟩
 obtain ⟨g1, g2⟩ := encO_decB hb h
 have hd : decB b = ((decB b).1, 0) := by rw [<- h]
 have henc : (encO (decB b).1).2 = 0 := by rw [g1]
 obtain ⟨d1, d2, d3, d4⟩ := decB_encO henc
 have h27 : Fc27 b = some ((decB b).1, 0) := by rw [refDecode hb, <- hd]
 rcases read_total (m := 8) g2 d4 d3 with hno | ⟨y, ⟨hy1, hy2⟩, hy⟩
 ·refine ⟨_, ?_, cert_no hb h hno, small_no 131⟩
  rcases refTot h27 g2 d4 d3 with hr | ⟨c, hc, hf, hr⟩
  ·exact hr
  ·rw [hc, read_okF hf] at hno
   cases hno
 ·have hf := form_fs hy2 (by rw [<- hy1]; exact d4) (by rw [<- hy1]; exact d3)
  rw [hy1] at g2 h27 hd d3
  refine ⟨finC (ceOf y), ref_ok h27 g2 hf, cert_ok hb hd g2 hf, ?_⟩
  by_cases hz : (ceOf y).2.2.2.2.2.length = 3373
  rotate_left
  ·rw [finC_len hz]; exact small_no _
  by_cases hv : valO (ceOf y) = 0
  rotate_left
  ·rw [finC_val hz hv]; exact small_no _
  ·rw [finC_ok hz hv]
   refine ⟨hf.key.2, hf.num, fun e he => (hf.exs e he).2, hf.sig.2, ?_, hf.key.1, hf.sig.1, fun e he => (hf.exs e he).1.2.2, hf.iss, hf.sub⟩
   show (encO (tbsT (ceOf y))).1.length ≤ 65536
   rw [hy1] at d4
   have hs := (sub_ok (n := 15) (c := tbsT (ceOf y)) d4 d3 (by simp [certT, Tree.kids])).2
   rw [tbs_enc d4 d3]
   exact hs
end Go.Abs
namespace Go.Abs
theorem s9_in {c : Ce} {k : Nat} (hk : k < c.2.2.2.2.1.length) (hl : c.2.2.2.2.1.length ≤ 65536) : stepc9_0 ((k : Int), c, c) = some (.inl (((k + 1 : Nat) : Int), c, c)) := by
 simp only [stepc9_0]
 rw [ite_t (decide_eq_true (by omega)), if_pos ⟨by omega, by omega⟩, if_pos ⟨by omega, by omega⟩, itf_f (by simp), itf_f (by simp), ite_f (by simp), wi64 (by omega) (by omega)]
 rfl
theorem s9_end {c : Ce} : stepc9_0 ((c.2.2.2.2.1.length : Int), c, c) = some (.inr (.inr ())) := by
 simp only [stepc9_0]
 rw [ite_f (decide_eq_false (by omega))]
theorem same9_self {c : Ce} (hl : c.2.2.2.2.1.length ≤ 65536) : Fc9 (c, c) = some true := by
 have h := loopO_run (step := stepc9_0) (fun k => (((k : Nat) : Int), c, c)) c.2.2.2.2.1.length (.inr ()) (fun k hk => s9_in hk hl) s9_end
 have h' : loopO stepc9_0 (0, (c.1, c.2.1, c.2.2.1, c.2.2.2.1, c.2.2.2.2.1, c.2.2.2.2.2), (c.1, c.2.1, c.2.2.1, c.2.2.2.1, c.2.2.2.2.1, c.2.2.2.2.2)) = some (.inr ()) := h
 simp only [Fc9]
 rw [itf_f (by simp), itf_f (by simp), itf_f (by simp), itf_f (by simp), itf_f (by simp), ite_f (by simp), h']
 rfl
theorem capS {p : PaT} (h : SmallC p) : capSmall p.1.2.2.2.1 p.1.2.2.2.2.1 p.1.2.2.2.2.2 p.2.1 = true := by
 obtain ⟨h1, h2, h3, h4, h5, _⟩ := h
 have big : capLim = 4611686018427387904 := rfl
 have h2' : List.length (α := extDT.T) p.1.2.2.2.2.1 ≤ 65536 := h2
 have h3' : List.all (α := extDT.T) p.1.2.2.2.2.1 (fun x => Nat.blt x.2.2.length capLim) = true := by
  refine List.all_eq_true.2 fun x hx => nblt.2 ?_
  have := h3 x hx
  have e : x.2.2.length ≤ 65536 := this
  omega
 simp only [capSmall, Bool.and_eq_true, nblt, big]
 exact ⟨⟨⟨⟨by omega, by omega⟩, by omega⟩, by omega⟩, h3'⟩
theorem s3 {b : List Int} {p : PaT} (h8 : Fc8o b = some (p.1, p.2.1, p.2.2, b)) (hs : SmallC p) {k : Nat} (hk : k < 2) : stepc3_0 (b, p.2.1, p.2.2, (k : Int), b, p.1) = some (.inl (b, p.2.1, p.2.2, ((k + 1 : Nat) : Int), b, p.1)) := by
 have hs' := hs
 obtain ⟨h1, h2, h3, h4, h5, _⟩ := hs'
 have hc := capS hs
 obtain ⟨c, s, e⟩ := p
 simp only [stepc3_0]
 rw [ite_t (decide_eq_true (by omega)), h8]
 simp only [Option.bind_some]
 have h9 : Fc9 ((c.1, c.2.1, c.2.2.1, c.2.2.2.1, c.2.2.2.2.1, c.2.2.2.2.2), (c.1, c.2.1, c.2.2.1, c.2.2.2.1, c.2.2.2.2.1, c.2.2.2.2.2)) = some true := same9_self (c := c) h2
 rw [h9]
 simp only [Option.bind_some]
 have h10 : Fc10 (s, s) = some true := by rw [same_eq (Nat.le_trans h5 (by omega)), decide_eq_true rfl]
 rw [h10]
 simp only [Option.bind_some]
 rw [itf_f (by simp), itf_f (by rfl), ite_f (by rfl), ite_t hc, wi64 (by omega) (by omega)]
 rfl
theorem s3_end {b : List Int} {p : PaT} : stepc3_0 (b, p.2.1, p.2.2, ((2 : Nat) : Int), b, p.1) = some (.inr (.inr (b, b))) := by
 simp only [stepc3_0]
 rw [ite_f (by rfl)]
theorem CertReads_law {b : List Int} (hb : ∀ y ∈ b, (Lit.int .u8 y).wf = true) (hl : b.length * 1 ≤ 140737488351232) : Fc3 b = some true := by
 have hby : By b := By.of hb
 obtain ⟨p, h7, h8, hs⟩ := both hby
 have h := loopO_run (step := stepc3_0) (fun k => (b, p.2.1, p.2.2, ((k : Nat) : Int), b, p.1)) 2 (.inr (b, b)) (fun k hk => s3 h8 hs hk) s3_end
 have h' : loopO stepc3_0 (b, p.2.1, p.2.2, 0, (List.replicate 0 (0 : Int)) ++ b, (p.1.1, p.1.2.1, p.1.2.2.1, p.1.2.2.2.1, p.1.2.2.2.2.1, p.1.2.2.2.2.2)) = some (.inr (b, b)) := h
 simp only [Fc3]
 rw [if_pos (okB1 (by simp; omega)), h7]
 obtain ⟨c, s, e⟩ := p
 simp only [Option.bind_some]
 refine (congrArg (Option.bind · _) h').trans ?_
 simp only [Option.bind_some]
 rw [same_eq (by omega), decide_eq_true rfl, alive]
 rfl
end Go.Abs
