/- The entry of a function that is told by layouts: into the callee's state, and back. -/
import Derived.Test.YthihjipdkhmgkaaAbsL2L
set_option linter.unusedVariables false
set_option linter.unusedSimpArgs false
namespace Go.Abs
universe u
open Go.RowKit

section
variable {P : Program} {w0 : World} {fp : FP} {nt : Nat} {β : Nat → Value} {st : St} {a : Act} {w : World} {S : FL} {ρ : Nat → Nat} {N : Nat → Bool} {gs : List Nat}

/-- The callee's view of what is handed in. -/
structure Entered (P : Program) (S : FL) (st : St) (β : Nat → Value) (w : World) (us : List Value) (x : S.inT) (ρ : Nat → Nat) (N : Nat → Bool) (gs : List Nat) (fpC : FP) (βc : Nat → Value) : Prop where
  dfs : fpC.dfs = []
  rel : Rel P w fpC us.length βc (S.inp.enc x) { tmps := us.toArray, defers := [] } w
  hid : ∀ b, Hid βc b ↔ (S.strict = true ∧ Own st.heap β b ∧ (∀ r ∈ gs, ∀ g, st.heap r = some g → g.live → blkOf (β r) ≠ some b) ∧ ∀ q ∈ keysOf S.inp.vars, N q = false → blkOf (β (ρ q)) ≠ some b)
  anc : ∀ q ∈ keysOf S.inp.vars, fpC.anc q = some (βc q)
  anc' : ∀ q bv, fpC.anc q = some bv → q ∈ keysOf S.inp.vars ∧ bv = βc q
  base : ∀ q ∈ keysOf S.inp.vars, N q = false → βc q = β (ρ q) ∧ ∃ g, st.heap (ρ q) = some g ∧ g.live
  nil : ∀ q ∈ keysOf S.inp.vars, N q = true → βc q = .slice none 0 0
  io : ∀ q ∈ keysOf S.inp.vars, ioN ≤ q ∧ q < hidN
  inj : ∀ q q', q ∈ keysOf S.inp.vars → q' ∈ keysOf S.inp.vars → N q = false → N q' = false → ρ q = ρ q' → q = q'
  gone : ∀ r ∈ gs, ∀ q ∈ keysOf S.inp.vars, N q = false → ρ q ≠ r

open Classical in
theorem enter (R : Rel P w0 fp nt β st a w) (hok : okL S = true) {l : List AV} {us : List Value} (hl : AVsRel st.heap β w l us) (hn : l.length = S.n) {x : S.inT} (hdec : S.inp.decN (callSt l st.heap) ρ N = some (x, gs)) :
    ∃ fpC βc, Entered P S st β w us x ρ N gs fpC βc := by
  simp only [okL, Bool.and_eq_true, List.all_eq_true, nble] at hok
  obtain ⟨⟨⟨hcl, hkio⟩, hnio⟩, _⟩ := hok
  obtain ⟨hlen, hargs⟩ := avs_get hl
  have RA : Rel P w0 ⟨fp.anc, fp.hb, []⟩ us.length β (callSt l st.heap) { tmps := us.toArray, defers := [] } w := R.act rfl (by simp) (by omega) (fun t av ht => hargs t av ht)
  let HB : Nat → Prop := fun b => S.strict = true ∧ Own st.heap β b ∧ (∀ r ∈ gs, ∀ g, st.heap r = some g → g.live → blkOf (β r) ≠ some b) ∧ ∀ q ∈ keysOf S.inp.vars, N q = false → blkOf (β (ρ q)) ≠ some b
  let βc : Nat → Value := fun q => if q < hidN then (if N q = true then .slice none 0 0 else β (ρ q)) else if HB (q - hidN) then .pointer (some ⟨q - hidN, 0, none⟩) else undef
  have hhid : ∀ b, Hid βc b ↔ HB b := by
    intro b
    constructor
    · rintro ⟨r, hr, hb⟩
      have hlt : ¬ r < hidN := by omega
      simp only [βc, if_neg hlt] at hb
      split at hb
      · rename_i h; simp only [blkOf, Option.some.injEq] at hb; rw [← hb]; exact h
      · simp [undef, blkOf] at hb
    · intro hb
      refine ⟨hidN + b, by omega, ?_⟩
      have hlt : ¬ hidN + b < hidN := by omega
      have e : hidN + b - hidN = b := by omega
      simp only [βc, if_neg hlt, e, if_pos hb, blkOf]
  have D := Lay.decN_rel RA hcl hdec (β' := βc) (fun q hq => by simp only [βc, if_pos hq]) (fun b hb => ⟨((hhid b).1 hb).2.1, ((hhid b).1 hb).2.2.1⟩)
  have hlive0 : ∀ q ∈ keysOf S.inp.vars, N q = false → ∃ g, st.heap (ρ q) = some g ∧ g.live := by
    intro q hq hnq
    obtain ⟨⟨g, hg⟩, _⟩ := D.keys q hq
    obtain ⟨g', h1, h2, _⟩ := D.view.reg q g hg hnq
    refine ⟨g', h1, ?_⟩
    have := D.live q g hg
    cases g <;> cases g' <;> simp only [Shape] at h2 <;> first | trivial | (cases this)
  have hbase : ∀ q ∈ keysOf S.inp.vars, N q = false → βc q = β (ρ q) := fun q hq hnq => by
    have := (D.keys q hq).2
    simp only [βc, if_pos this, hnq, Bool.false_eq_true, if_false]
  have hnil : ∀ q ∈ keysOf S.inp.vars, N q = true → βc q = .slice none 0 0 := fun q hq hnq => by
    have := (D.keys q hq).2
    simp only [βc, if_pos this, hnq, if_true]
  refine ⟨⟨fun q => if q ∈ keysOf S.inp.vars then some (βc q) else none, βc, []⟩, βc, rfl, ?_, hhid, fun q hq => if_pos hq, ?_, fun q hq hnq => ⟨hbase q hq hnq, hlive0 q hq hnq⟩, hnil, fun q hq => ⟨hkio q hq, (D.keys q hq).2⟩, D.inj, D.gone⟩
  · have hblk : ∀ b, (FP.blk ⟨fun q => if q ∈ keysOf S.inp.vars then some (βc q) else none, βc, []⟩ b) → ∃ q ∈ keysOf S.inp.vars, N q = false ∧ blkOf (β (ρ q)) = some b := by
      rintro b ⟨q, bv, h1, h2⟩
      simp only at h1
      split at h1
      · rename_i hq
        cases h1
        cases hnq : N q with
        | true => rw [hnil q hq hnq] at h2; cases h2
        | false => rw [hbase q hq hnq] at h2; exact ⟨q, hq, hnq, h2⟩
      · cases h1
    refine ⟨rfl, by simp, by omega, fun t av ht => ?_, D.heap, D.sep, ?_, ?_, fun _ _ => rfl, rfl, rfl, rfl, Nat.le_refl _, fun _ _ _ => rfl, ?_, ?_⟩
    · obtain ⟨a0, h1, h2⟩ := D.env t av ht
      exact h2 _ (RA.env t a0 h1)
    · rintro b ⟨q, g, hg, hgl, hb⟩
      exact .inr ⟨q, βc q, if_pos (D.key q g hg), hb⟩
    · intro b hb
      have hb := (hhid b).1 hb
      refine ⟨hb.2.1.lt R, fun h => ?_⟩
      obtain ⟨q, hq, hnq, hqb⟩ := hblk b h
      exact hb.2.2.2 q hq hnq hqb
    · intro q bv g h1 _ _
      simp only at h1
      split at h1
      · cases h1; rfl
      · cases h1
    · intro q bv h1
      simp only at h1
      split at h1
      · rename_i hq; exact hkio q hq
      · cases h1
  · intro q bv h1
    simp only at h1
    split at h1
    · rename_i hq; cases h1; exact ⟨hq, rfl⟩
    · cases h1

theorem heapPut_look {hw : List (Nat × Reg)} : ∀ {h : Heap} {r : Nat} {g : Reg}, distinct (hw.map (·.1)) = true → (r, g) ∈ hw → heapPut h hw r = some g := by
  induction hw with
  | nil => intro h r g _ hm; simp at hm
  | cons p l ih =>
    obtain ⟨q, g'⟩ := p
    intro h r g hd hm
    simp only [List.map_cons, distinct, Bool.and_eq_true, Bool.not_eq_true', ← Bool.not_eq_true, memN_iff] at hd
    simp only [heapPut]
    rcases List.mem_cons.1 hm with e | hm
    · cases e
      rw [heapPut_ne hd.1, upd_same]
    · exact ih hd.2 hm

theorem distinct_inj {l : List (Nat × Reg)} (h : distinct (l.map (·.1)) = true) {r : Nat} {g g' : Reg} (h1 : (r, g) ∈ l) (h2 : (r, g') ∈ l) : g = g' := by
  have e1 := heapPut_look (h := fun _ => none) h h1
  have e2 := heapPut_look (h := fun _ => none) h h2
  rw [e1] at e2
  exact Option.some.inj e2

theorem distinct_append {l l' : List Nat} : distinct (l ++ l') = true → distinct l = true ∧ distinct l' = true ∧ ∀ x ∈ l, x ∉ l' := by
  induction l with
  | nil => intro h; exact ⟨rfl, h, by simp⟩
  | cons x l ih =>
    intro h
    simp only [List.cons_append, distinct, Bool.and_eq_true, Bool.not_eq_true', ← Bool.not_eq_true, memN_iff, List.mem_append, not_or] at h ⊢
    obtain ⟨h1, h2, h3⟩ := ih h.2
    refine ⟨⟨h.1.1, h1⟩, h2, fun y hy => ?_⟩
    rcases List.mem_cons.1 hy with rfl | hy
    · exact h.1.2
    · exact h3 y hy

theorem distinct_keys {τ : Nat → Nat} : ∀ {l : List (Nat × Reg)}, distinct ((l.map fun p => (τ p.1, renReg τ p.2)).map (·.1)) = true → ∀ q q' g g', (q, g) ∈ l → (q', g') ∈ l → τ q = τ q' → q = q' ∧ g = g' := by
  intro l
  induction l with
  | nil => intro _ q q' g g' h; simp at h
  | cons p l ih =>
    intro h q q' g g' h1 h2 e
    simp only [List.map_cons, distinct, Bool.and_eq_true, Bool.not_eq_true', ← Bool.not_eq_true, memN_iff, List.map_map, List.mem_map, Function.comp, not_exists, not_and] at h
    rcases List.mem_cons.1 h1 with e1 | h1' <;> rcases List.mem_cons.1 h2 with e2 | h2'
    · rw [← e1] at e2; cases e2; exact ⟨rfl, rfl⟩
    · subst e1; exact absurd e.symm (h.1 (q', g') h2')
    · subst e2; exact absurd e (h.1 (q, g) h1')
    · have h1 := h1'
      have h2 := h2'
      exact ih (by simpa [List.map_map, Function.comp] using h.2) q q' g g' h1 h2 e

open Classical in
theorem leave (R : Rel P w0 fp nt β st a w) {us : List Value} {x : S.inT} {fpC : FP} {βc : Nat → Value} (En : Entered P S st β w us x ρ N gs fpC βc) {d : Nat} (hd : dstOk nt (some d) = true)
    {lay : Lay} {s : lay.T} {hw : List (Nat × Reg)} (hhw : leaveHw S d st.heap ρ N gs lay s = some hw) {nr : Nat} {βo : Nat → Value} {ao : Act} {w' : World} (Ro : Rel P w fpC nr βo (lay.enc s) ao w') :
    ∃ β'', Names (lay.enc s).heap βo (heapPut st.heap hw) β'' (tau d ρ N) ∧ (S.strict = true → ∀ b, Own (heapPut st.heap hw) β'' b → Own (lay.enc s).heap βo b) ∧
      ∀ dst av v, dstOk nt dst = true → AVRel (heapPut st.heap hw) β'' w' av v → Rel P w0 fp nt β'' { env := putEnv st.env dst av, heap := heapPut st.heap hw } (a.put dst v) w' := by
  unfold leaveHw at hhw
  dsimp only at hhw
  obtain ⟨hc, hhw⟩ := cond_some hhw
  have hhw := (Option.some.inj hhw).symm
  simp only [Bool.and_eq_true, List.all_eq_true] at hc
  obtain ⟨⟨hdis, hdead⟩, hregs⟩ := hc
  rw [← hhw] at hdis
  -- regions that the callee tells
  have hmem : ∀ q g, (lay.enc s).heap q = some g → (q, g) ∈ varsRegs lay.vars s := fun q g h => ofL_mem h
  have hdis2 : distinct ((deadsOf S ρ N gs lay) ++ ((varsRegs lay.vars s).map fun p => (tau d ρ N p.1, renReg (tau d ρ N) p.2)).map (·.1)) = true := by
    rw [hhw] at hdis
    rw [List.map_append, List.map_map] at hdis
    have e : (deadsOf S ρ N gs lay).map ((fun x => x.1) ∘ fun r => (r, Reg.dead)) = deadsOf S ρ N gs lay := by
      rw [show ((fun x : Nat × Reg => x.1) ∘ fun r => (r, Reg.dead)) = id from rfl, List.map_id]
    rw [e] at hdis
    exact hdis
  obtain ⟨_, hdk, hdj⟩ := distinct_append hdis2
  have hinj := distinct_keys hdk
  have hin : ∀ q g, (q, g) ∈ varsRegs lay.vars s → (tau d ρ N q, renReg (tau d ρ N) g) ∈ hw := fun q g h => by rw [hhw]; exact List.mem_append_right _ (List.mem_map.2 ⟨(q, g), h, rfl⟩)
  have hA : ∀ q g, (lay.enc s).heap q = some g → heapPut st.heap hw (tau d ρ N q) = some (renReg (tau d ρ N) g) := fun q g h => heapPut_look hdis (hin q g (hmem q g h))
  have hDd : ∀ r, r ∈ deadsOf S ρ N gs lay → heapPut st.heap hw r = some .dead := fun r h => heapPut_look hdis (by rw [hhw]; exact List.mem_append_left _ (List.mem_map.2 ⟨r, h, rfl⟩))
  have hB : ∀ r, (∀ q g, (lay.enc s).heap q = some g → tau d ρ N q ≠ r) → r ∉ deadsOf S ρ N gs lay → heapPut st.heap hw r = st.heap r := by
    intro r h1 h2
    refine heapPut_ne fun hm => ?_
    rw [hhw, List.map_append, List.mem_append] at hm
    rcases hm with hm | hm
    · simp only [List.map_map, List.mem_map, Function.comp] at hm
      obtain ⟨r', hr', e⟩ := hm
      exact h2 (e ▸ hr')
    · simp only [List.map_map, List.mem_map, Function.comp] at hm
      obtain ⟨⟨q, g⟩, hq, e⟩ := hm
      obtain ⟨g2, hg2⟩ : ∃ g2, (lay.enc s).heap q = some g2 := ofL_key hq
      exact h1 q g2 hg2 e
  -- the kinds of names
  have hkind : ∀ q g, (lay.enc s).heap q = some g → (ioN ≤ q ∧ N q = false ∧ q ∈ keysOf S.inp.vars ∧ tau d ρ N q = ρ q ∧ shapeB (st.heap (ρ q)) (renReg (tau d ρ N) g) = true) ∨
      (tau d ρ N q < ioN ∧ st.heap (tau d ρ N q) = none) := by
    intro q g h
    have := (hregs _ (hmem q g h)).1
    simp only [] at this
    cases hb : (Nat.ble ioN q && !N q) with
    | true =>
      rw [hb] at this
      simp only [cond_true, Bool.and_eq_true, memN_iff] at this
      have hb' := hb
      simp only [Bool.and_eq_true, Bool.not_eq_true', nble] at hb'
      exact .inl ⟨hb'.1, hb'.2, this.1, by simp only [tau, hb, cond_true], this.2⟩
    | false =>
      rw [hb] at this
      simp only [cond_false, Bool.and_eq_true, nblt, Bool.not_eq_true'] at this
      refine .inr ⟨this.1, ?_⟩
      have h3 := this.2
      cases he : st.heap (tau d ρ N q) with
      | none => rfl
      | some g => rw [he] at h3; cases h3
  have hfz : ∀ q g, (lay.enc s).heap q = some g → noFzR g = true ∨ S.strict = true := fun q g h => by
    have := (hregs _ (hmem q g h)).2
    simp only [Bool.or_eq_true] at this
    exact this.symm
  -- what was handed in is given back, or given up
  have hback : ∀ q ∈ keysOf S.inp.vars, N q = false → (∃ g, (lay.enc s).heap q = some g ∧ tau d ρ N q = ρ q) ∨ ρ q ∈ deadsOf S ρ N gs lay := by
    intro q hq hn
    cases hm : memN q (keysOf lay.vars) with
    | true =>
      left
      obtain ⟨g, hg⟩ := keysOf_reg (x := s) (memN_iff.1 hm)
      obtain ⟨g2, hg2⟩ : ∃ g2, (lay.enc s).heap q = some g2 := ofL_key hg
      refine ⟨g2, hg2, ?_⟩
      simp only [tau, nble.2 (En.io q hq).1, hn, Bool.not_false, Bool.and_true, cond_true]
    | false =>
      right
      simp only [deadsOf, List.mem_append, List.mem_map, List.mem_filter]
      exact .inl ⟨q, ⟨hq, by simp [hn, hm]⟩, rfl⟩
  -- base values
  have hτ : ∀ q q' g g', (lay.enc s).heap q = some g → (lay.enc s).heap q' = some g' → tau d ρ N q = tau d ρ N q' → q = q' := fun q q' g g' h h' e => (hinj q q' g g' (hmem q g h) (hmem q' g' h') e).1
  let β'' : Nat → Value := fun r => if h : ∃ q g, (lay.enc s).heap q = some g ∧ tau d ρ N q = r then βo (Classical.choose h) else β r
  have hβ1 : ∀ q g, (lay.enc s).heap q = some g → β'' (tau d ρ N q) = βo q := by
    intro q g h
    have hx : ∃ q' g, (lay.enc s).heap q' = some g ∧ tau d ρ N q' = tau d ρ N q := ⟨q, g, h, rfl⟩
    simp only [β'', dif_pos hx]
    obtain ⟨g', h1, h2⟩ := Classical.choose_spec hx
    rw [hτ _ _ _ _ h1 h h2]
  have hβ2 : ∀ r, (∀ q g, (lay.enc s).heap q = some g → tau d ρ N q ≠ r) → β'' r = β r := by
    intro r h
    have hx : ¬ ∃ q g, (lay.enc s).heap q = some g ∧ tau d ρ N q = r := fun ⟨q, g, h1, h2⟩ => h q g h1 h2
    simp only [β'', dif_neg hx]
  have hanc : ∀ q g, (lay.enc s).heap q = some g → g.live → ioN ≤ q → N q = false → q ∈ keysOf S.inp.vars → βo q = β (ρ q) := fun q g h hl h1 h2 h3 => by
    rw [Ro.anc q (βc q) g (En.anc q h3) h hl]; exact (En.base q h3 h2).1
  have hlive : ∀ q g, (lay.enc s).heap q = some g → g.live := by
    have : ∀ {vs : List VS} {x : varsT vs} {q : Nat} {g : Reg}, (q, g) ∈ varsRegs vs x → g.live := by
      have one : ∀ {v : VS} {x : v.T} {l : List (Nat × Reg)} {q : Nat} {g : Reg}, ((q, g) ∈ l → g.live) → (q, g) ∈ v.regs x l → g.live := by
        intro v x l q g h hm
        cases v with
        | env => exact h hm
        | reg t s =>
          simp only [VS.regs, List.mem_cons] at hm
          rcases hm with e | hm
          · cases e; exact s.enc_live x
          · exact h hm
      intro vs
      induction vs with
      | nil => intro x q g h; simp [varsRegs] at h
      | cons v r ih =>
        intro x q g h
        cases r with
        | nil => exact one (fun h => by simp at h) h
        | cons v' r => exact one (fun h => ih h) h
    exact fun q g h => this (hmem q g h)
  have hhid : ∀ r, hidN ≤ r → β'' r = β r := by
    intro r hr
    by_cases hx : ∃ q g, (lay.enc s).heap q = some g ∧ tau d ρ N q = r
    · obtain ⟨q, g, h1, h2⟩ := hx
      rw [← h2, hβ1 q g h1]
      rcases hkind q g h1 with ⟨h3, h4, h5, h6, _⟩ | ⟨h3, _⟩
      · rw [hanc q g h1 (hlive q g h1) h3 h4 h5, h6]
      · rw [h2] at h3
        have : ioN = 1000000 := rfl
        have : hidN = 2000000 := rfl
        omega
    · exact hβ2 r (fun q g h1 h2 => hx ⟨q, g, h1, h2⟩)
  have hblkC : ∀ b, fpC.blk b → ∃ q ∈ keysOf S.inp.vars, N q = false ∧ blkOf (β (ρ q)) = some b := by
    rintro b ⟨q, bv, h1, h2⟩
    obtain ⟨hq, rfl⟩ := En.anc' q bv h1
    cases hnq : N q with
    | true => rw [En.nil q hq hnq] at h2; cases h2
    | false => rw [(En.base q hq hnq).1] at h2; exact ⟨q, hq, hnq, h2⟩
  have hkeep : ∀ b, b < w.heap.size → ¬ (∃ q ∈ keysOf S.inp.vars, N q = false ∧ blkOf (β (ρ q)) = some b) → w'.heap[b]? = w.heap[b]? := fun b hb h => Ro.keep b hb fun h' => h (hblkC b h')
  have hio1 : ∀ b, (∃ q ∈ keysOf S.inp.vars, N q = false ∧ blkOf (β (ρ q)) = some b) → OwnR st.heap β b := by
    rintro b ⟨q, hq, hnq, hb⟩
    obtain ⟨_, g, hg, hl⟩ := En.base q hq hnq
    exact ⟨ρ q, g, hg, hl, hb⟩
  -- an untouched region
  have hun : ∀ r g b, st.heap r = some g → g.live → blkOf (β r) = some b → (∀ q g, (lay.enc s).heap q = some g → tau d ρ N q ≠ r) → r ∉ deadsOf S ρ N gs lay → ¬ (∃ q ∈ keysOf S.inp.vars, N q = false ∧ blkOf (β (ρ q)) = some b) := by
    rintro r g b hg hl hb h1 h2 ⟨q, hq, hnq, hqb⟩
    obtain ⟨_, g', hg', hl'⟩ := En.base q hq hnq
    have := R.sep r (ρ q) g g' b hg hg' hl hl' hb hqb
    subst this
    rcases hback q hq hnq with ⟨g2, h3, h4⟩ | h3
    · exact h1 q g2 h3 h4
    · exact h2 h3
  have hNames : Names (lay.enc s).heap βo (heapPut st.heap hw) β'' (tau d ρ N) := fun q g h => ⟨hA q g h, hβ1 q g h⟩
  have hOwnS : S.strict = true → ∀ b, Own (heapPut st.heap hw) β'' b → Own (lay.enc s).heap βo b := by
    intro hst b hb
    have hH : Hid βc b → Own (lay.enc s).heap βo b := fun h => .inr (Hid.congr (fun r hr => by
      rw [Ro.hb r hr]; exact (En.rel.hb r hr)) h)
    rcases hb with ⟨r, g, hr, hl, hb⟩ | hb
    · by_cases hx : ∃ q g, (lay.enc s).heap q = some g ∧ tau d ρ N q = r
      · obtain ⟨q, g2, h1, h2⟩ := hx
        subst h2
        rw [hβ1 q g2 h1] at hb
        rw [hA q g2 h1] at hr
        cases hr
        exact .inl ⟨q, g2, h1, (renReg_live _ _).1 hl, hb⟩
      · have hx : ∀ q g, (lay.enc s).heap q = some g → tau d ρ N q ≠ r := fun q g h1 h2 => hx ⟨q, g, h1, h2⟩
        by_cases hdd : r ∈ deadsOf S ρ N gs lay
        · rw [hDd r hdd] at hr; cases hr; cases hl
        · rw [hB r hx hdd] at hr
          rw [hβ2 r hx] at hb
          refine hH ((En.hid b).2 ⟨hst, .inl ⟨r, g, hr, hl, hb⟩, fun r' hr' g' hg' hl' hb' => ?_, fun q hq hnq hqb => hun r g b hr hl hb hx hdd ⟨q, hq, hnq, hqb⟩⟩)
          have := R.sep r r' g g' b hr hg' hl hl' hb hb'
          subst this
          exact hdd (by simp only [deadsOf, List.mem_append, hst, cond_true]; exact .inr hr')
    · have hb := hb.congr hhid
      refine hH ((En.hid b).2 ⟨hst, .inr hb, fun r' hr' g' hg' hl' hb' => R.apart ⟨r', g', hg', hl', hb'⟩ hb, fun q hq hnq hqb => ?_⟩)
      obtain ⟨_, g', hg', hl'⟩ := En.base q hq hnq
      exact R.apart ⟨_, g', hg', hl', hqb⟩ hb
  refine ⟨β'', hNames, hOwnS, fun dst av v hdst hval => ?_⟩
  refine R.update (h' := heapPut st.heap hw) hdst Ro.os Ro.tape Ro.output Ro.grow hhid (fun b hb hno => hkeep b hb fun h => hno (hio1 b h)) ?_ ?_ ?_ ?_ ?_ (fun _ => hval)
  · rintro b ⟨r, g, hr, hl, hb⟩
    by_cases hx : ∃ q g, (lay.enc s).heap q = some g ∧ tau d ρ N q = r
    · obtain ⟨q, g2, h1, h2⟩ := hx
      subst h2
      rw [hβ1 q g2 h1] at hb
      rcases Ro.lo b ⟨q, g2, h1, hlive q g2 h1, hb⟩ with h | h
      · exact .inr h
      · exact .inl (hio1 b (hblkC b h))
    · have hx : ∀ q g, (lay.enc s).heap q = some g → tau d ρ N q ≠ r := fun q g h1 h2 => hx ⟨q, g, h1, h2⟩
      by_cases hdd : r ∈ deadsOf S ρ N gs lay
      · rw [hDd r hdd] at hr; cases hr; cases hl
      · rw [hB r hx hdd] at hr
        rw [hβ2 r hx] at hb
        exact .inl ⟨r, g, hr, hl, hb⟩
  · intro r g hr
    by_cases hx : ∃ q g, (lay.enc s).heap q = some g ∧ tau d ρ N q = r
    · obtain ⟨q, g2, h1, h2⟩ := hx
      subst h2
      rcases hkind q g2 h1 with ⟨h3, h4, h5, h6, h7⟩ | ⟨_, h3⟩
      · refine ⟨_, hA q g2 h1, ?_, fun _ => by rw [hβ1 q g2 h1, hanc q g2 h1 (hlive q g2 h1) h3 h4 h5, h6]⟩
        rw [h6] at hr
        rw [hr] at h7
        -- lengths of rows by their base value
        have hbq := hanc q g2 h1 (hlive q g2 h1) h3 h4 h5
        have HR := R.heap _ _ hr
        have HO := Ro.heap _ _ h1
        rw [hbq] at HO
        cases g <;> cases g2 <;> simp only [renReg, shapeB] at h7 <;> first | (cases h7; done) | skip
        · simpa [Shape, renReg, nbeq] using h7
        · simp only [Bool.and_eq_true] at h7
          obtain rfl := nbeq.1 h7.1
          obtain rfl := beqK.1 h7.2
          refine ⟨rfl, rfl, ?_⟩
          rcases HR with ⟨e1, e2⟩ | ⟨b, cap, tl, e1, _⟩ <;> rcases HO with ⟨e3, e4⟩ | ⟨b', cap', tl', e3, _⟩
          · rw [e2, e4]
          · rw [e1] at e3; cases e3
          · rw [e1] at e3; cases e3
          · rw [e1] at e3; injection e3 with _ e _; exact e.symm
        · simp only [Bool.and_eq_true, decide_eq_true_eq] at h7
          obtain rfl := nbeq.1 h7.1
          obtain rfl := h7.2
          refine ⟨rfl, rfl, ?_⟩
          rcases HR with ⟨e1, e2⟩ | ⟨b, cap, l1, tl, e1, _⟩ <;> rcases HO with ⟨e3, e4⟩ | ⟨b', cap', l2, tl', e3, _⟩
          · rw [e2, e4]
          · rw [e1] at e3; cases e3
          · rw [e1] at e3; cases e3
          · rw [e1] at e3; injection e3 with _ e _; exact e.symm
      · rw [hr] at h3; cases h3
    · have hx : ∀ q g, (lay.enc s).heap q = some g → tau d ρ N q ≠ r := fun q g h1 h2 => hx ⟨q, g, h1, h2⟩
      by_cases hdd : r ∈ deadsOf S ρ N gs lay
      · exact ⟨.dead, hDd r hdd, by cases g <;> trivial, fun h => h.elim⟩
      · exact ⟨g, (hB r hx hdd).trans hr, .refl g, fun _ => hβ2 r hx⟩
  · intro r g hio hr
    by_cases hx : ∃ q g, (lay.enc s).heap q = some g ∧ tau d ρ N q = r
    · obtain ⟨q, g2, h1, h2⟩ := hx
      subst h2
      rcases hkind q g2 h1 with ⟨h3, h4, h5, h6, h7⟩ | ⟨h3, _⟩
      · obtain ⟨_, g', hg', _⟩ := En.base q h5 h4
        exact ⟨g', by rw [h6]; exact hg'⟩
      · omega
    · have hx : ∀ q g, (lay.enc s).heap q = some g → tau d ρ N q ≠ r := fun q g h1 h2 => hx ⟨q, g, h1, h2⟩
      by_cases hdd : r ∈ deadsOf S ρ N gs lay
      · have := hdead r hdd
        cases hr' : st.heap r with
        | none => rw [hr'] at this; cases this
        | some g0 => exact ⟨g0, rfl⟩
      · rw [hB r hx hdd] at hr; exact ⟨g, hr⟩
  · intro M r g hr
    by_cases hx : ∃ q g, (lay.enc s).heap q = some g ∧ tau d ρ N q = r
    · obtain ⟨q, g2, h1, h2⟩ := hx
      subst h2
      rw [hA q g2 h1] at hr
      cases hr
      rw [hβ1 q g2 h1]
      exact RegRel.ren hNames ((hfz q g2 h1).imp id hOwnS) (Ro.heap q g2 h1)
    · have hx : ∀ q g, (lay.enc s).heap q = some g → tau d ρ N q ≠ r := fun q g h1 h2 => hx ⟨q, g, h1, h2⟩
      by_cases hdd : r ∈ deadsOf S ρ N gs lay
      · rw [hDd r hdd] at hr; cases hr; trivial
      · rw [hB r hx hdd] at hr
        rw [hβ2 r hx]
        exact (R.heap r g hr).mono M fun b hb hl => hkeep b (OwnR.lt R ⟨r, g, hr, hl, hb⟩) (hun r g b hr hl hb hx hdd)
  · intro r r' g g' b hr hr' hl hl' hb hb'
    have split1 : ∀ r g, heapPut st.heap hw r = some g → g.live → (∃ q g2, (lay.enc s).heap q = some g2 ∧ tau d ρ N q = r ∧ β'' r = βo q) ∨ (st.heap r = some g ∧ β'' r = β r ∧ (∀ q g, (lay.enc s).heap q = some g → tau d ρ N q ≠ r) ∧ r ∉ deadsOf S ρ N gs lay) := by
      intro r g hr hl
      by_cases hx : ∃ q g, (lay.enc s).heap q = some g ∧ tau d ρ N q = r
      · obtain ⟨q, g2, h1, h2⟩ := hx
        exact .inl ⟨q, g2, h1, h2, by rw [← h2]; exact hβ1 q g2 h1⟩
      · have hx : ∀ q g, (lay.enc s).heap q = some g → tau d ρ N q ≠ r := fun q g h1 h2 => hx ⟨q, g, h1, h2⟩
        by_cases hdd : r ∈ deadsOf S ρ N gs lay
        · rw [hDd r hdd] at hr; cases hr; cases hl
        · exact .inr ⟨by rw [← hB r hx hdd]; exact hr, hβ2 r hx, hx, hdd⟩
    have clash : ∀ q g2 r g, (lay.enc s).heap q = some g2 → blkOf (βo q) = some b → st.heap r = some g → g.live → blkOf (β r) = some b → (∀ q g, (lay.enc s).heap q = some g → tau d ρ N q ≠ r) → r ∉ deadsOf S ρ N gs lay → False := by
      intro q g2 r g h1 h2 h3 h4 h5 h6 h7
      rcases Ro.lo b ⟨q, g2, h1, hlive q g2 h1, h2⟩ with h | h
      · have := OwnR.lt R ⟨r, g, h3, h4, h5⟩
        omega
      · exact hun r g b h3 h4 h5 h6 h7 (hblkC b h)
    rcases split1 r g hr hl with ⟨q, g2, h1, h2, h3⟩ | ⟨h1, h2, h3, h4⟩ <;> rcases split1 r' g' hr' hl' with ⟨q', g2', h1', h2', h3'⟩ | ⟨h1', h2', h3', h4'⟩
    · rw [h3] at hb
      rw [h3'] at hb'
      have := Ro.sep q q' g2 g2' b h1 h1' (hlive q g2 h1) (hlive q' g2' h1') hb hb'
      rw [← h2, ← h2', this]
    · rw [h3] at hb
      rw [h2'] at hb'
      exact (clash q g2 r' g' h1 hb h1' hl' hb' h3' h4').elim
    · rw [h2] at hb
      rw [h3'] at hb'
      exact (clash q' g2' r g h1' hb' h1 hl hb h3 h4).elim
    · rw [h2] at hb
      rw [h2'] at hb'
      exact R.sep r r' g g' b h1 h1' hl hl' hb hb'
end
end Go.Abs
