/- A function's contract out of its body's equation. -/
import Derived.Test.YtlloghihfigalaaAbsFun
set_option linter.unusedVariables false
set_option linter.unusedSimpArgs false
namespace Go.Abs
open Go.RowKit

theorem funEnt_inv {S : FSh} {f : psT S.ps → Option (rsT S.rs)} {d : Nat} {l : List AV} {h : HeapT} {δ : Delta} (e : (funEnt S f).k d l h some = some δ) :
    h d = none ∧ ∃ x rs y, psDec h S.ps l = some (x, rs) ∧ f x = some y ∧ δ = ⟨resAV (rsEnc d S.rs y), rsRegs d S.rs y, d :: rs⟩ := by
  simp only [funEnt] at e
  split at e
  · rename_i x rs h1 h2
    cases h3 : f x with
    | none => rw [h3] at e; cases e
    | some y =>
      rw [h3] at e
      simp only [Option.bind_some, Option.some.injEq] at e
      exact ⟨h1, x, rs, y, h2, h3, e.symm⟩
  · cases e

theorem rsRegs_key {d : Nat} : ∀ {ps : List RSh} {y : rsT ps} {r : Nat}, r ∈ (rsRegs d ps y).map (·.1) → r = d := by
  have one : ∀ {p : RSh} {y : p.T} {r : Nat}, r ∈ (p.regs d y).map (·.1) → r = d := by
    intro p y r h
    cases p <;> simp [RSh.regs] at h; exact h
  intro ps
  induction ps with
  | nil => intro y r h; simp [rsRegs] at h
  | cons p q ih =>
    intro y r h
    cases q with
    | nil => exact one h
    | cons q s =>
      simp only [rsRegs, List.map_append, List.mem_append] at h
      rcases h with h | h
      · exact one h
      · exact ih h

theorem opds_length {st : St} : ∀ {xs : List Operand} {l : List AV}, opds st xs = some l → l.length = xs.length := by
  intro xs
  induction xs with
  | nil => intro l e; cases e; rfl
  | cons x xs ih =>
    intro l e
    simp only [opds] at e
    split at e
    · rename_i h1 h2; cases e; simp [ih h2]
    · cases e

section
variable {P : Program} (C : Ctx P)

/-- What a call comes to, seen from outside. -/
def CallsAs (P : Program) (C : Ctx P) (f : Nat) (S : FSh) (F : psT S.ps → Option (rsT S.rs)) : Prop :=
  ∀ (us : List Value) (x : psT S.ps) (y : rsT S.rs) (w : World), us.length = S.ps.length → F x = some y →
    (∀ t av, (t, av) ∈ psEnc 0 S.ps x → ∃ u, us[t]? = some u ∧ ∀ h β, (∀ b, ¬ Own h β b) → AVRel h β w av u) →
    Calls P f us.toArray w fun e w' => ∃ (nt : Nat) (β : Nat → Value) (st : St) (a : Act) (l : List AV) (vs : List Value), Rel P w (fun _ => False) nt β st a w' ∧ rsDec st.heap S.rs l = some y ∧ AVsRel st.heap β w' l vs ∧
      e = .returned (resV vs)

theorem fun_calls {f : Nat} {fn : Func} {c : Code} {S : FSh} {F : psT S.ps → Option (rsT S.rs)} {ann : Ann} (hf : P.funcs[f]? = some fn) (hb : fn.body = some c) (hres : fn.results.toList = S.res) (hnt : S.ps.length ≤ fn.ntmps)
    (hA : AnnOk P fn.ntmps c ann) (heq : ∀ x, exec C.T C.E fn.ntmps c ann (fin C.T S) (argSt S x) = F x) : CallsAs P C f S F := by
  intro us x y w hlen hF hargs
  refine calls_of_wp hf hb ?_
  have h0 := heq x
  rw [hF] at h0
  have R0 : Rel P w (fun _ => False) fn.ntmps (fun _ => undef) (argSt S x) { tmps := us.toArray ++ Array.replicate (fn.ntmps - us.toArray.size) undef, defers := [] } w := by
    have noown : ∀ b, ¬ Own (argSt S x).heap (fun _ => undef) b := by rintro b ⟨r, g, hr, _⟩; cases hr
    refine ⟨rfl, by simp; omega, ?_, (fun r g h => by cases h), (fun r r' g g' b h => by cases h), (fun b hb => (noown b hb).elim), rfl, rfl, rfl, Nat.le_refl _, fun _ _ _ => rfl, fun _ h => h.elim⟩
    intro t av ht
    obtain ⟨u, hu, hr⟩ := hargs t av (ofL_mem ht)
    have hlt : t < us.length := by
      rcases Nat.lt_or_ge t us.length with h | h
      · exact h
      · rw [List.getElem?_eq_none h] at hu; cases hu
    have : ({ tmps := us.toArray ++ Array.replicate (fn.ntmps - us.toArray.size) undef, defers := [] } : Act).tmps.getD t undef = u := by
      rw [Array.getD_eq_getD_getElem?, Array.getElem?_append_left (by simpa using hlt)]
      simp [hu]
    rw [this]
    exact hr _ _ noown
  refine exec_sound C fn.ntmps h0 hA ⟨_, R0⟩ ?_
  intro ex st' a' w' h1 hp
  obtain ⟨β, R⟩ := hp
  have key : ∀ l, resAVs C.T st' S.res = some l → rsDec st'.heap S.rs l = some y → bodyPost P fn (fun e w' => ∃ (nt : Nat) (β : Nat → Value) (st : St) (a : Act) (l : List AV) (vs : List Value), Rel P w (fun _ => False) nt β st a w' ∧ rsDec st.heap S.rs l = some y ∧ AVsRel st.heap β w' l vs ∧
      e = .returned (resV vs)) .ret a' w' := by
    intro l h2 h3
    rw [← hres] at h2
    obtain ⟨vs, h4, h5⟩ := run_results C R h2
    exact ⟨R.defers, _, h4, _, β, st', a', l, vs, R, h3, h5, rfl⟩
  cases ex with
  | exit i => cases h1
  | normal =>
    simp only [fin] at h1
    split at h1
    · rename_i l h2; exact key l h2 h1
    · cases h1
  | ret =>
    simp only [fin] at h1
    split at h1
    · rename_i l h2; exact key l h2 h1
    · cases h1

theorem ret_post {w0 : World} {fp : Nat → Prop} {nt : Nat} {β : Nat → Value} {st : St} {a : Act} {w w' : World} {d : Nat} {hr : List Nat} {rs : List RSh} {y : rsT rs} {nt' : Nat} {β' : Nat → Value} {st' : St} {a' : Act} {l' : List AV} {vs : List Value}
    (R : Rel P w0 fp nt β st a w) (hd : dstOk nt (some d) = true) (hfree0 : st.heap d = none) (R' : Rel P w (fun _ => False) nt' β' st' a' w') (hdec : rsDec st'.heap rs l' = some y) (hvs' : AVsRel st'.heap β' w' l' vs)
    (hrfree : rsFree rs = true) (hrow : rowsIn rs ≤ 1) : Post P w0 fp nt (st.app (some d) ⟨resAV (rsEnc d rs y), rsRegs d rs y, hr⟩) (a.put (some d) (resV vs)) w' := by
  -- the caller's state
  have hkeep : ∀ b, b < w.heap.size → w'.heap[b]? = w.heap[b]? := fun b hb => R'.keep b hb (fun h => h)
  have val : ∀ {h : HeapT} {β : Nat → Value} {l : List AV} {vs : List Value}, AVsRel h β w' l vs → AVRel h β w' (resAV l) (resV vs) := by
    intro h β l vs H
    match l, vs, H with
    | [], vs, H => simp only [AVsRel] at H; subst H; simp only [resAV, AVRel]; exact ⟨[], rfl, by simp only [AVsRel]⟩
    | [x], vs, H =>
      simp only [AVsRel] at H
      obtain ⟨v, r, rfl, hv, rfl⟩ := H
      exact hv
    | x :: z :: l, vs, H =>
      have H' := H
      simp only [AVsRel] at H
      obtain ⟨v, r, rfl, hv, v', r', rfl, hv', hr⟩ := H
      simp only [resAV, AVRel]
      exact ⟨_, rfl, H'⟩
  rcases rsDec_rel R' d hrfree hrow hvs' hdec with ⟨h5, h6⟩ | ⟨bv, ee, k, xs, h5, h6, h7, h8⟩
  · refine ⟨β, ?_⟩
    rw [h5]
    exact R.update (h' := st.heap) hd R'.os R'.tape R'.output R'.grow (fun b hb _ => hkeep b hb) (fun b hb => .inl hb) (fun r g hr => ⟨g, hr, .refl g, fun _ => rfl⟩)
      (fun M r g hr => (R.heap r g hr).mono M fun b hb hl => hkeep b (Own.lt R ⟨r, g, hr, hl, hb⟩)) R.sep (fun _ => val (h6 st.heap β))
  · rw [h5]
    have hother : ∀ r g, st.heap r = some g → r ≠ d := fun r g hr e => by rw [e, hfree0] at hr; cases hr
    refine ⟨upd β d bv, ?_⟩
    refine R.update (h' := upd st.heap d (some (.row ee k xs))) hd R'.os R'.tape R'.output R'.grow (fun b hb _ => hkeep b hb) ?_ ?_ ?_ ?_ ?_
    · rintro b ⟨r, g, hr, hl, hb⟩
      by_cases e : r = d
      · subst e
        rw [upd_same] at hb
        exact .inr (h7 b hb)
      · rw [upd_ne _ _ e] at hr hb
        exact .inl ⟨r, g, hr, hl, hb⟩
    · intro r g hr
      refine ⟨g, by rw [upd_ne _ _ (hother r g hr)]; exact hr, .refl g, fun _ => upd_ne _ _ (hother r g hr)⟩
    · intro M r g hr
      by_cases e : r = d
      · subst e
        rw [upd_same] at hr ⊢
        cases hr
        exact h6 _ _
      · rw [upd_ne _ _ e] at hr ⊢
        exact (R.heap r g hr).mono M fun b hb hl => hkeep b (Own.lt R ⟨r, g, hr, hl, hb⟩)
    · intro r r' g g' b h9 h10 h11 h12 h13 h14
      by_cases e : r = d <;> by_cases e' : r' = d
      · rw [e, e']
      · subst e
        rw [upd_same] at h13
        rw [upd_ne _ _ e'] at h10 h14
        have := h7 b h13
        have := Own.lt R ⟨r', g', h10, h12, h14⟩
        omega
      · subst e'
        rw [upd_same] at h14
        rw [upd_ne _ _ e] at h9 h13
        have := h7 b h14
        have := Own.lt R ⟨r, g, h9, h11, h13⟩
        omega
      · rw [upd_ne _ _ e] at h9 h13
        rw [upd_ne _ _ e'] at h10 h14
        exact R.sep r r' g g' b h9 h10 h11 h12 h13 h14
    · intro _
      exact val (h8 _ _ (upd_same _ _ _) (upd_same _ _ _))

theorem fun_ok {f : Nat} {fn : Func} {c : Code} {S : FSh} {F : psT S.ps → Option (rsT S.rs)} (hf : P.funcs[f]? = some fn) (hname : (fn.name == "runtime.NumGoroutine") = false) (hb : fn.body = some c)
    (hfree : psFree S.ps = true) (hrfree : rsFree S.rs = true) (hrow : rowsIn S.rs ≤ 1) (H : CallsAs P C f S F) : EntOk P f (funEnt S F) := by
  refine ⟨?_, ?_, ?_⟩
  · intro ρ d l h k
    simp only [funEnt]
    cases h d with
    | some g => rfl
    | none =>
      cases psDec h S.ps l with
      | none => rfl
      | some p =>
        obtain ⟨x, rs⟩ := p
        simp only
        cases F x <;> rfl
  · intro d l h h' δ e hs
    obtain ⟨h1, x, rs, y, h2, h3, rfl⟩ := funEnt_inv e
    refine ⟨?_, fun r hr => by rw [rsRegs_key hr]; simp⟩
    simp only [funEnt]
    rw [hs d (by simp), h1, psDec_dep h2 (fun r hr => hs r (by simp [hr]))]
    simp only [h3, Option.bind_some]
  · intro w0 fp nt β st a w o d args l δ Q hcal hdst hl R hd e
    obtain ⟨hfree0, x, rs, y, h2, h3, rfl⟩ := funEnt_inv e
    obtain ⟨cc, hop, hcc, rfl⟩ := calleeOf_spec hcal
    obtain ⟨callee, as, ats⟩ := cc
    simp only at hcc
    subst hcc
    have hexec : (execOp a.eval o).run P w = .ok (.enter f (as.map a.eval)) w := by
      rw [Conc.execOp_call_func (a := a) hop]
      exact MuLone.run_callFunc_enter hf hname hb _ _
    have hvs := opds_rel R hl
    have hargs := fun h' β' H => psDec_rel (h' := h') (β' := β') R H (i := 0) hfree hvs h2
    have hlen : (as.toList.map a.eval).length = S.ps.length := (hargs (fun _ => none) (fun _ => undef) (by rintro b ⟨r, g, hr, _⟩; cases hr)).1
    have hcalls := H (as.toList.map a.eval) x y w hlen h3 (by
      intro t av ht
      obtain ⟨j, u, h4, h5, _⟩ := (hargs (fun _ => none) (fun _ => undef) (by rintro b ⟨r, g, hr, _⟩; cases hr)).2 t av ht
      have htj : t = j := by omega
      subst htj
      refine ⟨u, h5, fun h β hno => ?_⟩
      obtain ⟨j', u', h7, h8, h9⟩ := (hargs h β hno).2 t av ht
      have : j' = t := by omega
      subst this
      rw [h5] at h8
      cases h8
      exact h9)
    have hmap : (as.toList.map a.eval).toArray = as.map a.eval := by
      apply Array.toList_inj.1
      simp
    rw [hmap] at hcalls
    unfold Oper.wp
    rw [hexec, Oper.upon_enter]
    refine hcalls.mono ?_
    rintro e w' ⟨nt', β', st', a', l', vs, R', hdec, hvs', rfl⟩
    simp only
    rw [hdst] at hd ⊢
    exact ret_post R hd hfree0 R' hdec hvs' hrfree hrow
end

theorem EntsOk.nil (P : Program) : EntsOk P (ofL []) := fun _ _ e => by cases e
theorem EntsOk.cons {P : Program} {l : List (Nat × Ent)} {f : Nat} {e : Ent} (h : EntOk P f e) (H : EntsOk P (ofL l)) : EntsOk P (ofL ((f, e) :: l)) := by
  intro g e' h'
  simp only [ofL] at h'
  cases hb : Nat.beq f g <;> rw [hb] at h'
  · exact H g e' h'
  · obtain rfl := nbeq.1 hb
    cases h'
    exact h
end Go.Abs
