/- A function that is handed a pointer: its entry in the table. -/
import Derived.Test.YtlloghihfigalaaAbsIo3
set_option linter.unusedVariables false
set_option linter.unusedSimpArgs false
namespace Go.Abs
open Go.RowKit

theorem outK_nat {ρ : Type} {S : FI} {d : Nat} {y : outT S} (κ : List AV → List (Nat × Reg) → Option (List CV) → Option ρ) : outK S d y κ = (outK S d y (fun a b c => some (a, b, c))).bind fun t => κ t.1 t.2.1 t.2.2 := by
  obtain ⟨io, ps, rs, alt, res⟩ := S
  cases io <;> cases alt <;> simp only [outK] <;> first | rfl | (split <;> rfl)

theorem outK_some {S : FI} {d : Nat} {y : outT S} : ∃ avs regs io, (io = none ↔ S.io = none) ∧ (∀ r, r ∈ regs.map (·.1) → r = d) ∧ ∀ {ρ : Type} (κ : List AV → List (Nat × Reg) → Option (List CV) → Option ρ), outK S d y κ = κ avs regs io := by
  have key : ∀ {ps : List RI} {z : riT ps} {r : Nat}, r ∈ (riRegs d ps z).map (·.1) → r = d := by
    have one : ∀ {p : RI} {y : p.T} {r : Nat}, r ∈ (p.regs d y).map (·.1) → r = d := by
      intro p y r h
      cases p <;> simp [RI.regs] at h <;> exact h
    intro ps
    induction ps with
    | nil => intro y r h; simp [riRegs] at h
    | cons p q ih =>
      intro y r h
      cases q with
      | nil => exact one h
      | cons q s =>
        simp only [riRegs, List.map_append, List.mem_append] at h
        rcases h with h | h
        · exact one h
        · exact ih h
  obtain ⟨io, ps, rs, alt, res⟩ := S
  cases io <;> cases alt <;> simp only [outK]
  · exact ⟨_, _, _, by simp, fun r h => key h, fun κ => rfl⟩
  · cases y
    · exact ⟨_, _, _, by simp, fun r h => key h, fun κ => rfl⟩
    · exact ⟨_, _, _, by simp, fun r h => key h, fun κ => rfl⟩
  · exact ⟨_, _, some _, by simp, fun r h => key h, fun κ => rfl⟩
  · obtain ⟨y, t⟩ := y
    cases y
    · exact ⟨_, _, some _, by simp, fun r h => key h, fun κ => rfl⟩
    · exact ⟨_, _, some _, by simp, fun r h => key h, fun κ => rfl⟩

theorem inDec_io {h : HeapT} {S : FI} {l : List AV} {x : inT S} {rs : List Nat} {ro : Option Nat} (e : inDec h S l = some (x, rs, ro)) : (S.io = none ↔ ro = none) := by
  obtain ⟨io, ps, rs', alt, res⟩ := S
  cases io with
  | none =>
    simp only [inDec] at e
    split at e
    · cases e; simp
    · cases e
  | some ss =>
    simp only [inDec] at e
    split at e
    · split at e
      · split at e
        · obtain ⟨_, h2⟩ := cond_some e
          cases h2; simp
        · cases e
      · cases e
    · cases e

theorem inDec_dep {h h' : HeapT} {S : FI} {l : List AV} {x : inT S} {rs : List Nat} {ro : Option Nat} (e : inDec h S l = some (x, rs, ro)) (H : Same h h' (ioL ro ++ rs)) : inDec h' S l = some (x, rs, ro) := by
  obtain ⟨io, ps, rs', alt, res⟩ := S
  cases io with
  | none =>
    simp only [inDec] at e ⊢
    split at e
    · rename_i z qs hz
      cases e
      rw [psDec_dep hz fun r hr => H r (by simp [hr])]
    · cases e
  | some ss =>
    simp only [inDec] at e ⊢
    split at e
    · rename_i r base room l'
      split at e
      · rename_i segs hr
        split at e
        · rename_i z y qs hz hy
          obtain ⟨h1, h2⟩ := cond_some e
          cases h2
          rw [H r (by simp [ioL]), hr]
          simp only
          rw [hz, psDec_dep hy fun q hq => H q (by simp [hq])]
          simp only [h1, cond_true]
        · cases e
      · cases e
    · cases e

theorem funEntI_inv {S : FI} {f : inT S → Option (outT S)} {d : Nat} {l : List AV} {h : HeapT} {δ : Delta} (e : (funEntI S f).k d l h some = some δ) :
    h d = none ∧ ∃ x rs ro y, inDec h S l = some (x, rs, ro) ∧ f x = some y ∧ outK S d y (fun avs regs io => some (⟨resAV avs, ioW ro io ++ regs, d :: (ioL ro ++ rs)⟩ : Delta)) = some δ := by
  simp only [funEntI] at e
  split at e
  · rename_i x rs ro h1 h2
    cases h3 : f x with
    | none => rw [h3] at e; cases e
    | some y =>
      rw [h3] at e
      simp only [Option.bind_some] at e
      exact ⟨h1, x, rs, ro, y, h2, h3, e⟩
  · cases e

section
variable {P : Program}

theorem val_res {w' : World} {h : HeapT} {β : Nat → Value} {l : List AV} {vs : List Value} (H : AVsRel h β w' l vs) : AVRel h β w' (resAV l) (resV vs) := by
  match l, vs, H with
  | [], vs, H => simp only [AVsRel] at H; subst H; simp only [resAV, AVRel]; exact ⟨[], rfl, by simp only [AVsRel]⟩
  | [x], vs, H =>
    simp only [AVsRel] at H
    obtain ⟨v, r, rfl, hv, rfl⟩ := H
    exact hv
  | x :: z :: l, vs, H =>
    have H' := H
    simp only [AVsRel] at H
    obtain ⟨v, r, rfl, hv, v', r', rfl, hv', hr⟩ := H
    simp only [resAV, AVRel]
    exact ⟨_, rfl, H'⟩

/-- What the caller has after the call: perhaps its region r turned, perhaps a new region d. -/
theorem io_post {w0 : World} {fp : Nat → Prop} {nt : Nat} {β : Nat → Value} {st : St} {a : Act} {w w' : World} {d : Nat} {hr : List Nat}
    (R : Rel P w0 fp nt β st a w) (hd : dstOk nt (some d) = true) (hfree0 : st.heap d = none)
    (hos : w'.os = w.os) (htape : w'.tape = w.tape) (hout : w'.output = w.output) (hgrow : w.heap.size ≤ w'.heap.size)
    (ob : Option Nat) (hkeep : ∀ b, b < w.heap.size → ob ≠ some b → w'.heap[b]? = w.heap[b]?)
    (iow : List (Nat × Reg)) (hio : (iow = [] ∧ ob = none) ∨ ∃ r segs segs' b T cs, iow = [(r, .cells segs')] ∧ ob = some b ∧ st.heap r = some (.cells segs) ∧ segSize segs' = segSize segs ∧ β r = .pointer (some ⟨b, 0, none⟩) ∧
      w'.heap[b]? = some (.cells cs T (0, 0)) ∧ ∀ h' β', SegsRel h' β' w' segs' cs.toList)
    (avs : List AV) (vs : List Value) (regs : List (Nat × Reg))
    (hres : (regs = [] ∧ ∀ h' β', AVsRel h' β' w' avs vs) ∨ ∃ bv g, regs = [(d, g)] ∧ NewReg w w' bv g ∧ ∀ (h' : HeapT) β', h' d = some g → β' d = bv → AVsRel h' β' w' avs vs) :
    Post P w0 fp nt (st.app (some d) ⟨resAV avs, iow ++ regs, hr⟩) (a.put (some d) (resV vs)) w' := by
  -- first the turned region
  obtain ⟨h1, hh1, hreg1, hsame, hturn⟩ : ∃ h1 : HeapT, heapPut st.heap iow = h1 ∧ (∀ r g, st.heap r = some g → ∃ g', h1 r = some g' ∧ Shape g g' ∧ (g'.live ↔ g.live)) ∧ (∀ r, st.heap r = none → h1 r = none) ∧
      (∀ {β'' : Nat → Value} {h'' : HeapT}, Mono st.heap β w h'' β'' w' → ∀ r g, h1 r = some g → RegRel h'' β'' w' (β r) g) := by
    have hk : ∀ r g, st.heap r = some g → (∀ b, blkOf (β r) = some b → g.live → ob ≠ some b) → ∀ {β'' : Nat → Value} {h'' : HeapT}, Mono st.heap β w h'' β'' w' → RegRel h'' β'' w' (β r) g :=
      fun r g hr hne _ _ M => (R.heap r g hr).mono M fun b hb hl => hkeep b (Own.lt R ⟨r, g, hr, hl, hb⟩) (hne b hb hl)
    rcases hio with ⟨rfl, rfl⟩ | ⟨r, segs, segs', b, T, cs, rfl, rfl, hrr, hsz, hbv, hw, hss⟩
    · exact ⟨_, rfl, fun r g hr => ⟨g, hr, .refl g, Iff.rfl⟩, fun _ h => h, fun M r g hr => hk r g hr (fun b _ _ h => by cases h) M⟩
    · refine ⟨_, rfl, ?_, ?_, ?_⟩
      · intro q g hq
        show ∃ g', upd st.heap r (some (.cells segs')) q = some g' ∧ _
        by_cases e : q = r
        · subst e
          rw [hrr] at hq
          cases hq
          exact ⟨_, upd_same _ _ _, hsz, Iff.rfl⟩
        · exact ⟨g, by rw [upd_ne _ _ e]; exact hq, .refl g, Iff.rfl⟩
      · intro q hq
        show upd st.heap r (some (.cells segs')) q = none
        by_cases e : q = r
        · subst e; rw [hrr] at hq; cases hq
        · rw [upd_ne _ _ e]; exact hq
      · intro β'' h'' M q g hq
        have hq' : upd st.heap r (some (.cells segs')) q = some g := hq
        by_cases e : q = r
        · subst e
          rw [upd_same] at hq'
          cases hq'
          exact ⟨b, T, cs, hbv, hw, hss _ _⟩
        · rw [upd_ne _ _ e] at hq'
          refine hk q g hq' (fun b' hb' hl hb => ?_) M
          cases hb
          exact e (R.sep q r g _ b hq' hrr hl trivial hb' (by rw [hbv]; rfl))
  have hback : ∀ r g, h1 r = some g → ∃ g0, st.heap r = some g0 ∧ (g.live ↔ g0.live) := by
    intro r g hr
    cases h : st.heap r with
    | none => rw [hsame r h] at hr; cases hr
    | some g0 =>
      obtain ⟨g', h2, _, h3⟩ := hreg1 r g0 h
      rw [hr] at h2
      cases h2
      exact ⟨g0, rfl, h3⟩
  have hblk : ∀ b, b < w.heap.size → ¬ Own st.heap β b → w'.heap[b]? = w.heap[b]? := by
    intro b hb hno
    refine hkeep b hb fun h => hno ?_
    rcases hio with ⟨_, h2⟩ | ⟨r, segs, segs', b', T, cs, _, h2, hrr, _, hbv, _, _⟩
    · rw [h2] at h; cases h
    · rw [h2] at h; cases h
      exact ⟨r, _, hrr, trivial, by rw [hbv]; rfl⟩
  have hput : heapPut st.heap (iow ++ regs) = heapPut h1 regs := by
    rw [← hh1]
    rcases hio with ⟨rfl, _⟩ | ⟨r, segs, segs', b, T, cs, rfl, _⟩ <;> rfl
  have hd1 : h1 d = none := hsame d hfree0
  show Post P w0 fp nt { env := putEnv st.env (some d) (resAV avs), heap := heapPut st.heap (iow ++ regs) } _ w'
  rw [hput]
  rcases hres with ⟨rfl, h6⟩ | ⟨bv, g0, rfl, ⟨hlive, hrel, hnew⟩, h8⟩
  · refine ⟨β, ?_⟩
    refine R.update (h' := h1) hd hos htape hout hgrow hblk ?_ ?_ hturn ?_ (fun _ => val_res (h6 h1 β))
    · rintro b ⟨r, g, hr, hl, hb⟩
      obtain ⟨g0, h2, h3⟩ := hback r g hr
      exact .inl ⟨r, g0, h2, h3.1 hl, hb⟩
    · intro r g hr
      obtain ⟨g', h2, h3, _⟩ := hreg1 r g hr
      exact ⟨g', h2, h3, fun _ => rfl⟩
    · intro r r' g g' b h9 h10 h11 h12 h13 h14
      obtain ⟨g0, h2, h3⟩ := hback r g h9
      obtain ⟨g0', h2', h3'⟩ := hback r' g' h10
      exact R.sep r r' g0 g0' b h2 h2' (h3.1 h11) (h3'.1 h12) h13 h14
  · have hother : ∀ r g, h1 r = some g → r ≠ d := fun r g hr e => by rw [e, hd1] at hr; cases hr
    refine ⟨upd β d bv, ?_⟩
    refine R.update (h' := upd h1 d (some g0)) hd hos htape hout hgrow hblk ?_ ?_ ?_ ?_ (fun _ => val_res (h8 _ _ (upd_same _ _ _) (upd_same _ _ _)))
    · rintro b ⟨r, g, hr, hl, hb⟩
      by_cases e : r = d
      · subst e
        rw [upd_same] at hb
        exact .inr (hnew b hb)
      · rw [upd_ne _ _ e] at hr hb
        obtain ⟨g0', h2, h3⟩ := hback r g hr
        exact .inl ⟨r, g0', h2, h3.1 hl, hb⟩
    · intro r g hr
      obtain ⟨g', h2, h3, _⟩ := hreg1 r g hr
      have := hother r g' h2
      exact ⟨g', by rw [upd_ne _ _ this]; exact h2, h3, fun _ => upd_ne _ _ this⟩
    · intro M r g hr
      by_cases e : r = d
      · subst e
        rw [upd_same] at hr ⊢
        cases hr
        exact hrel _ _
      · rw [upd_ne _ _ e] at hr ⊢
        exact hturn M r g hr
    · intro r r' g g' b h9 h10 h11 h12 h13 h14
      by_cases e : r = d <;> by_cases e' : r' = d
      · rw [e, e']
      · subst e
        rw [upd_same] at h13
        rw [upd_ne _ _ e'] at h10 h14
        obtain ⟨g1, h2, h3⟩ := hback r' g' h10
        have := hnew b h13
        have := Own.lt R ⟨r', g1, h2, h3.1 h12, h14⟩
        omega
      · subst e'
        rw [upd_same] at h14
        rw [upd_ne _ _ e] at h9 h13
        obtain ⟨g1, h2, h3⟩ := hback r g h9
        have := hnew b h14
        have := Own.lt R ⟨r, g1, h2, h3.1 h11, h13⟩
        omega
      · rw [upd_ne _ _ e] at h9 h13
        rw [upd_ne _ _ e'] at h10 h14
        obtain ⟨g1, h2, h3⟩ := hback r g h9
        obtain ⟨g1', h2', h3'⟩ := hback r' g' h10
        exact R.sep r r' g1 g1' b h2 h2' (h3.1 h11) (h3'.1 h12) h13 h14

theorem fun_okI {f : Nat} {fn : Func} {c : Code} {S : FI} {F : inT S → Option (outT S)} (hf : P.funcs[f]? = some fn) (hname : (fn.name == "runtime.NumGoroutine") = false) (hb : fn.body = some c)
    (hfree : psFree S.ps = true) (hok : outOk S = true) (H : CallsI P f S F) : EntOk P f (funEntI S F) := by
  refine ⟨?_, ?_, ?_⟩
  · intro ρ d l h k
    simp only [funEntI]
    cases h d with
    | some g => rfl
    | none =>
      cases inDec h S l with
      | none => rfl
      | some p =>
        obtain ⟨x, rs, ro⟩ := p
        simp only
        cases F x with
        | none => rfl
        | some y =>
          simp only [Option.bind_some]
          obtain ⟨avs, regs, io, _, _, h3⟩ := outK_some (S := S) (d := d) (y := y)
          rw [h3, h3]; rfl
  · intro d l h h' δ e hs
    obtain ⟨h1, x, rs, ro, y, h2, h3, h4⟩ := funEntI_inv e
    obtain ⟨avs, regs, io, h5, h6, h7⟩ := outK_some (S := S) (d := d) (y := y)
    rw [h7] at h4
    cases h4
    refine ⟨?_, ?_⟩
    · simp only [funEntI]
      rw [hs d (by simp), h1, inDec_dep h2 (fun r hr => hs r (by simp at hr ⊢; exact .inr hr))]
      simp only [h3, Option.bind_some]
      rw [h7]
    · intro r hr
      simp only [List.map_append, List.mem_append] at hr
      rcases hr with hr | hr
      · cases ro with
        | none => cases io <;> simp [ioW] at hr
        | some r0 => cases io <;> simp [ioW] at hr; subst hr; simp [ioL]
      · rw [h6 r hr]; simp
  · intro w0 fp nt β st a w o d args l δ Q hcal hdst hl R hd e
    obtain ⟨hfree0, x, rs, ro, y, h2, h3, h4⟩ := funEntI_inv e
    obtain ⟨cc, hop, hcc, rfl⟩ := calleeOf_spec hcal
    obtain ⟨callee, as, ats⟩ := cc
    simp only at hcc
    subst hcc
    have hexec : (execOp a.eval o).run P w = .ok (.enter f (as.map a.eval)) w := by
      rw [Conc.execOp_call_func (a := a) hop]
      exact MuLone.run_callFunc_enter hf hname hb _ _
    have hvs := opds_rel R hl
    obtain ⟨ob, hargs, hob⟩ := inDec_args R hok hfree hvs h2
    have hcalls := H (as.toList.map a.eval) x y w ob h3 hargs
    have hmap : (as.toList.map a.eval).toArray = as.map a.eval := by
      apply Array.toList_inj.1
      simp
    rw [hmap] at hcalls
    unfold Oper.wp
    rw [hexec, Oper.upon_enter]
    refine hcalls.mono ?_
    rintro e w' ⟨nt', β', st', a', l', vs, R', hdec, hvs', rfl⟩
    simp only
    rw [hdst] at hd ⊢
    obtain ⟨rs', z, g1, g2, g3, g4⟩ := outDec_spec hok hdec
    rcases hob with ⟨i1, i2, i3⟩ | ⟨ss, segs, r, b, i1, i2, i3, i4, ⟨z0, i5⟩, i6, i7⟩
    · rcases g4 with ⟨_, g5⟩ | ⟨ss', _, _, g5, _⟩
      · rw [g5] at h4
        subst i2 i3
        cases h4
        have hlow : ∀ r g b, st'.heap r = some g → g.live → blkOf (β' r) = some b → w.heap.size ≤ b := fun r g b h1 h2 h3 => by
          rcases R'.lo b ⟨r, g, h1, h2, h3⟩ with h | h
          · exact h
          · cases h
        exact io_post R hd hfree0 R'.os R'.tape R'.output R'.grow none (fun b hb _ => R'.keep b hb (fun h => by cases h)) [] (.inl ⟨rfl, rfl⟩) _ vs _
          (riDec_rel R' (fun r g b _ h1 h2 h3 => hlow r g b h1 h2 h3) (fun r e k xs b h1 h2 => hlow r _ b h1 trivial h2) d g1 g2 hvs' g3)
      · rw [i1] at g5; cases g5
    · rcases g4 with ⟨g5, _⟩ | ⟨ss', segs', t, g5, g6, g7, g8⟩
      · rw [i1] at g5; cases g5
      · rw [i1] at g5
        cases g5
        rw [g8] at h4
        subst i2 i3
        cases h4
        obtain ⟨b1, T, cs, k1, k2, k3⟩ := R'.heap ioN _ g6
        obtain ⟨g', k4, k5⟩ := R'.anc _ rfl
        rw [g6] at k4
        cases k4
        have k6 := k5 trivial
        rw [k1] at k6
        simp only [blkOf, Option.some.injEq] at k6
        subst k6
        have k6 : blkOf (β' ioN) = some b1 := by rw [k1]; rfl
        have hlow : ∀ r g b, r ≠ ioN → st'.heap r = some g → g.live → blkOf (β' r) = some b → w.heap.size ≤ b := fun r g b hne h1 h2 h3 => by
          rcases R'.lo b ⟨r, g, h1, h2, h3⟩ with h | h
          · exact h
          · cases h
            exact (hne (R'.sep r ioN g _ _ h1 g6 h2 trivial h3 k6)).elim
        refine io_post R hd hfree0 R'.os R'.tape R'.output R'.grow (some b1) (fun b hb hne => R'.keep b hb hne) [(r, .cells (segsEnc (ss.map CS.ret) t))]
          (.inr ⟨r, segs, _, b1, T, cs, rfl, rfl, i4, ?_, i6, k2, fun h' β' => rdecs_rel i7 g7 k3 h' β' w'⟩) _ vs _
          (riDec_rel R' hlow (fun r e k xs b h1 h2 => hlow r _ b (fun h => by rw [h, g6] at h1; cases h1) h1 trivial h2) d g1 g2 hvs' g3)
        rw [← i5]
        exact segs_size z0 t i7
end
end Go.Abs
