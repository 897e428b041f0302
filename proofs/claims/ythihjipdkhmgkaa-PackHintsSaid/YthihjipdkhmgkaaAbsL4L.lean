/- What the entry of a function depends on; the entry is right. -/
import Derived.Test.YthihjipdkhmgkaaAbsL3L
set_option linter.unusedVariables false
set_option linter.unusedSimpArgs false
namespace Go.Abs
universe u
open Go.RowKit

section
variable {h h' : Heap} {ρ : Nat → Nat} {N : Nat → Bool}

theorem CS.dec_dep {s : CS} {c : CV} {x : s.T} {gs : List Nat} (e : s.dec h ρ N c = some (x, gs)) (H : ∀ r ∈ gs, h' r = h r) (K : ∀ q ∈ regsCS s, h' (ρ q) = h (ρ q)) : s.dec h' ρ N c = some (x, gs) := by
  cases s <;> simp only [CS.dec] at e ⊢ <;> try exact e
  case fz d => exact frzSl_dep e H
  case sl r =>
    split at e
    · exact e
    · rename_i r'
      obtain ⟨h1, e⟩ := cond_some e
      rw [h1]
      simp only [cond_true]
      simp only [Bool.and_eq_true, nbeq] at h1
      rw [← h1.2] at e ⊢
      rw [K r (by simp [regsCS])]
      exact e
    · cases e
  case fzn d =>
    split at e
    · exact e
    · rename_i r o n
      obtain ⟨h1, e⟩ := cond_some e
      rw [h1]
      simp only [cond_true]
      split at e
      · rename_i hr
        split at e
        · rename_i hz; cases e; simp only [H r (by simp), hr, hz]
        · cases e
      · cases e
    · cases e
  case fzp d =>
    split at e
    · exact e
    · rename_i r base room
      obtain ⟨h1, h2⟩ := cond_some e
      rw [h1]
      simp only [cond_true]
      split at h2
      · rename_i segs hr
        split at h2
        · rename_i y gs2 h3
          cases h2
          simp only [H r (by simp), hr, frzD_dep h3 (fun q hq => H q (by simp [hq]))]
        · cases h2
      · cases h2
    · cases e

theorem segsDec_dep : ∀ {ss : List CS} {cs : List CV} {x : segsT ss} {gs : List Nat}, segsDec h ρ N ss cs = some (x, gs) → (∀ r ∈ gs, h' r = h r) → (∀ q ∈ regsCSs ss, h' (ρ q) = h (ρ q)) → segsDec h' ρ N ss cs = some (x, gs) := by
  intro ss
  induction ss with
  | nil => intro cs x gs e _ _; cases cs <;> exact e
  | cons s r ih =>
    intro cs x gs e H K
    have K1 : ∀ q ∈ regsCS s, h' (ρ q) = h (ρ q) := fun q hq => K q (by simp only [regsCSs, List.mem_append]; exact .inl hq)
    have K2 : ∀ q ∈ regsCSs r, h' (ρ q) = h (ρ q) := fun q hq => K q (by simp only [regsCSs, List.mem_append]; exact .inr hq)
    cases r with
    | nil =>
      match cs, e with
      | [c], e => exact CS.dec_dep e H K1
    | cons t r =>
      match cs, e with
      | c :: cs, e =>
        simp only [segsDec] at e ⊢
        split at e
        · rename_i h1
          split at e
          · rename_i h2
            cases e
            simp only [CS.dec_dep h1 (fun r hr => H r (by simp [hr])) K1, ih h2 (fun r hr => H r (by simp [hr])) K2]
          · cases e
        · cases e

theorem AS.dec_dep {s : AS} {c : AV} {x : s.T} {gs : List Nat} (e : s.dec h ρ N c = some (x, gs)) (H : ∀ r ∈ gs, h' r = h r) (K : ∀ q ∈ s.rs, h' (ρ q) = h (ρ q)) : s.dec h' ρ N c = some (x, gs) := by
  cases s <;> simp only [AS.dec] at e ⊢
  · split at e
    · exact CS.dec_dep e H K
    · cases e
  · split at e
    · exact segsDec_dep e H K
    · cases e
  · split at e
    · split at e
      · rename_i h1; cases e; simp only [frzD_dep h1 H]
      · cases e
    · cases e

theorem RS.dec_dep {s : RS} {c : Reg} {x : s.T} {gs : List Nat} (e : s.dec h ρ N c = some (x, gs)) (H : ∀ r ∈ gs, h' r = h r) (K : ∀ q ∈ s.rs, h' (ρ q) = h (ρ q)) : s.dec h' ρ N c = some (x, gs) := by
  cases s <;> simp only [RS.dec] at e ⊢
  · split at e
    · exact segsDec_dep e H K
    · cases e
  · exact e
  · exact e
  · exact e
end

section
variable {ρ : Nat → Nat} {N : Nat → Bool} {l : List AV} {h h' : Heap}

theorem varsDec_dep : ∀ {vs : List VS} {x : varsT vs} {gs : List Nat}, varsDec ρ N (callSt l h) vs = some (x, gs) → (∀ r ∈ gs, h' r = h r) → (∀ q ∈ keysOf vs, h' (ρ q) = h (ρ q)) → (∀ q ∈ varsRs vs, h' (ρ q) = h (ρ q)) → varsDec ρ N (callSt l h') vs = some (x, gs) := by
  have one : ∀ {v : VS} {x : v.T} {gs : List Nat}, v.dec ρ N (callSt l h) = some (x, gs) → (∀ r ∈ gs, h' r = h r) → (∀ q ∈ keysOf [v], h' (ρ q) = h (ρ q)) → (∀ q ∈ v.rs, h' (ρ q) = h (ρ q)) → v.dec ρ N (callSt l h') = some (x, gs) := by
    intro v x gs e H K KR
    cases v with
    | env t s =>
      simp only [VS.dec, callSt] at e ⊢
      split at e
      · exact AS.dec_dep e H KR
      · cases e
    | reg q s =>
      simp only [VS.dec, callSt] at e ⊢
      cases hN : N q with
      | true => rw [hN] at e; exact e
      | false =>
        rw [hN] at e
        simp only [cond_false] at e ⊢
        rw [K q (by simp [keysOf])]
        split at e
        · exact RS.dec_dep e H KR
        · cases e
  intro vs
  induction vs with
  | nil => intro x gs e _ _ _; exact e
  | cons v r ih =>
    intro x gs e H K KR
    have R1 : ∀ q ∈ v.rs, h' (ρ q) = h (ρ q) := fun q hq => KR q (by simp only [varsRs, List.mem_append]; exact .inl hq)
    have R2 : ∀ q ∈ varsRs r, h' (ρ q) = h (ρ q) := fun q hq => KR q (by simp only [varsRs, List.mem_append]; exact .inr hq)
    have K1 : ∀ q ∈ keysOf [v], h' (ρ q) = h (ρ q) := fun q hq => K q (by cases v <;> simp [keysOf] at hq ⊢; exact .inl hq)
    have K2 : ∀ q ∈ keysOf r, h' (ρ q) = h (ρ q) := fun q hq => K q (by cases v <;> simp only [keysOf, List.mem_cons]; exact hq; exact .inr hq)
    cases r with
    | nil => exact one e H K1 R1
    | cons v' r =>
      simp only [varsDec] at e ⊢
      split at e
      · rename_i h1
        split at e
        · rename_i h2
          cases e
          simp only [one h1 (fun r hr => H r (by simp [hr])) K1 R1, ih h2 (fun r hr => H r (by simp [hr])) K2 R2]
        · cases e
      · cases e

theorem fixDec_dep : ∀ {fx : List (Nat × CS)}, (fx.all fun p => match p.2.unit with | some _ => true | none => false) = true → (∀ q ∈ fixRs fx, h' (ρ q) = h (ρ q)) → fixDec ρ N (callSt l h) fx = true → fixDec ρ N (callSt l h') fx = true := by
  intro fx
  induction fx with
  | nil => intro _ _ e; exact e
  | cons p r ih =>
    obtain ⟨t, s⟩ := p
    intro hu K e
    have K1 : ∀ q ∈ regsCS s, h' (ρ q) = h (ρ q) := fun q hq => K q (by simp only [fixRs, List.mem_append]; exact .inl hq)
    have K2 : ∀ q ∈ fixRs r, h' (ρ q) = h (ρ q) := fun q hq => K q (by simp only [fixRs, List.mem_append]; exact .inr hq)
    simp only [List.all_cons, Bool.and_eq_true] at hu
    simp only [fixDec, callSt] at e ⊢
    split at e
    · rename_i x hx
      split at e
      · rename_i y hy
        obtain ⟨y, gs⟩ := y
        cases hun : s.unit with
        | none => have := hu.1; rw [hun] at this; cases this
        | some z =>
          obtain ⟨rfl, _⟩ := unit_nil hun hy
          rw [CS.dec_dep hy (by simp) K1]
          exact ih hu.2 K2 e
      · cases e
    · cases e

theorem srcCV_dep {ρ : Nat → Nat} {s : Src} (H : ∀ q i, s = .reg q i → h' (ρ q) = h (ρ q)) : srcCV (callSt l h') ρ s = srcCV (callSt l h) ρ s := by
  cases s with
  | env t i => rfl
  | reg q i => simp only [srcCV, callSt]; rw [H q i rfl]

theorem namesOf_dep : ∀ {rs : List (Nat × Src)} {acc : List (Nat × Option Nat)}, (∀ r ∈ touchOf (callSt l h) rs acc, h' r = h r) → namesOf (callSt l h') rs acc = namesOf (callSt l h) rs acc ∧ touchOf (callSt l h') rs acc = touchOf (callSt l h) rs acc := by
  intro rs
  induction rs with
  | nil => intro acc _; exact ⟨rfl, rfl⟩
  | cons p r ih =>
    obtain ⟨q, s⟩ := p
    intro acc H
    simp only [touchOf, List.mem_append] at H
    have e : nameStep (callSt l h') q s acc = nameStep (callSt l h) q s acc := by
      unfold nameStep
      rw [srcCV_dep fun q' i hs => H _ (.inl (by subst hs; simp))]
    simp only [namesOf, touchOf, e]
    obtain ⟨h1, h2⟩ := ih (acc := nameStep (callSt l h) q s acc) fun r hr => H r (.inr hr)
    exact ⟨h1, by rw [h2]⟩
end

theorem resOf_plain {τ : Nat → Nat} {strict : Bool} {env : Nat → Option AV} : ∀ {k i : Nat} {l : List AV}, resOf τ strict env k i = some l → ∀ x ∈ l, ∀ t n, x ≠ .pan t n := by
  intro k
  induction k with
  | zero => intro i l e; cases e; simp
  | succ k ih =>
    intro i l e
    simp only [resOf] at e
    split at e
    · rename_i h1
      obtain ⟨_, h2⟩ := cond_some e
      cases h2
      intro x hx t n
      rcases List.mem_cons.1 hx with rfl | hx
      · intro h; cases h
      · exact ih h1 x hx t n
    · rename_i h1
      obtain ⟨_, h2⟩ := cond_some e
      cases h2
      intro x hx t n
      rcases List.mem_cons.1 hx with rfl | hx
      · intro h; cases h
      · exact ih h1 x hx t n
    · cases e

theorem resAV_nopan {l : List AV} (H : ∀ x ∈ l, ∀ t n, x ≠ .pan t n) : ∀ t n, resAV l ≠ .pan t n := by
  intro t n
  match l with
  | [] => intro h; cases h
  | [x] => exact H x (by simp) t n
  | x :: y :: r => intro h; cases h

theorem funEntL_inv {S : FL} {fr : Bool} {F : S.inT → Option S.outT} {d : Nat} {l : List AV} {h : Heap} {δ : Delta} (e : (funEntL S fr F).k d l h some = some δ) :
    l.length = S.n ∧ ∃ x gs y, S.inp.decN (callSt l h) (rhoOf (nmL S l h)) (nilOf (nmL S l h)) = some (x, gs) ∧ F x = some y ∧ leaveK S d h (rhoOf (nmL S l h)) (nilOf (nmL S l h)) gs (hrL S l h gs) S.outs y some = some δ := by
  simp only [funEntL] at e
  obtain ⟨h1, e⟩ := cond_some e
  refine ⟨nbeq.1 h1, ?_⟩
  split at e
  · rename_i x gs h2
    cases h3 : F x with
    | none => rw [h3] at e; cases e
    | some y => rw [h3] at e; exact ⟨x, gs, y, h2, h3, e⟩
  · cases e

theorem leaveHw_dep {S : FL} {d : Nat} {h h' : Heap} {ρ : Nat → Nat} {N : Nat → Bool} {gs : List Nat} {lay : Lay} {s : lay.T} {hw : List (Nat × Reg)} (e : leaveHw S d h ρ N gs lay s = some hw)
    (H1 : ∀ r ∈ hw.map (·.1), h' r = h r) (H2 : ∀ q ∈ keysOf S.inp.vars, h' (ρ q) = h (ρ q)) : leaveHw S d h' ρ N gs lay s = some hw := by
  unfold leaveHw at e ⊢
  dsimp only at e ⊢
  obtain ⟨hc, hhw⟩ := cond_some e
  have hhw := Option.some.inj hhw
  simp only [Bool.and_eq_true, List.all_eq_true] at hc
  obtain ⟨⟨hdis, hdead⟩, hregs⟩ := hc
  have e1 : ((deadsOf S ρ N gs lay).all fun r => isSomeB (h' r)) = true := by
    rw [List.all_eq_true]
    intro r hr
    rw [H1 r (by rw [← hhw]; simp only [List.map_append, List.map_map, List.mem_append, List.mem_map, Function.comp]; exact .inl ⟨r, hr, rfl⟩)]
    exact hdead r hr
  have e2 : ((varsRegs lay.vars s).all fun p =>
    (bif Nat.ble ioN p.1 && !N p.1 then memN p.1 (keysOf S.inp.vars) && shapeB (h' (ρ p.1)) (renReg (tau d ρ N) p.2) else Nat.blt (tau d ρ N p.1) ioN && !isSomeB (h' (tau d ρ N p.1))) && (S.strict || noFzR p.2)) = true := by
    rw [List.all_eq_true]
    intro p hp
    have hpr := hregs p hp
    cases hb : (Nat.ble ioN p.1 && !N p.1) with
    | true =>
      rw [hb] at hpr
      simp only [cond_true, Bool.and_eq_true] at hpr ⊢
      rw [H2 p.1 (memN_iff.1 hpr.1.1)]
      exact hpr
    | false =>
      rw [hb] at hpr
      simp only [cond_false, Bool.and_eq_true] at hpr ⊢
      rw [H1 (tau d ρ N p.1) (by rw [← hhw]; simp only [List.map_append, List.map_map, List.mem_append, List.mem_map, Function.comp]; exact .inr ⟨p, hp, rfl⟩)]
      exact hpr
  rw [hdis, e1, e2, ← hhw]
  rfl

theorem leaveK_dep {S : FL} {d : Nat} {h h' : Heap} {ρ : Nat → Nat} {N : Nat → Bool} {gs hr : List Nat} {δ : Delta} (K : ∀ (lay : Lay) (s : lay.T) (hw : List (Nat × Reg)), leaveHw S d h ρ N gs lay s = some hw → δ.hr = hw.map (·.1) ++ hr → leaveHw S d h' ρ N gs lay s = some hw) :
    ∀ {outs : List (AExit × Lay)} {t : outsT outs}, leaveK S d h ρ N gs hr outs t some = some δ → leaveK S d h' ρ N gs hr outs t some = some δ := by
  have one : ∀ {x : AExit × Lay} {t : outT1 x}, leave1 S d h ρ N gs hr some x t = some δ → leave1 S d h' ρ N gs hr some x t = some δ := by
    intro x t e
    obtain ⟨x, lay⟩ := x
    cases x <;> simp only [leave1] at e ⊢ <;> try (cases e; done)
    · split at e
      · rename_i hw l h1 h2
        cases e
        simp only [K lay t hw h1 rfl, h2]
      · cases e
    · split at e
      · rename_i hw h1
        cases e
        simp only [K lay t.2 hw h1 rfl]
      · cases e
  intro outs
  induction outs with
  | nil => intro t; exact nomatch t
  | cons x r ih =>
    intro t e
    cases r with
    | nil => exact one e
    | cons y r => cases t with
      | inl s => exact one e
      | inr s => exact ih e

theorem res_rel {h1 h2 : Heap} {β1 β2 : Nat → Value} {w : World} {τ : Nat → Nat} {strict : Bool} (H : Names h1 β1 h2 β2 τ) (F : strict = true → ∀ b, Own h2 β2 b → Own h1 β1 b) {env : Nat → Option AV} {vs : List Value} (he : ∀ i av, env i = some av → AVRel h1 β1 w av (vs.toArray.getD i undef)) :
    ∀ {k i : Nat} {l : List AV}, resOf τ strict env k i = some l → l.length = k ∧ ∀ j av, l[j]? = some av → AVRel h2 β2 w av (vs.toArray.getD (i + j) undef) := by
  intro k
  induction k with
  | zero => intro i l e; cases e; exact ⟨rfl, fun j av hj => by simp at hj⟩
  | succ k ih =>
    intro i l e
    simp only [resOf] at e
    have step : ∀ {a : AV} {l' : List AV}, resOf τ strict env k (i + 1) = some l' → AVRel h2 β2 w a (vs.toArray.getD i undef) → (a :: l').length = k + 1 ∧ ∀ j av, (a :: l')[j]? = some av → AVRel h2 β2 w av (vs.toArray.getD (i + j) undef) := by
      intro a l' h1 h3
      obtain ⟨h4, h5⟩ := ih h1
      refine ⟨by simp [h4], fun j av hj => ?_⟩
      cases j with
      | zero => simp at hj; subst hj; exact h3
      | succ j =>
        have := h5 j av (by simpa using hj)
        rwa [show i + (j + 1) = i + 1 + j by omega]
    split at e
    · rename_i x l' hx hl'
      obtain ⟨h3, h4⟩ := cond_some e
      cases h4
      refine step hl' ?_
      have := he i _ hx
      simp only [AVRel] at this ⊢
      exact CVRel.ren H (by simp only [Bool.or_eq_true] at h3; exact h3.symm.imp id F) this
    · rename_i xs l' hx hl'
      obtain ⟨h3, h4⟩ := cond_some e
      cases h4
      refine step hl' ?_
      have := he i _ hx
      simp only [AVRel] at this ⊢
      obtain ⟨l, hl, hs⟩ := this
      exact ⟨l, hl, SegsRel.ren H (by simp only [Bool.or_eq_true] at h3; exact h3.symm.imp id F) hs⟩
    · cases e

section
variable {P : Program}

theorem fun_okL {f : Nat} {fn : Func} {c : Code} {S : FL} {fr : Bool} {F : S.inT → Option S.outT} (hf : P.funcs[f]? = some fn) (hname : (fn.name == "runtime.NumGoroutine") = false) (hb : fn.body = some c) (hok : okL S = true) (H : CallsL P f S F) : EntOk P f (funEntL S fr F) := by
  refine ⟨?_, ?_, ?_⟩
  · intro ρ d l h k
    simp only [funEntL]
    cases Nat.beq l.length S.n with
    | false => rfl
    | true =>
      simp only [cond_true]
      cases S.inp.decN (callSt l h) (rhoOf (nmL S l h)) (nilOf (nmL S l h)) with
      | none => rfl
      | some p =>
        obtain ⟨x, gs⟩ := p
        simp only
        cases F x with
        | none => rfl
        | some y => exact leaveK_nat
  · intro _ d l h h' δ e hs
    obtain ⟨hn, x, gs, y, h1, h2, h3⟩ := funEntL_inv e
    obtain ⟨lay, s, hw, h4, _, h5, h6, _⟩ := leaveK_inv h3
    have hs' : ∀ r ∈ δ.hr, h' r = h r := fun r hr => hs r hr
    have hwin : WIn δ := fun r hr => by
      rw [h6, ← h5]; exact List.mem_append_left _ hr
    refine ⟨?_, hwin⟩
    have A1 : ∀ r ∈ hw.map (·.1), h' r = h r := fun r hr => hs' r (by rw [h6]; exact List.mem_append_left _ hr)
    have A2 : ∀ r ∈ hrL S l h gs, h' r = h r := fun r hr => hs' r (by rw [h6]; exact List.mem_append_right _ hr)
    have A3 : ∀ r ∈ gs, h' r = h r := fun r hr => A2 r (by simp [hrL, hr])
    have A4 : ∀ q ∈ keysOf S.inp.vars, h' (rhoOf (nmL S l h) q) = h (rhoOf (nmL S l h) q) := fun q hq => A2 _ (by
      simp only [hrL, List.mem_append, List.mem_map]; exact .inr (.inl ⟨q, hq, rfl⟩))
    have A5 : ∀ r ∈ touchOf (callSt l h) S.inp.roots [], h' r = h r := fun r hr => A2 r (by simp [hrL, hr])
    obtain ⟨e1, e2⟩ := namesOf_dep A5
    have e1 : nmL S l h' = nmL S l h := e1
    have e3 : hrL S l h' gs = hrL S l h gs := by simp only [hrL, e1, e2]
    simp only [okL, Bool.and_eq_true] at hok
    have hcl := hok.1.1.1
    simp only [Lay.closed, Bool.and_eq_true, List.all_eq_true, memB_iff, List.mem_append] at hcl
    have B1 : ∀ q ∈ fixRs S.inp.fix, h' (rhoOf (nmL S l h) q) = h (rhoOf (nmL S l h) q) := fun q hq => A4 q (hcl.1.1 q (.inl hq))
    have B2 : ∀ q ∈ varsRs S.inp.vars, h' (rhoOf (nmL S l h) q) = h (rhoOf (nmL S l h) q) := fun q hq => A4 q (hcl.1.1 q (.inr hq))
    have e4 : S.inp.decN (callSt l h') (rhoOf (nmL S l h)) (nilOf (nmL S l h)) = some (x, gs) := by
      unfold Lay.decN at h1 ⊢
      obtain ⟨g1, g2⟩ := cond_some h1
      simp only [Bool.and_eq_true] at g1
      rw [g1.1, fixDec_dep hok.2 B1 g1.2]
      simp only [Bool.and_true, cond_true]
      split at g2
      · rename_i x' gs' g3
        obtain ⟨g4, g5⟩ := cond_some g2
        cases g5
        rw [varsDec_dep g3 A3 A4 B2]
        simp only [g4, cond_true]
      · cases g2
    simp only [funEntL, hn, Nat.beq_refl, cond_true, e1, e4, h2, Option.bind_some, e3]
    exact leaveK_dep (fun lay s hw' g1 g2 => leaveHw_dep g1 (fun r hr => hs' r (by rw [g2]; exact List.mem_append_left _ hr)) A4) h3
  · intro w0 fp nt β st a w o d l us δ next Q hexec hl hdst R hd e hn hp
    obtain ⟨hln, x, gs, y, h1, h2, h3⟩ := funEntL_inv e
    obtain ⟨lay, s, hw, h4, h5, h6, h7, h8⟩ := leaveK_inv h3
    obtain ⟨fpC, βc, En⟩ := enter R hok hl hln h1
    rw [hdst] at hd
    have hcall := H us x y w fpC βc (by have := (avs_get hl).1; omega) En.dfs h2 En.rel
    unfold Oper.wp
    rw [hexec, MuLone.run_callFunc_enter hf hname hb, Oper.upon_enter]
    refine hcall.mono ?_
    rintro e w' ⟨βo, vs, Ro, rfl, hlen⟩
    rw [h5] at Ro
    obtain ⟨β'', hN, hO, hL⟩ := leave R En hd h4 Ro
    obtain ⟨av, hw', hr⟩ := δ
    simp only at h6 h7 h8
    subst h6
    rcases h8 with ⟨p, n, h9, rfl⟩ | ⟨h9, res, h10, rfl⟩
    · rw [h9]
      simp only [endOf]
      refine hp p n rfl w' ⟨β'', ?_⟩
      exact hL none (.c (.val undef)) undef rfl (by simp only [AVRel, CVRel])
    · rw [h9] at hlen ⊢
      simp only [endOf]
      have hvl := hlen (fun t n h => by cases h)
      obtain ⟨hrl, hrr⟩ := res_rel hN hO (vs := vs) (fun i av hi => Ro.env i av hi) h10
      have hnp : NoPan ⟨resAV res, hw', hr⟩ := resAV_nopan (resOf_plain h10)
      refine hn hnp _ _ ⟨β'', ?_⟩
      rw [hdst]
      refine hL (some d) (resAV res) (resV vs) hd ?_
      have hav : AVsRel (heapPut st.heap hw') β'' w' res vs := avs_of (by omega) (fun i av hi => by have := hrr i av hi; rwa [Nat.zero_add] at this)
      match res, vs, hav with
      | [], vs, H => simp only [AVsRel] at H; subst H; simp only [resAV, AVRel]; exact ⟨[], rfl, by simp only [AVsRel]⟩
      | [x], vs, H =>
        simp only [AVsRel] at H
        obtain ⟨v, r, rfl, hv, rfl⟩ := H
        exact hv
      | x :: z :: l, vs, H =>
        have H' := H
        simp only [AVsRel] at H
        obtain ⟨v, r, rfl, hv, v', r', rfl, hv', hr⟩ := H
        simp only [resAV, AVRel]
        exact ⟨_, rfl, H'⟩
end

theorem EntsOk.nil (P : Program) : EntsOk P (ofL []) := fun _ _ e => by cases e
theorem EntsOk.cons {P : Program} {l : List (Nat × Ent)} {f : Nat} {e : Ent} (h : EntOk P f e) (H : EntsOk P (ofL l)) : EntsOk P (ofL ((f, e) :: l)) := by
  intro g e' h'
  simp only [ofL] at h'
  cases hb : Nat.beq f g <;> rw [hb] at h'
  · exact H g e' h'
  · obtain rfl := nbeq.1 hb
    cases h'
    exact h
end Go.Abs
