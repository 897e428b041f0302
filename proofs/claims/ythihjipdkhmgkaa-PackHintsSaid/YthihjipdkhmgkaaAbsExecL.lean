/- Soundness of the whole interpreter; loops; functions. -/
import Derived.Test.YthihjipdkhmgkaaAbsStepL
set_option linter.unusedVariables false
set_option linter.unusedSimpArgs false
namespace Go.Abs
open Go.RowKit

def exitOf : AExit → Exit
  | .normal => .normal
  | .exit i => .exit i
  | .ret => .ret
  | .panic t n => .panic (panChain t n)

section
variable {P : Program} (C : Ctx P) (nt : Nat)

def LOk (P : Program) (nt : Nat) (e : LEnt) (c : Code) : Prop := ∀ (ρ : Type) (st : St) (κ : AExit → St → Option ρ) (r : ρ), e.k st κ = some r →
  ∀ (w0 : World) (fp : FP) (a : Act) (w : World) (Q : Exit → Act → World → Prop), Post P w0 fp nt st a w →
  (∀ x st' a' w', κ x st' = some r → Post P w0 fp nt st' a' w' → Q (exitOf x) a' w') → c.wp P Q a w

def AnnOk (P : Program) (nt : Nat) : Code → Ann → Prop
  | .seq a b, ann => (match ann.cut? with | some e => LOk P nt e (.seq a b) | none => AnnOk P nt a ann.fst ∧ AnnOk P nt b ann.snd)
  | .cond c a b, ann => (match ann.cut? with | some e => LOk P nt e (.cond c a b) | none => AnnOk P nt a ann.fst ∧ AnnOk P nt b ann.snd)
  | .block id b, ann => (match ann.cut? with | some e => LOk P nt e (.block id b) | none => AnnOk P nt b ann.fst)
  | .loop b, ann => (match ann.cut? with | some e => LOk P nt e (.loop b) | none => True)
  | .region i ops d, ann => (match ann.cut? with | some e => LOk P nt e (.region i ops d) | none => True)
  | _, _ => True

theorem exec_sound {ρ : Type} : ∀ {c : Code} {ann : Ann} {κ : AExit → St → Option ρ} {st : St} {r : ρ}, exec C.T C.E nt c ann κ st = some r → AnnOk P nt c ann →
    ∀ {w0 : World} {fp : FP} {a : Act} {w : World} {Q : Exit → Act → World → Prop}, Post P w0 fp nt st a w →
    (∀ x st' a' w', κ x st' = some r → Post P w0 fp nt st' a' w' → Q (exitOf x) a' w') → c.wp P Q a w := by
  intro c
  induction c with
  | skip => intro ann κ st r e _ w0 fp a w Q hp hq; exact wp_skip (hq .normal _ _ _ e hp)
  | region id ops draw =>
    intro ann κ st r e hA w0 fp a w Q hp hq
    simp only [exec] at e
    simp only [AnnOk] at hA
    cases hc : ann.cut? with
    | some l =>
      rw [hc] at e hA
      exact hA _ st κ r e w0 fp a w Q hp hq
    | none =>
      rw [hc] at e
      exact region_sound C (κ := κ .normal) (κp := fun t n => κ (.panic t n)) e hp (fun st' a w h => hq .normal st' a w h) (fun t m st' a w h => hq (.panic t m) st' a w h)
  | seq x y ihx ihy =>
    intro ann κ st r e hA w0 fp a w Q hp hq
    simp only [exec] at e
    simp only [AnnOk] at hA
    cases hc : ann.cut? with
    | some l =>
      rw [hc] at e hA
      exact hA _ st κ r e w0 fp a w Q hp hq
    | none =>
      rw [hc] at e hA
      refine wp_seq (ihx e hA.1 hp ?_)
      intro z st' a' w' h hp'
      cases z with
      | normal => exact ihy h hA.2 hp' hq
      | exit i => exact hq _ _ _ _ h hp'
      | ret => exact hq _ _ _ _ h hp'
      | panic t n => exact hq _ _ _ _ h hp'
  | cond c x y ihx ihy =>
    intro ann κ st r e hA w0 fp a w Q hp hq
    simp only [exec] at e
    simp only [AnnOk] at hA
    cases hc : ann.cut? with
    | some l =>
      rw [hc] at e hA
      exact hA _ st κ r e w0 fp a w Q hp hq
    | none =>
      rw [hc] at e hA
      simp only [] at e
      split at e
      · rename_i t ht
        have hv : a.eval c = .bool t := by
          obtain ⟨β, R⟩ := hp
          have := opd_rel R ht
          simpa only [AVRel, CVRel] using this
        split at e
        · rename_i h1
          subst h1
          exact wp_cond_true hv (ihx e hA.1 hp hq)
        · rename_i h1
          have h2 : t = false := by simpa using h1
          subst h2
          exact wp_cond_false hv (ihy e hA.2 hp hq)
      · cases e
  | block id x ih =>
    intro ann κ st r e hA w0 fp a w Q hp hq
    simp only [exec] at e
    simp only [AnnOk] at hA
    cases hc : ann.cut? with
    | some l =>
      rw [hc] at e hA
      exact hA _ st κ r e w0 fp a w Q hp hq
    | none =>
      rw [hc] at e hA
      refine wp_block (ih e hA hp ?_)
      intro z st' a' w' h hp'
      cases z with
      | normal => exact hq _ _ _ _ h hp'
      | exit i =>
        simp only [exitOf, Exit.inBlock]
        simp only [] at h
        cases hb : Nat.beq i id with
        | true =>
          rw [hb] at h
          rw [if_pos (nbeq.1 hb)]
          exact hq .normal _ _ _ h hp'
        | false =>
          rw [hb] at h
          rw [if_neg (fun he => by rw [he, Nat.beq_refl] at hb; cases hb)]
          exact hq (.exit i) _ _ _ h hp'
      | ret => exact hq _ _ _ _ h hp'
      | panic t n => exact hq _ _ _ _ h hp'
  | loop x ih =>
    intro ann κ st r e hA w0 fp a w Q hp hq
    simp only [exec] at e
    simp only [AnnOk] at hA
    cases hc : ann.cut? with
    | some l =>
      rw [hc] at e hA
      exact hA _ st κ r e w0 fp a w Q hp hq
    | none => rw [hc] at e; cases e
  | exit id => intro ann κ st r e _ w0 fp a w Q hp hq; exact wp_exit (hq (.exit id) _ _ _ e hp)
  | ret => intro ann κ st r e _ w0 fp a w Q hp hq; exact wp_ret (hq .ret _ _ _ e hp)
  | _ => intro ann κ st r e; simp only [exec] at e; cases e
end

/-! ### Parts of code by their paths -/
def Code.at' : List Nat → Code → Code
  | [], c => c
  | 0 :: p, .seq a _ => Code.at' p a
  | _ :: p, .seq _ b => Code.at' p b
  | 0 :: p, .cond _ a _ => Code.at' p a
  | _ :: p, .cond _ _ b => Code.at' p b
  | _ :: p, .block _ b => Code.at' p b
  | _ :: p, .loop b => Code.at' p b
  | _, c => c

def Ann.cuts : Ann → List (List Nat × LEnt)
  | .none => []
  | .cut e => [([], e)]
  | .seq a b => (a.cuts.map fun x => (0 :: x.1, x.2)) ++ (b.cuts.map fun x => (1 :: x.1, x.2))
  | .blk a => a.cuts.map fun x => (0 :: x.1, x.2)

theorem annOk_of_cuts {P : Program} {nt : Nat} : ∀ {c : Code} {ann : Ann}, (∀ x ∈ ann.cuts, LOk P nt x.2 (Code.at' x.1 c)) → AnnOk P nt c ann := by
  have hcut : ∀ {ann : Ann} {e : LEnt}, ann.cut? = some e → ([], e) ∈ ann.cuts := by
    intro ann e h
    cases ann <;> simp only [Ann.cut?] at h <;> try (cases h; done)
    cases h
    simp [Ann.cuts]
  have hfst : ∀ {ann : Ann} {x : List Nat × LEnt}, x ∈ ann.fst.cuts → (0 :: x.1, x.2) ∈ ann.cuts := by
    intro ann x h
    cases ann <;> simp only [Ann.fst, Ann.cuts, List.mem_append, List.mem_map] at h ⊢
    · simp at h
    · exact .inl ⟨x, h, rfl⟩
    · exact ⟨x, h, rfl⟩
    · simp at h
  have hsnd : ∀ {ann : Ann} {x : List Nat × LEnt}, x ∈ ann.snd.cuts → (1 :: x.1, x.2) ∈ ann.cuts := by
    intro ann x h
    cases ann <;> simp only [Ann.snd, Ann.cuts, List.mem_append, List.mem_map] at h ⊢
    · simp at h
    · exact .inr ⟨x, h, rfl⟩
    · simp at h
    · simp at h
  intro c
  induction c with
  | seq a b iha ihb =>
    intro ann H
    simp only [AnnOk]
    cases hc : ann.cut? with
    | some e => exact H _ (hcut hc)
    | none => exact ⟨iha fun x hx => H _ (hfst hx), ihb fun x hx => H _ (hsnd hx)⟩
  | cond c a b iha ihb =>
    intro ann H
    simp only [AnnOk]
    cases hc : ann.cut? with
    | some e => exact H _ (hcut hc)
    | none => exact ⟨iha fun x hx => H _ (hfst hx), ihb fun x hx => H _ (hsnd hx)⟩
  | block id b ih =>
    intro ann H
    simp only [AnnOk]
    cases hc : ann.cut? with
    | some e => exact H _ (hcut hc)
    | none => exact ih fun x hx => H _ (hfst hx)
  | loop b ih =>
    intro ann H
    simp only [AnnOk]
    cases hc : ann.cut? with
    | some e => exact H _ (hcut hc)
    | none => trivial
  | region i ops d =>
    intro ann H
    simp only [AnnOk]
    cases hc : ann.cut? with
    | some e => exact H _ (hcut hc)
    | none => trivial
  | _ => intro ann H; trivial

/-! ### Loops -/
section
variable {σ τ : Type}

def iterN (step : σ → Option (σ ⊕ τ)) : Nat → σ → Option τ
  | 0, _ => none
  | n + 1, s => match step s with
    | none => none
    | some (.inl s') => iterN step n s'
    | some (.inr t) => some t

open Classical in
noncomputable def loopO (step : σ → Option (σ ⊕ τ)) (s : σ) : Option τ := if h : ∃ n t, iterN step n s = some t then some (Classical.choose (Classical.choose_spec h)) else none

theorem iterN_mono (step : σ → Option (σ ⊕ τ)) : ∀ {n m : Nat} {s : σ} {t : τ}, iterN step n s = some t → n ≤ m → iterN step m s = some t := by
  intro n
  induction n with
  | zero => intro m s t h; cases h
  | succ n ih =>
    intro m s t h hm
    cases m with
    | zero => omega
    | succ m =>
      simp only [iterN] at h ⊢
      split at h
      · cases h
      · rename_i hs; exact ih h (by omega)
      · exact h

theorem loopO_iff {step : σ → Option (σ ⊕ τ)} {s : σ} {t : τ} : loopO step s = some t ↔ ∃ n, iterN step n s = some t := by
  unfold loopO
  constructor
  · intro h
    split at h
    · rename_i hx
      cases h
      exact ⟨_, Classical.choose_spec (Classical.choose_spec hx)⟩
    · cases h
  · rintro ⟨n, hn⟩
    have hx : ∃ n t, iterN step n s = some t := ⟨n, t, hn⟩
    rw [dif_pos hx]
    have h1 := Classical.choose_spec (Classical.choose_spec hx)
    generalize Classical.choose (Classical.choose_spec hx) = t' at h1 ⊢
    generalize Classical.choose hx = n' at h1
    rcases Nat.le_total n n' with h | h
    · rw [iterN_mono step hn h] at h1; exact h1.symm
    · rw [iterN_mono step h1 h] at hn; exact hn

theorem loopO_eq (step : σ → Option (σ ⊕ τ)) (s : σ) : loopO step s = match step s with
    | none => none
    | some (.inl s') => loopO step s'
    | some (.inr t) => some t := by
  apply Option.ext
  intro t
  rw [loopO_iff]
  constructor
  · rintro ⟨n, hn⟩
    cases n with
    | zero => cases hn
    | succ n =>
      simp only [iterN] at hn
      split at hn
      · cases hn
      · rename_i hs; exact loopO_iff.2 ⟨n, hn⟩
      · exact hn
  · intro h
    split at h
    · cases h
    · rename_i hs
      obtain ⟨n, hn⟩ := loopO_iff.1 h
      exact ⟨n + 1, by simp only [iterN, hs]; exact hn⟩
    · rename_i hs
      exact ⟨1, by simp only [iterN, hs]; exact h⟩

/-- Induction over a loop that ends. -/
theorem loopO_ind {step : σ → Option (σ ⊕ τ)} {p : σ → τ → Prop} (h1 : ∀ s s' t, step s = some (.inl s') → loopO step s' = some t → p s' t → p s t) (h2 : ∀ s t, step s = some (.inr t) → p s t) :
    ∀ {s t}, loopO step s = some t → p s t := by
  intro s t h
  obtain ⟨n, hn⟩ := loopO_iff.1 h
  induction n generalizing s with
  | zero => cases hn
  | succ n ih =>
    simp only [iterN] at hn
    split at hn
    · cases hn
    · rename_i s' hs; exact h1 s s' t hs (loopO_iff.2 ⟨n, hn⟩) (ih (loopO_iff.2 ⟨n, hn⟩) hn)
    · rename_i t' hs; cases hn; exact h2 s t hs
end
end Go.Abs
