/- Cuts: a piece of code told by a function over layouts; loops by their step. -/
import Derived.Test.YtlloghihfigalaaAbsLay
set_option linter.unusedVariables false
set_option linter.unusedSimpArgs false
namespace Go.Abs
universe u
open Go.RowKit

def regsCV : CV → List Nat
  | .ptr r _ _ _ => [r]
  | .full r => [r]
  | .sl r _ _ => [r]
  | .asl r _ _ _ _ => [r]
  | _ => []
def regsSegs : List CV → List Nat
  | [] => []
  | c :: r => regsCV c ++ regsSegs r
def regsAV : AV → List Nat
  | .c c => regsCV c
  | .agg cs => regsSegs cs
  | .tup _ => []
def regsReg : Reg → List Nat
  | .cells cs => regsSegs cs
  | _ => []

def Has (h : HeapT) (rs : List Nat) : Prop := ∀ r, r ∈ rs → ∃ g, h r = some g

def NoTup : AV → Prop
  | .tup _ => False
  | _ => True

theorem renCV_size (ρ : Nat → Nat) (c : CV) : (renCV ρ c).size = c.size := by cases c <;> rfl
theorem renSegs_size (ρ : Nat → Nat) : ∀ cs : List CV, segSize (cs.map (renCV ρ)) = segSize cs := by
  intro cs
  induction cs with
  | nil => rfl
  | cons c cs ih => simp only [List.map_cons, segSize, renCV_size, ih]
theorem renReg_live (ρ : Nat → Nat) (g : Reg) : (renReg ρ g).live ↔ g.live := by cases g <;> simp [renReg, Reg.live]
theorem PtrOk.ren {bv : Value} {base room : Nat} {o : Option (Nat × Nat)} {v : Value} {ρ : Nat → Nat} {g : Reg} (h : PtrOk bv base o room v (renReg ρ g)) : PtrOk bv base o room v g := by
  cases g <;> simp only [renReg, PtrOk, renSegs_size] at h ⊢ <;> exact h
theorem FullOk.ren {bv v : Value} {ρ : Nat → Nat} {g : Reg} (h : FullOk bv v (renReg ρ g)) : FullOk bv v g := by
  cases g <;> simp only [renReg, FullOk] at h ⊢ <;> exact h
theorem SlOk.ren {bv v : Value} {o n : Nat} {ρ : Nat → Nat} {g : Reg} (h : SlOk bv o n v (renReg ρ g)) : SlOk bv o n v g := by
  cases g <;> simp only [renReg, SlOk] at h ⊢ <;> exact h
theorem AslOk.ren {bv v : Value} {base lo n lim : Nat} {ρ : Nat → Nat} {g : Reg} (h : AslOk bv base lo n lim v (renReg ρ g)) : AslOk bv base lo n lim v g := by
  cases g <;> simp only [renReg, AslOk, renSegs_size] at h ⊢ <;> exact h

section
variable {h h' : HeapT} {β : Nat → Value} {w : World} {ρ : Nat → Nat}

theorem Own.sub (H : ∀ r g, h' r = some g → h (ρ r) = some (renReg ρ g)) {b : Nat} (ho : Own h' (fun r => β (ρ r)) b) : Own h β b := by
  obtain ⟨r, g, hr, hl, hb⟩ := ho
  exact ⟨ρ r, _, H r g hr, (renReg_live ρ g).2 hl, hb⟩

theorem CVRel.sub (H : ∀ r g, h' r = some g → h (ρ r) = some (renReg ρ g)) {c : CV} {v : Value} (hr : Has h' (regsCV c)) (hc : CVRel h β w (renCV ρ c) v) : CVRel h' (fun r => β (ρ r)) w c v := by
  have key : ∀ r g, h (ρ r) = some g → r ∈ regsCV c → ∃ g', h' r = some g' ∧ g = renReg ρ g' := by
    intro r g hg hm
    obtain ⟨g', hg'⟩ := hr r hm
    have := H r g' hg'
    rw [hg] at this
    cases this
    exact ⟨g', hg', rfl⟩
  cases c <;> simp only [renCV, CVRel] at hc ⊢ <;> try exact hc
  · obtain ⟨g, hg, hp⟩ := hc; obtain ⟨g', h1, rfl⟩ := key _ _ hg (by simp [regsCV]); exact ⟨g', h1, hp.ren⟩
  · obtain ⟨g, hg, hp⟩ := hc; obtain ⟨g', h1, rfl⟩ := key _ _ hg (by simp [regsCV]); exact ⟨g', h1, hp.ren⟩
  · obtain ⟨g, hg, hp⟩ := hc; obtain ⟨g', h1, rfl⟩ := key _ _ hg (by simp [regsCV]); exact ⟨g', h1, hp.ren⟩
  · obtain ⟨g, hg, hp⟩ := hc; obtain ⟨g', h1, rfl⟩ := key _ _ hg (by simp [regsCV]); exact ⟨g', h1, hp.ren⟩
  · exact hc.mono fun x v hx hv => ⟨hv, fun ho => hx (ho.sub H)⟩
  · obtain ⟨a, h1, h2, h3⟩ := hc
    exact ⟨a, h1, h2.mono fun x v hx hv => ⟨hv, fun ho => hx (ho.sub H)⟩, h3⟩

theorem SegsRel.sub (H : ∀ r g, h' r = some g → h (ρ r) = some (renReg ρ g)) : ∀ {cs : List CV} {l : List Value}, Has h' (regsSegs cs) → SegsRel h β w (cs.map (renCV ρ)) l → SegsRel h' (fun r => β (ρ r)) w cs l := by
  intro cs
  induction cs with
  | nil => exact fun _ hc => hc
  | cons c cs ih =>
    intro l hr hc
    have h1 : Has h' (regsCV c) := fun r hm => hr r (by simp [regsSegs, hm])
    have h2 : Has h' (regsSegs cs) := fun r hm => hr r (by simp [regsSegs, hm])
    cases c <;> simp only [List.map_cons, renCV, SegsRel] at hc ⊢
    case ints k n f => obtain ⟨r, hl, hc⟩ := hc; exact ⟨r, hl, ih h2 hc⟩
    case junk n => obtain ⟨a, r, hl, ha, h3, hc⟩ := hc; exact ⟨a, r, hl, ha, h3, ih h2 hc⟩
    all_goals (obtain ⟨v, r, hl, h3, hv, hc⟩ := hc; exact ⟨v, r, hl, h3, CVRel.sub H h1 hv, ih h2 hc⟩)

theorem AVRel.sub (H : ∀ r g, h' r = some g → h (ρ r) = some (renReg ρ g)) {a : AV} {v : Value} (hn : NoTup a) (hr : Has h' (regsAV a)) (hc : AVRel h β w (renAV ρ a) v) : AVRel h' (fun r => β (ρ r)) w a v := by
  cases a with
  | c x => simp only [renAV, AVRel] at hc ⊢; exact CVRel.sub H hr hc
  | agg xs => simp only [renAV, AVRel] at hc ⊢; obtain ⟨l, hl, hs⟩ := hc; exact ⟨l, hl, SegsRel.sub H hr hs⟩
  | tup => exact hn.elim

theorem RegRel.sub (H : ∀ r g, h' r = some g → h (ρ r) = some (renReg ρ g)) {bv : Value} {g : Reg} (hr : Has h' (regsReg g)) (hc : RegRel h β w bv (renReg ρ g)) : RegRel h' (fun r => β (ρ r)) w bv g := by
  cases g with
  | cells segs => obtain ⟨b, T, cs, h1, h2, h3⟩ := hc; exact ⟨b, T, cs, h1, h2, SegsRel.sub H hr h3⟩
  | row e k xs => exact hc
  | dead => trivial
end

structure Closed' (st : St) : Prop where
  env : ∀ t a, st.env t = some a → NoTup a ∧ Has st.heap (regsAV a)
  heap : ∀ r g, st.heap r = some g → Has st.heap (regsReg g)

theorem Rel.sub {P : Program} {w0 : World} {fp : Nat → Prop} {nt : Nat} {β : Nat → Value} {st st' : St} {a : Act} {w : World} (hs : Sub st' st) (hc : Closed' st') (R : Rel P w0 fp nt β st a w) : ∃ β', Rel P w0 fp nt β' st' a w := by
  obtain ⟨ρ, he, hh, hi, hx⟩ := hs.ex
  refine ⟨fun r => β (ρ r), R.defers, R.size, ?_, ?_, ?_, ?_, R.os, R.tape, R.output, R.grow, R.keep, ?_⟩
  · intro t av ht
    obtain ⟨h1, h2⟩ := hc.env t av ht
    exact AVRel.sub hh h1 h2 (R.env t _ (he t av ht))
  · intro r g hr
    exact RegRel.sub hh (hc.heap r g hr) (R.heap _ _ (hh r g hr))
  · intro r r' g g' b h1 h2 h3 h4 h5 h6
    exact hi r r' g g' h1 h2 (R.sep _ _ _ _ b (hh _ _ h1) (hh _ _ h2) ((renReg_live ρ g).2 h3) ((renReg_live ρ g').2 h4) h5 h6)
  · intro b hb
    exact R.lo b (hb.sub hh)
  · intro b hb
    obtain ⟨g, hg, hb2⟩ := R.anc b hb
    obtain ⟨h1, g', hg'⟩ := hx g hg
    refine ⟨g', hg', fun hl => ?_⟩
    have h2 := hh _ _ hg'
    rw [h1, hg] at h2
    cases h2
    show blkOf (β (ρ ioN)) = some b
    rw [h1]
    exact hb2 ((renReg_live ρ g').2 hl)

/-! ### Closed layouts -/
def regsCS : CS → List Nat
  | .ptr r _ _ => [r]
  | .ptri r _ _ _ => [r]
  | .full r => [r]
  | .sl r => [r]
  | .asl r _ _ => [r]
  | _ => []
def regsCSs : List CS → List Nat
  | [] => []
  | c :: r => regsCS c ++ regsCSs r
def VS.rs : VS → List Nat
  | .env _ (.c s) => regsCS s
  | .env _ (.agg ss) => regsCSs ss
  | .reg _ (.cells ss) => regsCSs ss
  | .reg _ (.row _ _) => []
def VS.key : VS → List Nat
  | .env _ _ => []
  | .reg r _ => [r]
def fixRs : List (Nat × CS) → List Nat
  | [] => []
  | (_, s) :: r => regsCS s ++ fixRs r
def varsRs : List VS → List Nat
  | [] => []
  | v :: r => v.rs ++ varsRs r
def varsKeys : List VS → List Nat
  | [] => []
  | v :: r => v.key ++ varsKeys r
def Lay.closed (l : Lay) : Bool := (fixRs l.fix ++ varsRs l.vars).all fun r => memB r (varsKeys l.vars)

theorem regsCS_enc {s : CS} {x : s.T} : ∀ r, r ∈ regsCV (s.enc x) → r ∈ regsCS s := by
  cases s <;> intro r h <;> first | (simp [CS.enc, regsCV] at h; done) | simpa [CS.enc, regsCV, regsCS] using h
theorem regsSegs_enc : ∀ {ss : List CS} {x : segsT ss}, ∀ r, r ∈ regsSegs (segsEnc ss x) → r ∈ regsCSs ss := by
  intro ss
  induction ss with
  | nil => intro x r h; simp [segsEnc, regsSegs] at h
  | cons c r ih =>
    intro x q h
    cases r with
    | nil =>
      simp only [segsEnc, regsSegs, List.append_nil] at h
      simp only [regsCSs, List.append_nil]
      exact regsCS_enc q h
    | cons d r =>
      simp only [segsEnc, regsSegs, List.mem_append] at h
      simp only [regsCSs, List.mem_append]
      rcases h with h | h
      · exact .inl (regsCS_enc q h)
      · exact .inr (by have := ih (x := x.2) q (by simpa [regsSegs] using h); simpa [regsCSs] using this)

theorem fixEnvs_regs : ∀ {l : List (Nat × CS)} {t : Nat} {a : AV}, (t, a) ∈ fixEnvs l → NoTup a ∧ ∀ r, r ∈ regsAV a → r ∈ fixRs l := by
  intro l
  induction l with
  | nil => intro t a h; simp [fixEnvs] at h
  | cons p l ih =>
    obtain ⟨u, s⟩ := p
    intro t a h
    simp only [fixEnvs] at h
    have rest : (t, a) ∈ fixEnvs l → NoTup a ∧ ∀ r, r ∈ regsAV a → r ∈ fixRs ((u, s) :: l) := fun h => ⟨(ih h).1, fun r hr => by simp only [fixRs, List.mem_append]; exact .inr ((ih h).2 r hr)⟩
    split at h
    · rcases List.mem_cons.1 h with e | h
      · cases e
        exact ⟨trivial, fun r hr => by simp only [fixRs, List.mem_append]; exact .inl (regsCS_enc r hr)⟩
      · exact rest h
    · exact rest h

theorem vars_regs : ∀ {l : List VS} {x : varsT l}, (∀ t a, (t, a) ∈ varsEnvs l x → NoTup a ∧ ∀ r, r ∈ regsAV a → r ∈ varsRs l) ∧ (∀ t g, (t, g) ∈ varsRegs l x → ∀ r, r ∈ regsReg g → r ∈ varsRs l) ∧
    (∀ k, k ∈ varsKeys l → ∃ g, (k, g) ∈ varsRegs l x) := by
  have one : ∀ {v : VS} {x : v.T} {le : List (Nat × AV)} {lr : List (Nat × Reg)} {rs ks : List Nat}, (∀ t a, (t, a) ∈ le → NoTup a ∧ ∀ r, r ∈ regsAV a → r ∈ rs) → (∀ t g, (t, g) ∈ lr → ∀ r, r ∈ regsReg g → r ∈ rs) → (∀ k, k ∈ ks → ∃ g, (k, g) ∈ lr) →
      (∀ t a, (t, a) ∈ v.envs x le → NoTup a ∧ ∀ r, r ∈ regsAV a → r ∈ v.rs ++ rs) ∧ (∀ t g, (t, g) ∈ v.regs x lr → ∀ r, r ∈ regsReg g → r ∈ v.rs ++ rs) ∧ (∀ k, k ∈ v.key ++ ks → ∃ g, (k, g) ∈ v.regs x lr) := by
    intro v x le lr rs ks h1 h2 h3
    cases v with
    | env t s =>
      refine ⟨fun u a hm => ?_, fun u g hm r hr => List.mem_append_right _ (h2 u g hm r hr), fun k hk => h3 k (by simpa [VS.key] using hk)⟩
      simp only [VS.envs, List.mem_cons] at hm
      rcases hm with e | hm
      · cases e
        cases s with
        | c s => exact ⟨trivial, fun r hr => List.mem_append_left _ (regsCS_enc r hr)⟩
        | agg ss => exact ⟨trivial, fun r hr => List.mem_append_left _ (regsSegs_enc r hr)⟩
      · exact ⟨(h1 u a hm).1, fun r hr => List.mem_append_right _ ((h1 u a hm).2 r hr)⟩
    | reg t s =>
      refine ⟨fun u a hm => ⟨(h1 u a hm).1, fun r hr => List.mem_append_right _ ((h1 u a hm).2 r hr)⟩, fun u g hm r hr => ?_, fun k hk => ?_⟩
      · simp only [VS.regs, List.mem_cons] at hm
        rcases hm with e | hm
        · cases e
          cases s with
          | cells ss => exact List.mem_append_left _ (regsSegs_enc r hr)
          | row e k => simp [RS.enc, regsReg] at hr
        · exact List.mem_append_right _ (h2 u g hm r hr)
      · simp only [VS.key, List.cons_append, List.nil_append, List.mem_cons] at hk
        simp only [VS.regs, List.mem_cons]
        rcases hk with rfl | hk
        · exact ⟨_, .inl rfl⟩
        · obtain ⟨g, hg⟩ := h3 k hk; exact ⟨g, .inr hg⟩
  intro l
  induction l with
  | nil => intro x; exact ⟨fun t a h => by simp [varsEnvs] at h, fun t a h => by simp [varsRegs] at h, fun k h => by simp [varsKeys] at h⟩
  | cons v r ih =>
    intro x
    cases r with
    | nil => exact one (ks := []) (rs := []) (by simp) (by simp) (by simp)
    | cons w r =>
      obtain ⟨h1, h2, h3⟩ := ih (x := x.2)
      exact one h1 h2 h3

theorem ofL_some {α : Type u} : ∀ {l : List (Nat × α)} {n : Nat} {x : α}, (n, x) ∈ l → ∃ y, ofL l n = some y := by
  intro l
  induction l with
  | nil => intro n x h; simp at h
  | cons p l ih =>
    obtain ⟨k, y⟩ := p
    intro n x h
    simp only [ofL]
    cases hb : Nat.beq k n
    · rcases List.mem_cons.1 h with e | h
      · cases e; rw [Nat.beq_refl] at hb; cases hb
      · exact ih h
    · exact ⟨y, rfl⟩

theorem Lay.closed_enc {l : Lay} (h : l.closed = true) (x : l.T) : Closed' (l.enc x) := by
  simp only [Lay.closed, List.all_eq_true, memB_iff] at h
  obtain ⟨h1, h2, h3⟩ := vars_regs (x := x)
  have hk : ∀ r, r ∈ fixRs l.fix ++ varsRs l.vars → ∃ g, (l.enc x).heap r = some g := by
    intro r hr
    obtain ⟨g, hg⟩ := h3 r (h r hr)
    exact ofL_some hg
  refine ⟨fun t a ha => ?_, fun r g hg q hq => ?_⟩
  · have hm := ofL_mem ha
    rcases List.mem_append.1 hm with hm | hm
    · obtain ⟨h4, h5⟩ := fixEnvs_regs hm
      exact ⟨h4, fun r hr => hk r (List.mem_append_left _ (h5 r hr))⟩
    · obtain ⟨h4, h5⟩ := h1 t a hm
      exact ⟨h4, fun r hr => hk r (List.mem_append_right _ (h5 r hr))⟩
  · exact hk q (List.mem_append_right _ (h2 r g (ofL_mem hg) q hq))

/-! ### What a piece of code leaves -/
def AExit.eq : AExit → AExit → Bool
  | .normal, .normal => true
  | .exit i, .exit j => Nat.beq i j
  | .ret, .ret => true
  | _, _ => false
theorem AExit.eq_spec {x y : AExit} (h : x.eq y = true) : x = y := by
  cases x <;> cases y <;> simp only [AExit.eq] at h <;> first | (cases h; done) | rfl | (rw [nbeq.1 h])

abbrev outsT : List (AExit × Lay) → Type
  | [] => Empty
  | [x] => x.2.T
  | x :: y :: r => x.2.T ⊕ outsT (y :: r)

def decOut (e : AExit) (st : St) : (outs : List (AExit × Lay)) → Option (outsT outs)
  | [] => none
  | [x] => bif e.eq x.1 then x.2.dec st else none
  | x :: y :: r => bif e.eq x.1 then (match x.2.dec st with | some s => some (.inl s) | none => none) else (match decOut e st (y :: r) with | some s => some (.inr s) | none => none)

def encOut : (outs : List (AExit × Lay)) → outsT outs → AExit × St
  | [], t => nomatch t
  | [x], t => (x.1, x.2.enc t)
  | x :: y :: r, t => (match t with | .inl s => (x.1, x.2.enc s) | .inr s => encOut (y :: r) s)

theorem decOut_spec {e : AExit} {st : St} : ∀ {outs : List (AExit × Lay)} {t : outsT outs}, decOut e st outs = some t → (encOut outs t).1 = e ∧ Sub (encOut outs t).2 st := by
  intro outs
  induction outs with
  | nil => intro t h; cases h
  | cons x r ih =>
    intro t h
    cases r with
    | nil =>
      simp only [decOut] at h
      obtain ⟨h1, h2⟩ := cond_some h
      exact ⟨(AExit.eq_spec h1).symm, Lay.dec_sub h2⟩
    | cons y r =>
      simp only [decOut] at h
      cases h1 : e.eq x.1 <;> rw [h1] at h
      · simp only [cond_false] at h
        split at h
        · rename_i s hs; cases h; exact ih hs
        · cases h
      · simp only [cond_true] at h
        split at h
        · rename_i s hs; cases h; exact ⟨(AExit.eq_spec h1).symm, Lay.dec_sub hs⟩
        · cases h

def closedOuts : List (AExit × Lay) → Bool
  | [] => true
  | x :: r => x.2.closed && closedOuts r

theorem closedOuts_spec : ∀ {outs : List (AExit × Lay)}, closedOuts outs = true → ∀ t, Closed' (encOut outs t).2 := by
  intro outs
  induction outs with
  | nil => intro _ t; exact nomatch t
  | cons x r ih =>
    intro h t
    simp only [closedOuts, Bool.and_eq_true] at h
    cases r with
    | nil => exact Lay.closed_enc h.1 t
    | cons y r =>
      cases t with
      | inl s => exact Lay.closed_enc h.1 s
      | inr s => exact ih h.2 s

def encK {ρ : Type} : (outs : List (AExit × Lay)) → outsT outs → (AExit → St → Option ρ) → Option ρ
  | [], t, _ => nomatch t
  | [x], t, κ => κ x.1 (x.2.enc t)
  | x :: y :: r, t, κ => (match t with | .inl s => κ x.1 (x.2.enc s) | .inr s => encK (y :: r) s κ)

theorem encK_eq {ρ : Type} {κ : AExit → St → Option ρ} : ∀ {outs : List (AExit × Lay)} {t : outsT outs}, encK outs t κ = κ (encOut outs t).1 (encOut outs t).2 := by
  intro outs
  induction outs with
  | nil => intro t; exact nomatch t
  | cons x r ih =>
    intro t
    cases r with
    | nil => rfl
    | cons y r =>
      cases t with
      | inl s => rfl
      | inr s => exact ih

def cutEnt (l : Lay) (outs : List (AExit × Lay)) (f : l.T → Option (outsT outs)) : LEnt :=
  ⟨fun st κ => (l.dec st).bind fun s => (f s).bind fun t => encK outs t κ⟩

theorem Post.sub {P : Program} {w0 : World} {fp : Nat → Prop} {nt : Nat} {st st' : St} {a : Act} {w : World} (hs : Sub st' st) (hc : Closed' st') (h : Post P w0 fp nt st a w) : Post P w0 fp nt st' a w := by
  obtain ⟨β, R⟩ := h; exact R.sub hs hc

section
variable {P : Program} (C : Ctx P) (nt : Nat)

theorem cut_ok {l : Lay} {outs : List (AExit × Lay)} {f : l.T → Option (outsT outs)} {c : Code} {ann : Ann} (hl : l.closed = true) (ho : closedOuts outs = true) (hA : AnnOk P nt c ann)
    (heq : ∀ s, exec C.T C.E nt c ann (fun e st => decOut e st outs) (l.enc s) = f s) : LOk P nt (cutEnt l outs f) c := by
  intro ρ st κ r e w0 fp a w Q hp hq
  simp only [cutEnt] at e
  cases h1 : l.dec st with
  | none => rw [h1] at e; cases e
  | some s =>
    rw [h1] at e
    simp only [Option.bind_some] at e
    cases h2 : f s with
    | none => rw [h2] at e; cases e
    | some t =>
      rw [h2] at e
      simp only [Option.bind_some] at e
      rw [encK_eq] at e
      have h3 := heq s
      rw [h2] at h3
      refine exec_sound C nt h3 hA (hp.sub (Lay.dec_sub h1) (Lay.closed_enc hl s)) ?_
      intro x st' a' w' h4 hp'
      obtain ⟨h5, h6⟩ := decOut_spec h4
      have h7 := hq _ _ a' w' e (hp'.sub h6 (closedOuts_spec ho t))
      rw [h5] at h7
      exact h7

def loopEnd {l : Lay} {outs : List (AExit × Lay)} (e : AExit) (st : St) : Option (l.T ⊕ outsT outs) :=
  match e with
  | .normal => (match l.dec st with | some s => some (.inl s) | none => none)
  | e => (match decOut e st outs with | some t => some (.inr t) | none => none)

theorem exists_least {p : Nat → Prop} (h : ∃ n, p n) : ∃ n, p n ∧ ∀ m, p m → n ≤ m := by
  obtain ⟨n, hn⟩ := h
  induction n using Nat.strongRecOn with
  | _ n ih =>
    by_cases h : ∃ m, m < n ∧ p m
    · obtain ⟨m, hm, hp⟩ := h; exact ih m hm hp
    · exact ⟨n, hn, fun m hm => by
        rcases Nat.lt_or_ge m n with h' | h'
        · exact absurd ⟨m, h', hm⟩ h
        · exact h'⟩

open Classical in
noncomputable def leastN (p : Nat → Prop) : Nat := if h : ∃ n, p n then Classical.choose (exists_least h) else 0
theorem leastN_spec {p : Nat → Prop} {n : Nat} (h : p n) : p (leastN p) ∧ leastN p ≤ n := by
  have hx : ∃ n, p n := ⟨n, h⟩
  unfold leastN
  rw [dif_pos hx]
  have := Classical.choose_spec (exists_least hx)
  exact ⟨this.1, this.2 n h⟩

theorem wp_loop_n {c : Code} {Q : Exit → Act → World → Prop} (I : Nat → Act → World → Prop) (round : ∀ n a w, I n a w → c.wp P (Exit.then (fun a' w' => ∃ m, m < n ∧ I m a' w') Q) a w)
    {n : Nat} {a : Act} {w : World} (h : I n a w) : (Code.loop c).wp P Q a w := by
  refine wp_loop (I := fun a w => ∃ n, I n a w) (μ := fun a w => leastN fun n => I n a w) ⟨n, h⟩ ?_
  rintro a w ⟨n, hn⟩
  obtain ⟨h1, h2⟩ := leastN_spec (p := fun n => I n a w) hn
  refine wp_mono (round _ a w h1) ?_
  intro e a' w' hq
  cases e with
  | normal =>
    obtain ⟨m, hm, hI⟩ := hq
    have h3 := (leastN_spec (p := fun n => I n a' w') hI).2
    exact ⟨⟨m, hI⟩, by omega⟩
  | _ => exact hq

theorem loop_ok {l : Lay} {outs : List (AExit × Lay)} {step : l.T → Option (l.T ⊕ outsT outs)} {c : Code} {ann : Ann} (hl : l.closed = true) (ho : closedOuts outs = true) (hA : AnnOk P nt c ann)
    (heq : ∀ s, exec C.T C.E nt c ann (fun e st => loopEnd e st) (l.enc s) = step s) : LOk P nt (cutEnt l outs (loopO step)) (.loop c) := by
  intro ρ st κ r e w0 fp a w Q hp hq
  simp only [cutEnt] at e
  cases h1 : l.dec st with
  | none => rw [h1] at e; cases e
  | some s =>
    rw [h1] at e
    simp only [Option.bind_some] at e
    cases h2 : loopO step s with
    | none => rw [h2] at e; cases e
    | some t =>
      rw [h2] at e
      simp only [Option.bind_some] at e
      rw [encK_eq] at e
      obtain ⟨n, hn⟩ := loopO_iff.1 h2
      refine wp_loop_n (I := fun n a w => ∃ s, iterN step n s = some t ∧ Post P w0 fp nt (l.enc s) a w) ?_ (n := n) ⟨s, hn, hp.sub (Lay.dec_sub h1) (Lay.closed_enc hl s)⟩
      rintro n a w ⟨s, hn, hp⟩
      cases n with
      | zero => cases hn
      | succ n =>
        simp only [iterN] at hn
        have h3 := heq s
        cases hs : step s with
        | none => rw [hs] at hn; cases hn
        | some o =>
          rw [hs] at hn h3
          refine exec_sound C nt h3 hA hp ?_
          intro x st' a' w' h4 hp'
          cases x with
          | normal =>
            simp only [loopEnd] at h4
            split at h4
            · rename_i s' hs'
              cases h4
              exact ⟨n, by omega, s', hn, hp'.sub (Lay.dec_sub hs') (Lay.closed_enc hl s')⟩
            · cases h4
          | exit i =>
            simp only [loopEnd] at h4
            split at h4
            · rename_i t' ht'
              cases h4
              cases hn
              obtain ⟨h5, h6⟩ := decOut_spec ht'
              have h7 := hq _ _ a' w' e (hp'.sub h6 (closedOuts_spec ho t))
              rw [h5] at h7
              exact h7
            · cases h4
          | ret =>
            simp only [loopEnd] at h4
            split at h4
            · rename_i t' ht'
              cases h4
              cases hn
              obtain ⟨h5, h6⟩ := decOut_spec ht'
              have h7 := hq _ _ a' w' e (hp'.sub h6 (closedOuts_spec ho t))
              rw [h5] at h7
              exact h7
            · cases h4
end
end Go.Abs
