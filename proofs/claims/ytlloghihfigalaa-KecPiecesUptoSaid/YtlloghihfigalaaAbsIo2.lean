/- Contracts of functions with a pointer that is handed in, and of functions that tell new regions. -/
import Derived.Test.YtlloghihfigalaaAbsIo
set_option linter.unusedVariables false
set_option linter.unusedSimpArgs false
namespace Go.Abs
open Go.RowKit

structure FI where
  io : Option (List CS)
  ps : List PS
  rs : List RI
  alt : Option (List RI)
  res : List ResultVar

abbrev inT (S : FI) : Type := match S with
  | ⟨none, ps, _, _, _⟩ => psT ps
  | ⟨some ss, ps, _, _, _⟩ => segsT ss × psT ps
abbrev outT (S : FI) : Type := match S with
  | ⟨none, _, rs, none, _⟩ => riT rs
  | ⟨none, _, rs, some r2, _⟩ => riT rs ⊕ riT r2
  | ⟨some ss, _, rs, none, _⟩ => riT rs × segsT (ss.map CS.ret)
  | ⟨some ss, _, rs, some r2, _⟩ => (riT rs ⊕ riT r2) × segsT (ss.map CS.ret)

/-- what is told: the values, the new region, the cells that were handed in -/
def outK {ρ : Type} (S : FI) (d : Nat) (y : outT S) (κ : List AV → List (Nat × Reg) → Option (List CV) → Option ρ) : Option ρ :=
  match S, y with
  | ⟨none, _, rs, none, _⟩, y => κ (riEnc d rs y) (riRegs d rs y) none
  | ⟨none, _, rs, some r2, _⟩, y => (match y with | .inl z => κ (riEnc d rs z) (riRegs d rs z) none | .inr z => κ (riEnc d r2 z) (riRegs d r2 z) none)
  | ⟨some ss, _, rs, none, _⟩, y => κ (riEnc d rs y.1) (riRegs d rs y.1) (some (segsEnc (ss.map CS.ret) y.2))
  | ⟨some ss, _, rs, some r2, _⟩, y => (match y.1 with
    | .inl z => κ (riEnc d rs z) (riRegs d rs z) (some (segsEnc (ss.map CS.ret) y.2))
    | .inr z => κ (riEnc d r2 z) (riRegs d r2 z) (some (segsEnc (ss.map CS.ret) y.2)))

def outDec (st : St) (S : FI) (l : List AV) : Option (outT S) :=
  match S with
  | ⟨none, _, rs, none, _⟩ => riDec st.heap rs l
  | ⟨none, _, rs, some r2, _⟩ => (match riDec st.heap rs l with
    | some y => some (.inl y)
    | none => (match riDec st.heap r2 l with | some y => some (.inr y) | none => none))
  | ⟨some ss, _, rs, none, _⟩ => (match st.heap ioN with
    | some (.cells segs) => (match riDec st.heap rs l, rdecs ss segs with | some y, some z => some (y, z) | _, _ => none)
    | _ => none)
  | ⟨some ss, _, rs, some r2, _⟩ => (match st.heap ioN with
    | some (.cells segs) => (match rdecs ss segs with
      | some z => (match riDec st.heap rs l with
        | some y => some (.inl y, z)
        | none => (match riDec st.heap r2 l with | some y => some (.inr y, z) | none => none))
      | none => none)
    | _ => none)

def finI (T : Tab) (S : FI) (e : AExit) (st : St) : Option (outT S) :=
  match e with
  | .exit _ => none
  | _ => (match resAVs T st S.res with | some l => outDec st S l | none => none)

def ioCells (S : FI) (x : inT S) : Option (List CV) := match S, x with
  | ⟨none, _, _, _, _⟩, _ => none
  | ⟨some ss, _, _, _, _⟩, x => some (segsEnc ss x.1)
def argEnvs (S : FI) (x : inT S) : List (Nat × AV) := match S, x with
  | ⟨none, ps, _, _, _⟩, x => psEnc 0 ps x
  | ⟨some ss, ps, _, _, _⟩, x => (0, .c (.ptr ioN 0 none (segSize (segsEnc ss x.1)))) :: psEnc 1 ps x.2
def heapOfIo : Option (List CV) → Nat → Option Reg
  | none => fun _ => none
  | some segs => ofL [(ioN, .cells segs)]
def argStI (S : FI) (x : inT S) : St := { env := ofL (argEnvs S x), heap := heapOfIo (ioCells S x) }
def nParams (S : FI) : Nat := (match S.io with | none => 0 | some _ => 1) + S.ps.length

def noPtrs : List PS → Bool
  | [] => true
  | .ptrs _ _ :: _ => false
  | _ :: r => noPtrs r

def inDec (h : HeapT) (S : FI) (l : List AV) : Option (inT S × List Nat × Option Nat) := match S with
  | ⟨none, ps, _, _, _⟩ => (match psDec h ps l with | some (x, rs) => some (x, rs, none) | none => none)
  | ⟨some ss, ps, _, _, _⟩ => (match l with
    | .c (.ptr r base none room) :: l => (match h r with
      | some (.cells segs) => (match segsDec id ss segs, psDec h ps l with
        | some x, some (y, rs) => bif Nat.beq base 0 && Nat.beq room (segSize segs) && !memB r rs then some ((x, y), rs, some r) else none
        | _, _ => none)
      | _ => none)
    | _ => none)

def ioW : Option Nat → Option (List CV) → List (Nat × Reg)
  | some r, some segs => [(r, .cells segs)]
  | _, _ => []
def ioL : Option Nat → List Nat
  | some r => [r]
  | none => []

/-- the contract, in the caller's state -/
def funEntI (S : FI) (f : inT S → Option (outT S)) : Ent :=
  ⟨fun d l h k => match h d, inDec h S l with
    | none, some (x, rs, ro) => (f x).bind fun y => outK S d y fun avs regs io => k ⟨resAV avs, ioW ro io ++ regs, d :: (ioL ro ++ rs)⟩
    | _, _ => none⟩

/-- what comes in -/
structure ArgsI (S : FI) (us : List Value) (x : inT S) (w : World) (ob : Option Nat) : Prop where
  len : us.length = nParams S
  io : ∀ segs, ioCells S x = some segs → ∃ b T cs, ob = some b ∧ w.heap[b]? = some (.cells cs T (0, 0)) ∧ ∀ h β, (∀ b', Own h β b' → b' = b) → SegsRel h β w segs cs.toList
  none : ioCells S x = none → ob = none
  env : ∀ t av, (t, av) ∈ argEnvs S x → ∃ u, us[t]? = some u ∧ ∀ h β, (∀ b, Own h β b → ob = some b) → (∀ segs b, ioCells S x = some segs → ob = some b → h ioN = some (.cells segs) ∧ β ioN = .pointer (some ⟨b, 0, Option.none⟩)) → AVRel h β w av u

def CallsI (P : Program) (f : Nat) (S : FI) (F : inT S → Option (outT S)) : Prop :=
  ∀ (us : List Value) (x : inT S) (y : outT S) (w : World) (ob : Option Nat), F x = some y → ArgsI S us x w ob →
    Calls P f us.toArray w fun e w' => ∃ (nt : Nat) (β : Nat → Value) (st : St) (a : Act) (l : List AV) (vs : List Value), Rel P w (fun b => ob = some b) nt β st a w' ∧ outDec st S l = some y ∧ AVsRel st.heap β w' l vs ∧
      e = .returned (resV vs)

section
variable {P : Program} (C : Ctx P)

theorem fun_callsI {f : Nat} {fn : Func} {c : Code} {S : FI} {F : inT S → Option (outT S)} {ann : Ann} (hf : P.funcs[f]? = some fn) (hb : fn.body = some c) (hres : fn.results.toList = S.res) (hnt : nParams S ≤ fn.ntmps)
    (hA : AnnOk P fn.ntmps c ann) (heq : ∀ x, exec C.T C.E fn.ntmps c ann (finI C.T S) (argStI S x) = F x) : CallsI P f S F := by
  intro us x y w ob hF H
  refine calls_of_wp hf hb ?_
  have h0 := heq x
  rw [hF] at h0
  obtain ⟨β0, hβ0⟩ : ∃ β0 : Nat → Value, ∀ b, ob = some b → β0 ioN = .pointer (some ⟨b, 0, none⟩) := by
    cases ob with
    | none => exact ⟨fun _ => undef, fun b h => by cases h⟩
    | some b => exact ⟨fun _ => .pointer (some ⟨b, 0, none⟩), fun b' h => by cases h; rfl⟩
  have hheap : ∀ r g, (argStI S x).heap r = some g → r = ioN ∧ ∃ segs, ioCells S x = some segs ∧ g = .cells segs := by
    intro r g h
    show r = ioN ∧ _
    have h' : heapOfIo (ioCells S x) r = some g := h
    cases hc : ioCells S x with
    | none => rw [hc] at h'; cases h'
    | some segs =>
      rw [hc] at h'
      have hm := ofL_mem (l := [(ioN, Reg.cells segs)]) h'
      simp only [List.mem_singleton, Prod.mk.injEq] at hm
      exact ⟨hm.1, segs, rfl, hm.2⟩
  have hat : ∀ segs, ioCells S x = some segs → (argStI S x).heap ioN = some (.cells segs) := by
    intro segs h
    show heapOfIo (ioCells S x) ioN = _
    rw [h]; rfl
  have hown : ∀ b, Own (argStI S x).heap β0 b → ob = some b := by
    rintro b ⟨r, g, hr, hl, hb⟩
    obtain ⟨rfl, segs, hs, rfl⟩ := hheap r g hr
    obtain ⟨b', T, cs, ho, _⟩ := H.io segs hs
    rw [hβ0 b' ho] at hb
    simp only [blkOf, Option.some.injEq] at hb
    rw [ho, hb]
  have R0 : Rel P w (fun b => ob = some b) fn.ntmps β0 (argStI S x) { tmps := us.toArray ++ Array.replicate (fn.ntmps - us.toArray.size) undef, defers := [] } w := by
    have hlen := H.len
    refine ⟨rfl, by simp; omega, ?_, ?_, ?_, (fun b hb => .inr (hown b hb)), rfl, rfl, rfl, Nat.le_refl _, fun _ _ _ => rfl, ?_⟩
    · intro t av ht
      obtain ⟨u, hu, hr⟩ := H.env t av (ofL_mem ht)
      have hlt : t < us.length := by
        rcases Nat.lt_or_ge t us.length with h | h
        · exact h
        · rw [List.getElem?_eq_none h] at hu; cases hu
      have : ({ tmps := us.toArray ++ Array.replicate (fn.ntmps - us.toArray.size) undef, defers := [] } : Act).tmps.getD t undef = u := by
        rw [Array.getD_eq_getD_getElem?, Array.getElem?_append_left (by simpa using hlt)]
        simp [hu]
      rw [this]
      exact hr _ _ hown fun segs b hs hb => ⟨hat segs hs, hβ0 b hb⟩
    · intro r g hr
      obtain ⟨rfl, segs, hs, rfl⟩ := hheap r g hr
      obtain ⟨b, T, cs, ho, hw, hss⟩ := H.io segs hs
      refine ⟨b, T, cs, hβ0 b ho, hw, hss _ _ fun b' hb' => ?_⟩
      have := hown b' hb'
      rw [ho] at this
      cases this; rfl
    · intro r r' g g' b h1 h2 _ _ _ _
      rw [(hheap r g h1).1, (hheap r' g' h2).1]
    · intro b hb
      cases hc : ioCells S x with
      | none => rw [H.none hc] at hb; cases hb
      | some segs => exact ⟨_, hat segs hc, fun _ => by rw [hβ0 b hb]; rfl⟩
  refine exec_sound C fn.ntmps h0 hA ⟨_, R0⟩ ?_
  intro ex st' a' w' h1 hp
  obtain ⟨β, R⟩ := hp
  have key : ∀ l, resAVs C.T st' S.res = some l → outDec st' S l = some y → bodyPost P fn (fun e w' => ∃ (nt : Nat) (β : Nat → Value) (st : St) (a : Act) (l : List AV) (vs : List Value), Rel P w (fun b => ob = some b) nt β st a w' ∧ outDec st S l = some y ∧ AVsRel st.heap β w' l vs ∧
      e = .returned (resV vs)) .ret a' w' := by
    intro l h2 h3
    rw [← hres] at h2
    obtain ⟨vs, h4, h5⟩ := run_results C R h2
    exact ⟨R.defers, _, h4, _, β, st', a', l, vs, R, h3, h5, rfl⟩
  cases ex with
  | exit i => cases h1
  | normal =>
    simp only [finI] at h1
    split at h1
    · rename_i l h2; exact key l h2 h1
    · cases h1
  | ret =>
    simp only [finI] at h1
    split at h1
    · rename_i l h2; exact key l h2 h1
    · cases h1

/-! ### Seen by the caller -/
def outOk (S : FI) : Bool := riFree S.rs && Nat.ble (regsIn S.rs) 1 && (match S.alt with | none => true | some r2 => riFree r2 && Nat.ble (regsIn r2) 1) && (match S.io with | none => true | some ss => ioOks ss && noPtrs S.ps)

theorem outDec_spec {st : St} {S : FI} {l : List AV} {y : outT S} (hok : outOk S = true) (e : outDec st S l = some y) :
    ∃ (rs : List RI) (z : riT rs), riFree rs = true ∧ regsIn rs ≤ 1 ∧ riDec st.heap rs l = some z ∧
      ((S.io = none ∧ ∀ {ρ : Type} d (κ : List AV → List (Nat × Reg) → Option (List CV) → Option ρ), outK S d y κ = κ (riEnc d rs z) (riRegs d rs z) none) ∨
       (∃ ss segs t, S.io = some ss ∧ st.heap ioN = some (.cells segs) ∧ rdecs ss segs = some t ∧ ∀ {ρ : Type} d (κ : List AV → List (Nat × Reg) → Option (List CV) → Option ρ), outK S d y κ = κ (riEnc d rs z) (riRegs d rs z) (some (segsEnc (ss.map CS.ret) t)))) := by
  obtain ⟨io, ps, rs, alt, res⟩ := S
  simp only [outOk, Bool.and_eq_true] at hok
  obtain ⟨⟨⟨hr1, hr2⟩, ha⟩, hi⟩ := hok
  have hr2 := nble.1 hr2
  cases io with
  | none =>
    cases alt with
    | none => exact ⟨rs, y, hr1, hr2, e, .inl ⟨rfl, fun d κ => rfl⟩⟩
    | some r2 =>
      simp only [Bool.and_eq_true] at ha
      simp only [outDec] at e
      split at e
      · rename_i z hz; cases e; exact ⟨rs, z, hr1, hr2, hz, .inl ⟨rfl, fun d κ => rfl⟩⟩
      · split at e
        · rename_i z hz; cases e; exact ⟨r2, z, ha.1, nble.1 ha.2, hz, .inl ⟨rfl, fun d κ => rfl⟩⟩
        · cases e
  | some ss =>
    cases alt with
    | none =>
      simp only [outDec] at e
      split at e
      · rename_i segs hs
        split at e
        · rename_i z t hz ht; cases e; exact ⟨rs, z, hr1, hr2, hz, .inr ⟨ss, segs, t, rfl, hs, ht, fun d κ => rfl⟩⟩
        · cases e
      · cases e
    | some r2 =>
      simp only [Bool.and_eq_true] at ha
      simp only [outDec] at e
      split at e
      · rename_i segs hs
        split at e
        · rename_i t ht
          split at e
          · rename_i z hz; cases e; exact ⟨rs, z, hr1, hr2, hz, .inr ⟨ss, segs, t, rfl, hs, ht, fun d κ => rfl⟩⟩
          · split at e
            · rename_i z hz; cases e; exact ⟨r2, z, ha.1, nble.1 ha.2, hz, .inr ⟨ss, segs, t, rfl, hs, ht, fun d κ => rfl⟩⟩
            · cases e
        · cases e
      · cases e
end
end Go.Abs
