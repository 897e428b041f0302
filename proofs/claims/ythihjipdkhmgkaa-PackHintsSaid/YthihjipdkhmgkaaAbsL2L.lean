/- A call of a function that is told by layouts, seen by the caller: the entry of the table. -/
import Derived.Test.YthihjipdkhmgkaaAbsLL
set_option linter.unusedVariables false
set_option linter.unusedSimpArgs false
namespace Go.Abs
universe u
open Go.RowKit

/-! ### Other names for regions -/
def renCV (ρ : Nat → Nat) : CV → CV
  | .ptr r base o room => .ptr (ρ r) base o room
  | .full r => .full (ρ r)
  | .sl r o n => .sl (ρ r) o n
  | .asl r base lo n lim => .asl (ρ r) base lo n lim
  | .clo f caps => .clo f (caps.map ρ)
  | c => c
def renReg (ρ : Nat → Nat) : Reg → Reg
  | .cells segs => .cells (segs.map (renCV ρ))
  | g => g

def noFzC : CV → Bool
  | .fz _ _ _ => false
  | .fzp _ _ _ => false
  | _ => true
def noFzA : AV → Bool
  | .c x => noFzC x
  | .agg xs => xs.all noFzC
  | _ => false
def noFzR : Reg → Bool
  | .cells xs => xs.all noFzC
  | .rowd _ _ _ => false
  | .imap _ => true
  | _ => true

theorem renCV_size (ρ : Nat → Nat) (c : CV) : (renCV ρ c).size = c.size := by cases c <;> rfl
theorem renSegs_size (ρ : Nat → Nat) : ∀ cs : List CV, segSize (cs.map (renCV ρ)) = segSize cs := by
  intro cs
  induction cs with
  | nil => rfl
  | cons c cs ih => simp only [List.map_cons, segSize, renCV_size, ih]
theorem renReg_live (ρ : Nat → Nat) (g : Reg) : (renReg ρ g).live ↔ g.live := by cases g <;> simp [renReg, Reg.live]
theorem renReg_shape (ρ : Nat → Nat) (g : Reg) : Shape g (renReg ρ g) := by cases g <;> simp [renReg, Shape, renSegs_size]

section
variable {w : World} {h1 h2 : Heap} {β1 β2 : Nat → Value} {τ : Nat → Nat}

/-- the regions of h1 stand in h2, by the names τ -/
def Names (h1 : Heap) (β1 : Nat → Value) (h2 : Heap) (β2 : Nat → Value) (τ : Nat → Nat) : Prop := ∀ q g, h1 q = some g → h2 (τ q) = some (renReg τ g) ∧ β2 (τ q) = β1 q

theorem CVRel.ren (H : Names h1 β1 h2 β2 τ) {c : CV} {v : Value} (F : noFzC c = true ∨ ∀ b, Own h2 β2 b → Own h1 β1 b) (hc : CVRel h1 β1 w c v) : CVRel h2 β2 w (renCV τ c) v := by
  have M : (∀ b, Own h2 β2 b → Own h1 β1 b) → ∀ (x : Addr) v, ¬ Own h1 β1 x.block → w.cell? x = some v → w.cell? x = some v ∧ ¬ Own h2 β2 x.block := fun F x v hx hv => ⟨hv, fun h => hx (F _ h)⟩
  cases c <;> simp only [renCV, CVRel] at hc ⊢ <;> try exact hc
  · obtain ⟨g, hg, hp⟩ := hc; obtain ⟨e1, e2⟩ := H _ _ hg; exact ⟨_, e1, hp.shape (renReg_shape τ g) fun _ => e2⟩
  · obtain ⟨g, hg, hp⟩ := hc; obtain ⟨e1, e2⟩ := H _ _ hg; exact ⟨_, e1, hp.shape (renReg_shape τ g) fun _ => e2⟩
  · obtain ⟨g, hg, hp⟩ := hc; obtain ⟨e1, e2⟩ := H _ _ hg; exact ⟨_, e1, hp.shape (renReg_shape τ g) fun _ => e2⟩
  · obtain ⟨g, hg, hp⟩ := hc; obtain ⟨e1, e2⟩ := H _ _ hg; exact ⟨_, e1, hp.shape (renReg_shape τ g) fun _ => e2⟩
  · rcases F with F | F
    · cases F
    · exact hc.mono (M F)
  · rcases F with F | F
    · cases F
    · obtain ⟨A, hA, hf, hr⟩ := hc
      exact ⟨A, hA, hf.mono (M F), hr⟩
  · obtain ⟨vs, hv, hl, hc⟩ := hc
    refine ⟨vs, hv, by simpa using hl, fun i r hr => ?_⟩
    rw [List.getElem?_map] at hr
    cases hi : (_ : List Nat)[i]? with
    | none => rw [hi] at hr; cases hr
    | some q =>
      rw [hi] at hr
      simp only [Option.map_some, Option.some.injEq] at hr
      subst hr
      obtain ⟨u, g, hu, hg, hp⟩ := hc i q hi
      obtain ⟨e1, e2⟩ := H _ _ hg
      exact ⟨u, _, hu, e1, hp.shape (renReg_shape τ g) fun _ => e2⟩

theorem SegsRel.ren (H : Names h1 β1 h2 β2 τ) : ∀ {cs : List CV} {l : List Value}, (cs.all noFzC = true ∨ ∀ b, Own h2 β2 b → Own h1 β1 b) → SegsRel h1 β1 w cs l → SegsRel h2 β2 w (cs.map (renCV τ)) l := by
  intro cs
  induction cs with
  | nil => exact fun _ hc => hc
  | cons c cs ih =>
    intro l F hc
    have F1 : noFzC c = true ∨ ∀ b, Own h2 β2 b → Own h1 β1 b := F.imp (fun h => by simp only [List.all_cons, Bool.and_eq_true] at h; exact h.1) id
    have F2 : cs.all noFzC = true ∨ ∀ b, Own h2 β2 b → Own h1 β1 b := F.imp (fun h => by simp only [List.all_cons, Bool.and_eq_true] at h; exact h.2) id
    cases c <;> simp only [List.map_cons, SegsRel] at hc
    case ints k n f => obtain ⟨r, hl, hc⟩ := hc; exact ⟨r, hl, ih F2 hc⟩
    case junk n => obtain ⟨a, r, hl, ha, h3, hc⟩ := hc; exact ⟨a, r, hl, ha, h3, ih F2 hc⟩
    all_goals (obtain ⟨v, r, hl, h3, hv, hc⟩ := hc; have := CVRel.ren H F1 hv; simp only [renCV] at this; simp only [List.map_cons, renCV, SegsRel]; exact ⟨v, r, hl, h3, this, ih F2 hc⟩)

theorem RegRel.ren (H : Names h1 β1 h2 β2 τ) {g : Reg} {bv : Value} (F : noFzR g = true ∨ ∀ b, Own h2 β2 b → Own h1 β1 b) (hc : RegRel h1 β1 w bv g) : RegRel h2 β2 w bv (renReg τ g) := by
  cases g with
  | cells segs => obtain ⟨b, T, cs, e1, e2, e3⟩ := hc; exact ⟨b, T, cs, e1, e2, e3.ren H F⟩
  | row e k xs => exact hc
  | rowd e t xs =>
    rcases F with F | F
    · cases F
    · rcases hc with hc | ⟨b, cap, l, tail, hbv, hh, hs, hl⟩
      · exact .inl hc
      · refine .inr ⟨b, cap, l, tail, hbv, hh, ?_, hl⟩
        refine (hs.fzl (own := Own h2 β2) F (fun c hc => ?_)).segs
        rw [List.mem_flatMap] at hc
        obtain ⟨x, _, hx⟩ := hc
        exact encD_data _ _ c hx
  | imap xs => exact hc
  | dead => trivial
end

/-! ### What the caller sees -/
def isSomeB (o : Option Reg) : Bool := match o with | some _ => true | none => false
def shapeB (o : Option Reg) (g : Reg) : Bool :=
  match o with
  | some (.cells s) => (match g with | .cells s' => Nat.beq (segSize s') (segSize s) | _ => false)
  | some (.row e k _) => (match g with | .row e' k' _ => Nat.beq e e' && k == k' | _ => false)
  | some (.rowd e t _) => (match g with | .rowd e' t' _ => Nat.beq e e' && decide (t = t') | _ => false)
  | _ => false

/-- the caller's name of a region that the callee tells -/
def tau (d : Nat) (ρ : Nat → Nat) (N : Nat → Bool) (q : Nat) : Nat :=
  bif Nat.ble ioN q && !N q then ρ q else d + 1000 * (bif Nat.ble ioN q then q - ioN + 500 else q)

def deadsOf (S : FL) (ρ : Nat → Nat) (N : Nat → Bool) (gs : List Nat) (lay : Lay) : List Nat :=
  ((keysOf S.inp.vars).filter fun q => !N q && !memN q (keysOf lay.vars)).map ρ ++ bif S.strict then gs else []

def leaveHw (S : FL) (d : Nat) (h : Heap) (ρ : Nat → Nat) (N : Nat → Bool) (gs : List Nat) (lay : Lay) (s : lay.T) : Option (List (Nat × Reg)) :=
  let hw := (deadsOf S ρ N gs lay).map (fun r => (r, Reg.dead)) ++ (varsRegs lay.vars s).map fun p => (tau d ρ N p.1, renReg (tau d ρ N) p.2)
  bif distinct (hw.map (·.1)) && ((deadsOf S ρ N gs lay).all fun r => isSomeB (h r)) && ((varsRegs lay.vars s).all fun p =>
    (bif Nat.ble ioN p.1 && !N p.1 then memN p.1 (keysOf S.inp.vars) && shapeB (h (ρ p.1)) (renReg (tau d ρ N) p.2) else Nat.blt (tau d ρ N p.1) ioN && !isSomeB (h (tau d ρ N p.1))) && (S.strict || noFzR p.2)) then some hw else none

def resOf (τ : Nat → Nat) (strict : Bool) (env : Nat → Option AV) : Nat → Nat → Option (List AV)
  | 0, _ => some []
  | k + 1, i => (match env i, resOf τ strict env k (i + 1) with
    | some (.c x), some l => bif strict || noFzC x then some (.c (renCV τ x) :: l) else none
    | some (.agg xs), some l => bif strict || xs.all noFzC then some (.agg (xs.map (renCV τ)) :: l) else none
    | _, _ => none)

def leave1 (S : FL) (d : Nat) (h : Heap) (ρ : Nat → Nat) (N : Nat → Bool) (gs hr : List Nat) {κ : Type} (k : Delta → Option κ) : (x : AExit × Lay) → outT1 x → Option κ
  | (.panic t _, lay), s => (match leaveHw S d h ρ N gs lay s.2 with | some hw => k ⟨.pan t s.1, hw, hw.map (·.1) ++ hr⟩ | none => none)
  | (.ret, lay), s => (match leaveHw S d h ρ N gs lay s, resOf (tau d ρ N) S.strict (lay.enc s).env S.res.length 0 with
    | some hw, some l => k ⟨resAV l, hw, hw.map (·.1) ++ hr⟩
    | _, _ => none)
  | (.normal, _), _ => none
  | (.exit _, _), _ => none

def leaveK (S : FL) (d : Nat) (h : Heap) (ρ : Nat → Nat) (N : Nat → Bool) (gs hr : List Nat) {κ : Type} : (outs : List (AExit × Lay)) → outsT outs → (Delta → Option κ) → Option κ
  | [], t, _ => nomatch t
  | [x], t, k => leave1 S d h ρ N gs hr k x t
  | x :: y :: r, t, k => (match t with | .inl s => leave1 S d h ρ N gs hr k x s | .inr s => leaveK S d h ρ N gs hr (y :: r) s k)

def callSt (l : List AV) (h : Heap) : St := { env := fun i => l[i]?, heap := h }
def nmL (S : FL) (l : List AV) (h : Heap) : List (Nat × Option Nat) := namesOf (callSt l h) S.inp.roots []

/-- the regions that a call looks at -/
def hrL (S : FL) (l : List AV) (h : Heap) (gs : List Nat) : List Nat :=
  gs ++ (((keysOf S.inp.vars).map (rhoOf (nmL S l h))) ++ touchOf (callSt l h) S.inp.roots [])

/-- The entry of a function in the table. -/
def funEntL (S : FL) (fr : Bool) (F : S.inT → Option S.outT) : Ent :=
  ⟨fun d l h k => bif Nat.beq l.length S.n then (match S.inp.decN (callSt l h) (rhoOf (nmL S l h)) (nilOf (nmL S l h)) with
    | some (x, gs) => (F x).bind fun y => leaveK S d h (rhoOf (nmL S l h)) (nilOf (nmL S l h)) gs (hrL S l h gs) S.outs y k
    | none => none) else none, fr⟩

def okL (S : FL) : Bool :=
  S.inp.closed && ((keysOf S.inp.vars).all fun q => Nat.ble ioN q) && Nat.ble S.n ioN && (S.inp.fix.all fun p => match p.2.unit with | some _ => true | none => false)

theorem leave1_nat {S : FL} {d : Nat} {h : Heap} {ρ : Nat → Nat} {N : Nat → Bool} {gs hr : List Nat} {κ : Type} {k : Delta → Option κ} {x : AExit × Lay} {s : outT1 x} : leave1 S d h ρ N gs hr k x s = (leave1 S d h ρ N gs hr some x s).bind k := by
  obtain ⟨x, lay⟩ := x
  cases x <;> simp only [leave1] <;> try rfl
  · split <;> rfl
  · split <;> rfl

theorem leaveK_nat {S : FL} {d : Nat} {h : Heap} {ρ : Nat → Nat} {N : Nat → Bool} {gs hr : List Nat} {κ : Type} {k : Delta → Option κ} : ∀ {outs : List (AExit × Lay)} {t : outsT outs}, leaveK S d h ρ N gs hr outs t k = (leaveK S d h ρ N gs hr outs t some).bind k := by
  intro outs
  induction outs with
  | nil => intro t; exact nomatch t
  | cons x r ih =>
    intro t
    cases r with
    | nil => exact leave1_nat
    | cons y r => cases t with
      | inl s => exact leave1_nat
      | inr s => exact ih

/-- what an entry comes to, of one way out -/
theorem leaveK_inv {S : FL} {d : Nat} {h : Heap} {ρ : Nat → Nat} {N : Nat → Bool} {gs hr : List Nat} {δ : Delta} : ∀ {outs : List (AExit × Lay)} {t : outsT outs}, leaveK S d h ρ N gs hr outs t some = some δ →
    ∃ (lay : Lay) (s : lay.T) (hw : List (Nat × Reg)), leaveHw S d h ρ N gs lay s = some hw ∧ (encOut outs t).2 = lay.enc s ∧ δ.hw = hw ∧ δ.hr = hw.map (·.1) ++ hr ∧
      ((∃ p n, (encOut outs t).1 = .panic p n ∧ δ.av = .pan p n) ∨ ((encOut outs t).1 = .ret ∧ ∃ l, resOf (tau d ρ N) S.strict (lay.enc s).env S.res.length 0 = some l ∧ δ.av = resAV l)) := by
  have one : ∀ {x : AExit × Lay} {t : outT1 x}, leave1 S d h ρ N gs hr some x t = some δ →
    ∃ (lay : Lay) (s : lay.T) (hw : List (Nat × Reg)), leaveHw S d h ρ N gs lay s = some hw ∧ (outEnc1 x t).2 = lay.enc s ∧ δ.hw = hw ∧ δ.hr = hw.map (·.1) ++ hr ∧
      ((∃ p n, (outEnc1 x t).1 = .panic p n ∧ δ.av = .pan p n) ∨ ((outEnc1 x t).1 = .ret ∧ ∃ l, resOf (tau d ρ N) S.strict (lay.enc s).env S.res.length 0 = some l ∧ δ.av = resAV l)) := by
    intro x t e
    obtain ⟨x, lay⟩ := x
    cases x <;> simp only [leave1] at e <;> try (cases e; done)
    · split at e
      · rename_i hw l h1 h2; cases e; exact ⟨lay, t, hw, h1, rfl, rfl, rfl, .inr ⟨rfl, l, h2, rfl⟩⟩
      · cases e
    · split at e
      · rename_i hw h1; cases e; exact ⟨lay, t.2, hw, h1, rfl, rfl, rfl, .inl ⟨_, _, rfl, rfl⟩⟩
      · cases e
  intro outs
  induction outs with
  | nil => intro t; exact nomatch t
  | cons x r ih =>
    intro t e
    cases r with
    | nil => exact one e
    | cons y r => cases t with
      | inl s => exact one e
      | inr s => exact ih e
end Go.Abs
