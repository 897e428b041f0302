/- Functions that are handed a pointer to cells of the caller's, which they may turn; functions that tell a new region, or results of one of two shapes. -/
import Derived.Test.YtlloghihfigalaaAbsCall
set_option linter.unusedVariables false
set_option linter.unusedSimpArgs false
namespace Go.Abs
open Go.RowKit

/-! ### Cells that are handed in, and given back -/
def ioOk : CS → Bool
  | .int _ => true
  | .bool => true
  | .boolc _ => true
  | .str => true
  | .ints _ _ => true
  | .nilp => true
  | .nils => true
  | .fz _ => true
  | _ => false
def ioOks : List CS → Bool
  | [] => true
  | c :: r => ioOk c && ioOks r
/-- the shape of what is given back: of frozen data nothing is said -/
def CS.ret : CS → CS
  | .fz _ => .junk 1
  | .boolc _ => .bool
  | s => s
def one1 : CV → Bool
  | .ints _ _ _ => false
  | .junk _ => false
  | _ => true
def CS.rdec : (s : CS) → CV → Option s.ret.T
  | .fz _, c => (match c with | .junk n => bif Nat.beq n 1 then some () else none | c => bif one1 c then some () else none)
  | .boolc _, .bool b => some b
  | .int k, .int k' n => bif k == k' then some n else none
  | .bool, .bool b => some b
  | .str, .str s => some s
  | .ints k n, .ints k' n' f => bif k == k' && Nat.beq n n' then some f else none
  | .nilp, .val v => bif isNilP v then some () else none
  | .nils, .val v => bif isNilS v then some () else none
  | _, _ => none
def rdecs : (ss : List CS) → List CV → Option (segsT (ss.map CS.ret))
  | [], [] => some ()
  | [s], [c] => s.rdec c
  | s :: t :: r, c :: cs => (match s.rdec c with
    | some x => (match rdecs (t :: r) cs with | some y => some (x, y) | none => none)
    | none => none)
  | _, _ => none

section
variable {w : World}

theorem rdec_step {h : HeapT} {β : Nat → Value} {s : CS} (hs : ioOk s = true) {c : CV} {x : s.ret.T} (e : s.rdec c = some x) {cs cs' : List CV} {l : List Value}
    (ih : ∀ {l}, SegsRel h β w cs l → ∀ (h' : HeapT) (β' : Nat → Value) (w' : World), SegsRel h' β' w' cs' l) (H : SegsRel h β w (c :: cs) l) (h' : HeapT) (β' : Nat → Value) (w' : World) : SegsRel h' β' w' (s.ret.enc x :: cs') l := by
  cases s <;> simp only [ioOk] at hs <;> try (cases hs; done)
  case int k =>
    cases c <;> first | (cases e; done) | skip
    simp only [CS.rdec] at e
    obtain ⟨h1, h2⟩ := cond_some e
    obtain rfl := beqK.1 h1
    cases h2
    simp only [CS.ret, CS.enc, SegsRel, CVRel] at H ⊢
    obtain ⟨v, r, hl, h1, hv, hr⟩ := H; exact ⟨v, r, hl, h1, hv, ih hr h' β' w'⟩
  case bool =>
    cases c <;> first | (cases e; done) | skip
    cases e
    simp only [CS.ret, CS.enc, SegsRel, CVRel] at H ⊢
    obtain ⟨v, r, hl, h1, hv, hr⟩ := H; exact ⟨v, r, hl, h1, hv, ih hr h' β' w'⟩
  case boolc b =>
    cases c <;> first | (cases e; done) | skip
    cases e
    simp only [CS.ret, CS.enc, SegsRel, CVRel] at H ⊢
    obtain ⟨v, r, hl, h1, hv, hr⟩ := H; exact ⟨v, r, hl, h1, hv, ih hr h' β' w'⟩
  case str =>
    cases c <;> first | (cases e; done) | skip
    cases e
    simp only [CS.ret, CS.enc, SegsRel, CVRel] at H ⊢
    obtain ⟨v, r, hl, h1, hv, hr⟩ := H; exact ⟨v, r, hl, h1, hv, ih hr h' β' w'⟩
  case ints k n =>
    cases c <;> first | (cases e; done) | skip
    simp only [CS.rdec] at e
    obtain ⟨h1, h2⟩ := cond_some e
    simp only [Bool.and_eq_true] at h1
    obtain rfl := beqK.1 h1.1
    obtain rfl := nbeq.1 h1.2
    cases h2
    simp only [CS.ret, CS.enc, SegsRel] at H ⊢
    obtain ⟨r, hl, hr⟩ := H; exact ⟨r, hl, ih hr h' β' w'⟩
  case nilp =>
    cases c <;> first | (cases e; done) | skip
    simp only [CS.rdec] at e
    obtain ⟨h1, h2⟩ := cond_some e
    obtain rfl := isNilP_spec h1
    simp only [CS.ret, CS.enc, SegsRel, CVRel] at H ⊢
    obtain ⟨v, r, hl, h1, hv, hr⟩ := H; exact ⟨v, r, hl, h1, hv, ih hr h' β' w'⟩
  case nils =>
    cases c <;> first | (cases e; done) | skip
    simp only [CS.rdec] at e
    obtain ⟨h1, h2⟩ := cond_some e
    obtain rfl := isNilS_spec h1
    simp only [CS.ret, CS.enc, SegsRel, CVRel] at H ⊢
    obtain ⟨v, r, hl, h1, hv, hr⟩ := H; exact ⟨v, r, hl, h1, hv, ih hr h' β' w'⟩
  case fz d =>
    simp only [CS.rdec] at e
    simp only [CS.ret, CS.enc, SegsRel]
    cases c
    case junk n =>
      simp only [] at e
      obtain ⟨h1, _⟩ := cond_some e
      obtain rfl := nbeq.1 h1
      simp only [SegsRel] at H
      obtain ⟨a', r, hl, h2, h3, hr⟩ := H
      exact ⟨a', r, hl, h2, h3, ih hr h' β' w'⟩
    all_goals
      simp only [] at e
      obtain ⟨h1, _⟩ := cond_some e
      simp only [one1] at h1
    all_goals first | (cases h1; done) | skip
    all_goals
      simp only [SegsRel] at H
      obtain ⟨v, r, hl, h2, hv, hr⟩ := H
      exact ⟨[v], r, hl, rfl, fun u hu => by rw [List.mem_singleton.1 hu]; exact h2, ih hr h' β' w'⟩

theorem rdecs_rel {h : HeapT} {β : Nat → Value} : ∀ {ss : List CS} {cs : List CV} {z : segsT (ss.map CS.ret)} {l : List Value}, ioOks ss = true → rdecs ss cs = some z → SegsRel h β w cs l →
    ∀ (h' : HeapT) (β' : Nat → Value) (w' : World), SegsRel h' β' w' (segsEnc (ss.map CS.ret) z) l := by
  intro ss
  induction ss with
  | nil =>
    intro cs z l _ e H h' β' w'
    cases cs with
    | nil => show SegsRel h' β' w' [] l; simpa only [SegsRel] using H
    | cons => cases e
  | cons s r ih =>
    intro cs z l hs e H h' β' w'
    simp only [ioOks, Bool.and_eq_true] at hs
    cases r with
    | nil =>
      match cs, e, H with
      | [c], e, H => exact rdec_step (cs := []) (cs' := []) hs.1 e (fun H h' β' w' => by simpa only [SegsRel] using H) H h' β' w'
    | cons t r =>
      match cs, e, H with
      | c :: cs, e, H =>
        simp only [rdecs] at e
        split at e
        · rename_i x hx
          split at e
          · rename_i y hy
            cases e
            exact rdec_step (cs := cs) (cs' := segsEnc ((t :: r).map CS.ret) y) hs.1 hx (fun H h' β' w' => ih hs.2 hy H h' β' w') H h' β' w'
          · cases e
        · cases e

theorem enc_size {s : CS} (hs : ioOk s = true) (x : s.T) (y : s.ret.T) : (s.enc x).size = (s.ret.enc y).size := by
  cases s <;> simp only [ioOk] at hs <;> first | (cases hs; done) | rfl
theorem segs_size : ∀ {ss : List CS} (x : segsT ss) (z : segsT (ss.map CS.ret)), ioOks ss = true → segSize (segsEnc (ss.map CS.ret) z) = segSize (segsEnc ss x) := by
  intro ss
  induction ss with
  | nil => intro x z _; rfl
  | cons s r ih =>
    intro x z hs
    simp only [ioOks, Bool.and_eq_true] at hs
    cases r with
    | nil =>
      show (s.ret.enc z).size + 0 = (s.enc x).size + 0
      rw [enc_size hs.1 x z]
    | cons t r =>
      show (s.ret.enc z.1).size + segSize (segsEnc ((t :: r).map CS.ret) z.2) = (s.enc x.1).size + segSize (segsEnc (t :: r) x.2)
      rw [enc_size hs.1 x.1 z.1, ih x.2 z.2 hs.2]

/-- What holds no region of the call's own holds wherever fewer blocks are own. -/
theorem CVRel.view {h h' : HeapT} {β β' : Nat → Value} (H : ∀ b, Own h' β' b → Own h β b) {c : CV} {v : Value} (hr : regsCV c = []) (hc : CVRel h β w c v) : CVRel h' β' w c v := by
  cases c <;> simp only [regsCV] at hr <;> try (cases hr; done)
  all_goals simp only [CVRel] at hc ⊢ <;> try exact hc
  · exact hc.mono fun x v hx hv => ⟨hv, fun ho => hx (H _ ho)⟩
  · obtain ⟨a, h1, h2, h3⟩ := hc
    exact ⟨a, h1, h2.mono fun x v hx hv => ⟨hv, fun ho => hx (H _ ho)⟩, h3⟩
theorem SegsRel.view {h h' : HeapT} {β β' : Nat → Value} (H : ∀ b, Own h' β' b → Own h β b) : ∀ {cs : List CV} {l : List Value}, regsSegs cs = [] → SegsRel h β w cs l → SegsRel h' β' w cs l := by
  intro cs
  induction cs with
  | nil => exact fun _ hc => hc
  | cons c cs ih =>
    intro l hr hc
    simp only [regsSegs, List.append_eq_nil_iff] at hr
    cases c <;> simp only [SegsRel] at hc ⊢
    case ints k n f => obtain ⟨r, hl, hc⟩ := hc; exact ⟨r, hl, ih hr.2 hc⟩
    case junk n => obtain ⟨a, r, hl, ha, h3, hc⟩ := hc; exact ⟨a, r, hl, ha, h3, ih hr.2 hc⟩
    all_goals (obtain ⟨v, r, hl, h3, hv, hc⟩ := hc; exact ⟨v, r, hl, h3, CVRel.view H hr.1 hv, ih hr.2 hc⟩)
theorem AVRel.view {h h' : HeapT} {β β' : Nat → Value} (H : ∀ b, Own h' β' b → Own h β b) {c : AV} {v : Value} (hn : NoTup c) (hr : regsAV c = []) (hc : AVRel h β w c v) : AVRel h' β' w c v := by
  cases c with
  | c x => simp only [AVRel] at hc ⊢; exact CVRel.view H hr hc
  | agg xs => simp only [AVRel] at hc ⊢; obtain ⟨l, hl, hs⟩ := hc; exact ⟨l, hl, SegsRel.view H hr hs⟩
  | tup => exact hn.elim

theorem regsSegs_io : ∀ {ss : List CS} {x : segsT ss}, ioOks ss = true → regsSegs (segsEnc ss x) = [] := by
  have one : ∀ {s : CS} {x : s.T}, ioOk s = true → regsCV (s.enc x) = [] := by
    intro s x hs
    cases s <;> simp only [ioOk] at hs <;> first | (cases hs; done) | rfl
  intro ss
  induction ss with
  | nil => intro x _; rfl
  | cons s r ih =>
    intro x hs
    simp only [ioOks, Bool.and_eq_true] at hs
    cases r with
    | nil => show regsCV (s.enc x) ++ [] = []; rw [one hs.1]; rfl
    | cons t r => show regsCV (s.enc x.1) ++ regsSegs (segsEnc (t :: r) x.2) = []; rw [one hs.1, ih hs.2]; rfl

/-! ### Results -/
inductive RI where
  | val (s : AS)
  | row (e : Nat) (k : IntKind)
  | rowsl (e : Nat) (k : IntKind)
  | newp (ss : List CS)
abbrev RI.T : RI → Type
  | .val s => s.T
  | .row _ _ => List Int
  | .rowsl _ _ => List Int × Nat
  | .newp ss => segsT ss
def RI.enc (d : Nat) : (p : RI) → p.T → AV
  | .val s, x => s.enc x
  | .row _ _, _ => .c (.full d)
  | .rowsl _ _, x => .c (.sl d 0 x.2)
  | .newp ss, x => .c (.ptr d 0 none (segSize (segsEnc ss x)))
def RI.regs (d : Nat) : (p : RI) → p.T → List (Nat × Reg)
  | .val _, _ => []
  | .row e k, xs => [(d, .row e k xs)]
  | .rowsl e k, x => [(d, .row e k x.1)]
  | .newp ss, x => [(d, .cells (segsEnc ss x))]
def RI.dec (h : HeapT) : (p : RI) → AV → Option p.T
  | .val s, a => s.dec id a
  | .row e k, a => (match a with
    | .c (.val v) => bif isNilS v then some [] else none
    | .c (.full r) => (match h r with
      | some (.row e' k' xs) => bif Nat.beq e e' && k == k' then some xs else none
      | _ => none)
    | _ => none)
  | .rowsl e k, a => (match a with
    | .c (.sl r o n) => (match h r with
      | some (.row e' k' xs) => bif Nat.beq e e' && k == k' && Nat.beq o 0 then some (xs, n) else none
      | _ => none)
    | _ => none)
  | .newp ss, a => (match a with
    | .c (.ptr r base none room) => (match h r with
      | some (.cells segs) => bif !Nat.beq r ioN && Nat.beq base 0 && Nat.beq room (segSize segs) then segsDec id ss segs else none
      | _ => none)
    | _ => none)
def RI.free : RI → Bool
  | .val s => freeR (.val s)
  | .row _ _ => true
  | .rowsl _ _ => true
  | .newp ss => freeSCs ss
def RI.isReg : RI → Bool
  | .val _ => false
  | _ => true

abbrev riT : List RI → Type
  | [] => Unit
  | [p] => p.T
  | p :: q :: r => p.T × riT (q :: r)
def riEnc (d : Nat) : (ps : List RI) → riT ps → List AV
  | [], _ => []
  | [p], x => [p.enc d x]
  | p :: q :: r, x => p.enc d x.1 :: riEnc d (q :: r) x.2
def riRegs (d : Nat) : (ps : List RI) → riT ps → List (Nat × Reg)
  | [], _ => []
  | [p], x => p.regs d x
  | p :: q :: r, x => p.regs d x.1 ++ riRegs d (q :: r) x.2
def riDec (h : HeapT) : (ps : List RI) → List AV → Option (riT ps)
  | [], [] => some ()
  | [p], [a] => p.dec h a
  | p :: q :: r, a :: l => (match p.dec h a with
    | some x => (match riDec h (q :: r) l with | some y => some (x, y) | none => none)
    | none => none)
  | _, _ => none
def riFree : List RI → Bool
  | [] => true
  | p :: r => p.free && riFree r
def regsIn : List RI → Nat
  | [] => 0
  | p :: r => (bif p.isReg then 1 else 0) + regsIn r

/-- one result, seen by the caller -/
def NewReg (w : World) (w' : World) (bv : Value) (g : Reg) : Prop := g.live ∧ (∀ h' β', RegRel h' β' w' bv g) ∧ ∀ b, blkOf bv = some b → w.heap.size ≤ b

theorem segsDec_id {ss : List CS} {cs : List CV} {x : segsT ss} (h : segsDec id ss cs = some x) : segsEnc ss x = cs := by
  have := segsDec_enc h
  rwa [renSegs_id] at this

section
variable {P : Program} {fp : Nat → Prop} {nt : Nat} {β : Nat → Value} {st : St} {a : Act} {w' : World}

theorem RI.dec_rel (R : Rel P w fp nt β st a w') (hnew : ∀ r g b, r ≠ ioN → st.heap r = some g → g.live → blkOf (β r) = some b → w.heap.size ≤ b) (hio : ∀ r e k xs b, st.heap r = some (.row e k xs) → blkOf (β r) = some b → w.heap.size ≤ b)
    {p : RI} (hp : p.free = true) {x : AV} {v : Value} (hx : AVRel st.heap β w' x v) {y : p.T} (e : p.dec st.heap x = some y) (d : Nat) :
    (p.isReg = false ∧ p.regs d y = [] ∧ ∀ h' β', AVRel h' β' w' (p.enc d y) v) ∨
    (p.isReg = true ∧ ∃ bv g, p.regs d y = [(d, g)] ∧ NewReg w w' bv g ∧ ∀ (h' : HeapT) β', h' d = some g → β' d = bv → AVRel h' β' w' (p.enc d y) v) := by
  cases p with
  | val s =>
    left
    refine ⟨rfl, rfl, fun h' β' => ?_⟩
    simp only [RI.dec] at e
    simp only [RI.enc]
    refine AVRel.const hp (h := st.heap) (β := β) (w := w') ?_ h' β' w'
    rw [← renAV_id (p := s) y, AS.dec_enc e]; exact hx
  | row ee k =>
    right
    simp only [RI.dec] at e
    refine ⟨rfl, v, .row ee k y, rfl, ?_⟩
    split at e
    · rename_i u
      obtain ⟨h1, h2⟩ := cond_some e
      cases h2
      obtain rfl := isNilS_spec h1
      simp only [AVRel, CVRel] at hx
      subst hx
      refine ⟨⟨trivial, fun h' β' => .inl ⟨rfl, rfl⟩, fun b hb => by simp [blkOf] at hb⟩, fun h' β' h3 h4 => ?_⟩
      simp only [RI.enc, AVRel, CVRel]
      exact ⟨_, h3, h4.symm, rfl⟩
    · rename_i r
      split at e
      · rename_i e' k' xs hr
        obtain ⟨h1, h2⟩ := cond_some e
        simp only [Bool.and_eq_true] at h1
        obtain rfl := nbeq.1 h1.1
        obtain rfl := beqK.1 h1.2
        cases h2
        simp only [AVRel, CVRel] at hx
        obtain ⟨g, hg, hf⟩ := hx
        rw [hr] at hg
        cases hg
        obtain ⟨rfl, h5⟩ := hf
        refine ⟨⟨trivial, fun h' β' => R.heap r _ hr, fun b hb => hio r _ _ _ b hr hb⟩, fun h' β' h3 h4 => ?_⟩
        simp only [RI.enc, AVRel, CVRel]
        exact ⟨_, h3, h4.symm, h5⟩
      · cases e
    · cases e
  | rowsl ee k =>
    right
    simp only [RI.dec] at e
    split at e
    · rename_i r o n
      split at e
      · rename_i e' k' xs hr
        obtain ⟨h1, h2⟩ := cond_some e
        simp only [Bool.and_eq_true] at h1
        obtain ⟨⟨h1, h3⟩, h4⟩ := h1
        obtain rfl := nbeq.1 h1
        obtain rfl := beqK.1 h3
        obtain rfl := nbeq.1 h4
        cases h2
        simp only [AVRel, CVRel] at hx
        obtain ⟨g, hg, hf⟩ := hx
        rw [hr] at hg
        cases hg
        refine ⟨rfl, β r, .row ee k xs, rfl, ⟨trivial, fun h' β' => R.heap r _ hr, fun b hb => hio r _ _ _ b hr hb⟩, fun h' β' h3 h4 => ?_⟩
        simp only [RI.enc, AVRel, CVRel]
        exact ⟨_, h3, by rw [h4]; exact hf⟩
      · cases e
    · cases e
  | newp ss =>
    right
    simp only [RI.dec] at e
    split at e
    · rename_i r base room
      split at e
      · rename_i segs hr
        obtain ⟨h1, h2⟩ := cond_some e
        simp only [Bool.and_eq_true, Bool.not_eq_true'] at h1
        obtain ⟨⟨h1, h3⟩, h4⟩ := h1
        obtain rfl := nbeq.1 h3
        obtain rfl := nbeq.1 h4
        have hs := segsDec_id h2
        subst hs
        have hne : r ≠ ioN := fun h => by rw [h, Nat.beq_refl] at h1; cases h1
        simp only [AVRel, CVRel] at hx
        obtain ⟨g, hg, hf⟩ := hx
        rw [hr] at hg
        cases hg
        obtain ⟨b, T, cs, hbv, hw, hss⟩ := R.heap r _ hr
        refine ⟨rfl, β r, .cells (segsEnc ss y), rfl, ⟨trivial, fun h' β' => ⟨b, T, cs, hbv, hw, SegsRel.const hp hss h' β' w'⟩, fun b hb => hnew r _ b hne hr trivial hb⟩, fun h' β' h3 h4 => ?_⟩
        simp only [RI.enc, AVRel, CVRel]
        exact ⟨_, h3, by rw [h4]; exact hf⟩
      · cases e
    · cases e

theorem riRegs_nil {d : Nat} : ∀ {ps : List RI} {y : riT ps}, regsIn ps = 0 → riRegs d ps y = [] := by
  intro ps
  induction ps with
  | nil => intro _ _; rfl
  | cons p r ih =>
    intro y h
    simp only [regsIn] at h
    have hp : p.isReg = false := by cases hp : p.isReg <;> simp [hp] at h; rfl
    have hpr : ∀ y : p.T, p.regs d y = [] := by cases p <;> simp [RI.isReg] at hp; intro y; rfl
    cases r with
    | nil => exact hpr y
    | cons q r => simp only [riRegs]; rw [hpr, ih (by omega)]; rfl

theorem riDec_rel (R : Rel P w fp nt β st a w') (hnew : ∀ r g b, r ≠ ioN → st.heap r = some g → g.live → blkOf (β r) = some b → w.heap.size ≤ b) (hio : ∀ r e k xs b, st.heap r = some (.row e k xs) → blkOf (β r) = some b → w.heap.size ≤ b) (d : Nat) :
    ∀ {ps : List RI} {l : List AV} {vs : List Value} {y : riT ps}, riFree ps = true → regsIn ps ≤ 1 → AVsRel st.heap β w' l vs → riDec st.heap ps l = some y →
    (riRegs d ps y = [] ∧ ∀ h' β', AVsRel h' β' w' (riEnc d ps y) vs) ∨
    (∃ bv g, riRegs d ps y = [(d, g)] ∧ NewReg w w' bv g ∧ ∀ (h' : HeapT) β', h' d = some g → β' d = bv → AVsRel h' β' w' (riEnc d ps y) vs) := by
  intro ps
  induction ps with
  | nil =>
    intro l vs y _ _ hl e
    cases l with
    | nil => exact .inl ⟨rfl, fun h' β' => by simpa only [riEnc, AVsRel] using hl⟩
    | cons => cases e
  | cons p r ih =>
    intro l vs y hf hn hl e
    simp only [riFree, Bool.and_eq_true] at hf
    cases r with
    | nil =>
      match l, e with
      | [x], e =>
        simp only [riDec] at e
        simp only [AVsRel] at hl
        obtain ⟨v, r', rfl, hv, rfl⟩ := hl
        rcases RI.dec_rel R hnew hio hf.1 hv e d with ⟨_, h1, h2⟩ | ⟨_, bv, g, h1, h3, h4⟩
        · exact .inl ⟨h1, fun h' β' => by simp only [riEnc, AVsRel]; exact ⟨v, [], rfl, h2 h' β', rfl⟩⟩
        · exact .inr ⟨bv, g, h1, h3, fun h' β' h5 h6 => by simp only [riEnc, AVsRel]; exact ⟨v, [], rfl, h4 h' β' h5 h6, rfl⟩⟩
    | cons q r =>
      match l, e with
      | x :: l, e =>
        simp only [riDec] at e
        simp only [AVsRel] at hl
        obtain ⟨v, vs', rfl, hv, hl⟩ := hl
        split at e
        · rename_i z hz
          split at e
          · rename_i zs hzs
            cases e
            simp only [regsIn] at hn
            rcases RI.dec_rel R hnew hio hf.1 hv hz d with ⟨h0, h1, h2⟩ | ⟨h0, bv, g, h1, h3, h4⟩
            · rw [h0] at hn
              have hn' : regsIn (q :: r) ≤ 1 := by simpa [regsIn] using hn
              rcases ih hf.2 hn' hl hzs with ⟨h5, h6⟩ | ⟨bv, g, h5, h7, h8⟩
              · exact .inl ⟨by simp only [riRegs, h1, h5, List.append_nil], fun h' β' => by simp only [riEnc, AVsRel]; exact ⟨v, vs', rfl, h2 h' β', h6 h' β'⟩⟩
              · exact .inr ⟨bv, g, by simp only [riRegs, h1, h5, List.nil_append], h7, fun h' β' h9 h10 => by simp only [riEnc, AVsRel]; exact ⟨v, vs', rfl, h2 h' β', h8 h' β' h9 h10⟩⟩
            · rw [h0] at hn
              have hn' : regsIn (q :: r) = 0 := by simp [regsIn] at hn ⊢; omega
              rcases ih hf.2 (by omega) hl hzs with ⟨h5, h6⟩ | ⟨bv', g', h5, _, _⟩
              · exact .inr ⟨bv, g, by simp only [riRegs, h1, h5, List.append_nil], h3, fun h' β' h9 h10 => by simp only [riEnc, AVsRel]; exact ⟨v, vs', rfl, h4 h' β' h9 h10, h6 h' β'⟩⟩
              · rw [riRegs_nil hn'] at h5; cases h5
          · cases e
        · cases e
end
end
end Go.Abs
