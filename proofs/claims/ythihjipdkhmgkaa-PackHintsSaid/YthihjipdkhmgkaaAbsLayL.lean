/- Layouts: what the interpreter's state holds at a loop's head or a function's end, told as one value of a product type; there and back. -/
import Derived.Test.YthihjipdkhmgkaaAbsExecL
set_option linter.unusedVariables false
set_option linter.unusedSimpArgs false
namespace Go.Abs
universe u
open Go.RowKit

/-- shapes of cells -/
inductive CS where
  | int (k : IntKind)
  | bool
  | str
  | ints (k : IntKind) (n : Nat)
  | junk (n : Nat)
  | fz (d : DT)
  | fzn (d : DT)
  | ptr (r base room : Nat)
  | ptri (r base lim room : Nat)
  | full (r : Nat)
  | sl (r : Nat)
  | asl (r base lim : Nat)
  | nilp
  | nils
  | fzp (d : DT)
  | boolc (b : Bool)
  | clo (f : Nat) (caps : List Nat)
  | sl0 (r : Nat)

abbrev CS.T : CS → Type
  | .int _ => Int
  | .bool => Bool
  | .str => ByteArray
  | .ints _ _ => Nat → Int
  | .junk _ => Unit
  | .fz d => List d.T
  | .fzn d => List d.T × Nat
  | .ptr _ _ _ => Unit
  | .ptri _ _ _ _ => Nat
  | .full _ => Unit
  | .sl _ => Nat × Nat
  | .asl _ _ _ => Nat × Nat
  | .nilp => Unit
  | .nils => Unit
  | .fzp d => d.T
  | .boolc _ => Unit
  | .clo _ _ => Unit
  | .sl0 _ => Nat

def CS.enc : (s : CS) → s.T → CV
  | .int k, n => .int k n
  | .bool, b => .bool b
  | .str, s => .str s
  | .ints k n, f => .ints k n f
  | .junk n, _ => .junk n
  | .fz d, xs => .fz d xs none
  | .fzn d, x => .fz d x.1 (some x.2)
  | .ptr r base room, _ => .ptr r base none room
  | .ptri r base lim room, i => .ptr r base (some (i, lim)) room
  | .full r, _ => .full r
  | .sl r, x => .sl r x.1 x.2
  | .asl r base lim, x => .asl r base x.1 x.2 lim
  | .nilp, _ => .val (.pointer none)
  | .nils, _ => .val (.slice none 0 0)
  | .fzp d, x => .fzp (encD d x) none d.size
  | .boolc b, _ => .bool b
  | .clo f caps, _ => .clo f caps
  | .sl0 r, n => .sl r 0 n

/-- what frozen cells hold, and the cells behind it -/
def decD : (t : DT) → List CV → Option (t.T × List CV)
  | .int k, cs => (match cs with | .int k' x :: r => bif k == k' then some (x, r) else none | _ => none)
  | .bool, cs => (match cs with | .bool b :: r => some (b, r) | _ => none)
  | .str, cs => (match cs with | .str b :: r => some (b, r) | _ => none)
  | .item, cs => (match cs with
    | .int .u8 x :: .fz d b none :: .fz d' k none :: r => (match asDT (.int .u8) d b, asDT .item d' k with | some b, some k => some (.node x b k, r) | _, _ => none)
    | _ => none)
  | .arr k n, cs => (match cs with | .ints k' n' f :: r => bif k == k' && Nat.beq n n' then some (f, r) else none | _ => none)
  | .sl t, cs => (match cs with | .fz d xs none :: r => (match asDT t d xs with | some ys => some (ys, r) | none => none) | _ => none)
  | .pair a b, cs => (match decD a cs with
    | some (x, r) => (match decD b r with | some (y, r') => some ((x, y), r') | none => none)
    | none => none)
  | .pt t, cs => (match cs with
    | .fzp l none room :: r => bif Nat.beq room t.size then (match decD t l with | some (x, []) => some (x, r) | _ => none) else none
    | _ => none)
  | .unit, cs => some ((), cs)

theorem decD_enc : ∀ {t : DT} {cs r : List CV} {x : t.T}, decD t cs = some (x, r) → cs = encD t x ++ r := by
  intro t
  induction t with
  | int k =>
    intro cs r x h
    simp only [decD] at h
    split at h
    · obtain ⟨h1, h2⟩ := cond_some h; obtain rfl := beqK.1 h1; cases h2; rfl
    · cases h
  | bool =>
    intro cs r x h
    simp only [decD] at h
    split at h
    · cases h; rfl
    · cases h
  | str =>
    intro cs r x h
    simp only [decD] at h
    split at h
    · cases h; rfl
    · cases h
  | item =>
    intro cs r x h
    simp only [decD] at h
    split at h
    · split at h
      · rename_i h1 h2
        obtain ⟨e1, h1⟩ := asDT_spec h1
        obtain ⟨e2, h2⟩ := asDT_spec h2
        subst e1; subst h1; subst e2; subst h2
        cases h; rfl
      · cases h
    · cases h
  | arr k n =>
    intro cs r x h
    simp only [decD] at h
    split at h
    · obtain ⟨h1, h2⟩ := cond_some h
      simp only [Bool.and_eq_true] at h1
      obtain rfl := beqK.1 h1.1
      obtain rfl := nbeq.1 h1.2
      cases h2; rfl
    · cases h
  | sl t ih =>
    intro cs r x h
    simp only [decD] at h
    split at h
    · split at h
      · rename_i ys h1
        obtain ⟨e, h2⟩ := asDT_spec h1
        subst e; subst h2; cases h; rfl
      · cases h
    · cases h
  | pair a b iha ihb =>
    intro cs r x h
    simp only [decD] at h
    split at h
    · rename_i y r1 h1
      split at h
      · rename_i z r2 h2
        cases h
        have e1 := iha h1
        have e2 := ihb h2
        show cs = (encD a y ++ encD b z) ++ r
        rw [List.append_assoc, ← e2, ← e1]
      · cases h
    · cases h
  | pt t ih =>
    intro cs r x h
    simp only [decD] at h
    split at h
    · obtain ⟨h1, h2⟩ := cond_some h
      obtain rfl := nbeq.1 h1
      split at h2
      · rename_i y h3
        cases h2
        have := ih h3
        rw [List.append_nil] at this
        subst this; rfl
      · cases h2
    · cases h
  | unit => intro cs r x h; simp only [decD] at h; cases h; rfl

def isNilP : Value → Bool
  | .pointer none => true
  | _ => false
theorem isNilP_spec {v : Value} (h : isNilP v = true) : v = .pointer none := by
  unfold isNilP at h
  split at h
  · rfl
  · cases h
def one1 : CV → Bool
  | .ints _ _ _ => false
  | .junk _ => false
  | _ => true

def eqNats : List Nat → List Nat → Bool
  | [], [] => true
  | x :: l, y :: r => Nat.beq x y && eqNats l r
  | _, _ => false
theorem eqNats_spec : ∀ {l r : List Nat}, eqNats l r = true → l = r := by
  intro l
  induction l with
  | nil => intro r h; cases r with
    | nil => rfl
    | cons => cases h
  | cons x l ih => intro r h; cases r with
    | nil => cases h
    | cons y r => simp only [eqNats, Bool.and_eq_true] at h; rw [nbeq.1 h.1, ih h.2]

/-- what a cell holds, by its shape (N: regions that are nil yet); and the own regions that are frozen thereby -/
def CS.dec (h : Heap) (ρ : Nat → Nat) (N : Nat → Bool) : (s : CS) → CV → Option (s.T × List Nat)
  | .int k, c => (match c with | .int k' n => bif k == k' then some (n, []) else none | _ => none)
  | .bool, c => (match c with | .bool b => some (b, []) | _ => none)
  | .str, c => (match c with | .str s => some (s, []) | _ => none)
  | .ints k n, c => (match c with | .ints k' n' f => bif k == k' && Nat.beq n n' then some (f, []) else none | _ => none)
  | .junk n, c => (match c with
    | .junk n' => bif Nat.beq n n' then some ((), []) else none
    | c => bif one1 c && Nat.beq n 1 then some ((), []) else none)
  | .fz d, c => frzSl h d c
  | .fzn d, c => (match c with
    | .fz d' xs (some n) => (match asDT d d' xs with | some ys => some ((ys, n), []) | none => none)
    | .sl r o n => bif Nat.beq o 0 then (match h r with
      | some (.row _ k xs) => (match rowAs d k xs with | some ys => some ((ys, n), [r]) | none => none)
      | _ => none) else none
    | _ => none)
  | .ptr r base room, c => (match c with | .ptr r' base' none room' => bif !N r && (Nat.beq (ρ r) r' && (Nat.beq base base' && Nat.beq room room')) then some ((), []) else none | _ => none)
  | .ptri r base lim room, c => (match c with | .ptr r' base' (some (i, lim')) room' => bif !N r && (Nat.beq (ρ r) r' && (Nat.beq base base' && (Nat.beq lim lim' && Nat.beq room room'))) then some (i, []) else none | _ => none)
  | .full r, c => (match c with
    | .full r' => bif !N r && Nat.beq (ρ r) r' then some ((), []) else none
    | .val v => bif N r && isNilS v then some ((), []) else none
    | _ => none)
  | .sl r, c => (match c with
    | .sl r' o n => bif !N r && Nat.beq (ρ r) r' then some ((o, n), []) else none
    | .full r' => bif !N r && Nat.beq (ρ r) r' then (match h r' with | some (.row _ _ xs) => some ((0, xs.length), []) | _ => none) else none
    | _ => none)
  | .asl r base lim, c => (match c with | .asl r' base' o n lim' => bif !N r && (Nat.beq (ρ r) r' && (Nat.beq base base' && Nat.beq lim lim')) then some ((o, n), []) else none | _ => none)
  | .nilp, c => (match c with | .val v => bif isNilP v then some ((), []) else none | _ => none)
  | .nils, c => (match c with | .val v => bif isNilS v then some ((), []) else none | _ => none)
  | .fzp d, c => (match c with
    | .fzp cs none room => bif Nat.beq d.size room then (match decD d cs with | some (x, []) => some (x, []) | _ => none) else none
    | .ptr r base none room => bif Nat.beq base 0 && Nat.beq d.size room then (match h r with
      | some (.cells segs) => (match frzD h d segs with | some (x, [], gs) => some (x, r :: gs) | _ => none)
      | _ => none) else none
    | _ => none)
  | .boolc b, c => (match c with | .bool b' => bif b == b' then some ((), []) else none | _ => none)
  | .clo f caps, c => (match c with | .clo f' caps' => bif Nat.beq f f' && (caps.all (fun r => !N r) && eqNats (caps.map ρ) caps') then some ((), []) else none | _ => none)
  | .sl0 r, c => (match c with | .sl r' o n => bif !N r && (Nat.beq (ρ r) r' && Nat.beq o 0) then some (n, []) else none | _ => none)

/-! ### Rows of cells -/
abbrev segsT : List CS → Type
  | [] => Unit
  | [c] => c.T
  | c :: d :: r => c.T × segsT (d :: r)

def segsEnc : (ss : List CS) → segsT ss → List CV
  | [], _ => []
  | [c], x => [c.enc x]
  | c :: d :: r, x => c.enc x.1 :: segsEnc (d :: r) x.2

def segsDec (h : Heap) (ρ : Nat → Nat) (N : Nat → Bool) : (ss : List CS) → List CV → Option (segsT ss × List Nat)
  | [], [] => some ((), [])
  | [c], [x] => c.dec h ρ N x
  | c :: d :: r, x :: xs => (match c.dec h ρ N x with
    | some (y, gs) => (match segsDec h ρ N (d :: r) xs with | some (ys, gs') => some ((y, ys), gs ++ gs') | none => none)
    | none => none)
  | _, _ => none

/-! ### Values, regions -/
inductive AS where
  | c (s : CS)
  | agg (ss : List CS)
  | dat (d : DT)

abbrev AS.T : AS → Type
  | .c s => s.T
  | .agg ss => segsT ss
  | .dat d => d.T
def AS.enc : (s : AS) → s.T → AV
  | .c s, x => .c (s.enc x)
  | .agg ss, x => .agg (segsEnc ss x)
  | .dat d, x => .agg (encD d x)
def AS.dec (h : Heap) (ρ : Nat → Nat) (N : Nat → Bool) : (s : AS) → AV → Option (s.T × List Nat)
  | .c s, a => (match a with | .c x => s.dec h ρ N x | _ => none)
  | .agg ss, a => (match a with | .agg xs => segsDec h ρ N ss xs | _ => none)
  | .dat d, a => (match a with | .agg xs => (match frzD h d xs with | some (x, [], gs) => some (x, gs) | _ => none) | _ => none)

inductive RS where
  | cells (ss : List CS)
  | row (e : Nat) (k : IntKind)
  | rowd (e : Nat) (d : DT)
  | imap

abbrev RS.T : RS → Type
  | .cells ss => segsT ss
  | .row _ _ => List Int
  | .rowd _ d => List d.T
  | .imap => List (Int × Int)
def RS.enc : (s : RS) → s.T → Reg
  | .cells ss, x => .cells (segsEnc ss x)
  | .row e k, xs => .row e k xs
  | .rowd e d, xs => .rowd e d xs
  | .imap, xs => .imap xs
def RS.dec (h : Heap) (ρ : Nat → Nat) (N : Nat → Bool) : (s : RS) → Reg → Option (s.T × List Nat)
  | .cells ss, g => (match g with | .cells xs => segsDec h ρ N ss xs | _ => none)
  | .row e k, g => (match g with | .row e' k' xs => bif Nat.beq e e' && k == k' then some (xs, []) else none | _ => none)
  | .rowd e d, g => (match g with | .rowd e' d' xs => bif Nat.beq e e' then (match asDT d d' xs with | some ys => some (ys, []) | none => none) else none | _ => none)
  | .imap, g => (match g with | .imap xs => some (xs, []) | _ => none)
/-- of a row that is nil yet -/
def RS.nil : (s : RS) → Option s.T
  | .cells _ => none
  | .row _ _ => some []
  | .rowd _ _ => some []
  | .imap => none

/-! ### States -/
inductive VS where
  | env (t : Nat) (s : AS)
  | reg (r : Nat) (s : RS)
abbrev VS.T : VS → Type
  | .env _ s => s.T
  | .reg _ s => s.T
def VS.dec (ρ : Nat → Nat) (N : Nat → Bool) (st : St) : (v : VS) → Option (v.T × List Nat)
  | .env t s => (match st.env t with | some a => s.dec st.heap ρ N a | none => none)
  | .reg r s => bif N r then (match s.nil with | some x => some (x, []) | none => none) else (match st.heap (ρ r) with | some g => s.dec st.heap ρ N g | none => none)

abbrev varsT : List VS → Type
  | [] => Unit
  | [v] => v.T
  | v :: w :: r => v.T × varsT (w :: r)

def varsDec (ρ : Nat → Nat) (N : Nat → Bool) (st : St) : (vs : List VS) → Option (varsT vs × List Nat)
  | [] => some ((), [])
  | [v] => v.dec ρ N st
  | v :: w :: r => (match v.dec ρ N st with
    | some (x, gs) => (match varsDec ρ N st (w :: r) with | some (y, gs') => some ((x, y), gs ++ gs') | none => none)
    | none => none)

def ofL {α : Type u} : List (Nat × α) → Nat → Option α
  | [], _ => none
  | (k, x) :: r, n => bif Nat.beq k n then some x else ofL r n

def VS.envs : (v : VS) → v.T → List (Nat × AV) → List (Nat × AV)
  | .env t s, x, l => (t, s.enc x) :: l
  | .reg _ _, _, l => l
def VS.regs : (v : VS) → v.T → List (Nat × Reg) → List (Nat × Reg)
  | .env _ _, _, l => l
  | .reg r s, x, l => (r, s.enc x) :: l

def varsEnvs : (vs : List VS) → varsT vs → List (Nat × AV)
  | [], _ => []
  | [v], x => v.envs x []
  | v :: w :: r, x => v.envs x.1 (varsEnvs (w :: r) x.2)
def varsRegs : (vs : List VS) → varsT vs → List (Nat × Reg)
  | [], _ => []
  | [v], x => v.regs x []
  | v :: w :: r, x => v.regs x.1 (varsRegs (w :: r) x.2)

/-- where a pointer to a region is found -/
inductive Src where
  | env (t i : Nat)
  | reg (q i : Nat)

/-- what is always the same (pointers to own regions), and what varies -/
structure Lay where
  fix : List (Nat × CS)
  vars : List VS
  /-- where the state may call a region by another name: the region, and where a pointer to it is found -/
  roots : List (Nat × Src)

abbrev Lay.T (l : Lay) : Type := varsT l.vars

def CS.unit : (s : CS) → Option s.T
  | .ptr _ _ _ => some ()
  | .full _ => some ()
  | .nilp => some ()
  | .nils => some ()
  | .junk _ => some ()
  | .clo _ _ => some ()
  | _ => none

def fixEnvs : List (Nat × CS) → List (Nat × AV)
  | [] => []
  | (t, s) :: r => match s.unit with
    | some x => (t, .c (s.enc x)) :: fixEnvs r
    | none => fixEnvs r

def fixDec (ρ : Nat → Nat) (N : Nat → Bool) (st : St) : List (Nat × CS) → Bool
  | [] => true
  | (t, s) :: r => match st.env t with
    | some (.c x) => (match s.dec st.heap ρ N x with | some _ => fixDec ρ N st r | none => false)
    | _ => false

def Lay.enc (l : Lay) (x : l.T) : St := { env := ofL (fixEnvs l.fix ++ varsEnvs l.vars x), heap := ofL (varsRegs l.vars x) }

def nameIn : List (Nat × Option Nat) → Nat → Option (Option Nat)
  | [], _ => none
  | (k, x) :: r, n => bif Nat.beq k n then some x else nameIn r n
def rhoOf (l : List (Nat × Option Nat)) (q : Nat) : Nat := match nameIn l q with | some (some r) => r | _ => q
def nilOf (l : List (Nat × Option Nat)) (q : Nat) : Bool := match nameIn l q with | some none => true | _ => false

def srcCV (st : St) (ρ : Nat → Nat) : Src → Option CV
  | .env t i => (match st.env t with | some (.c x) => some x | some (.agg xs) => xs[i]? | _ => none)
  | .reg q i => (match st.heap (ρ q) with | some (.cells xs) => xs[i]? | _ => none)

def nameStep (st : St) (q : Nat) (s : Src) (acc : List (Nat × Option Nat)) : List (Nat × Option Nat) :=
  match srcCV st (rhoOf acc) s with
    | some (.full r) => (q, some r) :: acc
    | some (.ptr r _ _ _) => (q, some r) :: acc
    | some (.sl r _ _) => (q, some r) :: acc
    | some (.asl r _ _ _ _) => (q, some r) :: acc
    | some (.val v) => bif isNilS v then (q, none) :: acc else acc
    | _ => acc

/-- the names that the state has for the layout's regions -/
def namesOf (st : St) : List (Nat × Src) → List (Nat × Option Nat) → List (Nat × Option Nat)
  | [], acc => acc
  | (q, s) :: l, acc => namesOf st l (nameStep st q s acc)

/-- the regions that are looked at for that -/
def touchOf (st : St) : List (Nat × Src) → List (Nat × Option Nat) → List Nat
  | [], _ => []
  | (q, s) :: l, acc => (match s with | .reg q' _ => [rhoOf acc q'] | _ => []) ++ touchOf st l (nameStep st q s acc)

def keysOf : List VS → List Nat
  | [] => []
  | .env _ _ :: r => keysOf r
  | .reg q _ :: r => q :: keysOf r

def memN : Nat → List Nat → Bool
  | _, [] => false
  | n, x :: l => Nat.beq n x || memN n l
def distinct : List Nat → Bool
  | [] => true
  | x :: l => !memN x l && distinct l

/-- regions by their names; those that were handed in keep them -/
def keysOk (ρ : Nat → Nat) (N : Nat → Bool) (ks : List Nat) : Bool :=
  distinct ((ks.filter fun q => !N q).map ρ) && ks.all fun q => Nat.blt q hidN
def keysKept (ρ : Nat → Nat) (N : Nat → Bool) (ks : List Nat) : Bool :=
  ks.all fun q => Nat.blt q ioN || (Nat.beq (ρ q) q && !N q)

def Lay.decN (l : Lay) (st : St) (ρ : Nat → Nat) (N : Nat → Bool) : Option (l.T × List Nat) :=
  bif keysOk ρ N (keysOf l.vars) && fixDec ρ N st l.fix then (match varsDec ρ N st l.vars with
    | some (x, gs) => bif gs.all (fun r => !memN r (((keysOf l.vars).filter fun q => !N q).map ρ)) then some (x, gs) else none
    | none => none) else none

def Lay.dec (l : Lay) (st : St) : Option l.T :=
  let acc := namesOf st l.roots []
  bif keysKept (rhoOf acc) (nilOf acc) (keysOf l.vars) then (match l.decN st (rhoOf acc) (nilOf acc) with
  | some (x, _) => some x
  | none => none) else none

theorem ofL_mem {α : Type u} : ∀ {l : List (Nat × α)} {n : Nat} {x : α}, ofL l n = some x → (n, x) ∈ l := by
  intro l
  induction l with
  | nil => intro n x h; cases h
  | cons p l ih =>
    obtain ⟨k, y⟩ := p
    intro n x h
    simp only [ofL] at h
    cases hb : Nat.beq k n <;> rw [hb] at h
    · exact List.mem_cons_of_mem _ (ih h)
    · obtain rfl := nbeq.1 hb
      cases h
      simp

theorem memN_iff {n : Nat} : ∀ {l : List Nat}, memN n l = true ↔ n ∈ l := by
  intro l
  induction l with
  | nil => simp [memN]
  | cons x l ih =>
    simp only [memN, Bool.or_eq_true, ih, List.mem_cons]
    exact ⟨fun h => h.imp (fun h => Nat.eq_of_beq_eq_true h) id, fun h => h.imp (fun h => by rw [h]; exact Nat.beq_refl x) id⟩

theorem distinct_map {ρ : Nat → Nat} : ∀ {l : List Nat}, distinct (l.map ρ) = true → ∀ r r', r ∈ l → r' ∈ l → ρ r = ρ r' → r = r' := by
  intro l
  induction l with
  | nil => intro _ r r' h; simp at h
  | cons x l ih =>
    intro h r r' hr hr' e
    simp only [List.map_cons, distinct, Bool.and_eq_true, Bool.not_eq_true', ← Bool.not_eq_true, memN_iff, List.mem_map, not_exists, not_and] at h
    rcases List.mem_cons.1 hr with h5 | h5 <;> rcases List.mem_cons.1 hr' with h6 | h6
    · rw [h5, h6]
    · subst h5; exact absurd e.symm (h.1 r' h6)
    · subst h6; exact absurd e (h.1 r h5)
    · exact ih h.2 r r' h5 h6 e

theorem ofL_key {α : Type u} : ∀ {l : List (Nat × α)} {n : Nat} {x : α}, (n, x) ∈ l → ∃ y, ofL l n = some y := by
  intro l
  induction l with
  | nil => intro n x h; simp at h
  | cons p l ih =>
    obtain ⟨k, y⟩ := p
    intro n x h
    simp only [ofL]
    cases hb : Nat.beq k n
    · rcases List.mem_cons.1 h with e | h
      · cases e; rw [Nat.beq_refl] at hb; cases hb
      · exact ih h
    · exact ⟨y, rfl⟩

theorem keysOf_reg : ∀ {l : List VS} {x : varsT l} {r : Nat}, r ∈ keysOf l → ∃ g, (r, g) ∈ varsRegs l x := by
  have one : ∀ {v : VS} {x : v.T} {l : List VS} {lr : List (Nat × Reg)} {r : Nat}, (r ∈ keysOf l → ∃ g, (r, g) ∈ lr) → r ∈ keysOf (v :: l) → ∃ g, (r, g) ∈ v.regs x lr := by
    intro v x l lr r h hr
    cases v with
    | env t s => exact h hr
    | reg q s =>
      simp only [keysOf, List.mem_cons] at hr
      simp only [VS.regs, List.mem_cons]
      rcases hr with rfl | hr
      · exact ⟨_, .inl rfl⟩
      · obtain ⟨g, hg⟩ := h hr; exact ⟨g, .inr hg⟩
  intro l
  induction l with
  | nil => intro x r h; simp [keysOf] at h
  | cons v r ih =>
    intro x q hq
    cases r with
    | nil => exact one (l := []) (fun h => by simp [keysOf] at h) hq
    | cons w r => exact one (l := w :: r) (fun h => ih h) hq
theorem reg_keysOf : ∀ {l : List VS} {x : varsT l} {r : Nat} {g : Reg}, (r, g) ∈ varsRegs l x → r ∈ keysOf l := by
  have one : ∀ {v : VS} {x : v.T} {l : List VS} {lr : List (Nat × Reg)} {r : Nat} {g : Reg}, ((r, g) ∈ lr → r ∈ keysOf l) → (r, g) ∈ v.regs x lr → r ∈ keysOf (v :: l) := by
    intro v x l lr r g h hr
    cases v with
    | env t s => exact h hr
    | reg q s =>
      simp only [VS.regs, List.mem_cons] at hr
      simp only [keysOf, List.mem_cons]
      rcases hr with e | hr
      · cases e; exact .inl rfl
      · exact .inr (h hr)
  intro l
  induction l with
  | nil => intro x r g h; simp [varsRegs] at h
  | cons v r ih =>
    intro x q g hq
    cases r with
    | nil => exact one (l := []) (fun h => by simp at h) hq
    | cons w r => exact one (l := w :: r) (fun h => ih h) hq
end Go.Abs
