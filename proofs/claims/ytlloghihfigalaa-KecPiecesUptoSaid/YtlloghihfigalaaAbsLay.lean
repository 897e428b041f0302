/- Layouts: what the interpreter's state holds at a loop's head or a function's end, told as one value of a product type; there and back. -/
import Derived.Test.YtlloghihfigalaaAbsExec
set_option linter.unusedVariables false
set_option linter.unusedSimpArgs false
namespace Go.Abs
universe u
open Go.RowKit

deriving instance DecidableEq for DT

/-! ### Other names for regions -/
def renCV (ρ : Nat → Nat) : CV → CV
  | .ptr r base o room => .ptr (ρ r) base o room
  | .full r => .full (ρ r)
  | .sl r o n => .sl (ρ r) o n
  | .asl r base lo n lim => .asl (ρ r) base lo n lim
  | c => c
def renAV (ρ : Nat → Nat) : AV → AV
  | .c x => .c (renCV ρ x)
  | .agg xs => .agg (xs.map (renCV ρ))
  | .tup l => .tup l
def renReg (ρ : Nat → Nat) : Reg → Reg
  | .cells segs => .cells (segs.map (renCV ρ))
  | g => g

/-- shapes of cells -/
inductive CS where
  | int (k : IntKind)
  | bool
  | str
  | ints (k : IntKind) (n : Nat)
  | junk (n : Nat)
  | fz (d : DT)
  | fzn (d : DT)
  | ptr (r base room : Nat)
  | ptri (r base lim room : Nat)
  | full (r : Nat)
  | sl (r : Nat)
  | asl (r base lim : Nat)
  | nilp
  | nils
  | fzp (d : DT)
  | boolc (b : Bool)

abbrev CS.T : CS → Type
  | .int _ => Int
  | .bool => Bool
  | .str => ByteArray
  | .ints _ _ => Nat → Int
  | .junk _ => Unit
  | .fz d => List d.T
  | .fzn d => List d.T × Nat
  | .ptr _ _ _ => Unit
  | .ptri _ _ _ _ => Nat
  | .full _ => Unit
  | .sl _ => Nat × Nat
  | .asl _ _ _ => Nat × Nat
  | .nilp => Unit
  | .nils => Unit
  | .fzp d => d.T
  | .boolc _ => Unit

def CS.enc : (s : CS) → s.T → CV
  | .int k, n => .int k n
  | .bool, b => .bool b
  | .str, s => .str s
  | .ints k n, f => .ints k n f
  | .junk n, _ => .junk n
  | .fz d, xs => .fz d xs none
  | .fzn d, x => .fz d x.1 (some x.2)
  | .ptr r base room, _ => .ptr r base none room
  | .ptri r base lim room, i => .ptr r base (some (i, lim)) room
  | .full r, _ => .full r
  | .sl r, x => .sl r x.1 x.2
  | .asl r base lim, x => .asl r base x.1 x.2 lim
  | .nilp, _ => .val (.pointer none)
  | .nils, _ => .val (.slice none 0 0)
  | .fzp d, x => .fzp (encD d x) none d.size
  | .boolc b, _ => .bool b

def asDT (d d' : DT) (xs : List d'.T) : Option (List d.T) := if h : d' = d then some (h ▸ xs) else none
theorem asDT_spec {d d' : DT} {xs : List d'.T} {ys : List d.T} (h : asDT d d' xs = some ys) : ∃ e : d' = d, e ▸ xs = ys := by
  unfold asDT at h
  split at h
  · rename_i e; exact ⟨e, by simpa using h⟩
  · cases h

/-- what frozen cells hold, and the cells behind it -/
def decD : (t : DT) → List CV → Option (t.T × List CV)
  | .int k, cs => (match cs with | .int k' x :: r => bif k == k' then some (x, r) else none | _ => none)
  | .bool, cs => (match cs with | .bool b :: r => some (b, r) | _ => none)
  | .arr k n, cs => (match cs with | .ints k' n' f :: r => bif k == k' && Nat.beq n n' then some (f, r) else none | _ => none)
  | .sl t, cs => (match cs with | .fz d xs none :: r => (match asDT t d xs with | some ys => some (ys, r) | none => none) | _ => none)
  | .pair a b, cs => (match decD a cs with
    | some (x, r) => (match decD b r with | some (y, r') => some ((x, y), r') | none => none)
    | none => none)
  | .pt t, cs => (match cs with
    | .fzp l none room :: r => bif Nat.beq room t.size then (match decD t l with | some (x, []) => some (x, r) | _ => none) else none
    | _ => none)
  | .unit, cs => some ((), cs)

theorem decD_enc : ∀ {t : DT} {cs r : List CV} {x : t.T}, decD t cs = some (x, r) → cs = encD t x ++ r := by
  intro t
  induction t with
  | int k =>
    intro cs r x h
    simp only [decD] at h
    split at h
    · obtain ⟨h1, h2⟩ := cond_some h; obtain rfl := beqK.1 h1; cases h2; rfl
    · cases h
  | bool =>
    intro cs r x h
    simp only [decD] at h
    split at h
    · cases h; rfl
    · cases h
  | arr k n =>
    intro cs r x h
    simp only [decD] at h
    split at h
    · obtain ⟨h1, h2⟩ := cond_some h
      simp only [Bool.and_eq_true] at h1
      obtain rfl := beqK.1 h1.1
      obtain rfl := nbeq.1 h1.2
      cases h2; rfl
    · cases h
  | sl t ih =>
    intro cs r x h
    simp only [decD] at h
    split at h
    · split at h
      · rename_i ys h1
        obtain ⟨e, h2⟩ := asDT_spec h1
        subst e; subst h2; cases h; rfl
      · cases h
    · cases h
  | pair a b iha ihb =>
    intro cs r x h
    simp only [decD] at h
    split at h
    · rename_i y r1 h1
      split at h
      · rename_i z r2 h2
        cases h
        have e1 := iha h1
        have e2 := ihb h2
        show cs = (encD a y ++ encD b z) ++ r
        rw [List.append_assoc, ← e2, ← e1]
      · cases h
    · cases h
  | pt t ih =>
    intro cs r x h
    simp only [decD] at h
    split at h
    · obtain ⟨h1, h2⟩ := cond_some h
      obtain rfl := nbeq.1 h1
      split at h2
      · rename_i y h3
        cases h2
        have := ih h3
        rw [List.append_nil] at this
        subst this; rfl
      · cases h2
    · cases h
  | unit => intro cs r x h; simp only [decD] at h; cases h; rfl

def isNilP : Value → Bool
  | .pointer none => true
  | _ => false
def isNilS : Value → Bool
  | .slice none n c => Nat.beq n 0 && Nat.beq c 0
  | _ => false
theorem isNilP_spec {v : Value} (h : isNilP v = true) : v = .pointer none := by
  unfold isNilP at h
  split at h
  · rfl
  · cases h
theorem isNilS_spec {v : Value} (h : isNilS v = true) : v = .slice none 0 0 := by
  unfold isNilS at h
  split at h
  · simp only [Bool.and_eq_true, nbeq] at h
    obtain ⟨rfl, rfl⟩ := h
    rfl
  · cases h

def CS.dec (ρ : Nat → Nat) : (s : CS) → CV → Option s.T
  | .int k, .int k' n => bif k == k' then some n else none
  | .bool, .bool b => some b
  | .str, .str s => some s
  | .ints k n, .ints k' n' f => bif k == k' && Nat.beq n n' then some f else none
  | .junk n, .junk n' => bif Nat.beq n n' then some () else none
  | .fz d, .fz d' xs none => asDT d d' xs
  | .fzn d, .fz d' xs (some n) => (match asDT d d' xs with | some ys => some (ys, n) | none => none)
  | .ptr r base room, .ptr r' base' none room' => bif Nat.beq (ρ r) r' && (Nat.beq base base' && Nat.beq room room') then some () else none
  | .ptri r base lim room, .ptr r' base' (some (i, lim')) room' => bif Nat.beq (ρ r) r' && (Nat.beq base base' && (Nat.beq lim lim' && Nat.beq room room')) then some i else none
  | .full r, .full r' => bif Nat.beq (ρ r) r' then some () else none
  | .sl r, .sl r' o n => bif Nat.beq (ρ r) r' then some (o, n) else none
  | .asl r base lim, .asl r' base' o n lim' => bif Nat.beq (ρ r) r' && (Nat.beq base base' && Nat.beq lim lim') then some (o, n) else none
  | .nilp, .val v => bif isNilP v then some () else none
  | .nils, .val v => bif isNilS v then some () else none
  | .fzp d, .fzp cs none room => bif Nat.beq d.size room then (match decD d cs with | some (x, []) => some x | _ => none) else none
  | .boolc b, .bool b' => bif b == b' then some () else none
  | _, _ => none

theorem CS.dec_enc {ρ : Nat → Nat} : ∀ {s : CS} {c : CV} {x : s.T}, s.dec ρ c = some x → renCV ρ (s.enc x) = c := by
  intro s c x h
  cases s <;> cases c <;> (first | (simp only [CS.dec] at h; done) | skip) <;> (try (cases h; done))
  case int.int k k' n => simp only [CS.dec] at h; obtain ⟨h1, h2⟩ := cond_some h; obtain rfl := beqK.1 h1; cases h2; rfl
  case bool.bool => cases h; rfl
  case str.str => cases h; rfl
  case ints.ints k n k' n' f =>
    simp only [CS.dec] at h
    obtain ⟨h1, h2⟩ := cond_some h
    simp only [Bool.and_eq_true] at h1
    obtain rfl := beqK.1 h1.1
    obtain rfl := nbeq.1 h1.2
    cases h2; rfl
  case junk.junk n n' => simp only [CS.dec] at h; obtain ⟨h1, h2⟩ := cond_some h; obtain rfl := nbeq.1 h1; rfl
  case fz.fz d d' xs n =>
    cases n with
    | some n => cases h
    | none => simp only [CS.dec] at h; obtain ⟨e, h2⟩ := asDT_spec h; subst e; subst h2; rfl
  case fzn.fz d d' xs n =>
    cases n with
    | none => cases h
    | some n =>
      simp only [CS.dec] at h
      split at h
      · rename_i ys h1
        obtain ⟨e, h2⟩ := asDT_spec h1
        subst e; subst h2; cases h; rfl
      · cases h
  case ptr.ptr r base room r' base' o room' =>
    cases o with
    | some p => cases h
    | none =>
      simp only [CS.dec] at h
      obtain ⟨h1, h2⟩ := cond_some h
      simp only [Bool.and_eq_true, nbeq] at h1
      obtain ⟨rfl, rfl, rfl⟩ := h1
      rfl
  case ptri.ptr r base lim room r' base' o room' =>
    cases o with
    | none => cases h
    | some p =>
      obtain ⟨i, lim'⟩ := p
      simp only [CS.dec] at h
      obtain ⟨h1, h2⟩ := cond_some h
      simp only [Bool.and_eq_true, nbeq] at h1
      obtain ⟨rfl, rfl, rfl, rfl⟩ := h1
      cases h2; rfl
  case full.full r r' => simp only [CS.dec] at h; obtain ⟨h1, h2⟩ := cond_some h; obtain rfl := nbeq.1 h1; rfl
  case sl.sl r r' o n => simp only [CS.dec] at h; obtain ⟨h1, h2⟩ := cond_some h; obtain rfl := nbeq.1 h1; cases h2; rfl
  case asl.asl r base lim r' base' o n lim' =>
    simp only [CS.dec] at h
    obtain ⟨h1, h2⟩ := cond_some h
    simp only [Bool.and_eq_true, nbeq] at h1
    obtain ⟨rfl, rfl, rfl⟩ := h1
    cases h2; rfl
  case nilp.val v => simp only [CS.dec] at h; obtain ⟨h1, h2⟩ := cond_some h; rw [isNilP_spec h1]; rfl
  case nils.val v => simp only [CS.dec] at h; obtain ⟨h1, h2⟩ := cond_some h; rw [isNilS_spec h1]; rfl
  case boolc.bool b b' =>
    simp only [CS.dec] at h
    obtain ⟨h1, h2⟩ := cond_some h
    have : b = b' := by simpa using h1
    subst this; rfl
  case fzp.fzp d cs o room =>
    cases o with
    | some p => cases h
    | none =>
      simp only [CS.dec] at h
      obtain ⟨h1, h2⟩ := cond_some h
      obtain rfl := nbeq.1 h1
      split at h2
      · rename_i y h3
        cases h2
        have := decD_enc h3
        rw [List.append_nil] at this
        subst this; rfl
      · cases h2

/-! ### Rows of cells -/
abbrev segsT : List CS → Type
  | [] => Unit
  | [c] => c.T
  | c :: d :: r => c.T × segsT (d :: r)

def segsEnc : (ss : List CS) → segsT ss → List CV
  | [], _ => []
  | [c], x => [c.enc x]
  | c :: d :: r, x => c.enc x.1 :: segsEnc (d :: r) x.2

def segsDec (ρ : Nat → Nat) : (ss : List CS) → List CV → Option (segsT ss)
  | [], [] => some ()
  | [c], [x] => c.dec ρ x
  | c :: d :: r, x :: xs => (match c.dec ρ x with
    | some y => (match segsDec ρ (d :: r) xs with | some ys => some (y, ys) | none => none)
    | none => none)
  | _, _ => none

theorem segsDec_enc {ρ : Nat → Nat} : ∀ {ss : List CS} {cs : List CV} {x : segsT ss}, segsDec ρ ss cs = some x → (segsEnc ss x).map (renCV ρ) = cs := by
  intro ss
  induction ss with
  | nil => intro cs x h; cases cs with
    | nil => rfl
    | cons => cases h
  | cons c r ih =>
    intro cs x h
    cases r with
    | nil =>
      cases cs with
      | nil => cases h
      | cons y ys =>
        cases ys with
        | nil => simp only [segsDec] at h; simp only [segsEnc, List.map_cons, List.map_nil]; rw [CS.dec_enc h]
        | cons => cases h
    | cons d r =>
      cases cs with
      | nil => cases h
      | cons y ys =>
        simp only [segsDec] at h
        cases h1 : c.dec ρ y with
        | none => rw [h1] at h; cases h
        | some z =>
          cases h2 : segsDec ρ (d :: r) ys with
          | none => rw [h1, h2] at h; cases h
          | some zs =>
            rw [h1, h2] at h
            cases h
            simp only [segsEnc, List.map_cons]
            rw [CS.dec_enc h1, ih h2]

/-! ### Values, regions -/
inductive AS where
  | c (s : CS)
  | agg (ss : List CS)

abbrev AS.T : AS → Type
  | .c s => s.T
  | .agg ss => segsT ss
def AS.enc : (s : AS) → s.T → AV
  | .c s, x => .c (s.enc x)
  | .agg ss, x => .agg (segsEnc ss x)
def AS.dec (ρ : Nat → Nat) : (s : AS) → AV → Option s.T
  | .c s, .c x => s.dec ρ x
  | .agg ss, .agg xs => segsDec ρ ss xs
  | _, _ => none
theorem AS.dec_enc {ρ : Nat → Nat} {s : AS} {a : AV} {x : s.T} (h : s.dec ρ a = some x) : renAV ρ (s.enc x) = a := by
  cases s <;> cases a <;> simp only [AS.dec] at h <;> try (cases h; done)
  · simp only [AS.enc, renAV]; rw [CS.dec_enc h]
  · simp only [AS.enc, renAV]; rw [segsDec_enc h]

inductive RS where
  | cells (ss : List CS)
  | row (e : Nat) (k : IntKind)

abbrev RS.T : RS → Type
  | .cells ss => segsT ss
  | .row _ _ => List Int
def RS.enc : (s : RS) → s.T → Reg
  | .cells ss, x => .cells (segsEnc ss x)
  | .row e k, xs => .row e k xs
def RS.dec (ρ : Nat → Nat) : (s : RS) → Reg → Option s.T
  | .cells ss, .cells xs => segsDec ρ ss xs
  | .row e k, .row e' k' xs => bif Nat.beq e e' && k == k' then some xs else none
  | _, _ => none
theorem RS.dec_enc {ρ : Nat → Nat} {s : RS} {a : Reg} {x : s.T} (h : s.dec ρ a = some x) : renReg ρ (s.enc x) = a := by
  cases s <;> cases a <;> simp only [RS.dec] at h <;> try (cases h; done)
  · simp only [RS.enc, renReg]; rw [segsDec_enc h]
  · obtain ⟨h1, h2⟩ := cond_some h
    simp only [Bool.and_eq_true] at h1
    obtain rfl := nbeq.1 h1.1
    obtain rfl := beqK.1 h1.2
    cases h2; rfl

/-! ### States -/
inductive VS where
  | env (t : Nat) (s : AS)
  | reg (r : Nat) (s : RS)
abbrev VS.T : VS → Type
  | .env _ s => s.T
  | .reg _ s => s.T
def VS.dec (ρ : Nat → Nat) (st : St) : (v : VS) → Option v.T
  | .env t s => (match st.env t with | some a => s.dec ρ a | none => none)
  | .reg r s => (match st.heap (ρ r) with | some g => s.dec ρ g | none => none)

abbrev varsT : List VS → Type
  | [] => Unit
  | [v] => v.T
  | v :: w :: r => v.T × varsT (w :: r)

def varsDec (ρ : Nat → Nat) (st : St) : (vs : List VS) → Option (varsT vs)
  | [] => some ()
  | [v] => v.dec ρ st
  | v :: w :: r => (match v.dec ρ st with
    | some x => (match varsDec ρ st (w :: r) with | some y => some (x, y) | none => none)
    | none => none)

def ofL {α : Type u} : List (Nat × α) → Nat → Option α
  | [], _ => none
  | (k, x) :: r, n => bif Nat.beq k n then some x else ofL r n

def VS.envs : (v : VS) → v.T → List (Nat × AV) → List (Nat × AV)
  | .env t s, x, l => (t, s.enc x) :: l
  | .reg _ _, _, l => l
def VS.regs : (v : VS) → v.T → List (Nat × Reg) → List (Nat × Reg)
  | .env _ _, _, l => l
  | .reg r s, x, l => (r, s.enc x) :: l

def varsEnvs : (vs : List VS) → varsT vs → List (Nat × AV)
  | [], _ => []
  | [v], x => v.envs x []
  | v :: w :: r, x => v.envs x.1 (varsEnvs (w :: r) x.2)
def varsRegs : (vs : List VS) → varsT vs → List (Nat × Reg)
  | [], _ => []
  | [v], x => v.regs x []
  | v :: w :: r, x => v.regs x.1 (varsRegs (w :: r) x.2)

/-- what is always the same (pointers to own regions), and what varies -/
structure Lay where
  fix : List (Nat × CS)
  vars : List VS
  /-- where the state may call a region by another name: the region, and a slot that points to it -/
  roots : List (Nat × Nat)

abbrev Lay.T (l : Lay) : Type := varsT l.vars

def CS.unit : (s : CS) → Option s.T
  | .ptr _ _ _ => some ()
  | .full _ => some ()
  | .nilp => some ()
  | .nils => some ()
  | .junk _ => some ()
  | _ => none

def fixEnvs : List (Nat × CS) → List (Nat × AV)
  | [] => []
  | (t, s) :: r => match s.unit with
    | some x => (t, .c (s.enc x)) :: fixEnvs r
    | none => fixEnvs r

def fixDec (ρ : Nat → Nat) (st : St) : List (Nat × CS) → Bool
  | [] => true
  | (t, s) :: r => match st.env t with
    | some (.c x) => (match s.dec ρ x with | some _ => fixDec ρ st r | none => false)
    | _ => false

def Lay.enc (l : Lay) (x : l.T) : St := { env := ofL (fixEnvs l.fix ++ varsEnvs l.vars x), heap := ofL (varsRegs l.vars x) }

def regNow : Option AV → Nat → Nat
  | some (.c (.full r)), _ => r
  | some (.c (.ptr r _ _ _)), _ => r
  | some (.c (.sl r _ _)), _ => r
  | some (.c (.asl r _ _ _ _)), _ => r
  | _, r => r

/-- the names that the state has for the layout's regions -/
def rho (st : St) : List (Nat × Nat) → Nat → Nat
  | [], r => r
  | (q, t) :: l, r => bif Nat.beq q r then regNow (st.env t) q else rho st l r

def keysOf : List VS → List Nat
  | [] => []
  | .env _ _ :: r => keysOf r
  | .reg q _ :: r => q :: keysOf r

def memN : Nat → List Nat → Bool
  | _, [] => false
  | n, x :: l => Nat.beq n x || memN n l
def distinct : List Nat → Bool
  | [] => true
  | x :: l => !memN x l && distinct l

/-- the region that was handed in stays in sight, by its name -/
def ancB (l : Lay) (st : St) : Bool := match st.heap ioN with
  | none => true
  | some _ => memN ioN (keysOf l.vars) && Nat.beq (rho st l.roots ioN) ioN

def Lay.dec (l : Lay) (st : St) : Option l.T := bif distinct ((keysOf l.vars).map (rho st l.roots)) && ancB l st && fixDec (rho st l.roots) st l.fix then varsDec (rho st l.roots) st l.vars else none

/-- st' tells less than st, and has other names for regions -/
structure Sub (st' st : St) : Prop where
  ex : ∃ ρ : Nat → Nat, (∀ t a, st'.env t = some a → st.env t = some (renAV ρ a)) ∧ (∀ r g, st'.heap r = some g → st.heap (ρ r) = some (renReg ρ g)) ∧
    (∀ r r' g g', st'.heap r = some g → st'.heap r' = some g' → ρ r = ρ r' → r = r') ∧ ∀ g, st.heap ioN = some g → ρ ioN = ioN ∧ ∃ g', st'.heap ioN = some g'

theorem ofL_mem {α : Type u} : ∀ {l : List (Nat × α)} {n : Nat} {x : α}, ofL l n = some x → (n, x) ∈ l := by
  intro l
  induction l with
  | nil => intro n x h; cases h
  | cons p l ih =>
    obtain ⟨k, y⟩ := p
    intro n x h
    simp only [ofL] at h
    cases hb : Nat.beq k n <;> rw [hb] at h
    · exact List.mem_cons_of_mem _ (ih h)
    · obtain rfl := nbeq.1 hb
      cases h
      simp

theorem fixDec_mem {ρ : Nat → Nat} {st : St} : ∀ {l : List (Nat × CS)}, fixDec ρ st l = true → ∀ t a, (t, a) ∈ fixEnvs l → st.env t = some (renAV ρ a) := by
  intro l
  induction l with
  | nil => intro _ t a h; simp [fixEnvs] at h
  | cons p l ih =>
    obtain ⟨t, s⟩ := p
    intro h u a hm
    simp only [fixDec] at h
    split at h
    · rename_i x hx
      split at h
      · rename_i y hy
        simp only [fixEnvs] at hm
        split at hm
        · rename_i z hz
          rcases List.mem_cons.1 hm with e | hm
          · cases e
            rw [hx]
            have : y = z := by
              cases s <;> first | (cases hz; done) | (cases y; cases z; rfl)
            rw [← this, renAV, CS.dec_enc hy]
          · exact ih h u a hm
        · exact ih h u a hm
      · cases h
    · cases h

theorem varsDec_mem {ρ : Nat → Nat} {st : St} : ∀ {l : List VS} {x : varsT l}, varsDec ρ st l = some x → (∀ t a, (t, a) ∈ varsEnvs l x → st.env t = some (renAV ρ a)) ∧ (∀ r g, (r, g) ∈ varsRegs l x → r ∈ keysOf l ∧ st.heap (ρ r) = some (renReg ρ g)) := by
  have one : ∀ {v : VS} {x : v.T} {le : List (Nat × AV)} {lr : List (Nat × Reg)} {l : List VS}, v.dec ρ st = some x → (∀ t a, (t, a) ∈ le → st.env t = some (renAV ρ a)) → (∀ r g, (r, g) ∈ lr → r ∈ keysOf l ∧ st.heap (ρ r) = some (renReg ρ g)) →
      (∀ t a, (t, a) ∈ v.envs x le → st.env t = some (renAV ρ a)) ∧ (∀ r g, (r, g) ∈ v.regs x lr → r ∈ keysOf (v :: l) ∧ st.heap (ρ r) = some (renReg ρ g)) := by
    intro v x le lr l h h1 h2
    cases v with
    | env t s =>
      simp only [VS.dec] at h
      split at h
      · rename_i a ha
        refine ⟨fun u b hm => ?_, h2⟩
        simp only [VS.envs, List.mem_cons] at hm
        rcases hm with e | hm
        · cases e; rw [ha, AS.dec_enc h]
        · exact h1 u b hm
      · cases h
    | reg t s =>
      simp only [VS.dec] at h
      split at h
      · rename_i a ha
        refine ⟨h1, fun u b hm => ?_⟩
        simp only [VS.regs, List.mem_cons] at hm
        simp only [keysOf, List.mem_cons]
        rcases hm with e | hm
        · cases e; exact ⟨.inl rfl, by rw [ha, RS.dec_enc h]⟩
        · exact ⟨.inr (h2 u b hm).1, (h2 u b hm).2⟩
      · cases h
  intro l
  induction l with
  | nil => intro x _; exact ⟨fun t a h => by simp [varsEnvs] at h, fun t a h => by simp [varsRegs] at h⟩
  | cons v r ih =>
    intro x h
    cases r with
    | nil => exact one h (by simp) (by simp)
    | cons w r =>
      simp only [varsDec] at h
      split at h
      · rename_i y hy
        split at h
        · rename_i z hz
          cases h
          obtain ⟨h1, h2⟩ := ih hz
          exact one hy h1 h2
        · cases h
      · cases h

theorem memN_iff {n : Nat} : ∀ {l : List Nat}, memN n l = true ↔ n ∈ l := by
  intro l
  induction l with
  | nil => simp [memN]
  | cons x l ih =>
    simp only [memN, Bool.or_eq_true, ih, List.mem_cons]
    exact ⟨fun h => h.imp (fun h => Nat.eq_of_beq_eq_true h) id, fun h => h.imp (fun h => by rw [h]; exact Nat.beq_refl x) id⟩

theorem distinct_map {ρ : Nat → Nat} : ∀ {l : List Nat}, distinct (l.map ρ) = true → ∀ r r', r ∈ l → r' ∈ l → ρ r = ρ r' → r = r' := by
  intro l
  induction l with
  | nil => intro _ r r' h; simp at h
  | cons x l ih =>
    intro h r r' hr hr' e
    simp only [List.map_cons, distinct, Bool.and_eq_true, Bool.not_eq_true', ← Bool.not_eq_true, memN_iff, List.mem_map, not_exists, not_and] at h
    rcases List.mem_cons.1 hr with h5 | h5 <;> rcases List.mem_cons.1 hr' with h6 | h6
    · rw [h5, h6]
    · subst h5; exact absurd e.symm (h.1 r' h6)
    · subst h6; exact absurd e (h.1 r h5)
    · exact ih h.2 r r' h5 h6 e

theorem ofL_key {α : Type u} : ∀ {l : List (Nat × α)} {n : Nat} {x : α}, (n, x) ∈ l → ∃ y, ofL l n = some y := by
  intro l
  induction l with
  | nil => intro n x h; simp at h
  | cons p l ih =>
    obtain ⟨k, y⟩ := p
    intro n x h
    simp only [ofL]
    cases hb : Nat.beq k n
    · rcases List.mem_cons.1 h with e | h
      · cases e; rw [Nat.beq_refl] at hb; cases hb
      · exact ih h
    · exact ⟨y, rfl⟩

theorem keysOf_reg : ∀ {l : List VS} {x : varsT l} {r : Nat}, r ∈ keysOf l → ∃ g, (r, g) ∈ varsRegs l x := by
  have one : ∀ {v : VS} {x : v.T} {l : List VS} {lr : List (Nat × Reg)} {r : Nat}, (r ∈ keysOf l → ∃ g, (r, g) ∈ lr) → r ∈ keysOf (v :: l) → ∃ g, (r, g) ∈ v.regs x lr := by
    intro v x l lr r h hr
    cases v with
    | env t s => exact h hr
    | reg q s =>
      simp only [keysOf, List.mem_cons] at hr
      simp only [VS.regs, List.mem_cons]
      rcases hr with rfl | hr
      · exact ⟨_, .inl rfl⟩
      · obtain ⟨g, hg⟩ := h hr; exact ⟨g, .inr hg⟩
  intro l
  induction l with
  | nil => intro x r h; simp [keysOf] at h
  | cons v r ih =>
    intro x q hq
    cases r with
    | nil => exact one (l := []) (fun h => by simp [keysOf] at h) hq
    | cons w r => exact one (l := w :: r) (fun h => ih h) hq

theorem Lay.dec_sub {l : Lay} {st : St} {x : l.T} (h : l.dec st = some x) : Sub (l.enc x) st := by
  unfold Lay.dec at h
  obtain ⟨h1, h2⟩ := cond_some h
  simp only [Bool.and_eq_true] at h1
  obtain ⟨⟨h1, h0⟩, hfx⟩ := h1
  have h1 := And.intro h1 hfx
  obtain ⟨h3, h4⟩ := varsDec_mem h2
  refine ⟨rho st l.roots, fun t a ha => ?_, fun r g hg => (h4 r g (ofL_mem hg)).2, fun r r' g g' hr hr' e => distinct_map h1.1 r r' (h4 r g (ofL_mem hr)).1 (h4 r' g' (ofL_mem hr')).1 e, fun g hg => ?_⟩
  rotate_left
  · unfold ancB at h0
    rw [hg] at h0
    simp only [Bool.and_eq_true] at h0
    obtain ⟨g', hg'⟩ := keysOf_reg (x := x) (memN_iff.1 h0.1)
    exact ⟨nbeq.1 h0.2, ofL_key hg'⟩
  have hm := ofL_mem ha
  rcases List.mem_append.1 hm with hm | hm
  · exact fixDec_mem h1.2 t a hm
  · exact h3 t a hm
end Go.Abs
