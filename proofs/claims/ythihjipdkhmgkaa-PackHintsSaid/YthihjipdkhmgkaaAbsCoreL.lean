/- The abstract interpreter of the model's code: values, regions by name, one step, a region in text order, the whole code; all of it computes in the kernel. -/
import Derived.Orders
import Derived.Laws.Tables
set_option linter.unusedVariables false
namespace Go.Abs

universe u

def upd {α : Type u} (f : Nat → α) (k : Nat) (v : α) : Nat → α := fun n => bif Nat.beq n k then v else f n

/-- A tree: a tag, bytes, trees. -/
inductive Tree where
  | node (tag : Int) (body : List Int) (kids : List Tree)
def Tree.tag : Tree → Int
  | .node t _ _ => t
def Tree.body : Tree → List Int
  | .node _ b _ => b
def Tree.kids : Tree → List Tree
  | .node _ _ k => k

/-- The kinds of read-only data. -/
inductive DT where
  | int (k : IntKind)
  | bool
  | str
  | item
  | arr (k : IntKind) (n : Nat)
  | sl (t : DT)
  | pair (a b : DT)
  | pt (t : DT)
  | unit

def DT.T : DT → Type
  | .int _ => Int
  | .bool => Bool
  | .str => ByteArray
  | .item => Tree
  | .arr _ _ => Nat → Int
  | .sl t => List t.T
  | .pair a b => a.T × b.T
  | .pt t => t.T
  | .unit => Unit

def DT.dflt : (t : DT) → t.T
  | .int _ => (0 : Int)
  | .bool => false
  | .str => ByteArray.empty
  | .item => .node 0 [] []
  | .arr _ _ => fun _ => (0 : Int)
  | .sl _ => []
  | .pair a b => (a.dflt, b.dflt)
  | .pt t => t.dflt
  | .unit => ()

/-- What a cell holds; 'ints' and 'junk' stand for several cells. -/
inductive CV where
  | int (k : IntKind) (n : Int)
  | bool (b : Bool)
  | str (s : ByteArray)
  | val (v : Value)
  | ptr (r base : Nat) (o : Option (Nat × Nat)) (room : Nat)
  | full (r : Nat)
  | sl (r o n : Nat)
  | asl (r base lo n lim : Nat)
  | fz (t : DT) (xs : List t.T) (n : Option Nat)
  | fzp (cs : List CV) (o : Option (Nat × Nat)) (room : Nat)
  | clo (f : Nat) (caps : List Nat)
  | ints (k : IntKind) (n : Nat) (f : Nat → Int)
  | junk (n : Nat)

def CV.size : CV → Nat
  | .ints _ n _ => n
  | .junk n => n
  | _ => 1

def segSize : List CV → Nat
  | [] => 0
  | c :: r => c.size + segSize r

def DT.size : DT → Nat
  | .int _ => 1
  | .bool => 1
  | .str => 1
  | .item => 3
  | .arr _ n => n
  | .sl _ => 1
  | .pair a b => a.size + b.size
  | .pt _ => 1
  | .unit => 0

def encD : (t : DT) → t.T → List CV
  | .int k, x => [.int k x]
  | .bool, x => [.bool x]
  | .str, x => [.str x]
  | .item, x => [.int .u8 x.tag, .fz (.int .u8) x.body none, .fz .item x.kids none]
  | .arr k n, f => [.ints k n f]
  | .sl t, xs => [.fz t xs none]
  | .pair a b, x => encD a x.1 ++ encD b x.2
  | .pt t, x => [.fzp (encD t x) none t.size]
  | .unit, _ => []

inductive AV where
  | c (x : CV)
  | agg (xs : List CV)
  | tup (xs : List AV)
  /-- a call that panicked: with a value of which type, with which number in it -/
  | pan (t : Nat) (e : Int)

inductive Reg where
  | cells (segs : List CV)
  | row (e : Nat) (k : IntKind) (xs : List Int)
  | rowd (e : Nat) (t : DT) (xs : List t.T)
  /-- a map from int to int -/
  | imap (xs : List (Int × Int))
  | dead

structure St where
  env : Nat → Option AV
  heap : Nat → Option Reg

structure Delta where
  av : AV
  hw : List (Nat × Reg)
  hr : List Nat

def heapPut : (Nat → Option Reg) → List (Nat × Reg) → (Nat → Option Reg)
  | h, [] => h
  | h, (r, g) :: l => heapPut (upd h r (some g)) l

def putEnv (env : Nat → Option AV) (dst : Option Nat) (av : AV) : Nat → Option AV :=
  match dst with
  | some d => upd env d (some av)
  | none => env

def St.app (st : St) (dst : Option Nat) (δ : Delta) : St := { env := putEnv st.env dst δ.av, heap := heapPut st.heap δ.hw }

/-! ### Types -/
inductive TD where
  | int (k : IntKind)
  | bool
  | str
  | ptr
  | slice (e : Nat)
  | array (n e : Nat)
  | struct (fs : List (Nat × Nat))
  | map (k e : Nat)
  | other

structure TI where
  d : TD
  size : Nat
  bytes : Nat
  zero : List CV

abbrev Tab := List (Nat × TI)
def Tab.get : Tab → Nat → Option TI
  | [], _ => none
  | (k, x) :: r, n => bif Nat.beq k n then some x else Tab.get r n

def ofValue : Value → AV
  | .int k n => .c (.int k n)
  | .bool b => .c (.bool b)
  | .string s => .c (.str s)
  | v => .c (.val v)

def opd (st : St) : Operand → Option AV
  | .tmp t => st.env t
  | .const v => some (ofValue v)
  | .func f => some (.c (.clo f []))
  | .global _ => none

def opds (st : St) : List Operand → Option (List AV)
  | [] => some []
  | x :: r => match opd st x, opds st r with
    | some a, some l => some (a :: l)
    | _, _ => none

/-! ### Rows of cells -/
def dropSegs : List CV → Nat → Option (List CV)
  | [], n => bif Nat.beq n 0 then some [] else none
  | c :: cs, n => bif Nat.beq n 0 then some (c :: cs) else bif Nat.ble c.size n then dropSegs cs (n - c.size) else none

def takeSegs : List CV → Nat → Option (List CV)
  | [], n => bif Nat.beq n 0 then some [] else none
  | c :: cs, n => bif Nat.beq n 0 then some [] else
    bif Nat.ble c.size n then (match takeSegs cs (n - c.size) with | some l => some (c :: l) | none => none)
    else match c with
      | .ints k _ f => some [.ints k n f]
      | _ => none

def isAggT : TD → Bool
  | .array _ _ | .struct _ => true
  | _ => false

def offOf (o : Option (Nat × Nat)) : Nat := match o with | some (i, _) => i | none => 0

/-- What is read at the begin of these cells (o: so far into the first of them). -/
def readSegs (ti : TI) (o : Option (Nat × Nat)) : List CV → Option AV
  | segs => match isAggT ti.d with
    | true => match o with
      | none => (match takeSegs segs ti.size with | some l => some (.agg l) | none => none)
      | some (i, lim) => (match segs with
        | .ints k m f :: _ => bif Nat.ble lim m then some (.agg [.ints k ti.size (fun j => f (i + j))]) else none
        | _ => none)
    | false => match segs with
      | .ints k m f :: _ => (match o with
        | none => bif Nat.ble 1 m then some (.c (.int k (f 0))) else none
        | some (i, lim) => bif Nat.ble lim m then some (.c (.int k (f i))) else none)
      | .junk _ :: _ => none
      | c :: _ => (match o with | none => some (.c c) | some _ => none)
      | [] => none

def cellAV : AV → Option (List CV)
  | .c (.val v) => bif v.oneCell' then some [.val v] else none
  | .c x => some [x]
  | .agg xs => some xs
  | _ => none

/-- What is written at the begin of these cells: the cells behind it. -/
def writeSegs (v : AV) (o : Option (Nat × Nat)) (segs : List CV) : Option (List CV) :=
  match v with
  | .c x => (match segs with
    | .ints k m f :: rest => (match x with
      | .int k' n => bif k == k' then (match o with
          | none => bif Nat.ble 1 m then some (.ints k m (upd f 0 n) :: rest) else none
          | some (i, lim) => bif Nat.ble lim m then some (.ints k m (upd f i n) :: rest) else none) else none
      | _ => none)
    | .junk _ :: _ => none
    | _ :: rest => (match o with
      | none => (match cellAV (.c x) with | some l => some (l ++ rest) | none => none)
      | some _ => none)
    | [] => none)
  | .agg xs => (match o with
    | none => (match segs, xs with
      | .ints k m f :: rest, [.ints k' n g] => bif k == k' then (bif Nat.beq n m then some (.ints k m g :: rest) else bif Nat.ble n m then some (.ints k m (fun j => bif Nat.blt j n then g j else f j) :: rest) else none) else none
      | _, _ => (match dropSegs segs (segSize xs) with | some rest => some (xs ++ rest) | none => none))
    | some (i, lim) => (match segs, xs with
      | .ints k m f :: rest, [.ints k' n g] => bif k == k' && Nat.ble lim m then some (.ints k m (fun j => bif Nat.ble i j && Nat.blt j (i + n) then g (j - i) else f j) :: rest) else none
      | _, _ => none))
  | _ => none

def splitSegs : List CV → Nat → Option (List CV × List CV)
  | [], n => bif Nat.beq n 0 then some ([], []) else none
  | c :: cs, n => bif Nat.beq n 0 then some ([], c :: cs) else bif Nat.ble c.size n then (match splitSegs cs (n - c.size) with | some (a, b) => some (c :: a, b) | none => none) else none

def loadAt (ti : TI) (h : Nat → Option Reg) : CV → Option Delta
  | .ptr r base o room => bif Nat.ble ti.size room then (match h r with
    | some (.cells segs) => (match dropSegs segs base with
      | some rest => (match readSegs ti o rest with | some av => some ⟨av, [], [r]⟩ | none => none)
      | none => none)
    | some (.row _ k xs) => bif isAggT ti.d then some ⟨.agg [.ints k ti.size (fun j => xs.getD (offOf o + j) 0)], [], [r]⟩ else some ⟨.c (.int k (xs.getD (offOf o) 0)), [], [r]⟩
    | _ => none) else none
  | .fzp cs o room => bif Nat.ble ti.size room then (match readSegs ti o cs with | some av => some ⟨av, [], []⟩ | none => none) else none
  | _ => none

def valSize : AV → Nat
  | .c _ => 1
  | .agg xs => segSize xs
  | _ => 0

def storeAt (ti : TI) (h : Nat → Option Reg) (v : AV) : CV → Option Delta
  | .ptr r base o room => bif Nat.ble ti.size room && Nat.beq (valSize v) ti.size then (match h r with
    | some (.cells segs) => (match splitSegs segs base with
      | some (l, rest) => (match writeSegs v o rest with | some rest' => some ⟨.c (.val undef), [(r, .cells (l ++ rest'))], [r]⟩ | none => none)
      | none => none)
    | some (.row e k xs) => (match v with
      | .c (.int k' n) => bif k == k' then some ⟨.c (.val undef), [(r, .row e k (xs.set (offOf o) n))], [r]⟩ else none
      | _ => none)
    | _ => none) else none
  | _ => none

/-! ### Integers -/
def wrapN (k : IntKind) (r : BitVec k.bits) : Int := k.wrap r.toNat
def bitsAnd (k : IntKind) (x y : Int) : Int := k.wrap (BitVec.ofInt k.bits x &&& BitVec.ofInt k.bits y).toNat
def bitsOr (k : IntKind) (x y : Int) : Int := k.wrap (BitVec.ofInt k.bits x ||| BitVec.ofInt k.bits y).toNat
def bitsXor (k : IntKind) (x y : Int) : Int := k.wrap (BitVec.ofInt k.bits x ^^^ BitVec.ofInt k.bits y).toNat
def bitsAndNot (k : IntKind) (x y : Int) : Int := k.wrap (BitVec.ofInt k.bits x &&& ~~~ BitVec.ofInt k.bits y).toNat
def shlI (k : IntKind) (x y : Int) : Int := k.wrap (x * 2 ^ min y.toNat k.bits)
def shrI (k : IntKind) (x y : Int) : Int := x.fdiv (2 ^ min y.toNat k.bits)

structure Req where
  p : Prop
  d : Decidable p

def req (p : Prop) [d : Decidable p] : Option Req := some ⟨p, d⟩

abbrev Res := Option (Option Req × Delta)
def val1 (x : CV) : Res := some (none, ⟨.c x, [], []⟩)
def avR (x : AV) : Res := some (none, ⟨x, [], []⟩)

/-- Is y (a value, or a constant that shows itself) seen not to be 0? -/
def intOp (op : BinOp) (k : IntKind) (x y : Int) (yc : Option Int) : Res :=
  match op with
  | .add => val1 (.int k (k.wrap (x + y)))
  | .sub => val1 (.int k (k.wrap (x - y)))
  | .mul => val1 (.int k (k.wrap (x * y)))
  | .quo => (match yc with
    | some c => bif c == 0 then none else val1 (.int k (k.wrap (x.tdiv c)))
    | none => some (req (y ≠ 0), ⟨.c (.int k (k.wrap (x.tdiv y))), [], []⟩))
  | .rem => (match yc with
    | some c => bif c == 0 then none else val1 (.int k (x.tmod c))
    | none => some (req (y ≠ 0), ⟨.c (.int k (x.tmod y)), [], []⟩))
  | .and => val1 (.int k (bitsAnd k x y))
  | .or => val1 (.int k (bitsOr k x y))
  | .xor => val1 (.int k (bitsXor k x y))
  | .andNot => val1 (.int k (bitsAndNot k x y))
  | .eql => val1 (.bool (x == y))
  | .neq => val1 (.bool (x != y))
  | .lss => val1 (.bool (x < y))
  | .leq => val1 (.bool (x ≤ y))
  | .gtr => val1 (.bool (x > y))
  | .geq => val1 (.bool (x ≥ y))
  | _ => none

def arrEq : Nat → (Nat → Int) → (Nat → Int) → Bool
  | n, f, g => (List.range n).all fun i => f i == g i

/-- a type whose cells are integers of one kind: how many -/
def flatInts : Nat → Tab → Nat → Option (IntKind × Nat)
  | 0, _, _ => none
  | fuel + 1, T, t => match T.get t with
    | some ⟨.int k, _, _, _⟩ => some (k, 1)
    | some ⟨.array n e, sz, _, _⟩ => (match flatInts fuel T e with | some (k, m) => bif Nat.beq sz (n * m) then some (k, n * m) else none | none => none)
    | _ => none

def eqAV (T : Tab) (h : Nat → Option Reg) (t : Nat) : AV → AV → Option Bool
  | .c (.bool a), .c (.bool b) => (match T.get t with | some ⟨.bool, _, _, _⟩ => some (a == b) | _ => none)
  | .agg [.ints k n f], .agg [.ints k' m g] => (match T.get t, flatInts 4 T t with
    | some ⟨.array _ _, _, _, _⟩, some (k2, n2) => bif k == k' && k2 == k && Nat.beq n m && Nat.beq n n2 then some (arrEq n f g) else none
    | _, _ => none)
  | .c (.ptr r _ _ _), .c (.val (.pointer none)) => (match T.get t, h r with | some ⟨.ptr, _, _, _⟩, some (.cells _) => some false | _, _ => none)
  | .c (.val (.pointer none)), .c (.val (.pointer none)) => (match T.get t with | some ⟨.ptr, _, _, _⟩ => some true | _ => none)
  | .c (.fzp _ _ _), .c (.val (.pointer none)) => (match T.get t with | some ⟨.ptr, _, _, _⟩ => some false | _ => none)
  | .c (.str x), .c (.str y) => some (x.toList == y.toList)
  | _, _ => none

/-- the region that a value speaks of -/
def regOf : AV → List Nat
  | .c (.ptr r _ _ _) => [r]
  | .c (.full r) => [r]
  | .c (.sl r _ _) => [r]
  | .c (.asl r _ _ _ _) => [r]
  | _ => []

def litOf : Operand → Option Int
  | .const (.int _ n) => some n
  | _ => none

def shiftOp (op : BinOp) (k : IntKind) (x : Int) (y : Int) (yc : Option Int) : Res :=
  let v : Res := match op with
    | .shl => val1 (.int k (shlI k x y))
    | .shr => val1 (.int k (shrI k x y))
    | _ => none
  match v with
  | some (_, δ) => (match yc with
    | some c => bif decide (c < 0) then none else some (none, δ)
    | none => some (req (0 ≤ y), δ))
  | none => none

def binAV (T : Tab) (h : Nat → Option Reg) (t : Nat) (op : BinOp) (a b : AV) (yc : Option Int) : Res :=
  match op, a, b with
  | .shl, .c (.int k x), .c (.int _ y) => shiftOp .shl k x y yc
  | .shr, .c (.int k x), .c (.int _ y) => shiftOp .shr k x y yc
  | _, .c (.int k x), .c (.int k' y) => bif k == k' then intOp op k x y yc else none
  | .eql, a, b => (match eqAV T h t a b with | some r => some (none, ⟨.c (.bool r), [], regOf a⟩) | none => none)
  | .neq, a, b => (match eqAV T h t a b with | some r => some (none, ⟨.c (.bool (!r)), [], regOf a⟩) | none => none)
  | _, _, _ => none

def notI (k : IntKind) (x : Int) : Int := bitsXor k (if k.signed then -1 else k.max) x

def unAV (op : UnOp) (a : AV) : Res :=
  match op, a with
  | .not, .c (.bool b) => val1 (.bool (!b))
  | .neg, .c (.int k x) => val1 (.int k (k.wrap (0 - x)))
  | .xor, .c (.int k x) => val1 (.int k (notI k x))
  | _, _ => none

/-! ### Places and slices -/
def fieldOf (fs : List (Nat × Nat)) (i : Nat) : Option (Nat × Nat) := fs[i]?

def stepOff (o : Option (Nat × Nat)) (i size lim : Nat) : Option (Nat × Nat) :=
  match o with
  | none => some (bif Nat.beq size 1 then i else i * size, lim)
  | some (p, l) => some (p + (bif Nat.beq size 1 then i else i * size), l)

/-- a region of cells; a region that lives -/
def cellsB (h : Nat → Option Reg) (r : Nat) : Bool := match h r with | some (.cells _) => true | _ => false
def liveB (h : Nat → Option Reg) (r : Nat) : Bool := match h r with | some (.cells _) => true | some (.row _ _ _) => true | _ => false

def fieldAddrAV (T : Tab) (h : Nat → Option Reg) (s : Nat) (f : Nat) : AV → Res
  | .c (.ptr r base o room) => (match T.get s with
    | some ⟨.struct fs, _, _, _⟩ => (match fieldOf fs f, o with
      | some (t, off), none => (match T.get t with
        | some ft => bif Nat.ble (off + ft.size) room && Nat.blt 0 ft.size && cellsB h r then some (none, ⟨.c (.ptr r (base + off) none ft.size), [], [r]⟩) else none
        | none => none)
      | _, _ => none)
    | _ => none)
  | .c (.fzp cs o room) => (match T.get s with
    | some ⟨.struct fs, _, _, _⟩ => (match fieldOf fs f, o with
      | some (t, off), none => (match T.get t, dropSegs cs off with
        | some ft, some cs' => bif Nat.ble (off + ft.size) room && Nat.blt 0 ft.size then val1 (.fzp cs' none ft.size) else none
        | _, _ => none)
      | _, _ => none)
    | _ => none)
  | _ => none

def fieldAV (T : Tab) (s : Nat) (f : Nat) : AV → Res
  | .agg cs => (match T.get s with
    | some ⟨.struct fs, _, _, _⟩ => (match fieldOf fs f with
      | some (t, off) => (match T.get t, dropSegs cs off with
        | some ft, some cs' => (match readSegs ft none cs' with | some av => avR av | none => none)
        | _, _ => none)
      | none => none)
    | _ => none)
  | _ => none

def lenOfFz {α : Type} (xs : List α) : Option Nat → Nat
  | some n => n
  | none => xs.length

/-- x[i]'s place -/
def indexAddrAV (T : Tab) (h : Nat → Option Reg) (t : Nat) (x : AV) (i : Int) : Res :=
  match T.get t with
  | some ⟨.array n e, _, _, _⟩ => (match T.get e, x with
    | some te, .c (.ptr r base o room) => bif Nat.ble (n * te.size) room && Nat.blt 1 n && liveB h r then some (req (0 ≤ i ∧ i < (n : Int)), ⟨.c (.ptr r base (stepOff o i.toNat te.size (n * te.size)) te.size), [], [r]⟩) else none
    | some te, .c (.fzp cs o room) => bif Nat.ble (n * te.size) room && Nat.blt 1 n then some (req (0 ≤ i ∧ i < (n : Int)), ⟨.c (.fzp cs (stepOff o i.toNat te.size (n * te.size)) te.size), [], []⟩) else none
    | _, _ => none)
  | some ⟨.slice e, _, _, _⟩ => (match T.get e, x with
    | some te, .c (.full r) => (match h r with
      | some (.row _ _ xs) => bif Nat.beq te.size 1 then some (req (0 ≤ i ∧ i < (xs.length : Int)), ⟨.c (.ptr r 0 (some (i.toNat, 0)) 1), [], [r]⟩) else none
      | _ => none)
    | some te, .c (.sl r o n) => (match h r with
      | some (.row _ _ _) => bif Nat.beq te.size 1 then some (req (0 ≤ i ∧ i < (n : Int)), ⟨.c (.ptr r 0 (some (o + i.toNat, 0)) 1), [], [r]⟩) else none
      | _ => none)
    | some te, .c (.asl r base lo n lim) => bif Nat.beq te.size 1 && cellsB h r then some (req (0 ≤ i ∧ i < (n : Int)), ⟨.c (.ptr r base (some (lo + i.toNat, lim)) 1), [], [r]⟩) else none
    | some te, .c (.fz d xs n) => bif Nat.beq te.size d.size then some (req (0 ≤ i ∧ i < (lenOfFz xs n : Int)), ⟨.c (.fzp (encD d (xs.getD i.toNat d.dflt)) none d.size), [], []⟩) else none
    | _, _ => none)
  | _ => none

def strAt (s : ByteArray) (i : Int) : Int := (s.data.getD i.toNat 0).toNat

def indexAV (T : Tab) (t : Nat) (x : AV) (i : Int) : Res :=
  match T.get t, x with
  | some ⟨.array n e, _, _, _⟩, .agg (.ints k m f :: _) => (match T.get e with
    | some te => bif isAggT te.d then (bif Nat.ble (n * te.size) m then some (req (0 ≤ i ∧ i < (n : Int)), ⟨.agg [.ints k te.size (fun j => f (i.toNat * te.size + j))], [], []⟩) else none)
        else bif Nat.ble n m then some (req (0 ≤ i ∧ i < (n : Int)), ⟨.c (.int k (f i.toNat)), [], []⟩) else none
    | none => none)
  | some ⟨.str, _, _, _⟩, .c (.str s) => some (req (0 ≤ i ∧ i < (s.size : Int)), ⟨.c (.int .u8 (strAt s i)), [], []⟩)
  | _, _ => none

def takeO (xs : List Int) : Option Nat → List Int
  | some m => xs.take m
  | none => xs

/-- the numbers of a slice, and whether it is one of the call's own rows -/
def sliceInts (h : Nat → Option Reg) : AV → Option (IntKind × List Int × List Nat)
  | .c (.full r) => (match h r with | some (.row _ k xs) => some (k, xs, [r]) | _ => none)
  | .c (.sl r o n) => (match h r with | some (.row _ k xs) => some (k, (xs.drop o).take n, [r]) | _ => none)
  | .c (.asl r base lo n lim) => (match h r with
    | some (.cells segs) => (match dropSegs segs base with
      | some (.ints k m f :: _) => bif Nat.ble lim m then some (k, (List.range n).map (fun j => f (lo + j)), [r]) else none
      | _ => none)
    | _ => none)
  | .c (.fz (.int k) xs n) => some (k, takeO xs n, [])
  | _ => none

def isNilSlice : AV → Bool
  | .c (.val (.slice none 0 _)) => true
  | _ => false

def lenAV (T : Tab) (h : Nat → Option Reg) (t : Nat) (x : AV) : Res :=
  match T.get t with
  | some ⟨.slice _, _, _, _⟩ => (match x with
    | .c (.full r) => (match h r with | some (.row _ _ xs) => some (none, ⟨.c (.int .i64 xs.length), [], [r]⟩) | _ => none)
    | .c (.sl r _ n) => (match h r with | some (.row _ _ _) => some (none, ⟨.c (.int .i64 n), [], [r]⟩) | _ => none)
    | .c (.asl r _ _ n _) => bif cellsB h r then some (none, ⟨.c (.int .i64 n), [], [r]⟩) else none
    | .c (.fz _ xs n) => val1 (.int .i64 (lenOfFz xs n))
    | .c (.val (.slice none n _)) => val1 (.int .i64 n)
    | _ => none)
  | some ⟨.str, _, _, _⟩ => (match x with
    | .c (.str s) => val1 (.int .i64 s.size)
    | _ => none)
  | some ⟨.array n _, _, _, _⟩ => val1 (.int .i64 n)
  | _ => none

def okBytes (n bytes : Nat) : Prop := (n + n / 4 + 192) * bytes ≤ 281474976710656
instance (n bytes : Nat) : Decidable (okBytes n bytes) := inferInstanceAs (Decidable (_ ≤ _))

/-- append(s, x...), s one of the call's own rows (which it is no more), or nil -/
def appendAV (T : Tab) (h : Nat → Option Reg) (dst : Option Nat) (t : Nat) (s x : AV) : Res :=
  match dst, T.get t with
  | some d, some ⟨.slice e, _, _, _⟩ => (match T.get e, h d with
    | some ⟨.int k, _, bytes, _⟩, none =>
      let ys : Option (IntKind × List Int × List Nat) := bif isNilSlice x then some (k, [], []) else sliceInts h x
      (match ys with
      | some (k2, ys, rs) => bif k2 == k then (match s with
          | .c (.full r) => (match h r with
            | some (.row e' k1 xs) => bif Nat.beq e e' && k1 == k then
                some (req (okBytes (xs.length + ys.length) bytes), ⟨.c (.full d), [(r, .dead), (d, .row e k (xs ++ ys))], d :: r :: rs⟩) else none
            | _ => none)
          | .c (.val (.slice none 0 0)) => some (req (okBytes ys.length bytes), ⟨.c (.full d), [(d, .row e k ys)], d :: rs⟩)
          | _ => none) else none
      | none => none)
    | _, _ => none)
  | _, _ => none

def minMax (mx : Bool) : List AV → Res
  | [.c (.int k x)] => val1 (.int k x)
  | [.c (.int k x), .c (.int k' y)] => bif k == k' then val1 (.int k (bif mx then (if x < y then y else x) else (if y < x then y else x))) else none
  | [.c (.int k x), .c (.int k' y), .c (.int k'' z)] => bif k == k' && k == k'' then val1 (.int k (bif mx then (if (if x < y then y else x) < z then z else (if x < y then y else x)) else (if z < (if y < x then y else x) then z else (if y < x then y else x)))) else none
  | _ => none

def natOpt : Option Operand → St → Option (Option (Int × Option Int))
  | none, _ => some none
  | some x, st => match opd st x with
    | some (.c (.int _ n)) => some (some (n, litOf x))
    | _ => none

/-- xs[lo:hi] -/
def sliceAV (T : Tab) (h : Nat → Option Reg) (t : Nat) (x : AV) (lo hi : Option (Int × Option Int)) : Res :=
  match T.get t with
  | some ⟨.array N e, _, _, _⟩ => (match T.get e, x with
    | some te, .c (.ptr r base none room) => bif Nat.ble N room && Nat.beq te.size 1 && cellsB h r then (match lo, hi with
        | none, none => some (none, ⟨.c (.asl r base 0 (N - 0) N), [], [r]⟩)
        | none, some (b, _) => some (req (0 ≤ b ∧ b ≤ (N : Int)), ⟨.c (.asl r base 0 (b.toNat - 0) N), [], [r]⟩)
        | some (a, _), none => some (req (0 ≤ a ∧ a ≤ (N : Int)), ⟨.c (.asl r base a.toNat (N - a.toNat) N), [], [r]⟩)
        | some (a, _), some (b, _) => some (req (0 ≤ a ∧ a ≤ b ∧ b ≤ (N : Int)), ⟨.c (.asl r base a.toNat (b.toNat - a.toNat) N), [], [r]⟩)) else none
    | _, _ => none)
  | some ⟨.slice e, _, _, _⟩ => (match x with
    | .c (.full r) => (match h r with
      | some (.row _ _ xs) => (match T.get e with
        | some te => bif Nat.beq te.size 1 then (match lo, hi with
          | none, none => some (none, ⟨x, [], [r]⟩)
          | none, some (b, _) => some (req (0 ≤ b ∧ b ≤ (xs.length : Int)), ⟨.c (.sl r 0 (b.toNat - 0)), [], [r]⟩)
          | some (a, _), none => some (req (0 ≤ a ∧ a ≤ (xs.length : Int)), ⟨.c (.sl r a.toNat (xs.length - a.toNat)), [], [r]⟩)
          | some (a, _), some (b, _) => some (req (0 ≤ a ∧ a ≤ b ∧ b ≤ (xs.length : Int)), ⟨.c (.sl r a.toNat (b.toNat - a.toNat)), [], [r]⟩)) else none
        | none => none)
      | _ => none)
    | .c (.sl r o n) => (match h r with
      | some (.row _ _ xs) => (match T.get e with
        | some te => bif Nat.beq te.size 1 then (match lo, hi with
          | none, some (b, _) => some (req (0 ≤ b ∧ (o : Int) + b ≤ (xs.length : Int)), ⟨.c (.sl r (o + 0) (b.toNat - 0)), [], [r]⟩)
          | some (a, _), none => some (req (0 ≤ a ∧ a ≤ (n : Int)), ⟨.c (.sl r (o + a.toNat) (n - a.toNat)), [], [r]⟩)
          | some (a, _), some (b, _) => some (req (0 ≤ a ∧ a ≤ b ∧ (o : Int) + b ≤ (xs.length : Int)), ⟨.c (.sl r (o + a.toNat) (b.toNat - a.toNat)), [], [r]⟩)
          | none, none => none) else none
        | none => none)
      | _ => none)
    | .c (.fz d xs n) => (match T.get e with
      | some te => bif Nat.beq te.size d.size then (match lo, hi with
        | none, none => some (none, ⟨x, [], []⟩)
        | none, some (b, _) => some (req (0 ≤ b ∧ b ≤ (xs.length : Int)), ⟨.c (.fz d xs (some b.toNat)), [], []⟩)
        | some (a, _), none => some (req (0 ≤ a ∧ a ≤ (lenOfFz xs n : Int)), ⟨.c (.fz d (xs.drop a.toNat) (match n with | some m => some (m - a.toNat) | none => none)), [], []⟩)
        | some (a, _), some (b, _) => some (req (0 ≤ a ∧ a ≤ b ∧ b ≤ (xs.length : Int)), ⟨.c (.fz d (xs.drop a.toNat) (some (b.toNat - a.toNat))), [], []⟩)) else none
      | none => none)
    | _ => none)
  | _ => none

def fillInts (k : IntKind) : List Int → List (Nat × AV) → Option (List Int)
  | xs, [] => some xs
  | xs, (i, .c (.int k' n)) :: r => bif k == k' && Nat.blt i xs.length then fillInts k (xs.set i n) r else none
  | _, _ => none

def replSegs (segs : List CV) (off : Nat) (new : List CV) : Option (List CV) :=
  match splitSegs segs off with
    | some (l, rest) => (match dropSegs rest (segSize new) with | some r => some (l ++ (new ++ r)) | none => none)
    | none => none

def buildStruct (T : Tab) (fs : List (Nat × Nat)) : List CV → List (Nat × AV) → Option (List CV)
  | segs, [] => some segs
  | segs, (i, v) :: r => match fieldOf fs i, cellAV v with
    | some (t, off), some new => (match T.get t with
      | some ft => bif Nat.beq (valSize v) ft.size then (match replSegs segs off new with | some s => buildStruct T fs s r | none => none) else none
      | none => none)
    | _, _ => none

def fillArr (k : IntKind) (n : Nat) : (Nat → Int) → List (Nat × AV) → Option (Nat → Int)
  | f, [] => some f
  | f, (i, .c (.int k' x)) :: r => bif k == k' && Nat.blt i n then fillArr k n (upd f i x) r else none
  | _, _ => none

/-- an array type's elements are integers -/
def intElem (T : Tab) (e : Nat) : Bool := match T.get e with | some ⟨.int _, _, _, _⟩ => true | _ => false

/-- pointers, in order -/
def seqParts : Nat → List (Nat × AV) → Option (List CV)
  | _, [] => some []
  | i, (j, .c (.ptr r b o m)) :: l => bif Nat.beq i j then (match seqParts (i + 1) l with | some s => some (.ptr r b o m :: s) | none => none) else none
  | _, _ => none

def partsAV (st : St) : List (Nat × Operand) → Option (List (Nat × AV))
  | [] => some []
  | (i, x) :: r => match opd st x, partsAV st r with
    | some a, some l => some ((i, a) :: l)
    | _, _ => none

def newReg (st : St) (dst : Option Nat) (segs : List CV) : Res :=
  match dst with
  | some d => (match st.heap d with
    | none => some (none, ⟨.c (.ptr d 0 none (segSize segs)), [(d, .cells segs)], [d]⟩)
    | some _ => none)
  | none => none

def asInt1 : Option AV → Option Int
  | some (.c (.int _ n)) => some n
  | _ => none

def isNilConst : Operand → Bool
  | .const (.slice none n c) => Nat.beq n 0 && Nat.beq c 0
  | _ => false

/-- nil, as a slice of numbers: an own row without numbers -/
def nilRow (T : Tab) (o : Oper) (st : St) : Res :=
  match o.dst, T.get o.type with
  | some d, some ⟨.slice e, _, _, _⟩ => (match T.get e, st.heap d with
    | some ⟨.int k, _, _, _⟩, none => some (none, ⟨.c (.full d), [(d, .row e k [])], [d]⟩)
    | _, _ => some (none, ⟨.c (.val (.slice none 0 0)), [], [d]⟩))
  | some d, _ => some (none, ⟨.c (.val (.slice none 0 0)), [], [d]⟩)
  | _, _ => none

/-! ### Data of any kind -/
def isNilS : Value → Bool
  | .slice none n c => Nat.beq n 0 && Nat.beq c 0
  | _ => false

deriving instance DecidableEq for DT
def asDT (d d' : DT) (xs : List d'.T) : Option (List d.T) := if h : d' = d then some (h ▸ xs) else none
def rowAs (t : DT) (k : IntKind) (xs : List Int) : Option (List t.T) :=
  match t with
  | .int k' => bif k == k' then some xs else none
  | _ => none

/-- what a slice's cell holds, frozen; and the call's own regions that it lies in -/
def frzSl (h : Nat → Option Reg) (t : DT) : CV → Option (List t.T × List Nat)
  | .fz d xs n => (match asDT t d xs with
    | some ys => (match n with | some m => some (ys.take m, []) | none => some (ys, []))
    | none => none)
  | .val v => bif isNilS v then some ([], []) else none
  | .full r => (match h r with
    | some (.row _ k xs) => (match rowAs t k xs with | some ys => some (ys, [r]) | none => none)
    | some (.rowd _ d xs) => (match asDT t d xs with | some ys => some (ys, [r]) | none => none)
    | _ => none)
  | .sl r o n => (match h r with
    | some (.row _ k xs) => (match rowAs t k ((xs.drop o).take n) with | some ys => some (ys, [r]) | none => none)
    | _ => none)
  | .asl r base lo n lim => (match h r with
    | some (.cells segs) => (match dropSegs segs base with
      | some (.ints k m f :: _) => bif Nat.ble lim m then (match rowAs t k ((List.range n).map fun j => f (lo + j)) with | some ys => some (ys, [r]) | none => none) else none
      | _ => none)
    | _ => none)
  | _ => none

/-- what cells hold, frozen; the cells behind it -/
def frzD (h : Nat → Option Reg) : (t : DT) → List CV → Option (t.T × List CV × List Nat)
  | .int k, cs => (match cs with | .int k' x :: r => bif k == k' then some (x, r, []) else none | _ => none)
  | .bool, cs => (match cs with | .bool b :: r => some (b, r, []) | _ => none)
  | .str, cs => (match cs with | .str b :: r => some (b, r, []) | _ => none)
  | .arr k n, cs => (match cs with | .ints k' n' f :: r => bif k == k' && Nat.beq n n' then some (f, r, []) else none | _ => none)
  | .sl t, cs => (match cs with | c :: r => (match frzSl h t c with | some (ys, gs) => some (ys, r, gs) | none => none) | _ => none)
  | .item, cs => (match cs with
    | .int .u8 x :: c :: c' :: r => (match frzSl h (.int .u8) c, frzSl h .item c' with
      | some (b, gs), some (k, gs') => some (.node x b k, r, gs ++ gs')
      | _, _ => none)
    | _ => none)
  | .pair a b, cs => (match frzD h a cs with
    | some (x, r, gs) => (match frzD h b r with | some (y, r', gs') => some ((x, y), r', gs ++ gs') | none => none)
    | none => none)
  | _, _ => none

def dtFs (g : Nat → Option DT) : List (Nat × Nat) → Option DT
  | [] => none
  | [(t, _)] => g t
  | (t, _) :: r => (match g t, dtFs g r with | some a, some b => some (.pair a b) | _, _ => none)

/-- is a type's struct one of a byte, bytes, and a list of the same? -/
def isItemT (T : Tab) (t : Nat) : List (Nat × Nat) → Bool
  | [(a, _), (b, _), (c, _)] => (match T.get a, T.get b, T.get c with
    | some ⟨.int .u8, _, _, _⟩, some ⟨.slice e, _, _, _⟩, some ⟨.slice e', _, _, _⟩ => (match T.get e with | some ⟨.int .u8, _, _, _⟩ => Nat.beq e' t | _ => false)
    | _, _, _ => false)
  | _ => false

/-- the kind of data that a type's values are -/
def dtOf (T : Tab) : Nat → Nat → Option DT
  | 0, _ => none
  | fuel + 1, t => (match T.get t with
    | some ⟨.int k, _, _, _⟩ => some (.int k)
    | some ⟨.bool, _, _, _⟩ => some .bool
    | some ⟨.str, _, _, _⟩ => some .str
    | some ⟨.slice e, _, _, _⟩ => (match dtOf T fuel e with | some d => some (.sl d) | none => none)
    | some ⟨.struct fs, _, _, _⟩ => bif isItemT T t fs then some .item else dtFs (dtOf T fuel) fs
    | _ => none)

def ofBytes (xs : List Int) : ByteArray := ⟨(xs.map fun n => UInt8.ofNat n.toNat).toArray⟩
def toBytes (s : ByteArray) : List Int := s.data.toList.map fun c => (c.toNat : Int)

/-- One operation that calls no Go function. -/
def aop (T : Tab) (o : Oper) (st : St) : Res :=
  match o.op with
  | .move x => (match opd st x with | some a => avR a | none => none)
  | .assign x => bif isNilConst x then nilRow T o st else (match opd st x with | some a => avR a | none => none)
  | .pick c a b => (match opd st c with
    | some (.c (.bool true)) => (match opd st a with | some v => avR v | none => none)
    | some (.c (.bool false)) => (match opd st b with | some v => avR v | none => none)
    | _ => none)
  | .alloc e => (match T.get e with | some ti => newReg st o.dst ti.zero | none => none)
  | .box _ x => (match opd st x with
    | some a => (match cellAV a with | some segs => newReg st o.dst segs | none => none)
    | none => none)
  | .build t ps => (match T.get t, partsAV st ps.toList with
    | some ⟨.struct fs, _, _, z⟩, some l => (match buildStruct T fs z l with | some s => avR (.agg s) | none => none)
    | some ⟨.array _ e, _, _, z⟩, some [] => (match T.get e with | some _ => avR (.agg z) | none => none)
    | some ⟨.array _ e, _, _, [.ints k n f]⟩, some l => bif intElem T e then (match fillArr k n f l with | some g => avR (.agg [.ints k n g]) | none => none) else none
    | _, _ => none)
  | .buildSlice t n ps => (match o.dst, T.get t, partsAV st ps.toList with
    | some d, some ⟨.slice e, _, _, _⟩, some l => (match T.get e, st.heap d with
      | some ⟨.int k, _, _, [.int k0 z0]⟩, none => (match fillInts k (List.replicate n z0) l with
        | some xs => bif Nat.ble n 65536 && k0 == k then some (none, ⟨.c (.full d), [(d, .row e k xs)], [d]⟩) else none
        | none => none)
      | some ⟨.ptr, _, _, _⟩, none => (match seqParts 0 l with
        | some segs => bif Nat.ble n 65536 && Nat.beq segs.length n then some (none, ⟨.c (.asl d 0 0 n n), [(d, .cells segs)], [d]⟩) else none
        | none => none)
      | _, _ => none)
    | _, _, _ => none)
  | .load t a => (match T.get t, opd st a with
    | some ti, some (.c x) => (match loadAt ti st.heap x with | some δ => some (none, δ) | none => none)
    | _, _ => none)
  | .store t a v => (match T.get t, opd st a, opd st v with
    | some ti, some (.c x), some av => (match storeAt ti st.heap av x with | some δ => some (none, δ) | none => none)
    | _, _, _ => none)
  | .nilCheck x => (match opd st x with
    | some (.c (.ptr r b o m)) => bif liveB st.heap r then some (none, ⟨.c (.ptr r b o m), [], [r]⟩) else none
    | some (.c (.fzp cs o m)) => val1 (.fzp cs o m)
    | _ => none)
  | .binOp op t x y _ => (match opd st x, opd st y with | some a, some b => binAV T st.heap t op a b (litOf y) | _, _ => none)
  | .unOp op _ x => (match opd st x with | some a => unAV op a | none => none)
  | .convert s d x => (match T.get s, T.get d, opd st x with
    | some _, some ⟨.int k, _, _, _⟩, some (.c (.int _ n)) => val1 (.int k (k.wrap n))
    | _, _, _ => none)
  | .sliceToArrayPointer d x => (match T.get d, opd st x with
    | some ⟨.array n _, _, _, _⟩, some (.c (.full r)) => (match st.heap r with
      | some (.row _ _ xs) => bif Nat.blt 0 n then some (req ((n : Int) ≤ (xs.length : Int)), ⟨.c (.ptr r 0 none n), [], [r]⟩) else none
      | _ => none)
    | some ⟨.array n _, _, _, _⟩, some (.c (.asl r base lo m lim)) => bif cellsB st.heap r && Nat.blt 0 n then some (req ((n : Int) ≤ (m : Int)), ⟨.c (.ptr r base (some (lo, lim)) n), [], [r]⟩) else none
    | some ⟨.array n _, _, _, _⟩, some (.c (.sl r p m)) => (match st.heap r with
      | some (.row _ _ _) => bif Nat.blt 0 n then some (req ((n : Int) ≤ (m : Int)), ⟨.c (.ptr r 0 (some (p, 0)) n), [], [r]⟩) else none
      | _ => none)
    | _, _ => none)
  | .makeSlice t l c => (match o.dst, T.get t, opd st l, opd st c with
    | some d, some ⟨.slice e, _, _, _⟩, some (.c (.int _ n)), some (.c (.int _ m)) => (match T.get e, st.heap d with
      | some ⟨.int k, _, bytes, [.int k0 z0]⟩, none => bif k0 == k then some (req (0 ≤ n ∧ n ≤ m ∧ okBytes m.toNat bytes), ⟨.c (.full d), [(d, .row e k (List.replicate n.toNat z0))], [d]⟩) else none
      | _, _ => none)
    | _, _, _, _ => none)
  | .slice t x lo hi none => (match opd st x, natOpt lo st, natOpt hi st with
    | some a, some l, some r => sliceAV T st.heap t a l r
    | _, _, _ => none)
  | .fieldAddr s x f => (match opd st x with | some a => fieldAddrAV T st.heap s f a | none => none)
  | .field s x f => (match opd st x with | some a => fieldAV T s f a | none => none)
  | .indexAddr t x i => (match opd st x, opd st i with | some a, some (.c (.int _ n)) => indexAddrAV T st.heap t a n | _, _ => none)
  | .index t x i => (match opd st x, opd st i with | some a, some (.c (.int _ n)) => indexAV T t a n | _, _ => none)
  | .extract x i => (match opd st x with
    | some (.tup l) => (match l[i]? with | some a => avR a | none => none)
    | _ => none)
  | .call { callee := .builtin b, args := args, argTypes := tys } => (match b, opds st args.toList with
    | .len, some [a] => (match tys.toList with | [t] => lenAV T st.heap t a | _ => none)
    | .append, some [s, x] => (match tys.toList with | [t, t'] => bif Nat.beq t t' then appendAV T st.heap o.dst t s x else none | _ => none)
    | .max, some l => minMax true l
    | .min, some l => minMax false l
    | _, _ => none)
  | _ => none

/-! ### Operations on data, strings, closures -/
def capRegs (st : St) : List Operand → Option (List Nat)
  | [] => some []
  | x :: r => (match opd st x, capRegs st r with
    | some (.c (.ptr q base none room)), some l => bif Nat.beq base 0 && Nat.ble 1 room && cellsB st.heap q then some (q :: l) else none
    | _, _ => none)

def seqDat (h : Nat → Option Reg) (d : DT) : Nat → List (Nat × AV) → Option (List d.T × List Nat)
  | _, [] => some ([], [])
  | i, (j, a) :: l => bif Nat.beq i j then (match cellAV a with
    | some cs => (match frzD h d cs with
      | some (x, [], gs) => (match seqDat h d (i + 1) l with | some (xs, gs') => some (x :: xs, gs ++ gs') | none => none)
      | _ => none)
    | none => none) else none

/-- data that a slice holds, and the own region that it is -/
def dataOf (h : Nat → Option Reg) (d : DT) : AV → Option (List d.T × List Nat)
  | .c (.full r) => (match h r with
    | some (.rowd _ d' xs) => (match asDT d d' xs with | some ys => some (ys, [r]) | none => none)
    | _ => none)
  | .c (.fz d' xs n) => (match asDT d d' xs with
    | some ys => (match n with | some m => some (ys.take m, []) | none => some (ys, []))
    | none => none)
  | .c (.val v) => bif isNilS v then some ([], []) else none
  | _ => none

def bytesOf (h : Nat → Option Reg) (a : AV) : Option (List Int × List Nat) :=
  bif isNilSlice a then some ([], []) else (match sliceInts h a with
    | some (.u8, xs, rs) => some (xs, rs)
    | _ => none)

def isU8 (T : Tab) (e : Nat) : Bool := match T.get e with | some ⟨.int .u8, _, _, _⟩ => true | _ => false

def datElem (T : Tab) (t : Nat) : Bool :=
  match T.get t with
  | some ⟨.slice e, _, _, _⟩ => (match T.get e with
    | some ⟨.struct _, _, _, _⟩ => true
    | some ⟨.slice _, _, _, _⟩ => true
    | _ => false)
  | _ => false

/-- is it one of these? -/
def isNew (T : Tab) (o : Oper) (st : St) : Bool :=
  match o.op with
  | .makeFunc _ _ _ => true
  | .convert _ d _ => (match T.get d with | some ⟨.int _, _, _, _⟩ => false | _ => true)
  | .buildSlice t _ _ => datElem T t
  | .sliceToArrayPointer _ x => (match opd st x with | some (.c (.fz _ _ _)) => true | _ => false)
  | .call { callee := .builtin b, argTypes := tys, .. } => (match b with
    | .copy => true
    | .append => (match tys.toList with | t :: _ => datElem T t | _ => false)
    | .len => (match tys.toList with | t :: _ => datElem T t | _ => false)
    | _ => false)
  | _ => false

def convert2 (T : Tab) (h : Nat → Option Reg) (s d : Nat) (a : AV) : Res :=
  match T.get s, T.get d with
  | some ⟨.str, _, _, _⟩, some ⟨.slice e, _, _, _⟩ => (match a with
    | .c (.str b) => bif isU8 T e then some (none, ⟨.c (.fz (.int .u8) (toBytes b) none), [], []⟩) else none
    | _ => none)
  | some ⟨.slice e, _, _, _⟩, some ⟨.str, _, _, _⟩ => bif isU8 T e then (match bytesOf h a with
      | some (xs, rs) => some (none, ⟨.c (.str (ofBytes xs)), [], rs⟩)
      | none => none) else none
  | some ⟨.slice e, _, _, _⟩, some ⟨.slice e', _, _, _⟩ => bif Nat.beq s d && isU8 T e && isU8 T e' then (match a with
      | .c (.full r) => (match h r with
        | some (.row _ .u8 (x :: xs)) => some (none, ⟨.c (.fz (.int .u8) (x :: xs) none), [(r, .dead)], [r]⟩)
        | _ => none)
      | _ => none) else none
  | _, _ => none

def append2 (T : Tab) (h : Nat → Option Reg) (dst : Option Nat) (t : Nat) (s x : AV) : Res :=
  match dst, T.get t with
  | some q, some ⟨.slice e, _, _, _⟩ => (match T.get e, dtOf T 6 e, h q with
    | some te, some d, none => bif Nat.beq te.size d.size && Nat.blt 0 te.size && Nat.blt 0 te.bytes then (match dataOf h d x with
      | some (ys, rs) => (match s with
        | .c (.full r) => (match h r with
          | some (.rowd e' d' xs) => bif Nat.beq e e' then (match asDT d d' xs with
            | some xs => some (req (okBytes (xs.length + ys.length) te.bytes), ⟨.c (.full q), [(r, .dead), (q, .rowd e d (xs ++ ys))], q :: r :: rs⟩)
            | none => none) else none
          | _ => none)
        | .c (.val v) => bif isNilS v then some (req (okBytes ys.length te.bytes), ⟨.c (.full q), [(q, .rowd e d ys)], q :: rs⟩) else none
        | _ => none)
      | none => none) else none
    | _, _, _ => none)
  | _, _ => none

def aop2 (T : Tab) (o : Oper) (st : St) : Res :=
  match o.op with
  | .makeFunc f first caps => (match f, first.toList, capRegs st caps.toList with
    | .func f, [], some rs => some (none, ⟨.c (.clo f rs), [], rs⟩)
    | _, _, _ => none)
  | .convert s d x => (match opd st x with | some a => convert2 T st.heap s d a | none => none)
  | .buildSlice t n ps => (match o.dst, T.get t, partsAV st ps.toList with
    | some q, some ⟨.slice e, _, _, _⟩, some l => (match T.get e, dtOf T 6 e, st.heap q with
      | some te, some d, none => (match seqDat st.heap d 0 l with
        | some (xs, gs) => bif Nat.ble n 65536 && Nat.beq n l.length && Nat.beq te.size d.size && Nat.blt 0 te.size && Nat.ble (n * te.size) 65536 then some (none, ⟨.c (.full q), gs.map (fun r => (r, Reg.dead)) ++ [(q, .rowd e d xs)], q :: gs⟩) else none
        | none => none)
      | _, _, _ => none)
    | _, _, _ => none)
  | .sliceToArrayPointer d x => (match T.get d, opd st x with
    | some ⟨.array n e, _, _, _⟩, some (.c (.fz (.int k) xs m)) => bif Nat.blt 0 n then some (req ((n : Int) ≤ (lenOfFz xs m : Int)), ⟨.c (.fzp [.ints k n (fun j => List.getD (α := Int) xs j 0)] none n), [], []⟩) else none
    | _, _ => none)
  | .call { callee := .builtin b, args := args, argTypes := tys } => (match b, opds st args.toList with
    | .copy, some [a, x] => (match tys.toList, a with
      | [t, _], .c (.full r) => (match T.get t, st.heap r with
        | some ⟨.slice e, _, _, _⟩, some (.row e' k xs) => (match T.get e with
          | some ⟨.int k', _, _, _⟩ =>
            let ys : Option (IntKind × List Int × List Nat) := bif isNilSlice x then some (k, [], []) else sliceInts st.heap x
            (match ys with
            | some (k2, ys, rs) => bif k2 == k && k' == k then some (none, ⟨.c (.int .i64 (min ys.length xs.length : Nat)), [(r, .row e' k (ys.take (min ys.length xs.length) ++ xs.drop (min ys.length xs.length)))], r :: rs⟩) else none
            | none => none)
          | _ => none)
        | _, _ => none)
      | _, _ => none)
    | .append, some [s, x] => (match tys.toList with | [t, t'] => bif Nat.beq t t' then append2 T st.heap o.dst t s x else none | _ => none)
    | .len, some [a] => (match tys.toList with
      | [t] => (match T.get t with
        | some ⟨.slice _, _, _, _⟩ => (match a with
          | .c (.full r) => (match st.heap r with | some (.rowd _ _ xs) => some (none, ⟨.c (.int .i64 xs.length), [], [r]⟩) | _ => none)
          | .c (.fz _ xs n) => val1 (.int .i64 (lenOfFz xs n))
          | .c (.val (.slice none n _)) => val1 (.int .i64 n)
          | _ => none)
        | _ => none)
      | _ => none)
    | _, _ => none)
  | _ => none

/-! ### Maps from int to int -/
def imGet : List (Int × Int) → Int → Int
  | [], _ => 0
  | (k, x) :: r, a => bif a == k then x else imGet r a
def imPut : List (Int × Int) → Int → Int → List (Int × Int)
  | [], a, v => [(a, v)]
  | (k, x) :: r, a, v => bif a == k then (a, v) :: r else (k, x) :: imPut r a v
def isI64 (T : Tab) (t : Nat) : Bool := match T.get t with | some ⟨.int .i64, _, _, [.int .i64 0]⟩ => true | _ => false
def isMapT (T : Tab) (t : Nat) : Bool := match T.get t with | some ⟨.map k e, _, _, _⟩ => isI64 T k && isI64 T e | _ => false
def isMap (T : Tab) (o : Oper) : Bool :=
  match o.op with
  | .makeMap _ _ => true
  | .lookup _ _ _ _ => true
  | .mapUpdate _ _ _ _ => true
  | .call { callee := .builtin b, argTypes := tys, .. } => (match b with
    | .len => (match tys.toList with | t :: _ => isMapT T t | _ => false)
    | _ => false)
  | _ => false
def aop3 (T : Tab) (o : Oper) (st : St) : Res :=
  match o.op with
  | .makeMap t none => bif isMapT T t then (match o.dst with
    | some q => (match st.heap q with | none => some (none, ⟨.c (.full q), [(q, .imap [])], [q]⟩) | some _ => none)
    | none => none) else none
  | .lookup t x i false => bif isMapT T t then (match opd st x, opd st i with
    | some (.c (.full r)), some (.c (.int .i64 a)) => (match st.heap r with | some (.imap xs) => some (none, ⟨.c (.int .i64 (imGet xs a)), [], [r]⟩) | _ => none)
    | _, _ => none) else none
  | .mapUpdate t x i v => bif isMapT T t then (match opd st x, opd st i, opd st v with
    | some (.c (.full r)), some (.c (.int .i64 a)), some (.c (.int .i64 b)) => (match st.heap r with | some (.imap xs) => some (none, ⟨.c (.val undef), [(r, .imap (imPut xs a b))], [r]⟩) | _ => none)
    | _, _, _ => none) else none
  | .call { callee := .builtin .len, args := args, argTypes := tys } => (match opds st args.toList, tys.toList with
    | some [.c (.full r)], [t] => bif isMapT T t then (match st.heap r with | some (.imap xs) => some (none, ⟨.c (.int .i64 xs.length), [], [r]⟩) | _ => none) else none
    | _, _ => none)
  | _ => none

def aopA (T : Tab) (o : Oper) (st : St) : Res := bif isMap T o then aop3 T o st else bif isNew T o st then aop2 T o st else aop T o st

/-- the name of the region that a function was handed in a pointer -/
abbrev ioN : Nat := 1000000

/-! ### Calls of Go functions: what a callee comes to, laid in a table -/
structure Ent where
  k : ∀ {ρ : Type}, Nat → List AV → (Nat → Option Reg) → (Delta → Option ρ) → Option ρ
  /-- may it stand where the order is open? -/
  free : Bool

def calleeOf : Op → Option (Nat × List Operand)
  | .call { callee := .value (.func f), args := args, .. } => some (f, args.toList)
  | _ => none

/-- a call of a closure that is in sight -/
def cloOf (st : St) : Op → Option (Nat × List Operand × List Nat)
  | .call { callee := .value (.tmp t), args := args, .. } => (match st.env t with
    | some (.c (.clo f caps)) => some (f, args.toList, caps)
    | _ => none)
  | _ => none

def capPtrs (caps : List Nat) : List AV := caps.map fun r => .c (.ptr r 0 none 1)

def aopK (T : Tab) (E : Nat → Option Ent) (o : Oper) (st : St) {ρ : Type} (k : Delta → Option ρ) : Option ρ :=
  match calleeOf o.op with
  | some (f, args) => (match E f, opds st args, o.dst with
    | some e, some l, some d => e.k d l st.heap k
    | _, _, _ => none)
  | none => match cloOf st o.op with
    | some (f, args, caps) => (match E f, opds st args, o.dst with
      | some e, some l, some d => e.k d (l ++ capPtrs caps) st.heap k
      | _, _, _ => none)
    | none => match aopA T o st with
      | none => none
      | some (none, δ) => (match δ.av with | .pan _ _ => none | _ => k δ)
      | some (some r, δ) => @ite _ r.p r.d (match δ.av with | .pan _ _ => none | _ => k δ) none

/-! ### Regions -/
structure Foot where
  hr : List Nat
  hw : List Nat

def dstOk (nt : Nat) : Option Nat → Bool
  | some d => Nat.blt d nt
  | none => true

def notBool : Value → Bool
  | .bool _ => false
  | _ => true

def skipAV : Delta := ⟨.c (.val undef), [], []⟩

/-- behind an operation: it came to a value, or panicked -/
def afterOp {ρ : Type} (δ : Delta) (n : Option ρ) (p : Nat → Int → Option ρ) : Option ρ :=
  match δ.av with
  | .pan t e => p t e
  | _ => n

def execOps (T : Tab) (E : Nat → Option Ent) (nt : Nat) (all : Array Oper) {ρ : Type} : List Oper → St → List Foot → (St → List Foot → Option ρ) → (Nat → Int → St → List Oper → List Foot → Option ρ) → Option ρ
  | [], st, fs, k, _ => k st fs
  | o :: rest, st, fs, k, kp => bif dstOk nt o.dst then (match o.guard with
    | none => aopK T E o st fun δ => afterOp δ (execOps T E nt all rest (st.app o.dst δ) (⟨δ.hr, δ.hw.map (·.1)⟩ :: fs) k kp) fun t e => kp t e (st.app none δ) rest (⟨δ.hr, δ.hw.map (·.1)⟩ :: fs)
    | some (j, want) => (match (all[j]?).bind (·.dst) with
      | none => none
      | some g => (match st.env g with
        | some (.c (.bool b)) =>
          if b = want then
            (let st1 : St := { st with env := upd st.env g (some (.c (.bool want))) }
             aopK T E o st1 fun δ => afterOp δ (execOps T E nt all rest (st1.app o.dst δ) (⟨δ.hr, δ.hw.map (·.1)⟩ :: fs) k kp) fun t e => kp t e (st1.app none δ) rest (⟨δ.hr, δ.hw.map (·.1)⟩ :: fs))
          else
            (let st1 : St := { st with env := upd st.env g (some (.c (.bool (!want)))) }
             execOps T E nt all rest (st1.app o.dst skipAV) (⟨[], []⟩ :: fs) k kp)
        | some (.c (.val v)) => bif notBool v then execOps T E nt all rest (st.app o.dst skipAV) (⟨[], []⟩ :: fs) k kp else none
        | _ => none))) else none

def memB : Nat → List Nat → Bool
  | _, [] => false
  | n, x :: l => Nat.beq n x || memB n l
def disj (a b : List Nat) : Bool := a.all fun x => !memB x b
def waits (o : Oper) (l : List Nat) : Bool := o.after.any fun e => Region.binds .any e && memB e.on l
def indepB (ops : Array Oper) (x y : Oper) (fx fy : Foot) : Bool := x.apart ops y && disj fx.hw fy.hr && disj fy.hw fx.hr

/-- an operation x against all behind it (j: the next one's number; dep: x's own number, and those that wait for it, straight or not) -/
def freeOf (ops : Array Oper) (x : Oper) (fx : Foot) : List Nat → Nat → List Oper → List Foot → Bool
  | dep, j, y :: ys, fy :: fys => bif waits y dep then freeOf ops x fx (j :: dep) (j + 1) ys fys else indepB ops x y fx fy && freeOf ops x fx dep (j + 1) ys fys
  | _, _, [], [] => true
  | _, _, _, _ => false

def edgesBack (i : Nat) (o : Oper) : Bool := o.after.all fun e => !Region.binds .any e || Nat.blt e.on i

def orderOk (ops : Array Oper) : Nat → List Oper → List Foot → Bool
  | i, x :: xs, fx :: fxs => edgesBack i x && freeOf ops x fx [i] (i + 1) xs fxs && orderOk ops (i + 1) xs fxs
  | _, [], [] => true
  | _, _, _ => false

def noSel (ops : List Oper) : Bool := ops.all fun o => match o.op with | .select .. => false | _ => true

/-- every call in it may stand where the order is open -/
def freeOps (E : Nat → Option Ent) (ops : List Oper) : Bool := ops.all fun o => match o.op with
  | .call { callee := .value (.func f), .. } => (match E f with | some e => e.free | none => false)
  | .call { callee := .value _, .. } => false
  | _ => true

/-- these (the first of them has the number j) wait for the ones in dep, straight or not -/
def waitAll : List Nat → Nat → List Oper → Bool
  | _, _, [] => true
  | dep, j, y :: ys => waits y dep && edgesBack j y && waitAll (j :: dep) (j + 1) ys

/-- the last operation of these panicked: may it, where the order is open? -/
def panOk (ops : Array Oper) (fs : List Foot) (rest : List Oper) : Bool :=
  orderOk ops 0 (ops.toList.take fs.length) fs && waitAll [fs.length - 1] fs.length rest
/-- what these have written -/
def writesOf : List Foot → List Nat
  | [] => []
  | f :: r => f.hw ++ writesOf r
/-- these regions are given up -/
def killH (W : List Nat) (h : Nat → Option Reg) : Nat → Option Reg := fun r => bif memB r W then some .dead else h r

def dstsOf : List Oper → List Nat
  | [] => []
  | o :: r => (match o.dst with | some d => d :: dstsOf r | none => dstsOf r)
def forget (ops : List Oper) (env : Nat → Option AV) : Nat → Option AV := fun t => bif memB t (dstsOf ops) then none else env t

/-! ### Code -/
inductive AExit where
  | normal
  | exit (id : Nat)
  | ret
  | panic (t : Nat) (e : Int)

/-- What a piece of code (a loop, a cut) comes to. -/
structure LEnt where
  k : ∀ {ρ : Type}, St → (AExit → St → Option ρ) → Option ρ

inductive Ann where
  | none
  | seq (a b : Ann)
  | blk (a : Ann)
  | cut (e : LEnt)

def Ann.fst : Ann → Ann
  | .seq a _ => a
  | .blk a => a
  | _ => .none
def Ann.snd : Ann → Ann
  | .seq _ b => b
  | _ => .none
def Ann.cut? : Ann → Option LEnt
  | .cut e => some e
  | _ => Option.none

def exec (T : Tab) (E : Nat → Option Ent) (nt : Nat) {ρ : Type} : Code → Ann → (AExit → St → Option ρ) → St → Option ρ
  | .skip, _, κ, st => κ .normal st
  | .region _ ops draw, ann, κ, st => (match ann.cut? with
    | some e => e.k st κ
    | none => execOps T E nt ops ops.toList st [] (fun st' fs => bif !draw || (noSel ops.toList && freeOps E ops.toList && orderOk ops 0 ops.toList fs.reverse) then κ .normal st' else none)
        (fun t e st' rest fs => bif !draw then κ (.panic t e) st' else bif noSel ops.toList && freeOps E ops.toList && panOk ops fs.reverse rest then κ (.panic t e) { env := forget ops.toList st.env, heap := killH (writesOf fs.tail) st'.heap } else none))
  | .seq a b, ann, κ, st => (match ann.cut? with
    | some e => e.k st κ
    | none => exec T E nt a ann.fst (fun e s => match e with | .normal => exec T E nt b ann.snd κ s | .exit i => κ (.exit i) s | .ret => κ .ret s | .panic t v => κ (.panic t v) s) st)
  | .cond c a b, ann, κ, st => (match ann.cut? with
    | some e => e.k st κ
    | none => (match opd st c with
      | some (.c (.bool t)) => if t = true then exec T E nt a ann.fst κ st else exec T E nt b ann.snd κ st
      | _ => none))
  | .block id b, ann, κ, st => (match ann.cut? with
    | some e => e.k st κ
    | none => exec T E nt b ann.fst (fun e s => match e with | .exit i => bif Nat.beq i id then κ .normal s else κ (.exit i) s | .normal => κ .normal s | .ret => κ .ret s | .panic t v => κ (.panic t v) s) st)
  | .loop _, ann, κ, st => (match ann.cut? with
    | some e => e.k st κ
    | none => none)
  | .exit id, _, κ, st => κ (.exit id) st
  | .ret, _, κ, st => κ .ret st
  | _, _, _, _ => none

end Go.Abs
