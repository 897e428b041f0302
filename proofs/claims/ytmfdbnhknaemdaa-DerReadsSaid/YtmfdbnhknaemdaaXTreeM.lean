/- Trees: induction, how much, the one form in bytes, what is right. -/
import Derived.Test.YtmfdbnhknaemdaaDR12M
import Derived.Test.YtmfdbnhknaemdaaAbsDatM
import Derived.Test.YtmfdbnhknaemdaaPKit2M
set_option linter.unusedVariables false
set_option linter.unusedSimpArgs false
namespace Go.Abs

theorem Tree.eta (t : Tree) : Tree.node t.tag t.body t.kids = t := by cases t; rfl

theorem Tree.ind {p : Tree → Prop} (h : ∀ t, (∀ c ∈ t.kids, p c) → p t) : ∀ t, p t := by
  have key : ∀ n : Nat, ∀ t : Tree, t.rank < n → p t := by
    intro n
    induction n with
    | zero => intro t ht; omega
    | succ n ih =>
      intro t ht
      refine h t fun c hc => ih c ?_
      have := Tree.rank_kid hc
      omega
  intro t
  exact key (t.rank + 1) t (by omega)

mutual
def Tree.sz : Tree → Nat
  | .node _ b k => 1 + b.length + Tree.szs k
def Tree.szs : List Tree → Nat
  | [] => 0
  | t :: r => t.sz + Tree.szs r
end

/-- a length in bytes -/
def szB (n : Nat) : List Int :=
  if n < 128 then [(n : Int)] else if n < 256 then [129, (n : Int)] else if n < 65536 then [130, ((n / 256 : Nat) : Int), ((n % 256 : Nat) : Int)] else [131, ((n / 65536 : Nat) : Int), ((n / 256 % 256 : Nat) : Int), ((n % 256 : Nat) : Int)]

def bltT (t : Int) : Bool := t / 32 % 2 == 1

mutual
/-- the one form -/
def Tree.enc : Tree → List Int
  | .node t b k => t :: (szB (if bltT t then Tree.encs k else b).length ++ (if bltT t then Tree.encs k else b))
def Tree.encs : List Tree → List Int
  | [] => []
  | t :: r => t.enc ++ Tree.encs r
end

theorem Tree.enc_eq (t : Tree) : t.enc = t.tag :: (szB (if bltT t.tag then Tree.encs t.kids else t.body).length ++ (if bltT t.tag then Tree.encs t.kids else t.body)) := by cases t; rfl
theorem Tree.sz_eq (t : Tree) : t.sz = 1 + t.body.length + Tree.szs t.kids := by cases t; rfl

theorem Tree.szs_mem : ∀ {l : List Tree} {t : Tree}, t ∈ l → t.sz ≤ Tree.szs l := by
  intro l
  induction l with
  | nil => intro t h; simp at h
  | cons a l ih =>
    intro t h
    simp only [Tree.szs]
    rcases List.mem_cons.1 h with rfl | h
    · omega
    · have := ih h; omega
theorem Tree.sz_pos (t : Tree) : 1 ≤ t.sz := by rw [Tree.sz_eq]; omega
theorem Tree.szs_len : ∀ l : List Tree, l.length ≤ Tree.szs l := by
  intro l
  induction l with
  | nil => simp [Tree.szs]
  | cons a l ih => have := a.sz_pos; simp only [Tree.szs, List.length_cons]; omega

/-- what is wrong with an item (its depth: 17 less the fuel) -/
def lookL (f : Tree → Int) : List Tree → Int
  | [] => 0
  | t :: r => if f t = 0 then lookL f r else f t
def lookE : Nat → Tree → Int
  | 0, _ => 125
  | n + 1, t => if t.tag % 32 = 31 then 123 else if (bltT t.tag = true ∧ t.body ≠ []) ∨ (bltT t.tag = false ∧ t.kids ≠ []) then 127 else lookL (lookE n) t.kids

theorem TreeOk.tag {t : Tree} (h : TreeOk t) : 0 ≤ t.tag ∧ t.tag < 256 := match h with | .node h1 _ _ _ _ => h1
theorem TreeOk.kid {t c : Tree} (h : TreeOk t) (hc : c ∈ t.kids) : TreeOk c := match h with | .node _ _ _ _ h5 => h5 c hc
theorem TreeOk.byt {t : Tree} (h : TreeOk t) : ∀ y ∈ t.body, (Lit.int .u8 y).wf = true := match h with | .node _ h2 _ _ _ => h2
theorem TreeOk.len {t : Tree} (h : TreeOk t) : t.body.length ≤ 140737488351232 ∧ t.kids.length ≤ 2513169434843 := match h with
  | .node _ _ h3 h4 _ => by
    unfold reachBytes at h3 h4
    simp only [Tree.body, Tree.kids]
    omega
theorem kid_at {l : List Tree} {k : Nat} (h : k < l.length) : List.getD (α := Tree) l ((k : Nat) : Int).toNat (DT.dflt .item) = l[k] := by
  show List.getD (α := Tree) l k (Tree.node 0 [] []) = l[k]
  simp [List.getD_eq_getElem?_getD, h]

theorem okB1 {n : Nat} (h : n ≤ 200000000000000) : okBytes n 1 := by unfold okBytes; omega
theorem okB56 {n : Nat} (h : n ≤ 3000000000000) : okBytes n 56 := by unfold okBytes; omega
theorem okB8 {n : Nat} (h : n ≤ 3000000000000) : okBytes n 8 := by unfold okBytes; omega

theorem blt_tag {x : Int} (h1 : 0 ≤ x) (h2 : x < 256) : (bitsAnd .u8 x 32 != 0) = bltT x := by
  have : ∀ n : Fin 256, (bitsAnd .u8 ((n.val : Nat) : Int) 32 != 0) = bltT ((n.val : Nat) : Int) := by decide +kernel
  have h := this ⟨x.toNat, by omega⟩
  have e : ((x.toNat : Nat) : Int) = x := by omega
  simp only [e] at h
  exact h
theorem blt_ref {x : Int} (h1 : 0 ≤ x) (h2 : x < 256) : ((IntKind.u8.wrap (x.tdiv 32)).tmod 2 == 1) = bltT x := by
  rw [tdivP h1, wu8 (by omega) (by omega), tmodP (by omega)]; rfl
theorem none_tag {x : Int} (h1 : 0 ≤ x) (h2 : x < 256) : (bitsAnd .u8 x 31 == 31) = decide (x % 32 = 31) := by
  have : ∀ n : Fin 256, (bitsAnd .u8 ((n.val : Nat) : Int) 31 == 31) = decide (((n.val : Nat) : Int) % 32 = 31) := by decide +kernel
  have h := this ⟨x.toNat, by omega⟩
  have e : ((x.toNat : Nat) : Int) = x := by omega
  simp only [e] at h
  exact h
theorem none_ref {x : Int} (h1 : 0 ≤ x) : (x.tmod 32 == 31) = decide (x % 32 = 31) := by
  rw [tmodP h1]; by_cases h : x % 32 = 31 <;> simp [h]

/-! ### how much an item is -/
end Go.Abs
