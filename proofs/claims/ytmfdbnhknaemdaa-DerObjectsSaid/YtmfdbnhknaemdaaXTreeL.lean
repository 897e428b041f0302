/- Trees: induction, how much, the one form in bytes, what is right. -/
import Derived.Test.YtmfdbnhknaemdaaD12L
import Derived.Test.YtmfdbnhknaemdaaAbsDatL
import Derived.Test.YtmfdbnhknaemdaaPKit2L
set_option linter.unusedVariables false
set_option linter.unusedSimpArgs false
namespace Go.Abs

theorem Tree.eta (t : Tree) : Tree.node t.tag t.body t.kids = t := by cases t; rfl

theorem Tree.ind {p : Tree → Prop} (h : ∀ t, (∀ c ∈ t.kids, p c) → p t) : ∀ t, p t := by
  have key : ∀ n : Nat, ∀ t : Tree, t.rank < n → p t := by
    intro n
    induction n with
    | zero => intro t ht; omega
    | succ n ih =>
      intro t ht
      refine h t fun c hc => ih c ?_
      have := Tree.rank_kid hc
      omega
  intro t
  exact key (t.rank + 1) t (by omega)

mutual
def Tree.sz : Tree → Nat
  | .node _ b k => 1 + b.length + Tree.szs k
def Tree.szs : List Tree → Nat
  | [] => 0
  | t :: r => t.sz + Tree.szs r
end

/-- a length in bytes -/
def szB (n : Nat) : List Int :=
  if n < 128 then [(n : Int)] else if n < 256 then [129, (n : Int)] else if n < 65536 then [130, ((n / 256 : Nat) : Int), ((n % 256 : Nat) : Int)] else [131, ((n / 65536 : Nat) : Int), ((n / 256 % 256 : Nat) : Int), ((n % 256 : Nat) : Int)]

def bltT (t : Int) : Bool := t / 32 % 2 == 1

mutual
/-- the one form -/
def Tree.enc : Tree → List Int
  | .node t b k => t :: (szB (if bltT t then Tree.encs k else b).length ++ (if bltT t then Tree.encs k else b))
def Tree.encs : List Tree → List Int
  | [] => []
  | t :: r => t.enc ++ Tree.encs r
end

theorem Tree.enc_eq (t : Tree) : t.enc = t.tag :: (szB (if bltT t.tag then Tree.encs t.kids else t.body).length ++ (if bltT t.tag then Tree.encs t.kids else t.body)) := by cases t; rfl
theorem Tree.sz_eq (t : Tree) : t.sz = 1 + t.body.length + Tree.szs t.kids := by cases t; rfl

theorem Tree.szs_mem : ∀ {l : List Tree} {t : Tree}, t ∈ l → t.sz ≤ Tree.szs l := by
  intro l
  induction l with
  | nil => intro t h; simp at h
  | cons a l ih =>
    intro t h
    simp only [Tree.szs]
    rcases List.mem_cons.1 h with rfl | h
    · omega
    · have := ih h; omega
theorem Tree.sz_pos (t : Tree) : 1 ≤ t.sz := by rw [Tree.sz_eq]; omega
theorem Tree.szs_len : ∀ l : List Tree, l.length ≤ Tree.szs l := by
  intro l
  induction l with
  | nil => simp [Tree.szs]
  | cons a l ih => have := a.sz_pos; simp only [Tree.szs, List.length_cons]; omega

/-- what is wrong with an item (its depth: 17 less the fuel) -/
def lookL (f : Tree → Int) : List Tree → Int
  | [] => 0
  | t :: r => if f t = 0 then lookL f r else f t
def lookE : Nat → Tree → Int
  | 0, _ => 125
  | n + 1, t => if t.tag % 32 = 31 then 123 else if (bltT t.tag = true ∧ t.body ≠ []) ∨ (bltT t.tag = false ∧ t.kids ≠ []) then 127 else lookL (lookE n) t.kids

theorem TreeOk.tag {t : Tree} (h : TreeOk t) : 0 ≤ t.tag ∧ t.tag < 256 := match h with | .node h1 _ _ _ _ => h1
theorem TreeOk.kid {t c : Tree} (h : TreeOk t) (hc : c ∈ t.kids) : TreeOk c := match h with | .node _ _ _ _ h5 => h5 c hc
theorem TreeOk.byt {t : Tree} (h : TreeOk t) : ∀ y ∈ t.body, (Lit.int .u8 y).wf = true := match h with | .node _ h2 _ _ _ => h2
theorem TreeOk.len {t : Tree} (h : TreeOk t) : t.body.length ≤ 140737488351232 ∧ t.kids.length ≤ 2513169434843 := match h with
  | .node _ _ h3 h4 _ => by
    unfold reachBytes at h3 h4
    simp only [Tree.body, Tree.kids]
    omega
theorem kid_at {l : List Tree} {k : Nat} (h : k < l.length) : List.getD (α := Tree) l ((k : Nat) : Int).toNat (DT.dflt .item) = l[k] := by
  show List.getD (α := Tree) l k (Tree.node 0 [] []) = l[k]
  simp [List.getD_eq_getElem?_getD, h]

theorem okB1 {n : Nat} (h : n ≤ 200000000000000) : okBytes n 1 := by unfold okBytes; omega
theorem okB56 {n : Nat} (h : n ≤ 3000000000000) : okBytes n 56 := by unfold okBytes; omega
theorem okB8 {n : Nat} (h : n ≤ 3000000000000) : okBytes n 8 := by unfold okBytes; omega

theorem blt_tag {x : Int} (h1 : 0 ≤ x) (h2 : x < 256) : (bitsAnd .u8 x 32 != 0) = bltT x := by
  have : ∀ n : Fin 256, (bitsAnd .u8 ((n.val : Nat) : Int) 32 != 0) = bltT ((n.val : Nat) : Int) := by decide +kernel
  have h := this ⟨x.toNat, by omega⟩
  have e : ((x.toNat : Nat) : Int) = x := by omega
  simp only [e] at h
  exact h
theorem blt_ref {x : Int} (h1 : 0 ≤ x) (h2 : x < 256) : ((IntKind.u8.wrap (x.tdiv 32)).tmod 2 == 1) = bltT x := by
  rw [tdivP h1, wu8 (by omega) (by omega), tmodP (by omega)]; rfl
theorem none_tag {x : Int} (h1 : 0 ≤ x) (h2 : x < 256) : (bitsAnd .u8 x 31 == 31) = decide (x % 32 = 31) := by
  have : ∀ n : Fin 256, (bitsAnd .u8 ((n.val : Nat) : Int) 31 == 31) = decide (((n.val : Nat) : Int) % 32 = 31) := by decide +kernel
  have h := this ⟨x.toNat, by omega⟩
  have e : ((x.toNat : Nat) : Int) = x := by omega
  simp only [e] at h
  exact h
theorem none_ref {x : Int} (h1 : 0 ≤ x) : (x.tmod 32 == 31) = decide (x % 32 = 31) := by
  rw [tmodP h1]; by_cases h : x % 32 = 31 <;> simp [h]

/-! ### how much an item is -/
theorem count_loop {G : Tree × Int → Option Int} {t : Tree} (ht : TreeOk t) {m : Int} (hm : m ≤ 65536)
    (hG : ∀ c ∈ t.kids, ∀ q : Int, 0 ≤ q → q ≤ 65536 → Ret (α := Int) (G (c, q)) fun r => 0 ≤ r ∧ r ≤ q + 140737488351300 ∧ ((c.sz : Int) ≤ q → r = c.sz) ∧ (q < (c.sz : Int) → q < r)) :
    ∀ (k : Nat) (n : Int), k ≤ t.kids.length → 0 ≤ n → n ≤ m + 140737488351300 → Ret (α := Int) (loopO (stepd42_0 G) (m, n, (k : Int), (t.tag, t.body, t.kids))) fun r => 0 ≤ r ∧ r ≤ m + 140737488351300 ∧ (n + (Tree.szs (t.kids.drop k) : Int) ≤ m → r = n + Tree.szs (t.kids.drop k)) ∧ (m < n + (Tree.szs (t.kids.drop k) : Int) → m < r) := by
  have key : ∀ (j k : Nat) (n : Int), j = t.kids.length - k → k ≤ t.kids.length → 0 ≤ n → n ≤ m + 140737488351300 → Ret (α := Int) (loopO (stepd42_0 G) (m, n, (k : Int), (t.tag, t.body, t.kids))) fun r => 0 ≤ r ∧ r ≤ m + 140737488351300 ∧ (n + (Tree.szs (t.kids.drop k) : Int) ≤ m → r = n + Tree.szs (t.kids.drop k)) ∧ (m < n + (Tree.szs (t.kids.drop k) : Int) → m < r) := by
    intro j
    induction j with
    | zero =>
      intro k n hj hk h0 hn
      have e : k = t.kids.length := by omega
      subst e
      refine ⟨n, ?_, h0, hn, ?_⟩
      · rw [loopO_eq]
        simp only [stepd42_0, Int.lt_irrefl, decide_false, Bool.false_eq_true, if_false]
      · simp only [List.drop_length, Tree.szs]
        omega
    | succ j ih =>
      intro k n hj hk h0 hn
      have hkl : k < t.kids.length := by omega
      have hlen := ht.len.2
      rw [loopO_eq]
      have d1 : decide (((k : Nat) : Int) < (t.kids.length : Int)) = true := decide_eq_true (by omega)
      simp only [stepd42_0, d1, if_true]
      have hdrop : t.kids.drop k = t.kids[k] :: t.kids.drop (k + 1) := List.drop_eq_getElem_cons hkl
      have hget := kid_at hkl
      by_cases hnm : n ≤ m
      · have d2 : decide (n ≤ m) = true := decide_eq_true hnm
        simp only [d2, if_true]
        rw [if_pos (by omega)]
        rw [wi64 (by omega) (by omega), hget, Tree.eta]
        obtain ⟨r, hr, h1, h2, h3, h3'⟩ := hG t.kids[k] (List.getElem_mem hkl) (m - n) (by omega) (by omega)
        rw [hr]
        simp only [Option.bind_some]
        rw [wi64 (by omega) (by omega), wi64 (by omega) (by omega)]
        have ek : ((k : Nat) : Int) + 1 = ((k + 1 : Nat) : Int) := by omega
        rw [ek]
        obtain ⟨r', hr', h4, h5, h6, h7⟩ := ih (k + 1) (n + r) (by omega) (by omega) (by omega) (by omega)
        have e : Tree.szs (t.kids.drop k) = t.kids[k].sz + Tree.szs (t.kids.drop (k + 1)) := by rw [hdrop]; rfl
        refine ⟨r', hr', h4, h5, ?_, ?_⟩ <;> intro h8 <;> by_cases hs : (t.kids[k].sz : Int) ≤ m - n
        · have := h3 hs; omega
        · omega
        · have := h3 hs; omega
        · have := h3' (by omega); omega
      · have d2 : decide (n ≤ m) = false := decide_eq_false hnm
        simp only [d2, Bool.false_eq_true, if_false]
        exact ⟨n, rfl, h0, hn, by omega, by omega⟩
  exact fun k n hk h0 hn => key _ k n rfl hk h0 hn

theorem count_eq : ∀ (f : Nat) (t : Tree), TreeOk t → t.rank < f → ∀ q : Int, 0 ≤ q → q ≤ 65536 → Ret (α := Int) (FRd42 f (t, q)) fun r => 0 ≤ r ∧ r ≤ q + 140737488351300 ∧ ((t.sz : Int) ≤ q → r = t.sz) ∧ (q < (t.sz : Int) → q < r) := by
  intro f
  induction f with
  | zero => intro t _ h; omega
  | succ f ih =>
    intro t ht hr q h0 hq
    have hl := ht.len
    show Ret (Bd42 (FRd42 f) (t, q)) _
    unfold Bd42
    simp only []
    rw [wi64 (by omega) (by omega)]
    refine Ret.bind (count_loop ht hq (fun c hc q' h1 h2 => ih c (ht.kid hc) (by have := Tree.rank_kid hc; omega) q' h1 h2) 0 _ (Nat.zero_le _) (by omega) (by omega)) ?_
    rintro r ⟨h1, h2, h3, h4⟩
    rw [List.drop_zero] at h3 h4
    have e := t.sz_eq
    exact Ret.some ⟨h1, h2, fun h => by have := h3 (by omega); omega, fun h => by have := h4 (by omega); omega⟩

/-- Great -/
theorem great_eq {t : Tree} (ht : TreeOk t) : Fd16 t = some (decide (65536 < t.sz)) := by
  simp only [Fd16]
  rw [show Tree.node t.tag t.body t.kids = t from t.eta]
  obtain ⟨r, hr, h1, h2, h3, h4⟩ := count_eq (t.rank + 1) t ht (by omega) 65536 (by omega) (by omega)
  have e : Fd42 (t, 65536) = some r := hr
  rw [e]
  show some (decide ((r : Int) > 65536)) = some (decide (65536 < t.sz))
  congr 1
  rw [decide_eq_decide]
  by_cases hs : 65536 < t.sz
  · have := h4 (by omega); omega
  · have := h3 (by omega); omega
end Go.Abs
