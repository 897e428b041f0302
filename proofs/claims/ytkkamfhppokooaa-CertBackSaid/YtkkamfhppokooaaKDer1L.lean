import Derived.Test.YtkkamfhppokooaaKText2L
import Derived.Test.YtkkamfhppokooaaAbsDatL
import Derived.Test.YtkkamfhppokooaaPKit2L
/- Trees: induction, how much, the one form in bytes, what is right. -/
set_option linter.unusedVariables false
set_option linter.unusedSimpArgs false
namespace Go.Abs

theorem Tree.eta (t : Tree) : Tree.node t.tag t.body t.kids = t := by cases t; rfl

theorem Tree.ind {p : Tree → Prop} (h : ∀ t, (∀ c ∈ t.kids, p c) → p t) : ∀ t, p t := by
  have key : ∀ n : Nat, ∀ t : Tree, t.rank < n → p t := by
    intro n
    induction n with
    | zero => intro t ht; omega
    | succ n ih =>
      intro t ht
      refine h t fun c hc => ih c ?_
      have := Tree.rank_kid hc
      omega
  intro t
  exact key (t.rank + 1) t (by omega)

mutual
def Tree.sz : Tree → Nat
  | .node _ b k => 1 + b.length + Tree.szs k
def Tree.szs : List Tree → Nat
  | [] => 0
  | t :: r => t.sz + Tree.szs r
end

/-- a length in bytes -/
def szB (n : Nat) : List Int :=
  if n < 128 then [(n : Int)] else if n < 256 then [129, (n : Int)] else if n < 65536 then [130, ((n / 256 : Nat) : Int), ((n % 256 : Nat) : Int)] else [131, ((n / 65536 : Nat) : Int), ((n / 256 % 256 : Nat) : Int), ((n % 256 : Nat) : Int)]

def bltT (t : Int) : Bool := t / 32 % 2 == 1

mutual
/-- the one form -/
def Tree.enc : Tree → List Int
  | .node t b k => t :: (szB (if bltT t then Tree.encs k else b).length ++ (if bltT t then Tree.encs k else b))
def Tree.encs : List Tree → List Int
  | [] => []
  | t :: r => t.enc ++ Tree.encs r
end

theorem Tree.enc_eq (t : Tree) : t.enc = t.tag :: (szB (if bltT t.tag then Tree.encs t.kids else t.body).length ++ (if bltT t.tag then Tree.encs t.kids else t.body)) := by cases t; rfl
theorem Tree.sz_eq (t : Tree) : t.sz = 1 + t.body.length + Tree.szs t.kids := by cases t; rfl

theorem Tree.szs_mem : ∀ {l : List Tree} {t : Tree}, t ∈ l → t.sz ≤ Tree.szs l := by
  intro l
  induction l with
  | nil => intro t h; simp at h
  | cons a l ih =>
    intro t h
    simp only [Tree.szs]
    rcases List.mem_cons.1 h with rfl | h
    · omega
    · have := ih h; omega
theorem Tree.sz_pos (t : Tree) : 1 ≤ t.sz := by rw [Tree.sz_eq]; omega
theorem Tree.szs_len : ∀ l : List Tree, l.length ≤ Tree.szs l := by
  intro l
  induction l with
  | nil => simp [Tree.szs]
  | cons a l ih => have := a.sz_pos; simp only [Tree.szs, List.length_cons]; omega

/-- what is wrong with an item (its depth: 17 less the fuel) -/
def lookL (f : Tree → Int) : List Tree → Int
  | [] => 0
  | t :: r => if f t = 0 then lookL f r else f t
def lookE : Nat → Tree → Int
  | 0, _ => 125
  | n + 1, t => if t.tag % 32 = 31 then 123 else if (bltT t.tag = true ∧ t.body ≠ []) ∨ (bltT t.tag = false ∧ t.kids ≠ []) then 127 else lookL (lookE n) t.kids

theorem TreeOk.tag {t : Tree} (h : TreeOk t) : 0 ≤ t.tag ∧ t.tag < 256 := match h with | .node h1 _ _ _ _ => h1
theorem TreeOk.kid {t c : Tree} (h : TreeOk t) (hc : c ∈ t.kids) : TreeOk c := match h with | .node _ _ _ _ h5 => h5 c hc
theorem TreeOk.byt {t : Tree} (h : TreeOk t) : ∀ y ∈ t.body, (Lit.int .u8 y).wf = true := match h with | .node _ h2 _ _ _ => h2
theorem TreeOk.len {t : Tree} (h : TreeOk t) : t.body.length ≤ 140737488351232 ∧ t.kids.length ≤ 2513169434843 := match h with
  | .node _ _ h3 h4 _ => by
    unfold reachBytes at h3 h4
    simp only [Tree.body, Tree.kids]
    omega
theorem kid_at {l : List Tree} {k : Nat} (h : k < l.length) : List.getD (α := Tree) l ((k : Nat) : Int).toNat (DT.dflt .item) = l[k] := by
  show List.getD (α := Tree) l k (Tree.node 0 [] []) = l[k]
  simp [List.getD_eq_getElem?_getD, h]

theorem okB1 {n : Nat} (h : n ≤ 200000000000000) : okBytes n 1 := by unfold okBytes; omega
theorem okB56 {n : Nat} (h : n ≤ 3000000000000) : okBytes n 56 := by unfold okBytes; omega
theorem okB8 {n : Nat} (h : n ≤ 3000000000000) : okBytes n 8 := by unfold okBytes; omega

theorem blt_tag {x : Int} (h1 : 0 ≤ x) (h2 : x < 256) : (bitsAnd .u8 x 32 != 0) = bltT x := by
  have : ∀ n : Fin 256, (bitsAnd .u8 ((n.val : Nat) : Int) 32 != 0) = bltT ((n.val : Nat) : Int) := by decide +kernel
  have h := this ⟨x.toNat, by omega⟩
  have e : ((x.toNat : Nat) : Int) = x := by omega
  simp only [e] at h
  exact h
theorem blt_ref {x : Int} (h1 : 0 ≤ x) (h2 : x < 256) : ((IntKind.u8.wrap (x.tdiv 32)).tmod 2 == 1) = bltT x := by
  rw [tdivP h1, wu8 (by omega) (by omega), tmodP (by omega)]; rfl
theorem none_tag {x : Int} (h1 : 0 ≤ x) (h2 : x < 256) : (bitsAnd .u8 x 31 == 31) = decide (x % 32 = 31) := by
  have : ∀ n : Fin 256, (bitsAnd .u8 ((n.val : Nat) : Int) 31 == 31) = decide (((n.val : Nat) : Int) % 32 = 31) := by decide +kernel
  have h := this ⟨x.toNat, by omega⟩
  have e : ((x.toNat : Nat) : Int) = x := by omega
  simp only [e] at h
  exact h
theorem none_ref {x : Int} (h1 : 0 ≤ x) : (x.tmod 32 == 31) = decide (x % 32 = 31) := by
  rw [tmodP h1]; by_cases h : x % 32 = 31 <;> simp [h]

/-! ### how much an item is -/
end Go.Abs

/- Reading an item: what der.Decode answers. -/
set_option linter.unusedVariables false
set_option linter.unusedSimpArgs false
namespace Go.Abs

def By (l : List Int) : Prop := ∀ y ∈ l, 0 ≤ y ∧ y < 256
theorem By.of {l : List Int} (h : ∀ y ∈ l, (Lit.int .u8 y).wf = true) : By l := fun y hy => by have := Go.bounds_u8 (h y hy); omega
theorem By.to {l : List Int} (h : By l) : ∀ y ∈ l, (Lit.int .u8 y).wf = true := fun y hy => by
  have := h y hy
  have e1 : IntKind.u8.min = 0 := rfl
  have e2 : IntKind.u8.max = 255 := rfl
  simp only [Lit.wf, e1, e2, Bool.and_eq_true, decide_eq_true_eq]
  omega
theorem By.cons {x : Int} {l : List Int} : By (x :: l) ↔ (0 ≤ x ∧ x < 256) ∧ By l := by
  constructor
  · intro h; exact ⟨h x (by simp), fun y hy => h y (by simp [hy])⟩
  · rintro ⟨h1, h2⟩ y hy
    rcases List.mem_cons.1 hy with rfl | hy
    · exact h1
    · exact h2 y hy
theorem By.append {l r : List Int} : By (l ++ r) ↔ By l ∧ By r := by
  constructor
  · intro h; exact ⟨fun y hy => h y (by simp [hy]), fun y hy => h y (by simp [hy])⟩
  · rintro ⟨h1, h2⟩ y hy
    rcases List.mem_append.1 hy with hy | hy
    · exact h1 y hy
    · exact h2 y hy
theorem By.take {l : List Int} (h : By l) (n : Nat) : By (l.take n) := fun y hy => h y (List.mem_of_mem_take hy)
theorem By.drop {l : List Int} (h : By l) (n : Nat) : By (l.drop n) := fun y hy => h y (List.mem_of_mem_drop hy)
theorem By.nil : By [] := fun y hy => by simp at hy

def num : List Int → Int := List.foldl (fun a x => 256 * a + x) 0

/-- a length: the number and the rest, or what is wrong -/
def rdLen : List Int → (Int × List Int) ⊕ Int
  | [] => .inr 122
  | c :: s => if c < 128 then .inl (c, s) else if c = 128 ∨ 131 < c then .inr 124 else if s.length < (c - 128).toNat then .inr 122 else
    if s.getD 0 0 = 0 ∨ num (s.take (c - 128).toNat) < 128 then .inr 124 else .inl (num (s.take (c - 128).toNat), s.drop (c - 128).toNat)

theorem rdLen_cons (c : Int) (s : List Int) : rdLen (c :: s) = if c < 128 then .inl (c, s) else if c = 128 ∨ 131 < c then .inr 124 else if s.length < (c - 128).toNat then .inr 122 else
    if s.getD 0 0 = 0 ∨ num (s.take (c - 128).toNat) < 128 then .inr 124 else .inl (num (s.take (c - 128).toNat), s.drop (c - 128).toNat) := rfl

def rdKs (g : List Int → (Tree × List Int) ⊕ Int) : Nat → List Int → List Tree ⊕ Int
  | _, [] => .inl []
  | 0, _ :: _ => .inr 1
  | m + 1, x :: s => (match g (x :: s) with
    | .inr e => .inr e
    | .inl (t, r) => (match rdKs g m r with | .inl ks => .inl (t :: ks) | .inr e => .inr e))

/-- an item and the rest, or what is wrong -/
def rdI : Nat → List Int → (Tree × List Int) ⊕ Int
  | 0, _ => .inr 125
  | _ + 1, [] => .inr 122
  | f + 1, t :: s => if t % 32 = 31 then .inr 123 else (match rdLen s with
    | .inr e => .inr e
    | .inl (n, r) => if (r.length : Int) < n then .inr 122 else
      if bltT t then (match rdKs (rdI f) n.toNat (r.take n.toNat) with | .inl ks => .inl (.node t [] ks, r.drop n.toNat) | .inr e => .inr e)
      else .inl (.node t (r.take n.toNat) [], r.drop n.toNat))

theorem rdI_cons (f : Nat) (t : Int) (s : List Int) : rdI (f + 1) (t :: s) = if t % 32 = 31 then .inr 123 else (match rdLen s with
    | .inr e => .inr e
    | .inl (n, r) => if (r.length : Int) < n then .inr 122 else
      if bltT t then (match rdKs (rdI f) n.toNat (r.take n.toNat) with | .inl ks => .inl (.node t [] ks, r.drop n.toNat) | .inr e => .inr e)
      else .inl (.node t (r.take n.toNat) [], r.drop n.toNat)) := rfl
theorem rdKs_cons (g : List Int → (Tree × List Int) ⊕ Int) (m : Nat) (x : Int) (s : List Int) : rdKs g (m + 1) (x :: s) = (match g (x :: s) with
    | .inr e => .inr e
    | .inl (t, r) => (match rdKs g m r with | .inl ks => .inl (t :: ks) | .inr e => .inr e)) := rfl

/-! ### the code's -/
theorem take_ge {s : List Int} {n : Nat} (h : n ≤ s.length) : (s.take n).length = n := by simp; omega

theorem bitsOr8 {a b : Int} (h1 : 0 ≤ a) (h2 : a < 16777216) (h3 : 0 ≤ b) (h4 : b < 256) : bitsOr .i64 (shlI .i64 a 8) (IntKind.i64.wrap b) = 256 * a + b := by
  have e1 : shlI .i64 a 8 = 256 * a := by
    unfold shlI
    rw [show min (8 : Int).toNat IntKind.i64.bits = 8 from rfl, wi64 (by omega) (by omega)]; omega
  rw [e1, wi64 (by omega) (by omega)]
  unfold bitsOr
  have e2 : (BitVec.ofInt IntKind.i64.bits (256 * a) ||| BitVec.ofInt IntKind.i64.bits b).toNat = (256 * a + b).toNat := by
    rw [BitVec.toNat_or, BitVec.toNat_ofInt, BitVec.toNat_ofInt]
    have p : ((2 ^ IntKind.i64.bits : Nat) : Int) = 18446744073709551616 := rfl
    rw [p]
    have q1 : (256 * a % 18446744073709551616).toNat = 2 ^ 8 * a.toNat := by omega
    have q2 : (b % 18446744073709551616).toNat = b.toNat := by omega
    rw [q1, q2, ← Nat.two_pow_add_eq_or_of_lt (by omega : b.toNat < 2 ^ 8)]
    omega
  rw [e2]
  have : (((256 * a + b).toNat : Nat) : Int) = 256 * a + b := by omega
  rw [this, wi64 (by omega) (by omega)]

theorem len_loop {s r : List Int} (hs : By s) (hl : s.length ≤ 3) : loopO stepc98_0 (0, s, s, (s.length : Int), 0, r) = some (num s, s, r) := by
  match s, hs, hl with
  | [], _, _ => rw [loopO_eq]; rfl
  | [a], hs, _ =>
    have ha := hs a (by simp)
    rw [loopO_eq]
    have e1 : stepc98_0 (0, [a], [a], (([a] : List Int).length : Int), 0, r) = some (.inl (bitsOr .i64 (shlI .i64 0 8) (IntKind.i64.wrap a), [a], [a], 1, 1, r)) := rfl
    rw [e1, bitsOr8 (by omega) (by omega) ha.1 ha.2]
    simp only []
    rw [loopO_eq]
    have e2 : ∀ x : Int, stepc98_0 (x, [a], [a], 1, 1, r) = some (.inr (x, [a], r)) := fun _ => rfl
    rw [e2]
    rfl
  | [a, b], hs, _ =>
    have ha := hs a (by simp)
    have hb := hs b (by simp)
    rw [loopO_eq]
    have e1 : stepc98_0 (0, [a, b], [a, b], (([a, b] : List Int).length : Int), 0, r) = some (.inl (bitsOr .i64 (shlI .i64 0 8) (IntKind.i64.wrap a), [a, b], [a, b], 2, 1, r)) := rfl
    rw [e1, bitsOr8 (by omega) (by omega) ha.1 ha.2]
    simp only []
    rw [loopO_eq]
    have e2 : ∀ x : Int, stepc98_0 (x, [a, b], [a, b], 2, 1, r) = some (.inl (bitsOr .i64 (shlI .i64 x 8) (IntKind.i64.wrap b), [a, b], [a, b], 2, 2, r)) := fun _ => rfl
    rw [e2, bitsOr8 (by omega) (by omega) hb.1 hb.2]
    simp only []
    rw [loopO_eq]
    have e3 : ∀ x : Int, stepc98_0 (x, [a, b], [a, b], 2, 2, r) = some (.inr (x, [a, b], r)) := fun _ => rfl
    rw [e3]
    rfl
  | [a, b, c], hs, _ =>
    have ha := hs a (by simp)
    have hb := hs b (by simp)
    have hc := hs c (by simp)
    rw [loopO_eq]
    have e1 : stepc98_0 (0, [a, b, c], [a, b, c], (([a, b, c] : List Int).length : Int), 0, r) = some (.inl (bitsOr .i64 (shlI .i64 0 8) (IntKind.i64.wrap a), [a, b, c], [a, b, c], 3, 1, r)) := rfl
    rw [e1, bitsOr8 (by omega) (by omega) ha.1 ha.2]
    simp only []
    rw [loopO_eq]
    have e2 : ∀ x : Int, stepc98_0 (x, [a, b, c], [a, b, c], 3, 1, r) = some (.inl (bitsOr .i64 (shlI .i64 x 8) (IntKind.i64.wrap b), [a, b, c], [a, b, c], 3, 2, r)) := fun _ => rfl
    rw [e2, bitsOr8 (by omega) (by omega) hb.1 hb.2]
    simp only []
    rw [loopO_eq]
    have e3 : ∀ x : Int, stepc98_0 (x, [a, b, c], [a, b, c], 3, 2, r) = some (.inl (bitsOr .i64 (shlI .i64 x 8) (IntKind.i64.wrap c), [a, b, c], [a, b, c], 3, 3, r)) := fun _ => rfl
    rw [e3, bitsOr8 (by omega) (by omega) hc.1 hc.2]
    simp only []
    rw [loopO_eq]
    have e4 : ∀ x : Int, stepc98_0 (x, [a, b, c], [a, b, c], 3, 3, r) = some (.inr (x, [a, b, c], r)) := fun _ => rfl
    rw [e4]
    rfl
  | a :: b :: c :: d :: l, _, hl => simp at hl

def sw {α : Type} : (Int × α) ⊕ Int → (Int × Unit) ⊕ (Int × α)
  | .inl x => .inr x
  | .inr e => .inl (e, ())

theorem take_eq {s : List Int} : Fc96 s = some (match s with | [] => .inl (122, ()) | c :: r => .inr (c, r)) := by
  cases s with
  | nil => rfl
  | cons c r =>
    simp only [Fc96]
    have d1 : (((c :: r).length : Int) == 0) = false := by simp; omega
    simp only [d1, Bool.false_eq_true, if_false]
    rw [if_pos (by simp only [List.length_cons]; omega), if_pos (by simp only [List.length_cons]; omega)]
    rfl

theorem cut_eq {s : List Int} {n : Int} (hn : 0 ≤ n) : Fc97 (s, n) = some (if (s.length : Int) < n then .inl (122, ()) else .inr (s.take n.toNat, s.drop n.toNat)) := by
  simp only [Fc97]
  by_cases h : (s.length : Int) < n
  · have d1 : decide (n > (s.length : Int)) = true := decide_eq_true (by omega)
    simp only [d1, if_true]
    rw [if_pos h]
    rfl
  · have d1 : decide (n > (s.length : Int)) = false := decide_eq_false (by omega)
    simp only [d1, Bool.false_eq_true, if_false]
    rw [if_neg h]
    simp only [if_pos (show 0 ≤ n ∧ n ≤ (s.length : Int) from ⟨hn, by omega⟩)]

theorem and127 {c : Int} (h1 : 128 ≤ c) (h2 : c < 132) : IntKind.i64.wrap (bitsAnd .u8 c 127) = c - 128 := by
  rcases (by omega : c = 128 ∨ c = 129 ∨ c = 130 ∨ c = 131) with rfl | rfl | rfl | rfl <;> decide

theorem len_eq {s : List Int} (hs : By s) : Fc98 s = some (sw (rdLen s)) := by
  simp only [Fc98, take_eq]
  cases s with
  | nil => rfl
  | cons c s =>
    obtain ⟨hc, hs⟩ := By.cons.1 hs
    simp only [Option.bind_some]
    rw [rdLen_cons]
    by_cases h1 : c < 128
    · rw [if_pos (decide_eq_true h1), if_pos h1, wi64 (by omega) (by omega)]; rfl
    · rw [if_neg (by simpa using h1), if_neg h1]
      by_cases h2 : c = 128
      · subst h2; rfl
      · have d2 : (c == 128) = false := by simpa using h2
        rw [if_pos d2]
        by_cases h3 : 131 < c
        · rw [if_pos (decide_eq_true h3), if_pos (.inr h3)]; rfl
        · rw [if_neg (by simpa using h3), if_neg (by omega), and127 (by omega) (by omega), cut_eq (by omega)]
          by_cases h4 : (s.length : Int) < c - 128
          · rw [if_pos h4, if_pos (by omega)]; rfl
          · rw [if_neg h4, if_neg (by omega)]
            simp only [Option.bind_some]
            have hlen : (s.take (c - 128).toNat).length = (c - 128).toNat := take_ge (by omega)
            rw [len_loop (hs.take _) (by rw [hlen]; omega)]
            simp only [Option.bind_some]
            rw [if_pos ⟨by omega, by rw [hlen]; omega⟩]
            have h0 : (s.take (c - 128).toNat).getD 0 0 = s.getD 0 0 := by
              cases s with
              | nil => simp at h4; omega
              | cons a s =>
                have : (c - 128).toNat = ((c - 128).toNat - 1) + 1 := by omega
                rw [this]; rfl
            rw [h0]
            by_cases h5 : s.getD 0 0 = 0
            · have d5 : (s.getD 0 0 == 0) = true := by simpa using h5
              rw [if_neg (by rw [d5]; decide), if_pos (.inl h5)]; rfl
            · have d5 : (s.getD 0 0 == 0) = false := by simpa using h5
              rw [if_pos d5]
              by_cases h6 : num (s.take (c - 128).toNat) < 128
              · rw [if_pos (decide_eq_true h6), if_pos (.inr h6)]; rfl
              · rw [if_neg (by simpa using h6), if_neg (by rintro (h | h); exact h5 h; exact h6 h)]; rfl

theorem num_bound {s : List Int} (hs : By s) (hl : s.length ≤ 3) : 0 ≤ num s ∧ num s < 16777216 := by
  match s, hs, hl with
  | [], _, _ => exact ⟨by decide, by decide⟩
  | [a], hs, _ =>
    have ha := hs a (by simp)
    simp only [num, List.foldl]; omega
  | [a, b], hs, _ =>
    have ha := hs a (by simp)
    have hb := hs b (by simp)
    simp only [num, List.foldl]; omega
  | [a, b, c], hs, _ =>
    have ha := hs a (by simp)
    have hb := hs b (by simp)
    have hc := hs c (by simp)
    simp only [num, List.foldl]; omega
  | a :: b :: c :: d :: l, _, hl => simp at hl

theorem rdLen_spec {s r : List Int} {n : Int} (hs : By s) (h : rdLen s = .inl (n, r)) : s = szB n.toNat ++ r ∧ 0 ≤ n ∧ n < 16777216 := by
  cases s with
  | nil => cases h
  | cons c s =>
    obtain ⟨hc, hs⟩ := By.cons.1 hs
    rw [rdLen_cons] at h
    split at h
    · rename_i h1
      cases h
      refine ⟨?_, hc.1, by omega⟩
      unfold szB
      rw [if_pos (by omega)]
      have : ((n.toNat : Nat) : Int) = n := by omega
      rw [this]; rfl
    · split at h
      · cases h
      · split at h
        · cases h
        · split at h
          · cases h
          · rename_i h1 h2 h3 h4
            cases h
            have hlen : (s.take (c - 128).toNat).length = (c - 128).toNat := take_ge (by omega)
            refine ⟨?_, (num_bound (hs.take _) (by rw [hlen]; omega)).1, (num_bound (hs.take _) (by rw [hlen]; omega)).2⟩
            have hsplit : s = s.take (c - 128).toNat ++ s.drop (c - 128).toNat := (List.take_append_drop _ s).symm
            rcases (by omega : c = 129 ∨ c = 130 ∨ c = 131) with rfl | rfl | rfl
            · match s, hs, h3, h4 with
              | [], _, h3, _ => simp at h3
              | a :: s, hs, _, h4 =>
                have ha := hs a (by simp)
                have e : num ((a :: s).take (129 - 128 : Int).toNat) = a := by show num [a] = a; simp [num]
                rw [e] at h4 ⊢
                unfold szB
                rw [if_neg (by omega), if_pos (by omega)]
                have : ((a.toNat : Nat) : Int) = a := by omega
                rw [this]; rfl
            · match s, hs, h3, h4 with
              | [], _, h3, _ => simp at h3
              | [a], _, h3, _ => simp at h3
              | a :: b :: s, hs, _, h4 =>
                have ha := hs a (by simp)
                have hb := hs b (by simp)
                have e : num ((a :: b :: s).take (130 - 128 : Int).toNat) = 256 * a + b := by show num [a, b] = _; simp [num]
                have ea : (a :: b :: s).getD 0 0 = a := rfl
                rw [e, ea] at h4
                rw [e]
                unfold szB
                rw [if_neg (by omega), if_neg (by omega), if_pos (by omega)]
                have e1 : (((256 * a + b).toNat / 256 : Nat) : Int) = a := by omega
                have e2 : (((256 * a + b).toNat % 256 : Nat) : Int) = b := by omega
                rw [e1, e2]; rfl
            · match s, hs, h3, h4 with
              | [], _, h3, _ => simp at h3
              | [a], _, h3, _ => simp at h3
              | [a, b], _, h3, _ => simp at h3
              | a :: b :: c :: s, hs, _, h4 =>
                have ha := hs a (by simp)
                have hb := hs b (by simp)
                have hcc := hs c (by simp)
                have e : num ((a :: b :: c :: s).take (131 - 128 : Int).toNat) = 256 * (256 * a + b) + c := by show num [a, b, c] = _; simp [num]
                have ea : (a :: b :: c :: s).getD 0 0 = a := rfl
                rw [e, ea] at h4
                rw [e]
                unfold szB
                rw [if_neg (by omega), if_neg (by omega), if_neg (by omega)]
                have e1 : (((256 * (256 * a + b) + c).toNat / 65536 : Nat) : Int) = a := by omega
                have e2 : (((256 * (256 * a + b) + c).toNat / 256 % 256 : Nat) : Int) = b := by omega
                have e3 : (((256 * (256 * a + b) + c).toNat % 256 : Nat) : Int) = c := by omega
                rw [e1, e2, e3]; rfl

theorem szB_len (n : Nat) : 1 ≤ (szB n).length ∧ (szB n).length ≤ 4 := by
  unfold szB
  split
  · simp
  · split
    · simp
    · split <;> simp
theorem szB_by {n : Nat} (h : n < 16777216) : By (szB n) := by
  unfold szB
  split
  · exact By.cons.2 ⟨by omega, By.nil⟩
  · split
    · exact By.cons.2 ⟨by omega, By.cons.2 ⟨by omega, By.nil⟩⟩
    · split
      · exact By.cons.2 ⟨by omega, By.cons.2 ⟨by omega, By.cons.2 ⟨by omega, By.nil⟩⟩⟩
      · exact By.cons.2 ⟨by omega, By.cons.2 ⟨by omega, By.cons.2 ⟨by omega, By.cons.2 ⟨by omega, By.nil⟩⟩⟩⟩

theorem rdLen_szB {n : Nat} (h : n < 16777216) (r : List Int) : rdLen (szB n ++ r) = .inl ((n : Int), r) := by
  unfold szB
  split
  · rename_i h1
    show rdLen ((n : Int) :: r) = _
    rw [rdLen_cons, if_pos (by omega)]
  · split
    · rename_i h1 h2
      show rdLen (129 :: (n : Int) :: r) = _
      rw [rdLen_cons, if_neg (by omega), if_neg (by omega), if_neg (by simp)]
      have e1 : ((n : Int) :: r).take (129 - 128 : Int).toNat = [(n : Int)] := by simp
      have e2 : ((n : Int) :: r).drop (129 - 128 : Int).toNat = r := by simp
      have e3 : num [(n : Int)] = n := by simp [num]
      rw [e1, e2, e3, if_neg (by simp; omega)]
    · split
      · rename_i h1 h2 h3
        show rdLen (130 :: ((n / 256 : Nat) : Int) :: ((n % 256 : Nat) : Int) :: r) = _
        rw [rdLen_cons, if_neg (by omega), if_neg (by omega), if_neg (by simp)]
        have e1 : (((n / 256 : Nat) : Int) :: ((n % 256 : Nat) : Int) :: r).take (130 - 128 : Int).toNat = [((n / 256 : Nat) : Int), ((n % 256 : Nat) : Int)] := rfl
        have e2 : (((n / 256 : Nat) : Int) :: ((n % 256 : Nat) : Int) :: r).drop (130 - 128 : Int).toNat = r := rfl
        have e3 : num [((n / 256 : Nat) : Int), ((n % 256 : Nat) : Int)] = n := by simp only [num, List.foldl]; omega
        have e4 : (((n / 256 : Nat) : Int) :: ((n % 256 : Nat) : Int) :: r).getD 0 0 = ((n / 256 : Nat) : Int) := rfl
        rw [e1, e2, e3, e4, if_neg (by omega)]
      · rename_i h1 h2 h3
        show rdLen (131 :: ((n / 65536 : Nat) : Int) :: ((n / 256 % 256 : Nat) : Int) :: ((n % 256 : Nat) : Int) :: r) = _
        rw [rdLen_cons, if_neg (by omega), if_neg (by omega), if_neg (by simp)]
        have e1 : (((n / 65536 : Nat) : Int) :: ((n / 256 % 256 : Nat) : Int) :: ((n % 256 : Nat) : Int) :: r).take (131 - 128 : Int).toNat = [((n / 65536 : Nat) : Int), ((n / 256 % 256 : Nat) : Int), ((n % 256 : Nat) : Int)] := rfl
        have e2 : (((n / 65536 : Nat) : Int) :: ((n / 256 % 256 : Nat) : Int) :: ((n % 256 : Nat) : Int) :: r).drop (131 - 128 : Int).toNat = r := rfl
        have e3 : num [((n / 65536 : Nat) : Int), ((n / 256 % 256 : Nat) : Int), ((n % 256 : Nat) : Int)] = n := by simp only [num, List.foldl]; omega
        have e4 : (((n / 65536 : Nat) : Int) :: ((n / 256 % 256 : Nat) : Int) :: ((n % 256 : Nat) : Int) :: r).getD 0 0 = ((n / 65536 : Nat) : Int) := rfl
        rw [e1, e2, e3, e4, if_neg (by omega)]
end Go.Abs

/- Reading an item: the code's reader is the plain one; there and back. -/
set_option linter.unusedVariables false
set_option linter.unusedSimpArgs false
namespace Go.Abs

theorem lookE_node (n : Nat) (t : Int) (b : List Int) (k : List Tree) : lookE (n + 1) (.node t b k) = if t % 32 = 31 then 123 else if (bltT t = true ∧ b ≠ []) ∨ (bltT t = false ∧ k ≠ []) then 127 else lookL (lookE n) k := rfl

def cv {α : Type} : (Tree × α) ⊕ Int → (Tree × α) ⊕ (Int × Unit)
  | .inl x => .inl x
  | .inr e => .inr (e, ())

theorem rdLen_short {s r : List Int} {n : Int} (h : rdLen s = .inl (n, r)) : r.length < s.length := by
  cases s with
  | nil => cases h
  | cons c s =>
    rw [rdLen_cons] at h
    split at h
    · cases h; simp
    · split at h
      · cases h
      · split at h
        · cases h
        · split at h
          · cases h
          · cases h; simp; omega

theorem rdI_short {f : Nat} {s r : List Int} {t : Tree} (h : rdI f s = .inl (t, r)) : r.length < s.length := by
  cases f with
  | zero => cases h
  | succ f =>
    cases s with
    | nil => cases h
    | cons x s =>
      rw [rdI_cons] at h
      split at h
      · cases h
      · split at h
        · cases h
        · rename_i n r' hl
          have h1 := rdLen_short hl
          split at h
          · cases h
          · split at h
            · split at h
              · cases h; simp; omega
              · cases h
            · cases h; simp; omega

/-- errors are numbers of their own -/
theorem rdLen_err {s : List Int} {e : Int} (h : rdLen s = .inr e) : e = 122 ∨ e = 124 := by
  cases s with
  | nil => cases h; exact .inl rfl
  | cons c s =>
    rw [rdLen_cons] at h
    split at h
    · cases h
    · split at h
      · cases h; exact .inr rfl
      · split at h
        · cases h; exact .inl rfl
        · split at h
          · cases h; exact .inr rfl
          · cases h
theorem rdKs_err {g : List Int → (Tree × List Int) ⊕ Int} (hg : ∀ s e, g s = .inr e → 122 ≤ e ∧ e ≤ 125) (hs : ∀ s t r, g s = .inl (t, r) → r.length < s.length) :
    ∀ {m : Nat} {s : List Int} {e : Int}, s.length ≤ m → rdKs g m s = .inr e → 122 ≤ e ∧ e ≤ 125 := by
  intro m
  induction m with
  | zero => intro s e hl h; cases s with
    | nil => cases h
    | cons => simp at hl
  | succ m ih =>
    intro s e hl h
    cases s with
    | nil => cases h
    | cons x s =>
      rw [rdKs_cons] at h
      split at h
      · rename_i e' he; cases h; exact hg _ _ he
      · rename_i t r he
        have := hs _ _ _ he
        split at h
        · cases h
        · rename_i e' he'; cases h; exact ih (by simp at hl this; omega) he'
theorem rdI_err : ∀ {f : Nat} {s : List Int} {e : Int}, rdI f s = .inr e → 122 ≤ e ∧ e ≤ 125 := by
  intro f
  induction f with
  | zero => intro s e h; cases h; omega
  | succ f ih =>
    intro s e h
    cases s with
    | nil => cases h; omega
    | cons x s =>
      rw [rdI_cons] at h
      split at h
      · cases h; omega
      · split at h
        · rename_i e' he; cases h; have := rdLen_err he; omega
        · rename_i n r hl
          split at h
          · cases h; omega
          · split at h
            · split at h
              · cases h
              · rename_i hb _ _ he
                cases h
                exact rdKs_err (fun s e h => ih h) (fun s t r h => rdI_short h) (by simp; omega) he
            · cases h

theorem kids_loop {G : List Int × Int → Option ((Tree × List Int) ⊕ (Int × Unit))} {g : List Int → (Tree × List Int) ⊕ Int} {d t : Int} {out : List Int} (hd : 0 ≤ d ∧ d < 100)
    (hG : ∀ s, By s → s.length ≤ 65536 → G (s, d + 1) = some (cv (g s))) (hs : ∀ s t r, g s = .inl (t, r) → r.length < s.length) (hby : ∀ s t r, By s → g s = .inl (t, r) → By r) :
    ∀ (m : Nat) (s : List Int) (acc : List Tree), s.length ≤ m → By s → acc.length + s.length ≤ 65536 →
      loopO (stepc68_0 G) (d, (0, (), ()), (t, (), ()), acc, s, out) = some (match rdKs g m s with | .inl ks => .inr ((0, (), ()), (t, (), ()), acc ++ ks, out) | .inr e => .inl (e, ())) := by
  intro m
  induction m with
  | zero =>
    intro s acc hl hb ha
    have : s = [] := List.eq_nil_of_length_eq_zero (by omega)
    subst this
    rw [loopO_eq]
    have : stepc68_0 G (d, (0, (), ()), (t, (), ()), acc, [], out) = some (.inr (.inr ((0, (), ()), (t, (), ()), acc, out))) := rfl
    rw [this]
    simp [rdKs]
  | succ m ih =>
    intro s acc hl hb ha
    cases s with
    | nil =>
      rw [loopO_eq]
      have : stepc68_0 G (d, (0, (), ()), (t, (), ()), acc, [], out) = some (.inr (.inr ((0, (), ()), (t, (), ()), acc, out))) := rfl
      rw [this]
      simp [rdKs]
    | cons x s =>
      rw [loopO_eq]
      have d1 : decide (((x :: s).length : Int) > 0) = true := decide_eq_true (by simp only [List.length_cons]; omega)
      simp only [stepc68_0, d1, if_true]
      rw [wi64 (by omega) (by omega), hG _ hb (by omega)]
      rw [rdKs_cons]
      cases hg : g (x :: s) with
      | inr e => rfl
      | inl p =>
        obtain ⟨k, r⟩ := p
        have h1 := hs _ _ _ hg
        have h2 := hby _ _ _ hb hg
        simp only [cv, Option.bind_some]
        rw [if_pos (okB56 (by simp only [List.length_append, List.length_cons, List.length_nil] at *; omega))]
        simp only [Tree.eta]
        rw [ih r (acc ++ [k]) (by simp only [List.length_cons] at *; omega) h2 (by simp only [List.length_append, List.length_cons, List.length_nil] at *; omega)]
        cases rdKs g m r with
        | inl ks => simp
        | inr e => rfl

theorem rdLen_by {s r : List Int} {n : Int} (hs : By s) (h : rdLen s = .inl (n, r)) : By r := by
  obtain ⟨h1, _⟩ := rdLen_spec hs h
  rw [h1] at hs
  exact (By.append.1 hs).2

theorem rdI_by : ∀ {f : Nat} {s r : List Int} {t : Tree}, By s → rdI f s = .inl (t, r) → By r := by
  intro f s r t hs h
  cases f with
  | zero => cases h
  | succ f =>
    cases s with
    | nil => cases h
    | cons x s =>
      have hs := (By.cons.1 hs).2
      rw [rdI_cons] at h
      split at h
      · cases h
      · split at h
        · cases h
        · rename_i n r' hl
          have hr := rdLen_by hs hl
          split at h
          · cases h
          · split at h
            · split at h
              · cases h; exact hr.drop _
              · cases h
            · cases h; exact hr.drop _

theorem item_eq : ∀ (k f : Nat) (s : List Int), f < k → f ≤ 17 → By s → s.length ≤ 65536 → FRc68 k (s, 17 - (f : Int)) = some (cv (rdI f s)) := by
  intro k
  induction k with
  | zero => intro f s h; omega
  | succ k ih =>
    intro f s hf hf2 hs hl
    show Bc68 (FRc68 k) (s, 17 - (f : Int)) = _
    unfold Bc68
    cases f with
    | zero => rfl
    | succ f =>
      have d1 : decide ((17 : Int) - ((f + 1 : Nat) : Int) > 16) = false := decide_eq_false (by omega)
      simp only [d1, Bool.false_eq_true, if_false, take_eq]
      cases s with
      | nil => rfl
      | cons x s =>
        obtain ⟨hx, hs⟩ := By.cons.1 hs
        simp only [Option.bind_some, none_tag hx.1 hx.2]
        rw [rdI_cons]
        by_cases h1 : x % 32 = 31
        · rw [if_pos (decide_eq_true h1), if_pos h1]; rfl
        · rw [if_neg (by simpa using h1), if_neg h1, len_eq hs]
          cases hr : rdLen s with
          | inr e => rfl
          | inl p =>
            obtain ⟨n, r⟩ := p
            obtain ⟨e1, e2, e3⟩ := rdLen_spec hs hr
            have hrl := rdLen_short hr
            have hrb := rdLen_by hs hr
            simp only [sw, Option.bind_some, cut_eq e2]
            by_cases h2 : (r.length : Int) < n
            · rw [if_pos h2, if_pos h2]; rfl
            · rw [if_neg h2, if_neg h2]
              have e58 : Fc99 x = some (bltT x) := by simp only [Fc99, blt_tag hx.1 hx.2]
              simp only [Option.bind_some, e58]
              have hlen : (r.take n.toNat).length = n.toNat := take_ge (by omega)
              simp only [List.length_cons] at hl
              cases hb : bltT x with
              | false =>
                simp only [Bool.not_false, if_true, Bool.false_eq_true, if_false]
                have e44 : Fc50 (r.take n.toNat) = some (r.take n.toNat) := by
                  unfold Fc50
                  rw [if_pos (okB1 (by rw [hlen]; omega))]
                rw [e44]; rfl
              | true =>
                simp only [Bool.not_true, Bool.false_eq_true, if_false, if_true]
                rw [kids_loop (g := rdI f) (by omega) (fun s' h3 h4 => by
                  have := ih f s' (by omega) (by omega) h3 h4
                  rw [show (17 : Int) - ((f + 1 : Nat) : Int) + 1 = 17 - (f : Int) by omega]
                  exact this) (fun s t r h => rdI_short h) (fun s t r h1 h2 => rdI_by h1 h2) n.toNat (r.take n.toNat) [] (by omega) (hrb.take _) (by simp only [List.length_nil]; omega)]
                cases rdKs (rdI f) n.toNat (r.take n.toNat) with
                | inl ks => simp [cv]
                | inr e => rfl

/-- what der.Decode answers -/
def decB (b : List Int) : Tree × Int :=
  if 65536 < b.length then (.node 0 [] [], 121) else match rdI 16 b with
    | .inr e => (.node 0 [] [], e)
    | .inl (t, r) => if r = [] then (t, 0) else (.node 0 [] [], 126)

theorem decode_eq {b : List Int} (hb : By b) : Fc41 b = some (decB b) := by
  have e : FMc41 (b, 0, (0, [], [])) = some (decB b) := by
    unfold FMc41 decB
    by_cases h : 65536 < b.length
    · have d1 : decide ((b.length : Int) > 65536) = true := decide_eq_true (by omega)
      simp only [d1, if_true]
      rw [if_pos h]
    · have d1 : decide ((b.length : Int) > 65536) = false := decide_eq_false (by omega)
      simp only [d1, Bool.false_eq_true, if_false]
      rw [if_neg h]
      have h40 : Fc68 (b, 1) = some (cv (rdI 16 b)) := item_eq 20 16 b (by omega) (by omega) hb (by omega)
      rw [h40]
      cases hr : rdI 16 b with
      | inr n =>
        have hn := rdI_err hr
        simp only [cv, Option.bind_some]
        have : FPc66 n (0, 0, [], []) = some (n, 0, [], []) := by
          unfold FPc66
          simp only []
          split <;> rfl
        rw [this]; rfl
      | inl p =>
        obtain ⟨t, r⟩ := p
        simp only [cv, Option.bind_some]
        cases r with
        | nil =>
          have d2 : decide ((([] : List Int).length : Int) > 0) = false := rfl
          simp only [d2, Bool.false_eq_true, if_false, if_true]
          rw [show Tree.node t.tag t.body t.kids = t from t.eta]
        | cons x r =>
          have d2 : decide (((x :: r).length : Int) > 0) = true := decide_eq_true (by simp only [List.length_cons]; omega)
          simp only [d2, if_true]
          have : Fc69 126 = some (126, ()) := rfl
          rw [this]
          simp only [Option.bind_some]
          have : FPc66 126 (0, t.tag, t.body, t.kids) = some (126, 0, [], []) := rfl
          rw [this]
          simp
  show (FMc41 (b, 0, (0, [], []))).bind _ = _
  rw [e]
  simp only [Option.bind_some]
  rw [show Tree.node (decB b).1.tag (decB b).1.body (decB b).1.kids = (decB b).1 from (decB b).1.eta]

/-! ### there and back -/
theorem enc_pos (t : Tree) : t.enc ≠ [] := by rw [Tree.enc_eq]; simp

theorem rdKs_encs {g : List Int → (Tree × List Int) ⊕ Int} : ∀ {ks : List Tree} {m : Nat}, (∀ c ∈ ks, ∀ r, g (c.enc ++ r) = .inl (c, r)) → (Tree.encs ks).length ≤ m → rdKs g m (Tree.encs ks) = .inl ks := by
  intro ks
  induction ks with
  | nil => intro m _ _; cases m <;> rfl
  | cons c ks ih =>
    intro m hg hl
    simp only [Tree.encs, List.length_append] at hl ⊢
    have h1 := hg c (by simp) (Tree.encs ks)
    have hp := enc_pos c
    cases hc : c.enc with
    | nil => exact absurd hc hp
    | cons x e =>
      rw [hc] at h1 hl
      cases m with
      | zero => simp only [List.length_cons] at hl; omega
      | succ m =>
        simp only [List.cons_append] at h1 ⊢
        rw [rdKs_cons, h1]
        simp only []
        rw [ih (fun c hc => hg c (by simp [hc])) (by simp only [List.length_cons] at hl; omega)]

theorem lookL_zero {f : Tree → Int} : ∀ {l : List Tree}, lookL f l = 0 ↔ ∀ c ∈ l, f c = 0 := by
  intro l
  induction l with
  | nil => simp [lookL]
  | cons c l ih =>
    simp only [lookL]
    split
    · rename_i h
      rw [ih]
      constructor
      · intro h2 d hd
        rcases List.mem_cons.1 hd with rfl | hd
        · exact h
        · exact h2 d hd
      · intro h2 d hd; exact h2 d (by simp [hd])
    · rename_i h
      constructor
      · intro h2; exact absurd h2 h
      · intro h2; exact absurd (h2 c (by simp)) h

theorem encs_mem {c : Tree} : ∀ {l : List Tree}, c ∈ l → c.enc.length ≤ (Tree.encs l).length := by
  intro l
  induction l with
  | nil => intro h; simp at h
  | cons a l ih =>
    intro h
    simp only [Tree.encs, List.length_append]
    rcases List.mem_cons.1 h with rfl | h
    · omega
    · have := ih h; omega

/-- what is written is read as it was -/
theorem rdI_enc : ∀ (f : Nat) (t : Tree), lookE f t = 0 → t.enc.length < 16777216 → ∀ r, rdI f (t.enc ++ r) = .inl (t, r) := by
  intro f
  induction f with
  | zero => intro t h; cases h
  | succ f ih =>
    intro t h hl r
    unfold lookE at h
    split at h
    · cases h
    · rename_i h1
      split at h
      · cases h
      · rename_i h2
        rw [lookL_zero] at h
        rw [Tree.enc_eq] at hl ⊢
        simp only [List.cons_append, List.append_assoc, List.length_cons, List.length_append] at hl ⊢
        rw [rdI_cons, if_neg h1, rdLen_szB (by omega)]
        simp only []
        rw [if_neg (by simp only [List.length_append]; omega)]
        have e1 : ((((if bltT t.tag then Tree.encs t.kids else t.body).length : Nat) : Int)).toNat = (if bltT t.tag then Tree.encs t.kids else t.body).length := by omega
        rw [e1, List.take_left, List.drop_left]
        cases hb : bltT t.tag with
        | true =>
          have hbody : t.body = [] := by
            by_cases hx : t.body = []
            · exact hx
            · exact absurd (.inl ⟨hb, hx⟩) h2
          simp only [hb, if_true] at hl ⊢
          rw [rdKs_encs (fun c hc r => ih c (h c hc) (by have := encs_mem hc; omega) r) (Nat.le_refl _)]
          simp only []
          have := t.eta
          rw [hbody] at this
          rw [this]
        | false =>
          have hkids : t.kids = [] := by
            by_cases hx : t.kids = []
            · exact hx
            · exact absurd (.inr ⟨hb, hx⟩) h2
          simp only [Bool.false_eq_true, if_false]
          have := t.eta
          rw [hkids] at this
          rw [this]

theorem TreeOk.mk {t : Int} {b : List Int} {k : List Tree} (h1 : 0 ≤ t ∧ t < 256) (h2 : By b) (h3 : b.length ≤ 65536) (h4 : k.length ≤ 65536) (h5 : ∀ c ∈ k, TreeOk c) : TreeOk (.node t b k) :=
  .node h1 h2.to (by unfold reachBytes; omega) (by unfold reachBytes; omega) h5

theorem rdKs_spec {g : List Int → (Tree × List Int) ⊕ Int} {f : Nat} (hg : ∀ s t r, By s → s.length ≤ 65536 → g s = .inl (t, r) → s = t.enc ++ r ∧ lookE f t = 0 ∧ TreeOk t) (hby : ∀ s t r, By s → g s = .inl (t, r) → By r) :
    ∀ {m : Nat} {s : List Int} {ks : List Tree}, By s → s.length ≤ 65536 → rdKs g m s = .inl ks → s = Tree.encs ks ∧ (∀ c ∈ ks, lookE f c = 0 ∧ TreeOk c) ∧ ks.length ≤ s.length := by
  intro m
  induction m with
  | zero =>
    intro s ks hs hl h
    cases s with
    | nil => cases h; exact ⟨rfl, by simp, by simp⟩
    | cons x s => cases h
  | succ m ih =>
    intro s ks hs hl h
    cases s with
    | nil => cases h; exact ⟨rfl, by simp, by simp⟩
    | cons x s =>
      rw [rdKs_cons] at h
      split at h
      · cases h
      · rename_i t r he
        obtain ⟨h1, h2, h3⟩ := hg _ _ _ hs hl he
        have hp := enc_pos t
        have hlen : r.length < (x :: s).length := by
          rw [h1]
          have : 0 < t.enc.length := by
            cases hc : t.enc with
            | nil => exact absurd hc hp
            | cons => simp
          simp only [List.length_append]; omega
        split at h
        · rename_i ks' hk
          cases h
          obtain ⟨h4, h5, h6⟩ := ih (hby _ _ _ hs he) (by omega) hk
          refine ⟨?_, ?_, by simp only [List.length_cons] at hlen ⊢; omega⟩
          · simp only [Tree.encs]; rw [← h4]; exact h1
          · intro c hc
            rcases List.mem_cons.1 hc with rfl | hc
            · exact ⟨h2, h3⟩
            · exact h5 c hc
        · cases h

/-- what is read is the item's one form -/
theorem rdI_spec : ∀ (f : Nat) (s : List Int) (t : Tree) (r : List Int), By s → s.length ≤ 65536 → rdI f s = .inl (t, r) → s = t.enc ++ r ∧ lookE f t = 0 ∧ TreeOk t := by
  intro f
  induction f with
  | zero => intro s t r _ _ h; cases h
  | succ f ih =>
    intro s t r hs hl h
    cases s with
    | nil => cases h
    | cons x s =>
      obtain ⟨hx, hs⟩ := By.cons.1 hs
      simp only [List.length_cons] at hl
      rw [rdI_cons] at h
      split at h
      · cases h
      · rename_i h1
        split at h
        · cases h
        · rename_i n r' hr
          obtain ⟨e1, e2, e3⟩ := rdLen_spec hs hr
          have hrl := rdLen_short hr
          have hrb := rdLen_by hs hr
          split at h
          · cases h
          · rename_i h2
            have hlen : (r'.take n.toNat).length = n.toNat := take_ge (by omega)
            split at h
            · rename_i hb
              split at h
              · rename_i ks hk
                cases h
                obtain ⟨h3, h4, h5⟩ := rdKs_spec (f := f) (fun s t r a b c => ih s t r a b c) (fun s t r a b => rdI_by a b) (hrb.take _) (by omega) hk
                refine ⟨?_, ?_, TreeOk.mk hx By.nil (by simp) (by omega) (fun c hc => (h4 c hc).2)⟩
                · rw [Tree.enc_eq]
                  simp only [Tree.tag, Tree.kids, hb, if_true, List.cons_append, List.append_assoc]
                  rw [← h3, hlen, List.take_append_drop, ← e1]
                · rw [lookE_node, if_neg h1, if_neg (by simp [hb]), lookL_zero]
                  exact fun c hc => (h4 c hc).1
              · cases h
            · rename_i hb
              cases h
              have hb : bltT x = false := by simpa using hb
              refine ⟨?_, ?_, TreeOk.mk hx (hrb.take _) (by omega) (by simp) (by simp)⟩
              · rw [Tree.enc_eq]
                simp only [Tree.tag, Tree.body, hb, Bool.false_eq_true, if_false, List.cons_append, List.append_assoc]
                rw [hlen, List.take_append_drop, ← e1]
              · rw [lookE_node, if_neg h1, if_neg (by simp [hb])]
                rfl
end Go.Abs

/- Writing an item: what der.Encode answers, and what the document's does. -/
set_option linter.unusedVariables false
set_option linter.unusedSimpArgs false
namespace Go.Abs

/-! ### look -/
def lkA (e : Int) : Unit ⊕ (Int × Unit) := if e = 0 then .inl () else .inr (e, ())
def lkB (e : Int) : (Int × Unit) ⊕ Unit := if e = 0 then .inr () else .inl (e, ())
def lkC (e : Int) : Int ⊕ Unit := if e = 0 then .inr () else .inl e
theorem lkA_ne {e : Int} (h : e ≠ 0) : lkA e = .inr (e, ()) := if_neg h
theorem lkB_ne {e : Int} (h : e ≠ 0) : lkB e = .inl (e, ()) := if_neg h
theorem lkC_ne {e : Int} (h : e ≠ 0) : lkC e = .inl e := if_neg h
theorem lookL_pos {g : Tree → Int} {c : Tree} {l : List Tree} (h : g c = 0) : lookL g (c :: l) = lookL g l := if_pos h
theorem lookL_neg {g : Tree → Int} {c : Tree} {l : List Tree} (h : g c ≠ 0) : lookL g (c :: l) = g c := if_neg h
theorem look_loop {G : Tree × Int → Option (Unit ⊕ (Int × Unit))} {t : Tree} (ht : TreeOk t) {d : Int} (hd : 0 ≤ d ∧ d < 100) {g : Tree → Int}
    (hG : ∀ c ∈ t.kids, G (c, d + 1) = some (lkA (g c))) :
    ∀ (j k : Nat), j = t.kids.length - k → k ≤ t.kids.length → loopO (stepc81_0 G) ((t.tag, (t.body, t.kids)), d, (t.kids.length : Int), (k : Int)) =
      some (lkB (lookL g (t.kids.drop k))) := by
  have hlen := ht.len.2
  intro j
  induction j with
  | zero =>
    intro k hj hk
    have e : k = t.kids.length := by omega
    subst e
    rw [loopO_eq]
    simp only [stepc81_0, Int.lt_irrefl, decide_false, Bool.false_eq_true, if_false, List.drop_length]
    rfl
  | succ j ih =>
    intro k hj hk
    have hkl : k < t.kids.length := by omega
    have hdrop : t.kids.drop k = t.kids[k] :: t.kids.drop (k + 1) := List.drop_eq_getElem_cons hkl
    have d1 : decide (((k : Nat) : Int) < (t.kids.length : Int)) = true := decide_eq_true (by omega)
    rw [loopO_eq]
    simp only [stepc81_0, d1, if_true]
    rw [if_pos (by omega), kid_at hkl, Tree.eta, wi64 (by omega) (by omega), hG _ (List.getElem_mem hkl), hdrop]
    by_cases h : g t.kids[k] = 0
    · rw [h, lookL_pos h]
      have e0 : lkA 0 = .inl () := rfl
      rw [e0]
      simp only [Option.bind_some]
      rw [wi64 (by omega) (by omega)]
      have ek : ((k : Nat) : Int) + 1 = ((k + 1 : Nat) : Int) := by omega
      rw [ek]
      exact ih (k + 1) (by omega) (by omega)
    · rw [lookL_neg h, lkA_ne h, lkB_ne h]
      rfl

theorem Fc69_eq (n : Int) : Fc69 n = some (n, ()) := rfl
theorem Fc99_eq {t : Tree} (ht : TreeOk t) : Fc99 t.tag = some (bltT t.tag) := by simp only [Fc99, blt_tag ht.tag.1 ht.tag.2]

theorem lk_end (e : Int) : ((some (lkB e)).bind fun
                | (.inl (e8, _)) => some (.inr (e8, ()))
                | (.inr _) => some (.inl ()) : Option (Unit ⊕ (Int × Unit))) = some (lkA e) := by
  by_cases h : e = 0
  · subst h; rfl
  · rw [lkB_ne h, lkA_ne h]; rfl
theorem lk_endC (e : Int) : ((some (lkC e)).bind fun
                | (.inl z) => some z
                | (.inr _) => some 0 : Option Int) = some e := by
  by_cases h : e = 0
  · subst h; rfl
  · rw [lkC_ne h]; rfl
theorem look_eq : ∀ (k f : Nat) (t : Tree), f < k → f ≤ 17 → TreeOk t → FRc81 k (t, 17 - (f : Int)) = some (lkA (lookE f t)) := by
  intro k
  induction k with
  | zero => intro f t h; omega
  | succ k ih =>
    intro f t hf hf2 ht
    show Bc81 (FRc81 k) (t, 17 - (f : Int)) = _
    unfold Bc81
    cases f with
    | zero => rfl
    | succ f =>
      have d1 : decide ((17 : Int) - ((f + 1 : Nat) : Int) > 16) = false := decide_eq_false (by omega)
      have hlen := ht.len
      simp only [d1, Bool.false_eq_true, if_false, none_tag ht.tag.1 ht.tag.2, Fc99_eq ht, Fc69_eq, Option.bind_some]
      have hloop := look_loop ht (d := 17 - ((f + 1 : Nat) : Int)) (by omega) (g := lookE f) (G := FRc81 k) (fun c hc => by
        have := ih f c (by omega) (by omega) (ht.kid hc)
        rw [show (17 : Int) - ((f + 1 : Nat) : Int) + 1 = 17 - (f : Int) by omega]
        exact this) _ 0 rfl (Nat.zero_le _)
      simp only [List.drop_zero] at hloop
      have e0 : ((0 : Nat) : Int) = 0 := rfl
      rw [e0] at hloop
      unfold lookE
      by_cases h1 : t.tag % 32 = 31
      · rw [if_pos (decide_eq_true h1), if_pos h1]; rfl
      · rw [if_neg (by simpa using h1), if_neg h1]
        cases hb : bltT t.tag with
        | true =>
          simp only [if_true, Bool.not_true, Bool.false_eq_true, if_false]
          by_cases h2 : t.body = []
          · have d2 : decide ((t.body.length : Int) > 0) = false := decide_eq_false (by rw [h2]; simp)
            rw [if_pos d2, if_neg (by simp [h2]), hloop]
            exact lk_end _
          · have d2 : decide ((t.body.length : Int) > 0) = true := decide_eq_true (by have := List.length_pos_iff.2 h2; omega)
            rw [if_neg (by rw [d2]; decide), if_pos (.inl ⟨trivial, h2⟩)]; rfl
        | false =>
          simp only [Bool.false_eq_true, if_false, Bool.not_false, if_true]
          by_cases h2 : t.kids = []
          · have d2 : decide ((t.kids.length : Int) > 0) = false := decide_eq_false (by rw [h2]; simp)
            rw [if_neg (by rw [d2]; decide), if_neg (by simp [h2]), hloop]
            exact lk_end _
          · have d2 : decide ((t.kids.length : Int) > 0) = true := decide_eq_true (by have := List.length_pos_iff.2 h2; omega)
            rw [if_pos d2, if_pos (.inr ⟨trivial, h2⟩)]; rfl

/-! ### write -/
theorem size_eq {n : Nat} (h : n ≤ 65536) : Fc106 (n : Int) = some (szB n) := by
  have sh8 : shrI .i64 (n : Int) 8 = ((n / 256 : Nat) : Int) := by
    rw [shrN (by omega) (by omega) (by decide)]
    simp [Nat.shiftRight_eq_div_pow]
  have sh16 : shrI .i64 (n : Int) 16 = ((n / 65536 : Nat) : Int) := by
    rw [shrN (by omega) (by omega) (by decide)]
    simp [Nat.shiftRight_eq_div_pow]
  unfold szB
  simp only [Fc106, sh8, sh16, IntKind.wrap_u8']
  by_cases h1 : n < 128
  · rw [if_pos (decide_eq_true (by omega)), if_pos h1]
    have : ((n : Int)) % 256 = n := by omega
    rw [this]; rfl
  · rw [if_neg (by simp only [decide_eq_true_eq]; omega), if_neg h1]
    by_cases h2 : n < 256
    · rw [if_pos (decide_eq_true (by omega)), if_pos h2]
      have : ((n : Int)) % 256 = n := by omega
      rw [this]; rfl
    · rw [if_neg (by simp only [decide_eq_true_eq]; omega), if_neg h2]
      by_cases h3 : n < 65536
      · rw [if_pos (decide_eq_true (by omega)), if_pos h3]
        have e1 : ((n : Int)) % 256 = ((n % 256 : Nat) : Int) := by omega
        have e2 : ((n / 256 : Nat) : Int) % 256 = ((n / 256 : Nat) : Int) := by omega
        rw [e1, e2]; rfl
      · rw [if_neg (by simp only [decide_eq_true_eq]; omega), if_neg h3]
        have e1 : ((n : Int)) % 256 = ((n % 256 : Nat) : Int) := by omega
        have e2 : ((n / 256 : Nat) : Int) % 256 = ((n / 256 % 256 : Nat) : Int) := by omega
        have e3 : ((n / 65536 : Nat) : Int) % 256 = ((n / 65536 : Nat) : Int) := by omega
        rw [e1, e2, e3]; rfl

theorem write_loop12 {G : List Int × Tree → Option (List Int ⊕ (Int × Unit))} {t : Tree} (ht : TreeOk t) {out : List Int}
    (hG : ∀ c ∈ t.kids, ∀ o : List Int, o.length ≤ 65536 → G (o, c) = some (if o.length + c.enc.length ≤ 65536 then .inl (o ++ c.enc) else .inr (121, ()))) :
    ∀ (j k : Nat) (acc : List Int), j = t.kids.length - k → k ≤ t.kids.length → acc.length ≤ 65536 → loopO (stepc82_0 G) ((t.tag, (t.body, t.kids)), (t.kids.length : Int), (k : Int), out, acc) =
      some (if acc.length + (Tree.encs (t.kids.drop k)).length ≤ 65536 then .inr ((t.tag, (t.body, t.kids)), out, acc ++ Tree.encs (t.kids.drop k)) else .inl (121, ())) := by
  have hlen := ht.len.2
  intro j
  induction j with
  | zero =>
    intro k acc hj hk ha
    have e : k = t.kids.length := by omega
    subst e
    rw [loopO_eq]
    simp only [stepc82_0, Int.lt_irrefl, decide_false, Bool.false_eq_true, if_false, List.drop_length, Tree.encs, List.length_nil, Nat.add_zero, List.append_nil]
    rw [if_pos ha]
  | succ j ih =>
    intro k acc hj hk ha
    have hkl : k < t.kids.length := by omega
    have hdrop : t.kids.drop k = t.kids[k] :: t.kids.drop (k + 1) := List.drop_eq_getElem_cons hkl
    have d1 : decide (((k : Nat) : Int) < (t.kids.length : Int)) = true := decide_eq_true (by omega)
    rw [loopO_eq]
    simp only [stepc82_0, d1, if_true]
    rw [if_pos (by omega), kid_at hkl, Tree.eta, hG _ (List.getElem_mem hkl) _ ha, hdrop]
    simp only [Tree.encs, List.length_append]
    by_cases h : acc.length + t.kids[k].enc.length ≤ 65536
    · rw [if_pos h]
      simp only [Option.bind_some]
      rw [wi64 (by omega) (by omega)]
      have ek : ((k : Nat) : Int) + 1 = ((k + 1 : Nat) : Int) := by omega
      rw [ek, ih (k + 1) (acc ++ t.kids[k].enc) (by omega) (by omega) (by simpa using h)]
      simp only [List.length_append, List.append_assoc, Nat.add_assoc]
    · rw [if_neg h, if_neg (by omega)]
      rfl

theorem len1 (x : Int) : ((List.replicate 1 (0 : Int)).set 0 x) = [x] := rfl

theorem write_eq12 : ∀ (k : Nat) (t : Tree) (out : List Int), t.rank < k → TreeOk t → out.length ≤ 65536 → FRc82 k (out, t) = some (if out.length + t.enc.length ≤ 65536 then .inl (out ++ t.enc) else .inr (121, ())) := by
  intro k
  induction k with
  | zero => intro t out h; omega
  | succ k ih =>
    intro t out hr ht ho
    show Bc82 (FRc82 k) (out, t) = _
    unfold Bc82
    have fin : ∀ inn : List Int, inn.length ≤ 65536 →
        (if okBytes (out.length + [t.tag].length) 1 then
            (Fc106 (inn.length : Int)).bind fun y13 =>
              if okBytes ((out ++ [t.tag]).length + y13.length) 1 then
                if okBytes (((out ++ [t.tag]) ++ y13).length + inn.length) 1 then
                  let f14 : List Int := (((out ++ [t.tag]) ++ y13) ++ inn)
                  if (decide ((f14.length : Int) > 65536)) = true then
                    (Fc69 121).bind fun (e15, _) =>
                      some (.inr (e15, ()))
                  else
                    some (.inl f14)
                else none
              else none
          else none : Option (List Int ⊕ (Int × Unit))) = some (if out.length + (t.tag :: (szB inn.length ++ inn)).length ≤ 65536 then .inl (out ++ (t.tag :: (szB inn.length ++ inn))) else .inr (121, ())) := by
      intro inn hi
      have hz := szB_len inn.length
      rw [if_pos (okB1 (by simp only [List.length_cons, List.length_nil]; omega)), size_eq hi]
      simp only [Option.bind_some]
      rw [if_pos (okB1 (by simp only [List.length_append, List.length_cons, List.length_nil]; omega)), if_pos (okB1 (by simp only [List.length_append, List.length_cons, List.length_nil]; omega))]
      have e : ((out ++ [t.tag]) ++ szB inn.length) ++ inn = out ++ (t.tag :: (szB inn.length ++ inn)) := by simp
      rw [e]
      have el : (out ++ (t.tag :: (szB inn.length ++ inn))).length = out.length + (t.tag :: (szB inn.length ++ inn)).length := by simp only [List.length_append]
      rw [el]
      by_cases h : out.length + (t.tag :: (szB inn.length ++ inn)).length ≤ 65536
      · rw [if_neg (by simp only [decide_eq_true_eq]; omega), if_pos h]
      · rw [if_pos (decide_eq_true (by omega)), if_neg h]; rfl
    simp only [Fc99_eq ht, Option.bind_some]
    rw [Tree.enc_eq]
    have hlen := ht.len
    cases hb : bltT t.tag with
    | true =>
      simp only [if_true]
      have hl := write_loop12 ht (out := out) (G := FRc82 k) (fun c hc o h => ih c o (by have := Tree.rank_kid hc; omega) (ht.kid hc) h) _ 0 [] rfl (Nat.zero_le _) (by simp)
      simp only [List.drop_zero, List.length_nil, Nat.zero_add, List.nil_append] at hl
      have e0 : ((0 : Nat) : Int) = 0 := rfl
      rw [e0] at hl
      rw [hl]
      by_cases h : (Tree.encs t.kids).length ≤ 65536
      · rw [if_pos h]
        simp only [Option.bind_some]
        rw [if_neg (by simp only [decide_eq_true_eq]; omega)]
        exact fin _ h
      · rw [if_neg h]
        simp only [Option.bind_some]
        rw [if_neg (by simp only [List.length_cons, List.length_append]; omega)]
    | false =>
      simp only [Bool.false_eq_true, if_false]
      by_cases h : t.body.length ≤ 65536
      · rw [if_neg (by simp only [decide_eq_true_eq]; omega)]
        exact fin _ h
      · rw [if_pos (decide_eq_true (by omega)), if_neg (by simp only [List.length_cons, List.length_append]; omega)]; rfl

/-- what der.Encode answers -/
def encO (t : Tree) : List Int × Int :=
  if lookE 16 t = 0 then (if t.enc.length ≤ 65536 then (t.enc, 0) else ([], 121)) else ([], lookE 16 t)

theorem lookE_pos : ∀ {f : Nat} {t : Tree}, lookE f t = 0 ∨ 123 ≤ lookE f t := by
  intro f
  induction f with
  | zero => intro t; right; show (123 : Int) ≤ 125; omega
  | succ f ih =>
    intro t
    unfold lookE
    split
    · right; omega
    · split
      · right; omega
      · have : ∀ l : List Tree, lookL (lookE f) l = 0 ∨ 123 ≤ lookL (lookE f) l := by
          intro l
          induction l with
          | nil => left; rfl
          | cons c l ihl =>
            simp only [lookL]
            split
            · exact ihl
            · rename_i h; rcases ih (t := c) with h' | h'
              · exact absurd h' h
              · exact .inr h'
        exact this _

theorem encode_eq {t : Tree} (ht : TreeOk t) : Fc45 t = some (encO t) := by
  have e : FMc45 (t, 0, []) = some (encO t) := by
    unfold FMc45 encO
    simp only [Tree.eta]
    have h46 : Fc81 (t, 1) = some (lkA (lookE 16 t)) := look_eq 20 16 t (by omega) (by omega) ht
    rw [h46]
    by_cases h : lookE 16 t = 0
    · rw [if_pos h, h]
      have e0 : lkA 0 = .inl () := rfl
      rw [e0]
      simp only [Option.bind_some]
      have h47 : Fc82 ([], t) = some (if ([] : List Int).length + t.enc.length ≤ 65536 then .inl ([] ++ t.enc) else .inr (121, ())) := write_eq12 (t.rank + 1) t [] (by omega) ht (by simp)
      rw [h47]
      simp only [List.length_nil, Nat.zero_add, List.nil_append]
      by_cases h2 : t.enc.length ≤ 65536
      · rw [if_pos h2, if_pos h2]; rfl
      · rw [if_neg h2, if_neg h2]; rfl
    · rw [if_neg h, lkA_ne h]
      simp only [Option.bind_some]
      have hn : lookE 16 t ≠ 0 := h
      have : FPc80 (lookE 16 t) (0, []) = some (lookE 16 t, []) := by
        unfold FPc80
        simp only []
        split <;> rfl
      rw [this]; rfl
  have e1 : Fc45 t = (FMc45 (Tree.node t.tag t.body t.kids, 0, [])).bind fun (b, e) => some (b, e) := rfl
  rw [e1, Tree.eta, e]; rfl

/-! ### the document's -/
def Cap (x l : List Int) : Prop := (l.length ≤ 65536 → x = l) ∧ (65536 < l.length → 65536 < x.length)
theorem Cap.refl (l : List Int) : Cap l l := ⟨fun _ => rfl, id⟩
theorem Cap.append {x y l m : List Int} (h : Cap x l) (hx : x.length ≤ 65536) (h2 : Cap y m) : Cap (x ++ y) (l ++ m) := by
  have hl : l.length ≤ 65536 := by
    by_cases hl : l.length ≤ 65536
    · exact hl
    · have := h.2 (by omega); omega
  have e := h.1 hl
  subst e
  refine ⟨fun h3 => ?_, fun h3 => ?_⟩
  · rw [h2.1 (by simp only [List.length_append] at h3; omega)]
  · by_cases hm : m.length ≤ 65536
    · rw [h2.1 hm]; exact h3
    · have := h2.2 (by omega); simp only [List.length_append]; omega

end Go.Abs

/- Are two items one; an item in new memory; a live question; the laws of one form, of writing, of cutting short. -/
set_option linter.unusedVariables false
set_option linter.unusedSimpArgs false
namespace Go.Abs

theorem getD_at {l : List Int} {k : Nat} (h : k < l.length) : l.getD ((k : Nat) : Int).toNat 0 = l[k] := by
  show l.getD k 0 = l[k]
  simp [List.getD_eq_getElem?_getD, h]

theorem drop_iff {α : Type} {a b : List α} {k : Nat} (ha : k < a.length) (hb : k < b.length) (h : a[k] = b[k]) : (a.drop k = b.drop k) ↔ (a.drop (k + 1) = b.drop (k + 1)) := by
  have da : a.drop k = a[k] :: a.drop (k + 1) := List.drop_eq_getElem_cons ha
  have db : b.drop k = b[k] :: b.drop (k + 1) := List.drop_eq_getElem_cons hb
  rw [da, db, h]
  exact ⟨fun e => (List.cons.inj e).2, fun e => by rw [e]⟩
theorem drop_ne {α : Type} {a b : List α} {k : Nat} (ha : k < a.length) (hb : k < b.length) (h : a[k] ≠ b[k]) : ¬ (a.drop k = b.drop k) := by
  have da : a.drop k = a[k] :: a.drop (k + 1) := List.drop_eq_getElem_cons ha
  have db : b.drop k = b[k] :: b.drop (k + 1) := List.drop_eq_getElem_cons hb
  rw [da, db]
  exact fun e => h (List.cons.inj e).1
theorem same_loop {a b : List Int} (hl : a.length = b.length) (ha : a.length ≤ 9000000000000000) :
    ∀ (j k : Nat), j = a.length - k → k ≤ a.length → loopO stepc10_0 (a, b, (k : Int)) = some (if a.drop k = b.drop k then .inr () else .inl false) := by
  intro j
  induction j with
  | zero =>
    intro k hj hk
    have e : k = a.length := by omega
    subst e
    rw [loopO_eq]
    simp only [stepc10_0, Int.lt_irrefl, decide_false, Bool.false_eq_true, if_false]
    rw [if_pos (by rw [List.drop_length, hl, List.drop_length])]
  | succ j ih =>
    intro k hj hk
    have hka : k < a.length := by omega
    have hkb : k < b.length := by omega
    have d1 : decide (((k : Nat) : Int) < (a.length : Int)) = true := decide_eq_true (by omega)
    rw [loopO_eq]
    simp only [stepc10_0, d1, if_true]
    rw [if_pos (by omega), if_pos (by omega), getD_at hka, getD_at hkb]
    have da : a.drop k = a[k] :: a.drop (k + 1) := List.drop_eq_getElem_cons hka
    have db : b.drop k = b[k] :: b.drop (k + 1) := List.drop_eq_getElem_cons hkb
    by_cases h : a[k] = b[k]
    · have d2 : (a[k] != b[k]) = false := by simpa using h
      rw [if_neg (by rw [d2]; decide), wi64 (by omega) (by omega)]
      have ek : ((k : Nat) : Int) + 1 = ((k + 1 : Nat) : Int) := by omega
      rw [ek]
      show loopO stepc10_0 (a, b, ((k + 1 : Nat) : Int)) = _
      rw [ih (k + 1) (by omega) (by omega)]
      have e := drop_iff hka hkb h
      simp only [e]
    · have d2 : (a[k] != b[k]) = true := by simpa using h
      rw [if_pos d2]
      have e := drop_ne hka hkb h
      rw [if_neg e]

/-- barbicanref01.Same -/
theorem same_eq {a b : List Int} (ha : a.length ≤ 9000000000000000) : Fc10 (a, b) = some (decide (a = b)) := by
  simp only [Fc10]
  by_cases h : a.length = b.length
  · rw [if_neg (by simp [h])]
    have e0 : (0 : Int) = ((0 : Nat) : Int) := rfl
    rw [e0, same_loop h ha _ 0 rfl (Nat.zero_le _)]
    simp only [List.drop_zero]
    by_cases h2 : a = b
    · rw [if_pos h2, decide_eq_true h2]; rfl
    · rw [if_neg h2, decide_eq_false h2]; rfl
  · have d1 : ((a.length : Int) != (b.length : Int)) = true := by simp; omega
    rw [if_pos d1, decide_eq_false (fun h2 => h (by rw [h2]))]

/-! ### barbicanref12.Same -/
theorem Tree.ext' {a b : Tree} (h1 : a.tag = b.tag) (h2 : a.body = b.body) (h3 : a.kids = b.kids) : a = b := by
  cases a; cases b; simp only [Tree.tag, Tree.body, Tree.kids] at h1 h2 h3; subst h1 h2 h3; rfl

open Classical in
/-! ### Copied -/
/-! ### alive -/
/-! ### the laws -/
theorem decB_encO {t : Tree} (h : (encO t).2 = 0) : decB (encO t).1 = (t, 0) ∧ (encO t).1 = t.enc ∧ t.enc.length ≤ 65536 ∧ lookE 16 t = 0 := by
  unfold encO at h ⊢
  by_cases h1 : lookE 16 t = 0
  · rw [if_pos h1] at h ⊢
    by_cases h2 : t.enc.length ≤ 65536
    · rw [if_pos h2] at h ⊢
      refine ⟨?_, rfl, h2, h1⟩
      show decB t.enc = _
      unfold decB
      rw [if_neg (by omega)]
      have := rdI_enc 16 t h1 (by omega) []
      rw [List.append_nil] at this
      rw [this]
      simp
    · rw [if_neg h2] at h; simp at h
  · rw [if_neg h1] at h
    exact absurd h h1

theorem encO_decB {b : List Int} (hb : By b) (h : (decB b).2 = 0) : encO (decB b).1 = (b, 0) ∧ TreeOk (decB b).1 := by
  unfold decB at h ⊢
  split at h
  · simp at h
  · rename_i hl
    rw [if_neg hl]
    split at h
    · rename_i e he
      have := rdI_err he
      simp only at h; omega
    · rename_i t r hr
      by_cases hnil : r = []
      · rw [if_pos hnil] at h ⊢
        subst hnil
        obtain ⟨h1, h2, h3⟩ := rdI_spec 16 b t [] hb (by omega) hr
        rw [List.append_nil] at h1
        refine ⟨?_, h3⟩
        show encO t = (b, 0)
        unfold encO
        rw [if_pos h2, if_pos (by rw [← h1]; omega), ← h1]
      · rw [if_neg hnil] at h; simp at h

theorem decB_err {b : List Int} (h : (decB b).2 ≠ 0) : (decB b).1 = .node 0 [] [] := by
  unfold decB at h ⊢
  split
  · rfl
  · rename_i hl
    rw [if_neg hl] at h
    split
    · rfl
    · rename_i t r hr
      simp only [hr] at h
      split
      · rename_i hnil; rw [if_pos hnil] at h; exact absurd rfl h
      · rfl

theorem treeOk_zero : TreeOk (.node 0 [] []) := TreeOk.mk (by omega) By.nil (by simp) (by simp) (by simp)

theorem encO_by {t : Tree} (ht : TreeOk t) (h : (encO t).2 = 0) : By (encO t).1 := by
  obtain ⟨h1, h2, h3, h4⟩ := decB_encO h
  rw [h2]
  have key : ∀ (t : Tree), TreeOk t → t.enc.length < 16777216 → By t.enc := by
    refine Tree.ind fun t ih ht hl => ?_
    rw [Tree.enc_eq] at hl ⊢
    simp only [List.length_cons, List.length_append] at hl
    refine By.cons.2 ⟨ht.tag, By.append.2 ⟨szB_by (by omega), ?_⟩⟩
    cases hb : bltT t.tag with
    | false => simp only [Bool.false_eq_true, if_false]; exact By.of ht.byt
    | true =>
      simp only [hb, if_true] at hl ⊢
      have : ∀ l : List Tree, (∀ c ∈ l, c ∈ t.kids) → (Tree.encs l).length < 16777216 → By (Tree.encs l) := by
        intro l
        induction l with
        | nil => intro _ _; exact By.nil
        | cons c l ihl =>
          intro hc hl
          simp only [Tree.encs, List.length_append] at hl ⊢
          exact By.append.2 ⟨ih c (hc c (by simp)) (ht.kid (hc c (by simp))) (by omega), ihl (fun d hd => hc d (by simp [hd])) (by omega)⟩
      exact this _ (fun c hc => hc) (by omega)
  exact key t ht (by omega)

end Go.Abs

