/- Tables of types, checked by computing. -/
import Derived.Test.YthihjipdkhmgkaaAbsL4L
set_option linter.unusedVariables false
set_option linter.unusedSimpArgs false
namespace Go.Abs

def valChk : Value → CV → Bool
  | .int k n, .int k' n' => k == k' && n == n'
  | .bool a, .bool b => a == b
  | .string s, .str s' => decide (s = s')
  | .pointer none, .val (.pointer none) => true
  | .slice none n c, .val (.slice none n' c') => Nat.beq n 0 && Nat.beq c 0 && Nat.beq n' 0 && Nat.beq c' 0
  | .nilFunc, .val .nilFunc => true
  | .nilIface, .val .nilIface => true
  | .map none, .val (.map none) => true
  | _, _ => false

def intsChk (k : IntKind) (f : Nat → Int) : Nat → Nat → List Value → Option (List Value)
  | 0, _, l => some l
  | n + 1, i, .int k' x :: l => bif k == k' && f i == x then intsChk k f n (i + 1) l else none
  | _, _, _ => none

def zeroChk : List CV → List Value → Bool
  | [], [] => true
  | .ints k n f :: cs, l => (match intsChk k f n 0 l with | some r => zeroChk cs r | none => false)
  | c :: cs, v :: l => valChk v c && zeroChk cs l
  | _, _ => false

theorem valChk_rel {v : Value} {c : CV} (h : valChk v c = true) (hh : HeapT) (β : Nat → Value) (w : World) : v.oneCell' = true ∧ CVRel hh β w c v ∧ (∀ k n f, c ≠ .ints k n f) ∧ ∀ n, c ≠ .junk n := by
  unfold valChk at h
  split at h <;> try (cases h; done)
  · simp only [Bool.and_eq_true, beq_iff_eq] at h; obtain ⟨h1, rfl⟩ := h; obtain rfl := beqK.1 (by simpa using h1); exact ⟨rfl, by simp only [CVRel], by simp, by simp⟩
  · obtain rfl := beq_iff_eq.1 h; exact ⟨rfl, by simp only [CVRel], by simp, by simp⟩
  · obtain rfl := of_decide_eq_true h; exact ⟨rfl, by simp only [CVRel], by simp, by simp⟩
  · exact ⟨rfl, by simp only [CVRel], by simp, by simp⟩
  · simp only [Bool.and_eq_true, nbeq] at h; obtain ⟨⟨⟨rfl, rfl⟩, rfl⟩, rfl⟩ := h; exact ⟨rfl, by simp only [CVRel], by simp, by simp⟩
  all_goals exact ⟨rfl, by simp only [CVRel], by simp, by simp⟩

theorem intsChk_spec {k : IntKind} {f : Nat → Int} : ∀ {n i : Nat} {l r : List Value}, intsChk k f n i l = some r → l = ((List.range' i n).map fun j => Value.int k (f j)) ++ r := by
  intro n
  induction n with
  | zero => intro i l r h; cases h; rfl
  | succ n ih =>
    intro i l r h
    match l, h with
    | .int k' x :: l, h =>
      simp only [intsChk] at h
      obtain ⟨h1, h2⟩ := cond_some h
      simp only [Bool.and_eq_true, beq_iff_eq] at h1
      obtain ⟨h3, h4⟩ := h1
      obtain rfl := beqK.1 (by simpa using h3)
      have := ih h2
      rw [List.range'_succ, List.map_cons, List.cons_append, ← this, h4]

theorem zeroChk_one {c : CV} (hc : ∀ k n f, c ≠ .ints k n f) (cs : List CV) (v : Value) (l : List Value) : zeroChk (c :: cs) (v :: l) = (valChk v c && zeroChk cs l) := by
  cases c <;> first | rfl | exact absurd rfl (hc _ _ _)
theorem zeroChk_none {c : CV} (hc : ∀ k n f, c ≠ .ints k n f) (cs : List CV) : zeroChk (c :: cs) [] = false := by
  cases c <;> first | rfl | exact absurd rfl (hc _ _ _)

theorem zeroChk_rel : ∀ {cs : List CV} {l : List Value}, zeroChk cs l = true → ∀ (h : HeapT) (β : Nat → Value) (w : World), SegsRel h β w cs l := by
  intro cs
  induction cs with
  | nil => intro l h hh β w; cases l with
    | nil => simp only [SegsRel]
    | cons => cases h
  | cons c cs ih =>
    intro l h hh β w
    have one : ∀ v l', l = v :: l' → (valChk v c && zeroChk cs l') = true → SegsRel hh β w (c :: cs) l := by
      intro v l' hl h9
      subst hl
      have h9 := Bool.and_eq_true_iff.1 h9
      obtain ⟨h1, h2, h3, h4⟩ := valChk_rel h9.1 hh β w
      cases c <;> simp only [SegsRel] <;> first | exact ⟨v, l', rfl, h1, h2, ih h9.2 hh β w⟩ | exact absurd rfl (h3 _ _ _) | exact absurd rfl (h4 _)
    by_cases hc : ∀ k n f, c ≠ .ints k n f
    · cases l with
      | nil => rw [zeroChk_none hc] at h; cases h
      | cons v l' => rw [zeroChk_one hc] at h; exact one v l' rfl h
    · have hx : ∃ k n f, c = .ints k n f := by
        rcases Classical.em (∃ k n f, c = .ints k n f) with h | h
        · exact h
        · exact absurd (fun k n f e => h ⟨k, n, f, e⟩) hc
      obtain ⟨k, n, f, rfl⟩ := hx
      simp only [zeroChk] at h
      split at h
      · rename_i r hr
        simp only [SegsRel]
        refine ⟨r, ?_, ih h hh β w⟩
        rw [intsChk_spec hr]
        simp [fnV, List.range_eq_range']
      · cases h

def tdChk : TypeDesc → TD → Bool
  | .int k, .int k' => k == k'
  | .bool, .bool => true
  | .string, .str => true
  | .pointer _, .ptr => true
  | .slice e, .slice e' => Nat.beq e e'
  | .array n e, .array n' e' => Nat.beq n n' && Nat.beq e e'
  | .struct fs, .struct l => decide (fs.toList.map (fun f => (f.type, f.offset)) = l)
  | .interface _, .other => true
  | .func _ _ _, .other => true
  | .map _ _, .other => true
  | .map k e, .map k' e' => Nat.beq k k' && Nat.beq e e'
  | _, _ => false

theorem tdChk_rel {d : TypeDesc} {t : TD} (h : tdChk d t = true) : TDRel d t := by
  unfold tdChk at h
  split at h <;> try (cases h; done)
  · exact beqK.1 h
  · trivial
  · trivial
  · trivial
  · exact nbeq.1 h
  · simp only [Bool.and_eq_true, nbeq] at h; exact h
  · have := of_decide_eq_true h; exact this
  · trivial
  · trivial
  · trivial
  · simp only [Bool.and_eq_true, nbeq] at h; exact h

def tiChk (P : Program) (t : Nat) (ti : TI) : Bool :=
  match P.info? t, P.underlying t with
  | some i, some d =>
    Nat.beq i.size ti.size && Nat.beq i.bytes ti.bytes && (match i.zero with | some z => zeroChk ti.zero z.cells.toList | none => false) && tdChk d ti.d &&
    (isAggT ti.d || Nat.beq ti.size 1) && Nat.beq (segSize ti.zero) ti.size && (match ti.d with | .int _ => Nat.blt 0 ti.bytes | _ => true) &&
    (match d with | .struct l => l.toList.all fun f => (P.info? f.type).isSome | _ => true) && (match ti.d with | .int _ => (match i.zero with | some (.int _ _) => true | _ => false) | _ => true)
  | _, _ => false

theorem tiChk_ok {P : Program} {t : Nat} {ti : TI} (h : tiChk P t ti = true) : TIOk P t ti := by
  unfold tiChk at h
  split at h
  · rename_i i d hi hd
    simp only [Bool.and_eq_true, nbeq] at h
    obtain ⟨⟨⟨⟨⟨⟨⟨⟨h1, h2⟩, h3⟩, h4⟩, h5⟩, h6⟩, h7⟩, h8⟩, h9⟩ := h
    refine ⟨?_, ⟨d, hd, tdChk_rel h4⟩, ?_, h6, ?_, ?_, ?_⟩
    · split at h3
      · rename_i z hz; exact ⟨i, hi, h1, h2, z, hz, fun h β w => zeroChk_rel h3 h β w⟩
      · cases h3
    · intro ha; rw [ha] at h5; simpa using h5
    · intro k hk; rw [hk] at h7; exact nblt.1 h7
    · intro k hk
      rw [hk] at h9
      simp only [] at h9
      split at h9
      · rename_i h10; exact ⟨_, _, _, hi, h10⟩
      · cases h9
    · intro l hl f hf
      rw [hd] at hl
      cases hl
      simp only [List.all_eq_true] at h8
      exact h8 f hf
  · cases h

def tabChk (P : Program) : Tab → Bool
  | [] => true
  | (t, ti) :: r => tiChk P t ti && tabChk P r

theorem tabChk_ok {P : Program} : ∀ {T : Tab}, tabChk P T = true → TabOk P T := by
  intro T
  induction T with
  | nil => intro _; exact TabOk.nil P
  | cons p r ih =>
    obtain ⟨t, ti⟩ := p
    intro h
    simp only [tabChk, Bool.and_eq_true] at h
    exact TabOk.cons (tiChk_ok h.1) (ih h.2)
end Go.Abs
