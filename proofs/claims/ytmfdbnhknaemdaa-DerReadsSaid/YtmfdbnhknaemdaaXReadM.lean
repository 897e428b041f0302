/- Reading an item: what der.Decode answers. -/
import Derived.Test.YtmfdbnhknaemdaaXTreeM
set_option linter.unusedVariables false
set_option linter.unusedSimpArgs false
namespace Go.Abs

def By (l : List Int) : Prop := ∀ y ∈ l, 0 ≤ y ∧ y < 256
theorem By.of {l : List Int} (h : ∀ y ∈ l, (Lit.int .u8 y).wf = true) : By l := fun y hy => by have := Go.bounds_u8 (h y hy); omega
theorem By.to {l : List Int} (h : By l) : ∀ y ∈ l, (Lit.int .u8 y).wf = true := fun y hy => by
  have := h y hy
  have e1 : IntKind.u8.min = 0 := rfl
  have e2 : IntKind.u8.max = 255 := rfl
  simp only [Lit.wf, e1, e2, Bool.and_eq_true, decide_eq_true_eq]
  omega
theorem By.cons {x : Int} {l : List Int} : By (x :: l) ↔ (0 ≤ x ∧ x < 256) ∧ By l := by
  constructor
  · intro h; exact ⟨h x (by simp), fun y hy => h y (by simp [hy])⟩
  · rintro ⟨h1, h2⟩ y hy
    rcases List.mem_cons.1 hy with rfl | hy
    · exact h1
    · exact h2 y hy
theorem By.append {l r : List Int} : By (l ++ r) ↔ By l ∧ By r := by
  constructor
  · intro h; exact ⟨fun y hy => h y (by simp [hy]), fun y hy => h y (by simp [hy])⟩
  · rintro ⟨h1, h2⟩ y hy
    rcases List.mem_append.1 hy with hy | hy
    · exact h1 y hy
    · exact h2 y hy
theorem By.take {l : List Int} (h : By l) (n : Nat) : By (l.take n) := fun y hy => h y (List.mem_of_mem_take hy)
theorem By.drop {l : List Int} (h : By l) (n : Nat) : By (l.drop n) := fun y hy => h y (List.mem_of_mem_drop hy)
theorem By.nil : By [] := fun y hy => by simp at hy

def num : List Int → Int := List.foldl (fun a x => 256 * a + x) 0

/-- a length: the number and the rest, or what is wrong -/
def rdLen : List Int → (Int × List Int) ⊕ Int
  | [] => .inr 122
  | c :: s => if c < 128 then .inl (c, s) else if c = 128 ∨ 131 < c then .inr 124 else if s.length < (c - 128).toNat then .inr 122 else
    if s.getD 0 0 = 0 ∨ num (s.take (c - 128).toNat) < 128 then .inr 124 else .inl (num (s.take (c - 128).toNat), s.drop (c - 128).toNat)

theorem rdLen_cons (c : Int) (s : List Int) : rdLen (c :: s) = if c < 128 then .inl (c, s) else if c = 128 ∨ 131 < c then .inr 124 else if s.length < (c - 128).toNat then .inr 122 else
    if s.getD 0 0 = 0 ∨ num (s.take (c - 128).toNat) < 128 then .inr 124 else .inl (num (s.take (c - 128).toNat), s.drop (c - 128).toNat) := rfl

def rdKs (g : List Int → (Tree × List Int) ⊕ Int) : Nat → List Int → List Tree ⊕ Int
  | _, [] => .inl []
  | 0, _ :: _ => .inr 1
  | m + 1, x :: s => (match g (x :: s) with
    | .inr e => .inr e
    | .inl (t, r) => (match rdKs g m r with | .inl ks => .inl (t :: ks) | .inr e => .inr e))

/-- an item and the rest, or what is wrong -/
def rdI : Nat → List Int → (Tree × List Int) ⊕ Int
  | 0, _ => .inr 125
  | _ + 1, [] => .inr 122
  | f + 1, t :: s => if t % 32 = 31 then .inr 123 else (match rdLen s with
    | .inr e => .inr e
    | .inl (n, r) => if (r.length : Int) < n then .inr 122 else
      if bltT t then (match rdKs (rdI f) n.toNat (r.take n.toNat) with | .inl ks => .inl (.node t [] ks, r.drop n.toNat) | .inr e => .inr e)
      else .inl (.node t (r.take n.toNat) [], r.drop n.toNat))

theorem rdI_cons (f : Nat) (t : Int) (s : List Int) : rdI (f + 1) (t :: s) = if t % 32 = 31 then .inr 123 else (match rdLen s with
    | .inr e => .inr e
    | .inl (n, r) => if (r.length : Int) < n then .inr 122 else
      if bltT t then (match rdKs (rdI f) n.toNat (r.take n.toNat) with | .inl ks => .inl (.node t [] ks, r.drop n.toNat) | .inr e => .inr e)
      else .inl (.node t (r.take n.toNat) [], r.drop n.toNat)) := rfl
theorem rdKs_cons (g : List Int → (Tree × List Int) ⊕ Int) (m : Nat) (x : Int) (s : List Int) : rdKs g (m + 1) (x :: s) = (match g (x :: s) with
    | .inr e => .inr e
    | .inl (t, r) => (match rdKs g m r with | .inl ks => .inl (t :: ks) | .inr e => .inr e)) := rfl

/-! ### the code's -/
theorem take_ge {s : List Int} {n : Nat} (h : n ≤ s.length) : (s.take n).length = n := by simp; omega

theorem bitsOr8 {a b : Int} (h1 : 0 ≤ a) (h2 : a < 16777216) (h3 : 0 ≤ b) (h4 : b < 256) : bitsOr .i64 (shlI .i64 a 8) (IntKind.i64.wrap b) = 256 * a + b := by
  have e1 : shlI .i64 a 8 = 256 * a := by
    unfold shlI
    rw [show min (8 : Int).toNat IntKind.i64.bits = 8 from rfl, wi64 (by omega) (by omega)]; omega
  rw [e1, wi64 (by omega) (by omega)]
  unfold bitsOr
  have e2 : (BitVec.ofInt IntKind.i64.bits (256 * a) ||| BitVec.ofInt IntKind.i64.bits b).toNat = (256 * a + b).toNat := by
    rw [BitVec.toNat_or, BitVec.toNat_ofInt, BitVec.toNat_ofInt]
    have p : ((2 ^ IntKind.i64.bits : Nat) : Int) = 18446744073709551616 := rfl
    rw [p]
    have q1 : (256 * a % 18446744073709551616).toNat = 2 ^ 8 * a.toNat := by omega
    have q2 : (b % 18446744073709551616).toNat = b.toNat := by omega
    rw [q1, q2, ← Nat.two_pow_add_eq_or_of_lt (by omega : b.toNat < 2 ^ 8)]
    omega
  rw [e2]
  have : (((256 * a + b).toNat : Nat) : Int) = 256 * a + b := by omega
  rw [this, wi64 (by omega) (by omega)]

theorem len_loop {s r : List Int} (hs : By s) (hl : s.length ≤ 3) : loopO stepd57_0 (0, s, s, (s.length : Int), 0, r) = some (num s, s, r) := by
  match s, hs, hl with
  | [], _, _ => rw [loopO_eq]; rfl
  | [a], hs, _ =>
    have ha := hs a (by simp)
    rw [loopO_eq]
    have e1 : stepd57_0 (0, [a], [a], (([a] : List Int).length : Int), 0, r) = some (.inl (bitsOr .i64 (shlI .i64 0 8) (IntKind.i64.wrap a), [a], [a], 1, 1, r)) := rfl
    rw [e1, bitsOr8 (by omega) (by omega) ha.1 ha.2]
    simp only []
    rw [loopO_eq]
    have e2 : ∀ x : Int, stepd57_0 (x, [a], [a], 1, 1, r) = some (.inr (x, [a], r)) := fun _ => rfl
    rw [e2]
    rfl
  | [a, b], hs, _ =>
    have ha := hs a (by simp)
    have hb := hs b (by simp)
    rw [loopO_eq]
    have e1 : stepd57_0 (0, [a, b], [a, b], (([a, b] : List Int).length : Int), 0, r) = some (.inl (bitsOr .i64 (shlI .i64 0 8) (IntKind.i64.wrap a), [a, b], [a, b], 2, 1, r)) := rfl
    rw [e1, bitsOr8 (by omega) (by omega) ha.1 ha.2]
    simp only []
    rw [loopO_eq]
    have e2 : ∀ x : Int, stepd57_0 (x, [a, b], [a, b], 2, 1, r) = some (.inl (bitsOr .i64 (shlI .i64 x 8) (IntKind.i64.wrap b), [a, b], [a, b], 2, 2, r)) := fun _ => rfl
    rw [e2, bitsOr8 (by omega) (by omega) hb.1 hb.2]
    simp only []
    rw [loopO_eq]
    have e3 : ∀ x : Int, stepd57_0 (x, [a, b], [a, b], 2, 2, r) = some (.inr (x, [a, b], r)) := fun _ => rfl
    rw [e3]
    rfl
  | [a, b, c], hs, _ =>
    have ha := hs a (by simp)
    have hb := hs b (by simp)
    have hc := hs c (by simp)
    rw [loopO_eq]
    have e1 : stepd57_0 (0, [a, b, c], [a, b, c], (([a, b, c] : List Int).length : Int), 0, r) = some (.inl (bitsOr .i64 (shlI .i64 0 8) (IntKind.i64.wrap a), [a, b, c], [a, b, c], 3, 1, r)) := rfl
    rw [e1, bitsOr8 (by omega) (by omega) ha.1 ha.2]
    simp only []
    rw [loopO_eq]
    have e2 : ∀ x : Int, stepd57_0 (x, [a, b, c], [a, b, c], 3, 1, r) = some (.inl (bitsOr .i64 (shlI .i64 x 8) (IntKind.i64.wrap b), [a, b, c], [a, b, c], 3, 2, r)) := fun _ => rfl
    rw [e2, bitsOr8 (by omega) (by omega) hb.1 hb.2]
    simp only []
    rw [loopO_eq]
    have e3 : ∀ x : Int, stepd57_0 (x, [a, b, c], [a, b, c], 3, 2, r) = some (.inl (bitsOr .i64 (shlI .i64 x 8) (IntKind.i64.wrap c), [a, b, c], [a, b, c], 3, 3, r)) := fun _ => rfl
    rw [e3, bitsOr8 (by omega) (by omega) hc.1 hc.2]
    simp only []
    rw [loopO_eq]
    have e4 : ∀ x : Int, stepd57_0 (x, [a, b, c], [a, b, c], 3, 3, r) = some (.inr (x, [a, b, c], r)) := fun _ => rfl
    rw [e4]
    rfl
  | a :: b :: c :: d :: l, _, hl => simp at hl

def sw {α : Type} : (Int × α) ⊕ Int → (Int × Unit) ⊕ (Int × α)
  | .inl x => .inr x
  | .inr e => .inl (e, ())

theorem take_eq {s : List Int} : Fd55 s = some (match s with | [] => .inl (122, ()) | c :: r => .inr (c, r)) := by
  cases s with
  | nil => rfl
  | cons c r =>
    simp only [Fd55]
    have d1 : (((c :: r).length : Int) == 0) = false := by simp; omega
    simp only [d1, Bool.false_eq_true, if_false]
    rw [if_pos (by simp only [List.length_cons]; omega), if_pos (by simp only [List.length_cons]; omega)]
    rfl

theorem cut_eq {s : List Int} {n : Int} (hn : 0 ≤ n) : Fd56 (s, n) = some (if (s.length : Int) < n then .inl (122, ()) else .inr (s.take n.toNat, s.drop n.toNat)) := by
  simp only [Fd56]
  by_cases h : (s.length : Int) < n
  · have d1 : decide (n > (s.length : Int)) = true := decide_eq_true (by omega)
    simp only [d1, if_true]
    rw [if_pos h]
    rfl
  · have d1 : decide (n > (s.length : Int)) = false := decide_eq_false (by omega)
    simp only [d1, Bool.false_eq_true, if_false]
    rw [if_neg h]
    simp only [if_pos (show 0 ≤ n ∧ n ≤ (s.length : Int) from ⟨hn, by omega⟩)]

theorem and127 {c : Int} (h1 : 128 ≤ c) (h2 : c < 132) : IntKind.i64.wrap (bitsAnd .u8 c 127) = c - 128 := by
  rcases (by omega : c = 128 ∨ c = 129 ∨ c = 130 ∨ c = 131) with rfl | rfl | rfl | rfl <;> decide

theorem len_eq {s : List Int} (hs : By s) : Fd57 s = some (sw (rdLen s)) := by
  simp only [Fd57, take_eq]
  cases s with
  | nil => rfl
  | cons c s =>
    obtain ⟨hc, hs⟩ := By.cons.1 hs
    simp only [Option.bind_some]
    rw [rdLen_cons]
    by_cases h1 : c < 128
    · rw [if_pos (decide_eq_true h1), if_pos h1, wi64 (by omega) (by omega)]; rfl
    · rw [if_neg (by simpa using h1), if_neg h1]
      by_cases h2 : c = 128
      · subst h2; rfl
      · have d2 : (c == 128) = false := by simpa using h2
        rw [if_pos d2]
        by_cases h3 : 131 < c
        · rw [if_pos (decide_eq_true h3), if_pos (.inr h3)]; rfl
        · rw [if_neg (by simpa using h3), if_neg (by omega), and127 (by omega) (by omega), cut_eq (by omega)]
          by_cases h4 : (s.length : Int) < c - 128
          · rw [if_pos h4, if_pos (by omega)]; rfl
          · rw [if_neg h4, if_neg (by omega)]
            simp only [Option.bind_some]
            have hlen : (s.take (c - 128).toNat).length = (c - 128).toNat := take_ge (by omega)
            rw [len_loop (hs.take _) (by rw [hlen]; omega)]
            simp only [Option.bind_some]
            rw [if_pos ⟨by omega, by rw [hlen]; omega⟩]
            have h0 : (s.take (c - 128).toNat).getD 0 0 = s.getD 0 0 := by
              cases s with
              | nil => simp at h4; omega
              | cons a s =>
                have : (c - 128).toNat = ((c - 128).toNat - 1) + 1 := by omega
                rw [this]; rfl
            rw [h0]
            by_cases h5 : s.getD 0 0 = 0
            · have d5 : (s.getD 0 0 == 0) = true := by simpa using h5
              rw [if_neg (by rw [d5]; decide), if_pos (.inl h5)]; rfl
            · have d5 : (s.getD 0 0 == 0) = false := by simpa using h5
              rw [if_pos d5]
              by_cases h6 : num (s.take (c - 128).toNat) < 128
              · rw [if_pos (decide_eq_true h6), if_pos (.inr h6)]; rfl
              · rw [if_neg (by simpa using h6), if_neg (by rintro (h | h); exact h5 h; exact h6 h)]; rfl

theorem num_bound {s : List Int} (hs : By s) (hl : s.length ≤ 3) : 0 ≤ num s ∧ num s < 16777216 := by
  match s, hs, hl with
  | [], _, _ => exact ⟨by decide, by decide⟩
  | [a], hs, _ =>
    have ha := hs a (by simp)
    simp only [num, List.foldl]; omega
  | [a, b], hs, _ =>
    have ha := hs a (by simp)
    have hb := hs b (by simp)
    simp only [num, List.foldl]; omega
  | [a, b, c], hs, _ =>
    have ha := hs a (by simp)
    have hb := hs b (by simp)
    have hc := hs c (by simp)
    simp only [num, List.foldl]; omega
  | a :: b :: c :: d :: l, _, hl => simp at hl

theorem rdLen_spec {s r : List Int} {n : Int} (hs : By s) (h : rdLen s = .inl (n, r)) : s = szB n.toNat ++ r ∧ 0 ≤ n ∧ n < 16777216 := by
  cases s with
  | nil => cases h
  | cons c s =>
    obtain ⟨hc, hs⟩ := By.cons.1 hs
    rw [rdLen_cons] at h
    split at h
    · rename_i h1
      cases h
      refine ⟨?_, hc.1, by omega⟩
      unfold szB
      rw [if_pos (by omega)]
      have : ((n.toNat : Nat) : Int) = n := by omega
      rw [this]; rfl
    · split at h
      · cases h
      · split at h
        · cases h
        · split at h
          · cases h
          · rename_i h1 h2 h3 h4
            cases h
            have hlen : (s.take (c - 128).toNat).length = (c - 128).toNat := take_ge (by omega)
            refine ⟨?_, (num_bound (hs.take _) (by rw [hlen]; omega)).1, (num_bound (hs.take _) (by rw [hlen]; omega)).2⟩
            have hsplit : s = s.take (c - 128).toNat ++ s.drop (c - 128).toNat := (List.take_append_drop _ s).symm
            rcases (by omega : c = 129 ∨ c = 130 ∨ c = 131) with rfl | rfl | rfl
            · match s, hs, h3, h4 with
              | [], _, h3, _ => simp at h3
              | a :: s, hs, _, h4 =>
                have ha := hs a (by simp)
                have e : num ((a :: s).take (129 - 128 : Int).toNat) = a := by show num [a] = a; simp [num]
                rw [e] at h4 ⊢
                unfold szB
                rw [if_neg (by omega), if_pos (by omega)]
                have : ((a.toNat : Nat) : Int) = a := by omega
                rw [this]; rfl
            · match s, hs, h3, h4 with
              | [], _, h3, _ => simp at h3
              | [a], _, h3, _ => simp at h3
              | a :: b :: s, hs, _, h4 =>
                have ha := hs a (by simp)
                have hb := hs b (by simp)
                have e : num ((a :: b :: s).take (130 - 128 : Int).toNat) = 256 * a + b := by show num [a, b] = _; simp [num]
                have ea : (a :: b :: s).getD 0 0 = a := rfl
                rw [e, ea] at h4
                rw [e]
                unfold szB
                rw [if_neg (by omega), if_neg (by omega), if_pos (by omega)]
                have e1 : (((256 * a + b).toNat / 256 : Nat) : Int) = a := by omega
                have e2 : (((256 * a + b).toNat % 256 : Nat) : Int) = b := by omega
                rw [e1, e2]; rfl
            · match s, hs, h3, h4 with
              | [], _, h3, _ => simp at h3
              | [a], _, h3, _ => simp at h3
              | [a, b], _, h3, _ => simp at h3
              | a :: b :: c :: s, hs, _, h4 =>
                have ha := hs a (by simp)
                have hb := hs b (by simp)
                have hcc := hs c (by simp)
                have e : num ((a :: b :: c :: s).take (131 - 128 : Int).toNat) = 256 * (256 * a + b) + c := by show num [a, b, c] = _; simp [num]
                have ea : (a :: b :: c :: s).getD 0 0 = a := rfl
                rw [e, ea] at h4
                rw [e]
                unfold szB
                rw [if_neg (by omega), if_neg (by omega), if_neg (by omega)]
                have e1 : (((256 * (256 * a + b) + c).toNat / 65536 : Nat) : Int) = a := by omega
                have e2 : (((256 * (256 * a + b) + c).toNat / 256 % 256 : Nat) : Int) = b := by omega
                have e3 : (((256 * (256 * a + b) + c).toNat % 256 : Nat) : Int) = c := by omega
                rw [e1, e2, e3]; rfl

theorem szB_len (n : Nat) : 1 ≤ (szB n).length ∧ (szB n).length ≤ 4 := by
  unfold szB
  split
  · simp
  · split
    · simp
    · split <;> simp
theorem szB_by {n : Nat} (h : n < 16777216) : By (szB n) := by
  unfold szB
  split
  · exact By.cons.2 ⟨by omega, By.nil⟩
  · split
    · exact By.cons.2 ⟨by omega, By.cons.2 ⟨by omega, By.nil⟩⟩
    · split
      · exact By.cons.2 ⟨by omega, By.cons.2 ⟨by omega, By.cons.2 ⟨by omega, By.nil⟩⟩⟩
      · exact By.cons.2 ⟨by omega, By.cons.2 ⟨by omega, By.cons.2 ⟨by omega, By.cons.2 ⟨by omega, By.nil⟩⟩⟩⟩

theorem rdLen_szB {n : Nat} (h : n < 16777216) (r : List Int) : rdLen (szB n ++ r) = .inl ((n : Int), r) := by
  unfold szB
  split
  · rename_i h1
    show rdLen ((n : Int) :: r) = _
    rw [rdLen_cons, if_pos (by omega)]
  · split
    · rename_i h1 h2
      show rdLen (129 :: (n : Int) :: r) = _
      rw [rdLen_cons, if_neg (by omega), if_neg (by omega), if_neg (by simp)]
      have e1 : ((n : Int) :: r).take (129 - 128 : Int).toNat = [(n : Int)] := by simp
      have e2 : ((n : Int) :: r).drop (129 - 128 : Int).toNat = r := by simp
      have e3 : num [(n : Int)] = n := by simp [num]
      rw [e1, e2, e3, if_neg (by simp; omega)]
    · split
      · rename_i h1 h2 h3
        show rdLen (130 :: ((n / 256 : Nat) : Int) :: ((n % 256 : Nat) : Int) :: r) = _
        rw [rdLen_cons, if_neg (by omega), if_neg (by omega), if_neg (by simp)]
        have e1 : (((n / 256 : Nat) : Int) :: ((n % 256 : Nat) : Int) :: r).take (130 - 128 : Int).toNat = [((n / 256 : Nat) : Int), ((n % 256 : Nat) : Int)] := rfl
        have e2 : (((n / 256 : Nat) : Int) :: ((n % 256 : Nat) : Int) :: r).drop (130 - 128 : Int).toNat = r := rfl
        have e3 : num [((n / 256 : Nat) : Int), ((n % 256 : Nat) : Int)] = n := by simp only [num, List.foldl]; omega
        have e4 : (((n / 256 : Nat) : Int) :: ((n % 256 : Nat) : Int) :: r).getD 0 0 = ((n / 256 : Nat) : Int) := rfl
        rw [e1, e2, e3, e4, if_neg (by omega)]
      · rename_i h1 h2 h3
        show rdLen (131 :: ((n / 65536 : Nat) : Int) :: ((n / 256 % 256 : Nat) : Int) :: ((n % 256 : Nat) : Int) :: r) = _
        rw [rdLen_cons, if_neg (by omega), if_neg (by omega), if_neg (by simp)]
        have e1 : (((n / 65536 : Nat) : Int) :: ((n / 256 % 256 : Nat) : Int) :: ((n % 256 : Nat) : Int) :: r).take (131 - 128 : Int).toNat = [((n / 65536 : Nat) : Int), ((n / 256 % 256 : Nat) : Int), ((n % 256 : Nat) : Int)] := rfl
        have e2 : (((n / 65536 : Nat) : Int) :: ((n / 256 % 256 : Nat) : Int) :: ((n % 256 : Nat) : Int) :: r).drop (131 - 128 : Int).toNat = r := rfl
        have e3 : num [((n / 65536 : Nat) : Int), ((n / 256 % 256 : Nat) : Int), ((n % 256 : Nat) : Int)] = n := by simp only [num, List.foldl]; omega
        have e4 : (((n / 65536 : Nat) : Int) :: ((n / 256 % 256 : Nat) : Int) :: ((n % 256 : Nat) : Int) :: r).getD 0 0 = ((n / 65536 : Nat) : Int) := rfl
        rw [e1, e2, e3, e4, if_neg (by omega)]
end Go.Abs
