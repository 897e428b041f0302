/- Objects' names: read, by the code and by the document; the law. -/
import Derived.Test.YtmfdbnhknaemdaaXOidL
set_option linter.unusedVariables false
set_option linter.unusedSimpArgs false
namespace Go.Abs

def mx : Int := 4294967295
/-- figures read: those that are whole, each in its one form -/
def rdF : Bool → Int → List Int → Option (List Int)
  | fresh, _, [] => if fresh = true then some [] else none
  | fresh, v, c :: s => if fresh = true ∧ c = 128 then none else if 128 * v + c % 128 > mx then none else
    if 128 ≤ c then rdF false (128 * v + c % 128) s else (rdF true 0 s).map (fun l => (128 * v + c % 128) :: l)
theorem rdF_cons (fresh : Bool) (v c : Int) (s : List Int) : rdF fresh v (c :: s) = if fresh = true ∧ c = 128 then none else if 128 * v + c % 128 > mx then none else
    if 128 ≤ c then rdF false (128 * v + c % 128) s else (rdF true 0 s).map (fun l => (128 * v + c % 128) :: l) := rfl

/-! ### figures that were written are read -/
theorem rdF_hi : ∀ (n : Nat) (s : List Int), (n : Int) ≤ mx → rdF true 0 ((hi n).reverse ++ s) = if n = 0 then rdF true 0 s else rdF false n s := by
  intro n
  induction n using Nat.strongRecOn with
  | _ n ih =>
    intro s hn
    unfold mx at hn
    by_cases h : n = 0
    · subst h; rw [hi_zero, if_pos rfl]; rfl
    · rw [if_neg h, hi_pos h, List.reverse_cons, List.append_assoc]
      rw [ih (n / 128) (by omega) _ (by unfold mx; omega)]
      show (if n / 128 = 0 then rdF true 0 (((n % 128 + 128 : Nat) : Int) :: s) else rdF false ((n / 128 : Nat) : Int) (((n % 128 + 128 : Nat) : Int) :: s)) = _
      by_cases h1 : n / 128 = 0
      · rw [if_pos h1, rdF_cons, if_neg (by omega)]
        have e : 128 * (0 : Int) + ((n % 128 + 128 : Nat) : Int) % 128 = (n : Int) := by omega
        rw [e, if_neg (by unfold mx; omega), if_pos (by omega)]
      · rw [if_neg h1, rdF_cons, if_neg (by simp)]
        have e : 128 * ((n / 128 : Nat) : Int) + ((n % 128 + 128 : Nat) : Int) % 128 = (n : Int) := by omega
        rw [e, if_neg (by unfold mx; omega), if_pos (by omega)]

theorem rdF_fig {n : Nat} (hn : (n : Int) ≤ mx) (s : List Int) : rdF true 0 (fig n ++ s) = (rdF true 0 s).map (fun l => (n : Int) :: l) := by
  have hn' := hn
  unfold mx at hn'
  unfold fig
  rw [List.append_assoc, rdF_hi _ _ (by unfold mx; omega)]
  show (if n / 128 = 0 then rdF true 0 (((n % 128 : Nat) : Int) :: s) else rdF false ((n / 128 : Nat) : Int) (((n % 128 : Nat) : Int) :: s)) = _
  by_cases h : n / 128 = 0
  · rw [if_pos h, rdF_cons, if_neg (by omega)]
    have e : 128 * (0 : Int) + ((n % 128 : Nat) : Int) % 128 = (n : Int) := by omega
    rw [e, if_neg (by unfold mx; omega), if_neg (by omega)]
  · rw [if_neg h, rdF_cons, if_neg (by simp)]
    have e : 128 * ((n / 128 : Nat) : Int) + ((n % 128 : Nat) : Int) % 128 = (n : Int) := by omega
    rw [e, if_neg (by unfold mx; omega), if_neg (by omega)]

theorem rdF_figs : ∀ (l : List Int), (∀ y ∈ l, 0 ≤ y ∧ y ≤ mx) → rdF true 0 (figs l) = some l := by
  intro l
  induction l with
  | nil => intro _; rfl
  | cons x l ih =>
    intro h
    have hx := h x (by simp)
    have e : ((x.toNat : Nat) : Int) = x := by omega
    rw [figs_cons, rdF_fig (by omega), ih (fun y hy => h y (by simp [hy])), e]; rfl

/-! ### what is read is the figures' one form -/
theorem rdF_spec : ∀ (s : List Int), By s → (∀ vals, rdF true 0 s = some vals → s = figs vals ∧ ∀ y ∈ vals, 0 ≤ y ∧ y ≤ mx) ∧
    (∀ (n : Nat) vals, 0 < n → (n : Int) ≤ mx → rdF false n s = some vals → (hi n).reverse ++ s = figs vals ∧ ∀ y ∈ vals, 0 ≤ y ∧ y ≤ mx) := by
  intro s
  induction s with
  | nil =>
    intro _
    refine ⟨fun vals h => ?_, fun n vals _ _ h => by cases h⟩
    cases h; exact ⟨rfl, by simp⟩
  | cons c s ih =>
    intro hb
    obtain ⟨hc, hs⟩ := By.cons.1 hb
    obtain ⟨i1, i2⟩ := ih hs
    refine ⟨fun vals h => ?_, fun n vals hn hm h => ?_⟩
    · rw [rdF_cons] at h
      split at h
      · cases h
      · rename_i h1
        split at h
        · cases h
        · rename_i h2
          split at h
          · rename_i h3
            have hx : 128 * (0 : Int) + c % 128 = (((c - 128).toNat : Nat) : Int) := by omega
            rw [hx] at h h2
            have hne : c ≠ 128 := fun e => h1 ⟨rfl, e⟩
            obtain ⟨e1, e2⟩ := i2 (c - 128).toNat vals (by omega) (by omega) h
            refine ⟨?_, e2⟩
            rw [← e1, hi_pos (by omega), show (c - 128).toNat / 128 = 0 by omega, hi_zero]
            have : (((c - 128).toNat % 128 + 128 : Nat) : Int) = c := by omega
            rw [this]; rfl
          · rename_i h3
            cases hr : rdF true 0 s with
            | none => rw [hr] at h; cases h
            | some vs =>
              rw [hr] at h
              simp only [Option.map_some, Option.some.injEq] at h
              obtain ⟨e1, e2⟩ := i1 vs hr
              subst h
              have hx : 128 * (0 : Int) + c % 128 = c := by omega
              refine ⟨?_, ?_⟩
              · rw [hx, figs_cons, ← e1]
                unfold fig
                rw [show c.toNat / 128 = 0 by omega, hi_zero]
                have : ((c.toNat % 128 : Nat) : Int) = c := by omega
                rw [this]; rfl
              · intro y hy
                rcases List.mem_cons.1 hy with rfl | hy
                · exact ⟨by omega, by omega⟩
                · exact e2 y hy
    · rw [rdF_cons] at h
      rw [if_neg (by simp)] at h
      split at h
      · cases h
      · rename_i h2
        have hx : 128 * ((n : Nat) : Int) + c % 128 = ((128 * n + c.toNat % 128 : Nat) : Int) := by omega
        split at h
        · rename_i h3
          rw [hx] at h h2
          obtain ⟨e1, e2⟩ := i2 _ vals (by omega) (by omega) h
          refine ⟨?_, e2⟩
          rw [← e1, hi_pos (n := 128 * n + c.toNat % 128) (by omega), show (128 * n + c.toNat % 128) / 128 = n by omega, List.reverse_cons, List.append_assoc]
          have : (((128 * n + c.toNat % 128) % 128 + 128 : Nat) : Int) = c := by omega
          rw [this]; rfl
        · rename_i h3
          cases hr : rdF true 0 s with
          | none => rw [hr] at h; cases h
          | some vs =>
            rw [hr] at h
            simp only [Option.map_some, Option.some.injEq] at h
            obtain ⟨e1, e2⟩ := i1 vs hr
            subst h
            rw [hx] at h2 ⊢
            refine ⟨?_, ?_⟩
            · rw [figs_cons, ← e1]
              unfold fig
              have e3 : (((128 * n + c.toNat % 128 : Nat) : Int)).toNat = 128 * n + c.toNat % 128 := by omega
              rw [e3, show (128 * n + c.toNat % 128) / 128 = n by omega, List.append_assoc]
              have : (((128 * n + c.toNat % 128) % 128 : Nat) : Int) = c := by omega
              rw [this]; rfl
            · intro y hy
              rcases List.mem_cons.1 hy with rfl | hy
              · exact ⟨by omega, by omega⟩
              · exact e2 y hy

/-! ### the list of numbers -/
def fst2 (x : Int) : Int := if x / 40 ≤ 2 then x / 40 else 2
/-- figures as numbers, behind these -/
def ext (r : List Int) : List Int → List Int
  | [] => r
  | x :: xs => if r = [] then fst2 x :: (x - 40 * fst2 x) :: xs else r ++ x :: xs
theorem fst2_eq {x : Int} (h0 : 0 ≤ x) (h1 : x < 18446744073709551616) : (if 2 < IntKind.u64.wrap (x.tdiv 40) then 2 else IntKind.u64.wrap (x.tdiv 40)) = fst2 x := by
  rw [tdivP h0, wu64 (by omega) (by omega)]
  unfold fst2
  split <;> split <;> omega
theorem fst2_bd {x : Int} (h0 : 0 ≤ x) : 0 ≤ fst2 x ∧ fst2 x ≤ 2 ∧ 40 * fst2 x ≤ x ∧ (fst2 x < 2 → x - 40 * fst2 x < 40) := by
  unfold fst2
  split <;> omega

theorem or7 {a c : Int} (h1 : 0 ≤ a) (h2 : a ≤ mx) (h3 : 0 ≤ c) (h4 : c < 256) : bitsOr .u64 (shlI .u64 a 7) (IntKind.u64.wrap (bitsAnd .u8 c 127)) = 128 * a + c % 128 := by
  unfold mx at h2
  have e0 : bitsAnd .u8 c 127 = c % 128 := by
    have : ∀ m : Fin 256, bitsAnd .u8 ((m.val : Nat) : Int) 127 = ((m.val : Nat) : Int) % 128 := by decide +kernel
    have h := this ⟨c.toNat, by omega⟩
    have e : ((c.toNat : Nat) : Int) = c := by omega
    simp only [e] at h
    exact h
  have e1 : shlI .u64 a 7 = 128 * a := by
    unfold shlI
    rw [show min (7 : Int).toNat IntKind.u64.bits = 7 from rfl, wu64 (by omega) (by omega)]; omega
  rw [e0, e1, wu64 (by omega) (by omega), or64 (by omega) (by omega) (by omega) (by omega)]
  have e2 : (128 * a).toNat = 2 ^ 7 * a.toNat := by omega
  rw [e2, ← Nat.two_pow_add_eq_or_of_lt (by omega : (c % 128).toNat < 2 ^ 7)]
  omega

theorem ext_nil (r : List Int) : ext r [] = r := rfl
theorem ext_step {r : List Int} {x : Int} {xs : List Int} : ext (if r = [] then [fst2 x, x - 40 * fst2 x] else r ++ [x]) xs = ext r (x :: xs) := by
  by_cases h : r = []
  · rw [if_pos h]
    cases xs with
    | nil => simp [ext, h]
    | cons y ys => simp [ext, h]
  · rw [if_neg h]
    cases xs with
    | nil => simp [ext, h]
    | cons y ys => simp [ext, h]

noncomputable def t32 (v : Int) (b : List Int) (n k : Int) (r : List Int) : Option ((Int × Bool × (List Int) × Int × Int × List Int) ⊕ ((Int × List Int) ⊕ (Bool × List Int))) :=
  let x5 : Int := (bitsOr .u64 (shlI .u64 v 7) (IntKind.u64.wrap (bitsAnd .u8 (b.getD k.toNat 0) 127)))
  if (decide (x5 > 4294967295)) = true then
    some (.inr (.inl (127, ([] : List Int))))
  else
    if (!(decide ((b.getD k.toNat 0) < 128))) = true then
      some (.inl (x5, (decide ((b.getD k.toNat 0) < 128)), b, n, (IntKind.i64.wrap (k + 1)), r))
    else
      if ((r.length : Int) == 0) = true then
        let x6 : Int := (if 2 < (IntKind.u64.wrap (x5.tdiv 40)) then 2 else (IntKind.u64.wrap (x5.tdiv 40)))
        if okBytes (r.length + ((List.replicate 1 (0 : Int)).set 0 x6).length) 8 then
          let f7 : List Int := ((List.replicate 1 (0 : Int)).set 0 (IntKind.u64.wrap (x5 - (IntKind.u64.wrap (40 * x6)))))
          if okBytes ((r ++ ((List.replicate 1 (0 : Int)).set 0 x6)).length + f7.length) 8 then
            some (.inl (0, (decide ((b.getD k.toNat 0) < 128)), b, n, (IntKind.i64.wrap (k + 1)), ((r ++ ((List.replicate 1 (0 : Int)).set 0 x6)) ++ f7)))
          else none
        else none
      else
        if okBytes (r.length + ((List.replicate 1 (0 : Int)).set 0 x5).length) 8 then
          some (.inl (0, (decide ((b.getD k.toNat 0) < 128)), b, n, (IntKind.i64.wrap (k + 1)), (r ++ ((List.replicate 1 (0 : Int)).set 0 x5))))
        else none
theorem step32_eq (v : Int) (fresh : Bool) (b : List Int) (n k : Int) (r : List Int) : stepd32_0 (v, fresh, b, n, k, r) = if (decide (k < n)) = true then
      if (0 : Int) ≤ k ∧ k < (b.length : Int) then
        if fresh = true then
          if ((b.getD k.toNat 0) == 128) = true then
            some (.inr (.inl (127, ([] : List Int))))
          else t32 v b n k r
        else t32 v b n k r
      else none
    else
      some (.inr (.inr (fresh, r))) := rfl

def put32 (r : List Int) (x : Int) : List Int := if r = [] then [fst2 x, x - 40 * fst2 x] else r ++ [x]
theorem put32_len (r : List Int) (x : Int) : (put32 r x).length ≤ r.length + 2 := by
  unfold put32
  split
  · simp
  · simp
theorem t32_eq {v : Int} {b r : List Int} {n : Int} {k : Nat} (hb : By b) (hkl : k < b.length) (hl : b.length ≤ 65536) (h0 : 0 ≤ v) (h1 : v ≤ mx) (hr : r.length ≤ 100000) :
    t32 v b n (k : Int) r = if 128 * v + b[k] % 128 > mx then some (.inr (.inl (127, []))) else if 128 ≤ b[k] then some (.inl (128 * v + b[k] % 128, false, b, n, ((k + 1 : Nat) : Int), r)) else
      some (.inl (0, true, b, n, ((k + 1 : Nat) : Int), put32 r (128 * v + b[k] % 128))) := by
  have hx := hb b[k] (List.getElem_mem hkl)
  have ek : ((k : Nat) : Int) + 1 = ((k + 1 : Nat) : Int) := by omega
  unfold t32
  simp only []
  rw [getD_at hkl, or7 h0 h1 hx.1 hx.2]
  unfold mx at h1
  by_cases c1 : 128 * v + b[k] % 128 > mx
  · have c1' := c1
    unfold mx at c1'
    rw [if_pos c1, ite_t (decide_eq_true (by omega))]
  · have c1' := c1
    unfold mx at c1'
    have hge : 0 ≤ 128 * v + b[k] % 128 := by omega
    rw [if_neg c1, ite_f (decide_eq_false (by omega)), wi64 (by omega) (by omega), ek]
    by_cases c2 : 128 ≤ b[k]
    · have d2 : decide (b[k] < 128) = false := decide_eq_false (by omega)
      rw [if_pos c2, d2]
      rfl
    · have d2 : decide (b[k] < 128) = true := decide_eq_true (by omega)
      have hfb := fst2_bd hge
      rw [if_neg c2, d2, ite_f (b := !true) rfl, fst2_eq hge (by omega), wu64 (n := 40 * fst2 (128 * v + b[k] % 128)) (by omega) (by omega), wu64 (n := _ - _) (by omega) (by omega)]
      unfold put32
      by_cases hr0 : r = []
      · have d3 : ((r.length : Int) == 0) = true := by rw [hr0]; rfl
        rw [ite_t d3, if_pos (okB8 (by show r.length + 1 ≤ _; omega)), if_pos (okB8 (by show (r ++ [_]).length + 1 ≤ _; rw [List.length_append]; simp only [List.length_cons, List.length_nil]; omega)), if_pos hr0, hr0]
        rfl
      · have hp := List.length_pos_iff.2 hr0
        have d3 : ((r.length : Int) == 0) = false := beq_eq_false_iff_ne.2 (by omega)
        rw [ite_f d3, if_pos (okB8 (by show r.length + 1 ≤ _; omega)), if_neg hr0]
        rfl

noncomputable def thenO {σ τ : Type} (step : σ → Option (σ ⊕ τ)) : Option (σ ⊕ τ) → Option τ
  | none => none
  | some (.inl s) => loopO step s
  | some (.inr t) => some t
theorem loopO_thenO {σ τ : Type} (step : σ → Option (σ ⊕ τ)) (s : σ) : loopO step s = thenO step (step s) := by
  rw [loopO_eq]
  cases step s with
  | none => rfl
  | some x => cases x <;> rfl

/-- der.OID's loop -/
theorem loop32 {b : List Int} (hb : By b) (hl : b.length ≤ 65536) : ∀ (j k : Nat) (v : Int) (fresh : Bool) (r : List Int), j = b.length - k → k ≤ b.length → 0 ≤ v → v ≤ mx → r.length ≤ k + 1 →
    Ret (α := (Int × List Int) ⊕ (Bool × List Int)) (loopO stepd32_0 (v, fresh, b, (b.length : Int), (k : Int), r)) fun z =>
      (rdF fresh v (b.drop k) = none → z = .inl (127, []) ∨ ∃ r', z = .inr (false, r')) ∧ ∀ vals, rdF fresh v (b.drop k) = some vals → z = .inr (true, ext r vals) := by
  intro j
  induction j with
  | zero =>
    intro k v fresh r hj hk h0 h1 hr
    have e : k = b.length := by omega
    subst e
    refine ⟨.inr (fresh, r), ?_, ?_, ?_⟩
    · rw [loopO_eq]
      simp only [stepd32_0, Int.lt_irrefl, decide_false, Bool.false_eq_true, if_false]
    · rw [List.drop_length]
      intro h
      cases fresh with
      | true => cases h
      | false => exact .inr ⟨r, rfl⟩
    · rw [List.drop_length]
      intro vals h
      cases fresh with
      | true => cases h; rfl
      | false => cases h
  | succ j ih =>
    intro k v fresh r hj hk h0 h1 hr
    have hkl : k < b.length := by omega
    have hdrop : b.drop k = b[k] :: b.drop (k + 1) := List.drop_eq_getElem_cons hkl
    have hx := hb b[k] (List.getElem_mem hkl)
    have d1 : decide (((k : Nat) : Int) < (b.length : Int)) = true := decide_eq_true (by omega)
    rw [loopO_thenO, hdrop, step32_eq, ite_t d1, if_pos (by omega), getD_at hkl, rdF_cons]
    have tail : Ret (α := (Int × List Int) ⊕ (Bool × List Int)) (thenO stepd32_0 (t32 v b (b.length : Int) (k : Int) r)) fun z =>
      ((if 128 * v + b[k] % 128 > mx then none else if 128 ≤ b[k] then rdF false (128 * v + b[k] % 128) (b.drop (k + 1)) else (rdF true 0 (b.drop (k + 1))).map (fun l => (128 * v + b[k] % 128) :: l)) = none → z = .inl (127, []) ∨ ∃ r', z = .inr (false, r')) ∧
        ∀ vals, (if 128 * v + b[k] % 128 > mx then none else if 128 ≤ b[k] then rdF false (128 * v + b[k] % 128) (b.drop (k + 1)) else (rdF true 0 (b.drop (k + 1))).map (fun l => (128 * v + b[k] % 128) :: l)) = some vals → z = .inr (true, ext r vals) := by
      rw [t32_eq hb hkl hl h0 h1 (by omega)]
      by_cases c1 : 128 * v + b[k] % 128 > mx
      · rw [if_pos c1, if_pos c1]
        exact ⟨_, rfl, fun _ => .inl rfl, fun vals h => by cases h⟩
      · rw [if_neg c1, if_neg c1]
        by_cases c2 : 128 ≤ b[k]
        · rw [if_pos c2, if_pos c2]
          exact ih (k + 1) _ false r (by omega) (by omega) (by omega) (by omega) (by omega)
        · rw [if_neg c2, if_neg c2]
          have hpl := put32_len r (128 * v + b[k] % 128)
          have hpl2 : (put32 r (128 * v + b[k] % 128)).length ≤ k + 2 := by
            unfold put32
            split
            · simp
            · simp; omega
          obtain ⟨z, hz, z1, z2⟩ := ih (k + 1) 0 true (put32 r (128 * v + b[k] % 128)) (by omega) (by omega) (Int.le_refl _) (by unfold mx; omega) (by omega)
          refine ⟨z, hz, fun h => z1 (by
            cases hq : rdF true 0 (b.drop (k + 1)) with
            | none => rfl
            | some l => rw [hq] at h; cases h), fun vals h => ?_⟩
          cases hq : rdF true 0 (b.drop (k + 1)) with
          | none => rw [hq] at h; cases h
          | some l =>
            rw [hq] at h
            simp only [Option.map_some, Option.some.injEq] at h
            subst h
            rw [z2 l hq]
            unfold put32
            rw [ext_step]
    by_cases hfr : fresh = true
    · rw [if_pos hfr]
      by_cases c0 : b[k] = 128
      · rw [ite_t (beq_iff_eq.2 c0), if_pos ⟨hfr, c0⟩]
        exact ⟨_, rfl, fun _ => .inl rfl, fun vals h => by cases h⟩
      · rw [ite_f (beq_eq_false_iff_ne.2 c0), if_neg (fun h => c0 h.2)]
        exact tail
    · rw [if_neg hfr, if_neg (fun h => hfr h.1)]
      exact tail
end Go.Abs
