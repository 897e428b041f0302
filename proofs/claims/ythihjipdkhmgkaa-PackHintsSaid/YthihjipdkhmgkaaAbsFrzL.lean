/- Frozen data out of own regions. -/
import Derived.Test.YthihjipdkhmgkaaAbsOps7L
import Derived.Test.YthihjipdkhmgkaaAbsDepL
set_option linter.unusedVariables false
set_option linter.unusedSimpArgs false
namespace Go.Abs
universe u
open Go.RowKit

theorem asDT_spec {d d' : DT} {xs : List d'.T} {ys : List d.T} (h : asDT d d' xs = some ys) : ∃ e : d' = d, e ▸ xs = ys := by
  unfold asDT at h
  split at h
  · rename_i e; exact ⟨e, by simpa using h⟩
  · cases h

theorem isNilS_spec {v : Value} (h : isNilS v = true) : v = .slice none 0 0 := by
  unfold isNilS at h
  split at h
  · simp only [Bool.and_eq_true, nbeq] at h
    obtain ⟨rfl, rfl⟩ := h
    rfl
  · cases h

theorem add_blk (A : Addr) (n : Nat) : (A.add n).block = A.block := by unfold Addr.add; split <;> rfl

/-! ### Rows of cells that are data -/
section
variable (w : World) (own : Nat → Prop)
def FzL : List CV → List Value → Prop
  | [], l => l = []
  | .ints k n f :: cs, l => ∃ r, l = fnV k n f ++ r ∧ FzL cs r
  | c :: cs, l => ∃ v r, l = v :: r ∧ FzV w own c v ∧ FzL cs r
end

section
variable {w : World} {own own' : Nat → Prop} {h : Heap} {β : Nat → Value}

theorem FzL.cons {c : CV} {cs : List CV} {v : Value} {l : List Value} (hv : FzV w own c v) (hl : FzL w own cs l) : FzL w own (c :: cs) (v :: l) := by
  cases hv <;> exact ⟨_, _, rfl, by constructor <;> assumption, hl⟩

theorem FzL.append : ∀ {cs cs' : List CV} {l l' : List Value}, FzL w own cs l → FzL w own cs' l' → FzL w own (cs ++ cs') (l ++ l') := by
  intro cs
  induction cs with
  | nil => intro cs' l l' h1 h2; simp only [FzL] at h1; subst h1; exact h2
  | cons c cs ih =>
    intro cs' l l' h1 h2
    cases c <;> simp only [FzL, List.cons_append] at h1 ⊢
    case ints k n f => obtain ⟨r, rfl, h1⟩ := h1; exact ⟨r ++ l', by simp, ih h1 h2⟩
    all_goals (obtain ⟨v, r, rfl, hv, h1⟩ := h1; exact ⟨v, r ++ l', rfl, hv, ih h1 h2⟩)

theorem FzL.segs : ∀ {cs : List CV} {l : List Value}, FzL w (Own h β) cs l → SegsRel h β w cs l := by
  intro cs
  induction cs with
  | nil => exact fun H => H
  | cons c cs ih =>
    intro l H
    cases c <;> simp only [FzL] at H <;> simp only [SegsRel]
    case ints k n f => obtain ⟨r, rfl, H⟩ := H; exact ⟨r, rfl, ih H⟩
    case junk n => obtain ⟨v, r, rfl, hv, H⟩ := H; cases hv
    all_goals
      obtain ⟨v, r, rfl, hv, H⟩ := H
      obtain ⟨h1, h2, _, _⟩ := fzV_one hv
      exact ⟨v, r, rfl, h1, h2, ih H⟩

theorem FzL.at : ∀ {cs : List CV} {l : List Value} {A : Addr}, FzL w own cs l → (∀ j v, l[j]? = some v → w.cell? (A.add j) = some v) → ¬ own A.block → FzAt w own cs A := by
  intro cs
  induction cs with
  | nil => intro l A _ _ _; exact .nil A
  | cons c cs ih =>
    intro l A H hw ho
    cases c <;> simp only [FzL] at H
    case ints k n f =>
      obtain ⟨r, rfl, H⟩ := H
      refine .ints k n f cs A (fun i hi => hw i _ ?_) (fun _ => ho) (ih H (fun j v hv => ?_) (by rw [add_blk]; exact ho))
      · rw [List.getElem?_append_left (by simpa using hi), fnV_get _ _ _ _ hi]
      · rw [add_add]
        refine hw _ _ ?_
        rw [List.getElem?_append_right (by simp)]
        simpa using hv
    all_goals
      obtain ⟨v, r, rfl, hv, H⟩ := H
      refine .one _ cs A v (by have := hw 0 v rfl; rwa [add_zero'] at this) ho hv (ih H (fun j u hu => ?_) (by rw [add_blk]; exact ho))
      rw [add_add, Nat.add_comm]
      exact hw (j + 1) u (by simpa using hu)

/-- cells that data is laid in -/
def dataC : CV → Bool
  | .int _ _ => true
  | .bool _ => true
  | .str _ => true
  | .ints _ _ _ => true
  | .fz _ _ _ => true
  | .fzp _ none _ => true
  | _ => false

theorem encD_data : ∀ (t : DT) (x : t.T), ∀ c ∈ encD t x, dataC c = true := by
  intro t
  induction t with
  | pair a b iha ihb =>
    intro x c hc
    simp only [encD, List.mem_append] at hc
    rcases hc with h | h
    · exact iha _ c h
    · exact ihb _ c h
  | unit => intro x c hc; simp [encD] at hc
  | item =>
    intro x c hc
    simp only [encD, List.mem_cons, List.not_mem_nil, or_false] at hc
    rcases hc with rfl | rfl | rfl <;> rfl
  | _ => intro x c hc; simp only [encD, List.mem_singleton] at hc; subst hc; rfl

theorem CVRel.fz {c : CV} {v : Value} (hd : dataC c = true) (hi : ∀ k n f, c ≠ .ints k n f) (H : CVRel h β w c v) (ho : ∀ b, own b → Own h β b) : FzV w own c v := by
  have M : ∀ (x : Addr) v, ¬ Own h β x.block → w.cell? x = some v → w.cell? x = some v ∧ ¬ own x.block := fun x v hx hv => ⟨hv, fun h => hx (ho _ h)⟩
  cases c <;> simp only [dataC] at hd <;> try (cases hd; done)
  case int => simp only [CVRel] at H; subst H; exact .int _ _
  case bool => simp only [CVRel] at H; subst H; exact .bool _
  case str => simp only [CVRel] at H; subst H; exact .str _
  case ints k n f => exact absurd rfl (hi k n f)
  case fz t xs n => simp only [CVRel] at H; exact H.mono M
  case fzp cs o room =>
    cases o with
    | some p => cases hd
    | none =>
      simp only [CVRel] at H
      obtain ⟨A, rfl, hf, hs, _⟩ := H
      simp only [offOf, Nat.zero_add, add_zero'] at hs ⊢
      exact .pt cs room A (hf.mono M) hs

theorem SegsRel.fzl (ho : ∀ b, own b → Own h β b) : ∀ {cs : List CV} {l : List Value}, (∀ c ∈ cs, dataC c = true) → SegsRel h β w cs l → FzL w own cs l := by
  intro cs
  induction cs with
  | nil => exact fun _ H => H
  | cons c cs ih =>
    intro l hd H
    have h1 := hd c (by simp)
    have h2 : ∀ c ∈ cs, dataC c = true := fun c hc => hd c (by simp [hc])
    cases c <;> simp only [SegsRel] at H <;> first | (cases h1; done) | skip
    case ints k n f => obtain ⟨r, rfl, H⟩ := H; exact ⟨r, rfl, ih h2 H⟩
    all_goals
      obtain ⟨v, r, rfl, _, hv, H⟩ := H
      exact FzL.cons (hv.fz h1 (by simp) ho) (ih h2 H)

theorem SegsRel.split : ∀ {cs cs' : List CV} {l : List Value}, SegsRel h β w (cs ++ cs') l → ∃ l1 l2, l = l1 ++ l2 ∧ SegsRel h β w cs l1 ∧ SegsRel h β w cs' l2 := by
  intro cs
  induction cs with
  | nil => intro cs' l H; exact ⟨[], l, rfl, rfl, H⟩
  | cons c cs ih =>
    intro cs' l H
    cases c <;> simp only [List.cons_append, SegsRel] at H ⊢
    case ints k n f => obtain ⟨r, rfl, H⟩ := H; obtain ⟨l1, l2, rfl, h1, h2⟩ := ih H; exact ⟨_, l2, by rw [List.append_assoc], ⟨l1, rfl, h1⟩, h2⟩
    case junk n => obtain ⟨a, r, rfl, ha, h3, H⟩ := H; obtain ⟨l1, l2, rfl, h1, h2⟩ := ih H; exact ⟨_, l2, by rw [List.append_assoc], ⟨a, l1, rfl, ha, h3, h1⟩, h2⟩
    all_goals (obtain ⟨v, r, rfl, h3, hv, H⟩ := H; obtain ⟨l1, l2, rfl, h1, h2⟩ := ih H; exact ⟨v :: l1, l2, rfl, ⟨v, l1, rfl, h3, hv, h1⟩, h2⟩)

theorem SegsRel.chunk {t : DT} : ∀ {xs : List t.T} {l : List Value}, SegsRel h β w (xs.flatMap (encD t)) l → ∀ i (hi : i < xs.length), ∃ l1 lm l2, l = l1 ++ (lm ++ l2) ∧ l1.length = i * t.size ∧ SegsRel h β w (encD t xs[i]) lm := by
  intro xs
  induction xs with
  | nil => intro l _ i hi; exact absurd hi (Nat.not_lt_zero _)
  | cons x xs ih =>
    intro l H i hi
    rw [List.flatMap_cons] at H
    obtain ⟨l1, l2, rfl, h1, h2⟩ := H.split
    cases i with
    | zero => exact ⟨[], l1, l2, rfl, by simp, h1⟩
    | succ i =>
      obtain ⟨m1, mm, m2, rfl, h3, h4⟩ := ih h2 i (by simpa using hi)
      refine ⟨l1 ++ m1, mm, m2, by simp, ?_, h4⟩
      have := h1.length
      rw [encD_size] at this
      simp only [List.length_append, h3, this, Nat.add_mul, Nat.one_mul]
      omega
end

/-! ### Frozen data out of own regions -/
theorem asDT_spec' {d d' : DT} {xs : List d'.T} {ys : List d.T} (h : asDT d d' xs = some ys) : ∃ e : d' = d, e ▸ xs = ys := asDT_spec h
theorem rowAs_spec {t : DT} {k : IntKind} {xs : List Int} {ys : List t.T} (h : rowAs t k xs = some ys) : ∃ e : t = .int k, (e ▸ ys : List (DT.int k).T) = xs := by
  unfold rowAs at h
  split at h
  · obtain ⟨h1, h2⟩ := cond_some h
    obtain rfl := beqK.1 h1
    cases h2
    exact ⟨rfl, rfl⟩
  · cases h

section
variable {P : Program} {w0 : World} {fp : FP} {nt : Nat} {β : Nat → Value} {st : St} {a : Act} {w : World} {own : Nat → Prop}

theorem fz_of_ints {A : Option Addr} {cap : Nat} {k : IntKind} {xs : List Int} (hA : A = none → xs = [] ∧ cap = 0) (hcap : xs.length ≤ cap)
    (hc : ∀ a, A = some a → ∀ j (hj : j < xs.length), w.cell? (a.add j) = some (.int k xs[j])) (ho : ∀ a, A = some a → 0 < xs.length → ¬ own a.block) : FzV w own (.fz (.int k) xs none) (.slice A xs.length cap) := by
  refine .fz (.int k) xs none A cap (Nat.le_refl _) hcap hA ?_
  intro a' ha i hi
  have hsz : i * (DT.int k).size = i := Nat.mul_one i
  rw [hsz]
  exact .one _ [] _ _ (hc a' ha i hi) (by rw [add_blk]; exact ho a' ha (Nat.lt_of_le_of_lt (Nat.zero_le _) hi)) (.int k _) (.nil _)

theorem sl_fz (R : Rel P w0 fp nt β st a w) {r o n e : Nat} {k : IntKind} {ys : List Int} {v : Value} (hg : st.heap r = some (.row e k ys)) (hp : SlOk (β r) o n v (.row e k ys)) (H : ∀ b, own b → blkOf (β r) ≠ some b)
    {xs : List Int} (hx : xs = (ys.drop o).take n) : FzV w own (.fz (.int k) xs none) v := by
  obtain ⟨hlen, A, cap, A', hbv, rfl, hA⟩ := hp
  have hln : xs.length = n := by rw [hx, List.length_take, List.length_drop]; omega
  have key : FzV w own (.fz (.int k) xs none) (.slice A' xs.length (cap - o)) := by
    rcases R.heap r _ hg with ⟨hn, he⟩ | ⟨b, cap', tail, hbv', hh, hcp, hm⟩
    · rw [hbv] at hn
      injection hn with hn1 hn2 hn3
      subst hn1
      subst hn3
      have hnil : xs = [] := by rw [hx, he]; simp
      exact fz_of_ints (fun _ => ⟨hnil, by omega⟩) (by rw [hnil]; simp) (fun a _ j hj => by rw [hnil] at hj; exact absurd hj (Nat.not_lt_zero _)) (fun a h h0 => by rw [hnil] at h0; exact absurd h0 (Nat.not_lt_zero _))
    · rw [hbv'] at hbv
      cases hbv
      refine fz_of_ints (fun h => ?_) (by rw [hln]; omega) (fun a ha j hj => ?_) (fun a ha h0 ho => ?_)
      · rcases Nat.lt_or_ge o cap with h' | h'
        · rw [hA h'] at h; cases h
        · refine ⟨List.eq_nil_of_length_eq_zero (by rw [hln]; omega), by omega⟩
      · rw [hln] at hj
        rw [hA (by omega)] at ha
        simp only [Option.map_some, Option.some.injEq] at ha
        subst ha
        rw [add_add]
        refine win_block hh (o + j) _ ?_
        simp only []
        rw [List.getElem?_append_left (by simp; omega)]
        subst hx
        simp only [intsV, List.getElem?_map, List.getElem_take, List.getElem_drop]
        rw [List.getElem?_eq_getElem (by omega)]
        rfl
      · rw [hA (by omega)] at ha
        simp only [Option.map_some, Option.some.injEq] at ha
        subst ha
        rw [add_blk] at ho
        exact H _ ho (by rw [hbv']; rfl)
  rw [hln] at key
  exact key

theorem sl_fzn (R : Rel P w0 fp nt β st a w) {r n e : Nat} {k : IntKind} {ys : List Int} {v : Value} (hg : st.heap r = some (.row e k ys)) (hp : SlOk (β r) 0 n v (.row e k ys)) (H : ∀ b, own b → blkOf (β r) ≠ some b)
    {xs : List Int} (hx : xs = ys) : FzV w own (.fz (.int k) xs (some n)) v := by
  subst hx
  obtain ⟨hlen, A, cap, A', hbv, rfl, hA⟩ := hp
  have one : ∀ a', A' = some a' → ∀ i (hi : i < xs.length), FzAt w own (encD (.int k) (xs[i] : Int)) (a'.add (i * (DT.int k).size)) ∧ xs.length ≤ cap - 0 := by
    intro a' ha i hi
    rcases R.heap r _ hg with ⟨hn, he⟩ | ⟨b, cap', tail, hbv', hh, hcp, hm⟩
    · rw [he] at hi; exact absurd hi (Nat.not_lt_zero _)
    · rw [hbv'] at hbv
      cases hbv
      have := hA (by omega)
      rw [this] at ha
      simp only [Option.map_some, Option.some.injEq] at ha
      subst ha
      have hsz : i * (DT.int k).size = i := Nat.mul_one i
      rw [hsz, add_add, Nat.zero_add]
      refine ⟨.one _ [] _ _ (win_block hh i _ ?_) (fun ho => H _ (by rw [add_blk] at ho; exact ho) (by rw [hbv']; rfl)) (.int k _) (.nil _), by omega⟩
      simp only []
      rw [List.getElem?_append_left (by simpa using hi)]
      simp only [intsV, List.getElem?_map]
      rw [List.getElem?_eq_getElem hi]
      rfl
  rcases R.heap r _ hg with ⟨hn, he⟩ | ⟨b, cap', tail, hbv', hh, hcp, hm⟩
  · rw [hbv] at hn
    injection hn with h1 h2 h3
    subst h3
    subst he
    refine .fz (.int k) [] (some n) A' (0 - 0) (by have h : 0 + n ≤ 0 := hlen; show n ≤ 0; omega) (Nat.le_refl _) (fun _ => ⟨rfl, rfl⟩) (fun a' ha i hi => absurd hi (Nat.not_lt_zero _))
  · have hbv2 := hbv
    rw [hbv'] at hbv2
    injection hbv2 with q1 q2 q3
    subst q3
    refine .fz (.int k) xs (some n) A' (cap' - 0) (by show n ≤ xs.length; omega) (by show List.length (α := Int) xs ≤ _; omega) (fun h => ?_) (fun a' ha i hi => (one a' ha i hi).1)
    rcases Nat.lt_or_ge 0 cap' with h' | h'
    · rw [hA h', ← q1] at h; cases h
    · exact ⟨List.eq_nil_of_length_eq_zero (by show List.length (α := Int) xs = 0; omega), by omega⟩

theorem row_fz (R : Rel P w0 fp nt β st a w) {r e : Nat} {k : IntKind} {xs : List Int} (hg : st.heap r = some (.row e k xs)) (H : ∀ b, own b → blkOf (β r) ≠ some b) : FzV w own (.fz (.int k) xs none) (β r) := by
  rcases R.heap r _ hg with ⟨hn, he⟩ | ⟨b, cap, tail, hbv, hh, hcp, hm⟩
  · rw [hn]
    subst he
    exact fz_of_ints (own := own) (k := k) (xs := []) (fun _ => ⟨rfl, rfl⟩) (Nat.le_refl _) (fun a h => by cases h) (fun a h _ => by cases h)
  · rw [hbv]
    refine fz_of_ints (own := own) (k := k) (xs := xs) (fun h => by cases h) (by omega) (fun a ha j hj => ?_) (fun a ha _ ho => ?_)
    · cases ha
      refine win_block hh j _ ?_
      simp only []
      rw [List.getElem?_append_left (by simpa using hj)]
      simp only [intsV, List.getElem?_map]
      rw [List.getElem?_eq_getElem hj]
      rfl
    · cases ha
      exact H _ ho (by rw [hbv]; rfl)

theorem asl_fz (R : Rel P w0 fp nt β st a w) {r base lo n lim m : Nat} {segs rest : List CV} {k : IntKind} {f : Nat → Int} {v : Value} (hg : st.heap r = some (.cells segs)) (hd : dropSegs segs base = some (.ints k m f :: rest)) (hlm : Nat.ble lim m = true)
    (hc : CVRel st.heap β w (.asl r base lo n lim) v) (hp : AslOk (β r) base lo n lim v (.cells segs)) (H : ∀ b, own b → blkOf (β r) ≠ some b)
    {xs : List Int} (hx : xs = (List.range n).map fun j => f (lo + j)) : FzV w own (.fz (.int k) xs none) v := by
  have hs : sliceInts st.heap (.c (.asl r base lo n lim)) = some (k, xs, [r]) := by
    simp only [sliceInts, hg, hd, hlm, cond_true, hx]
  obtain ⟨A, c, h1, h2, h3⟩ := sliceInts_rel R (x := .c (.asl r base lo n lim)) (by simpa only [AVRel] using hc) hs
  obtain ⟨b, hbv, hl1, hl2, hv⟩ := hp
  rw [h1] at hv
  have hlen : xs.length = n := by rw [hx]; simp
  injection hv with q1 q2 q3
  rw [h1]
  refine fz_of_ints (own := own) (k := k) (xs := xs) (A := A) (cap := c) (fun h => by rw [q1] at h; cases h) (by omega) (fun a ha j hj => h3 a ha j _ ?_) (fun a ha h0 ho => ?_)
  · simp only [intsV, List.getElem?_map]
    rw [List.getElem?_eq_getElem hj]
    rfl
  · rw [q1] at ha
    cases ha
    refine H b ?_ (by rw [hbv]; rfl)
    split at ho <;> exact ho

theorem frzSl_rel (R : Rel P w0 fp nt β st a w) {t : DT} {c : CV} {xs : List t.T} {gs : List Nat} {v : Value} (e : frzSl st.heap t c = some (xs, gs)) (hc : CVRel st.heap β w c v)
    (H : ∀ b, own b → Own st.heap β b ∧ ∀ r ∈ gs, ∀ g, st.heap r = some g → g.live → blkOf (β r) ≠ some b) : FzV w own (.fz t xs none) v := by
  have M : ∀ (x : Addr) v, ¬ Own st.heap β x.block → w.cell? x = some v → w.cell? x = some v ∧ ¬ own x.block := fun x v hx hv => ⟨hv, fun h => hx (H _ h).1⟩
  unfold frzSl at e
  split at e
  · rename_i d xs0 n
    split at e
    · rename_i ys hys
      obtain ⟨e0, hys⟩ := asDT_spec hys
      subst e0
      subst hys
      simp only [CVRel] at hc
      have hc := hc.mono M
      cases n with
      | none => cases e; exact hc
      | some m =>
        cases e
        cases hc with
        | fz _ _ _ A cap hn hcap h0 hat =>
          have hl : List.length (α := d.T) (List.take m xs0) = m := by rw [List.length_take]; exact Nat.min_eq_left hn
          have key := FzV.fz (w := w) (own := own) d (xs0.take m) none A cap (Nat.le_refl _) (by rw [hl]; exact Nat.le_trans hn hcap) (fun h => ⟨by rw [(h0 h).1]; simp, (h0 h).2⟩) (fun a ha i hi => by
            have h1 := hat a ha i (by rw [hl] at hi; exact Nat.lt_of_lt_of_le hi hn)
            rw [List.getElem_take]; exact h1)
          have e2 : lenOfFz (xs0.take m) none = m := hl
          rw [e2] at key
          exact key
    · cases e
  · rename_i v'
    obtain ⟨h1, h2⟩ := cond_some e
    cases h2
    obtain rfl := isNilS_spec h1
    simp only [CVRel] at hc
    subst hc
    exact .fz t [] none none 0 (Nat.le_refl _) (Nat.le_refl _) (fun _ => ⟨rfl, rfl⟩) (fun a h => by cases h)
  · rename_i r
    simp only [CVRel] at hc
    obtain ⟨g, hg, hp⟩ := hc
    rw [hg] at e
    split at e
    · rename_i e' k ys hr
      cases hr
      split at e
      · rename_i zs hz
        cases e
        obtain ⟨e0, hz⟩ := rowAs_spec hz
        subst e0
        subst hz
        obtain ⟨rfl, _⟩ := hp
        exact row_fz R hg (fun b hb h => (H b hb).2 r (by simp) _ hg trivial h)
      · cases e
    · rename_i e' d ys hr
      cases hr
      split at e
      · rename_i zs hz
        cases e
        obtain ⟨e0, hz⟩ := asDT_spec hz
        subst e0
        subst hz
        obtain ⟨rfl, _⟩ := hp
        rcases R.heap r _ hg with ⟨hn, he⟩ | ⟨b, cap, l, tail, hbv, hh, hs, hl, hxc, hm⟩
        · rw [hn]
          subst he
          exact .fz d [] none none 0 (Nat.le_refl _) (Nat.le_refl _) (fun _ => ⟨rfl, rfl⟩) (fun a h => by cases h)
        · rw [hbv]
          refine .fz d ys none _ cap (Nat.le_refl _) hxc (fun h => by cases h) ?_
          intro A hA i hi
          cases hA
          obtain ⟨l1, lm, l2, rfl, h1, h2⟩ := hs.chunk i hi
          have hno : ¬ own b := fun ho => (H _ ho).2 r (by simp) _ hg trivial (by rw [hbv]; rfl)
          refine (h2.fzl (fun b hb => (H b hb).1) (encD_data d _)).at (fun j v hv => ?_) (by rw [add_blk]; exact hno)
          rw [add_add]
          refine win_block hh _ v ?_
          simp only []
          have hj : j < lm.length := (List.getElem?_eq_some_iff.1 hv).1
          rw [List.append_assoc, List.append_assoc, List.getElem?_append_right (by rw [h1]; omega), h1, Nat.add_sub_cancel_left, List.getElem?_append_left hj]
          exact hv
      · cases e
    · cases e
  · rename_i r o n
    simp only [CVRel] at hc
    obtain ⟨g, hg, hp⟩ := hc
    rw [hg] at e
    split at e
    · rename_i e' k ys hr
      cases hr
      split at e
      · rename_i zs hz
        cases e
        obtain ⟨e0, hz⟩ := rowAs_spec hz
        subst e0
        have hz : xs = (ys.drop o).take n := hz
        subst hz
        exact sl_fz R hg hp (fun b hb h => (H b hb).2 r (by simp) _ hg trivial h) rfl
      · cases e
    · cases e
  · rename_i r base lo n lim
    have hc0 := hc
    simp only [CVRel] at hc
    obtain ⟨g, hg, hp⟩ := hc
    rw [hg] at e
    split at e
    · rename_i segs hr
      cases hr
      split at e
      · rename_i k m f rest hd
        obtain ⟨hlm, e⟩ := cond_some e
        split at e
        · rename_i zs hz
          cases e
          obtain ⟨e0, hz⟩ := rowAs_spec hz
          subst e0
          have hz : xs = (List.range n).map fun j => f (lo + j) := hz
          exact asl_fz R hg hd hlm hc0 hp (fun b hb h => (H b hb).2 r (by simp) _ hg trivial h) hz
        · cases e
      · cases e
    · cases e
  · cases e
end
section
variable {P : Program} {w0 : World} {fp : FP} {nt : Nat} {β : Nat → Value} {st : St} {a : Act} {w : World} {own : Nat → Prop}

/-- blocks that are still somebody's own when the regions gs are given up -/
def OwnLess (st : St) (β : Nat → Value) (gs : List Nat) (own : Nat → Prop) : Prop := ∀ b, own b → Own st.heap β b ∧ ∀ r ∈ gs, ∀ g, st.heap r = some g → g.live → blkOf (β r) ≠ some b

theorem OwnLess.sub {gs gs' : List Nat} (H : OwnLess st β gs own) (h : ∀ r ∈ gs', r ∈ gs) : OwnLess st β gs' own := fun b hb => ⟨(H b hb).1, fun r hr => (H b hb).2 r (h r hr)⟩

theorem segs_one {c : CV} {cs : List CV} {l : List Value} (h1 : ∀ k n f, c ≠ .ints k n f) (h2 : ∀ n, c ≠ .junk n) (H : SegsRel st.heap β w (c :: cs) l) : ∃ v r, l = v :: r ∧ v.oneCell' = true ∧ CVRel st.heap β w c v ∧ SegsRel st.heap β w cs r := by
  cases c <;> simp only [SegsRel] at H
  case ints k n f => exact absurd rfl (h1 k n f)
  case junk n => exact absurd rfl (h2 n)
  all_goals exact H

theorem frzD_rel (R : Rel P w0 fp nt β st a w) : ∀ {t : DT} {cs rest : List CV} {x : t.T} {gs : List Nat} {l : List Value}, frzD st.heap t cs = some (x, rest, gs) → SegsRel st.heap β w cs l → OwnLess st β gs own →
    ∃ l1 l2, l = l1 ++ l2 ∧ FzL w own (encD t x) l1 ∧ SegsRel st.heap β w rest l2 := by
  intro t
  induction t with
  | int k =>
    intro cs rest x gs l e hs H
    simp only [frzD] at e
    split at e
    · obtain ⟨h1, h2⟩ := cond_some e
      obtain rfl := beqK.1 h1
      cases h2
      obtain ⟨v, r, rfl, _, hv, hr⟩ := segs_one (by simp) (by simp) hs
      simp only [CVRel] at hv
      subst hv
      exact ⟨[_], r, rfl, .cons (.int _ _) rfl, hr⟩
    · cases e
  | bool =>
    intro cs rest x gs l e hs H
    simp only [frzD] at e
    split at e
    · cases e
      obtain ⟨v, r, rfl, _, hv, hr⟩ := segs_one (by simp) (by simp) hs
      simp only [CVRel] at hv
      subst hv
      exact ⟨[_], r, rfl, .cons (.bool _) rfl, hr⟩
    · cases e
  | str =>
    intro cs rest x gs l e hs H
    simp only [frzD] at e
    split at e
    · cases e
      obtain ⟨v, r, rfl, _, hv, hr⟩ := segs_one (by simp) (by simp) hs
      simp only [CVRel] at hv
      subst hv
      exact ⟨[_], r, rfl, .cons (.str _) rfl, hr⟩
    · cases e
  | arr k n =>
    intro cs rest x gs l e hs H
    simp only [frzD] at e
    split at e
    · obtain ⟨h1, h2⟩ := cond_some e
      simp only [Bool.and_eq_true] at h1
      obtain rfl := beqK.1 h1.1
      obtain rfl := nbeq.1 h1.2
      cases h2
      simp only [SegsRel] at hs
      obtain ⟨r, rfl, hr⟩ := hs
      exact ⟨_, r, rfl, ⟨[], by simp [encD], rfl⟩, hr⟩
    · cases e
  | sl t ih =>
    intro cs rest x gs l e hs H
    simp only [frzD] at e
    split at e
    · rename_i c r0
      split at e
      · rename_i ys gs' hf
        cases e
        have h1 : ∀ k n f, c ≠ .ints k n f := fun k n f h => by subst h; simp [frzSl] at hf
        have h2 : ∀ n, c ≠ .junk n := fun n h => by subst h; simp [frzSl] at hf
        obtain ⟨v, r, rfl, _, hv, hr⟩ := segs_one h1 h2 hs
        exact ⟨[v], r, rfl, .cons (frzSl_rel R hf hv H) rfl, hr⟩
      · cases e
    · cases e
  | item =>
    intro cs rest x gs l e hs H
    simp only [frzD] at e
    split at e
    · rename_i x0 c c' r0
      split at e
      · rename_i b gs1 k gs2 hf1 hf2
        cases e
        have h1 : ∀ k n f, c ≠ .ints k n f := fun k n f h => by subst h; simp [frzSl] at hf1
        have h2 : ∀ n, c ≠ .junk n := fun n h => by subst h; simp [frzSl] at hf1
        have h3 : ∀ k n f, c' ≠ .ints k n f := fun k n f h => by subst h; simp [frzSl] at hf2
        have h4 : ∀ n, c' ≠ .junk n := fun n h => by subst h; simp [frzSl] at hf2
        obtain ⟨v, r, rfl, _, hv, hr⟩ := segs_one (by simp) (by simp) hs
        obtain ⟨v', r', rfl, _, hv', hr'⟩ := segs_one h1 h2 hr
        obtain ⟨v'', r'', rfl, _, hv'', hr''⟩ := segs_one h3 h4 hr'
        simp only [CVRel] at hv
        subst hv
        exact ⟨[_, v', v''], r'', rfl, .cons (.int _ _) (.cons (frzSl_rel R hf1 hv' (H.sub (by simp; intro r hr; exact .inl hr))) (.cons (frzSl_rel R hf2 hv'' (H.sub (by simp; intro r hr; exact .inr hr))) rfl)), hr''⟩
      · cases e
    · cases e
  | pair t1 t2 ih1 ih2 =>
    intro cs rest x gs l e hs H
    simp only [frzD] at e
    split at e
    · rename_i y r1 gs1 h1
      split at e
      · rename_i z r2 gs2 h2
        cases e
        obtain ⟨l1, l2, rfl, g1, g2⟩ := ih1 h1 hs (H.sub (by simp; intro r hr; exact .inl hr))
        obtain ⟨m1, m2, rfl, g3, g4⟩ := ih2 h2 g2 (H.sub (by simp; intro r hr; exact .inr hr))
        exact ⟨l1 ++ m1, m2, by simp, g1.append g3, g4⟩
      · cases e
    · cases e
  | pt t ih => intro cs rest x gs l e; simp [frzD] at e
  | unit => intro cs rest x gs l e; simp [frzD] at e
end

end Go.Abs
