/- Decoding by a layout: what is told holds in the state that the layout tells. -/
import Derived.Test.YthihjipdkhmgkaaAbsLayL
set_option linter.unusedVariables false
set_option linter.unusedSimpArgs false
namespace Go.Abs
universe u
open Go.RowKit

/-! ### Regions that values speak of -/
def regsCS : CS → List Nat
  | .ptr r _ _ => [r]
  | .ptri r _ _ _ => [r]
  | .full r => [r]
  | .sl r => [r]
  | .asl r _ _ => [r]
  | .clo _ caps => caps
  | .sl0 r => [r]
  | _ => []
def regsCSs : List CS → List Nat
  | [] => []
  | c :: r => regsCS c ++ regsCSs r

/-- The state (h', β') tells of (st, β), with other names ρ; those in N are nil there; the regions gs are given up. -/
structure View (st : St) (β : Nat → Value) (h' : Heap) (β' : Nat → Value) (ρ : Nat → Nat) (N : Nat → Bool) (gs : List Nat) : Prop where
  reg : ∀ q g, h' q = some g → N q = false → ∃ g', st.heap (ρ q) = some g' ∧ Shape g' g ∧ β' q = β (ρ q)
  nil : ∀ q g, h' q = some g → N q = true → ((∃ e k, g = .row e k []) ∨ ∃ e d, g = .rowd e d []) ∧ β' q = .slice none 0 0
  own : OwnLess st β gs (Own h' β')

section
variable {P : Program} {w0 : World} {fp : FP} {nt : Nat} {β : Nat → Value} {st : St} {a : Act} {w : World} {h' : Heap} {β' : Nat → Value} {ρ : Nat → Nat} {N : Nat → Bool} {gs : List Nat}

theorem View.sub (V : View st β h' β' ρ N gs) {gs' : List Nat} (h : ∀ r ∈ gs', r ∈ gs) : View st β h' β' ρ N gs' := ⟨V.reg, V.nil, V.own.sub h⟩

theorem View.ptr (V : View st β h' β' ρ N gs) {q base room : Nat} {o : Option (Nat × Nat)} {v : Value} (hk : ∃ g, h' q = some g) (hn : N q = false) (H : ∃ g, st.heap (ρ q) = some g ∧ PtrOk (β (ρ q)) base o room v g) : ∃ g, h' q = some g ∧ PtrOk (β' q) base o room v g := by
  obtain ⟨g, hg⟩ := hk
  obtain ⟨g1, h1, hs, hb⟩ := V.reg q g hg hn
  obtain ⟨g2, h2, hp⟩ := H
  rw [h1] at h2
  cases h2
  exact ⟨g, hg, hp.shape hs fun _ => hb⟩

theorem CS.dec_rel (R : Rel P w0 fp nt β st a w) (V : View st β h' β' ρ N gs) {s : CS} {c : CV} {x : s.T} {gs' : List Nat} {v : Value} (e : s.dec st.heap ρ N c = some (x, gs')) (hgs : ∀ r ∈ gs', r ∈ gs)
    (hk : ∀ q ∈ regsCS s, ∃ g, h' q = some g) (hi : ∀ k n, s ≠ .ints k n) (hj : ∀ n, s ≠ .junk n) (hc : CVRel st.heap β w c v) : CVRel h' β' w (s.enc x) v := by
  cases s <;> simp only [CS.dec] at e
  case int k =>
    split at e
    · obtain ⟨h1, h2⟩ := cond_some e; obtain rfl := beqK.1 h1; cases h2; exact hc
    · cases e
  case bool => split at e <;> cases e; exact hc
  case str => split at e <;> cases e; exact hc
  case ints k n => exact absurd rfl (hi k n)
  case junk n => exact absurd rfl (hj n)
  case fz d =>
    simp only [CS.enc, CVRel]
    exact frzSl_rel R e hc (V.own.sub hgs)
  case fzn d =>
    split at e
    · rename_i d' xs n
      split at e
      · rename_i ys hys
        cases e
        obtain ⟨e0, hys⟩ := asDT_spec hys
        subst e0; subst hys
        simp only [CS.enc, CVRel] at hc ⊢
        exact hc.mono fun x v hx hv => ⟨hv, fun h => hx (V.own _ h).1⟩
      · cases e
    · rename_i r o n
      obtain ⟨h1, e⟩ := cond_some e
      obtain rfl := nbeq.1 h1
      split at e
      · rename_i e' k xs hr
        split at e
        · rename_i ys hys
          cases e
          obtain ⟨e0, hys⟩ := rowAs_spec hys
          subst e0
          simp only [CVRel] at hc
          obtain ⟨g, hg, hp⟩ := hc
          rw [hr] at hg
          cases hg
          have hys : ys = xs := hys
          simp only [CS.enc, CVRel]
          exact sl_fzn R hr hp (fun b hb h => (V.own b hb).2 r (hgs r (by simp)) _ hr trivial h) hys
        · cases e
      · cases e
    · cases e
  case ptr r base room =>
    split at e
    · obtain ⟨h1, h2⟩ := cond_some e
      simp only [Bool.and_eq_true, Bool.not_eq_true', nbeq] at h1
      obtain ⟨h1, rfl, rfl, rfl⟩ := h1
      simp only [CS.enc, CVRel] at hc ⊢
      exact V.ptr (hk r (by simp [regsCS])) h1 hc
    · cases e
  case ptri r base lim room =>
    split at e
    · obtain ⟨h1, h2⟩ := cond_some e
      simp only [Bool.and_eq_true, Bool.not_eq_true', nbeq] at h1
      obtain ⟨h1, rfl, rfl, rfl, rfl⟩ := h1
      cases h2
      simp only [CS.enc, CVRel] at hc ⊢
      exact V.ptr (hk r (by simp [regsCS])) h1 hc
    · cases e
  case full r =>
    obtain ⟨g, hg⟩ := hk r (by simp [regsCS])
    split at e
    · obtain ⟨h1, h2⟩ := cond_some e
      simp only [Bool.and_eq_true, Bool.not_eq_true', nbeq] at h1
      obtain ⟨h1, rfl⟩ := h1
      simp only [CS.enc, CVRel] at hc ⊢
      obtain ⟨g1, h3, hs, hb⟩ := V.reg r g hg h1
      obtain ⟨g2, h4, hp⟩ := hc
      rw [h3] at h4
      cases h4
      exact ⟨g, hg, hp.shape hs fun _ => hb⟩
    · obtain ⟨h1, h2⟩ := cond_some e
      simp only [Bool.and_eq_true] at h1
      obtain rfl := isNilS_spec h1.2
      simp only [CS.enc, CVRel] at hc ⊢
      subst hc
      obtain ⟨h3, h4⟩ := V.nil r g hg h1.1
      refine ⟨g, hg, ?_⟩
      rw [h4]
      rcases h3 with ⟨e, k, rfl⟩ | ⟨e, d, rfl⟩ <;> exact ⟨rfl, rfl⟩
    · cases e
  case sl r =>
    obtain ⟨g, hg⟩ := hk r (by simp [regsCS])
    split at e
    · obtain ⟨h1, h2⟩ := cond_some e
      simp only [Bool.and_eq_true, Bool.not_eq_true', nbeq] at h1
      obtain ⟨h1, rfl⟩ := h1
      cases h2
      simp only [CS.enc, CVRel] at hc ⊢
      obtain ⟨g1, h3, hs, hb⟩ := V.reg r g hg h1
      obtain ⟨g2, h4, hp⟩ := hc
      rw [h3] at h4
      cases h4
      exact ⟨g, hg, hp.shape hs fun _ => hb⟩
    · rename_i r'
      obtain ⟨h1, e⟩ := cond_some e
      simp only [Bool.and_eq_true, Bool.not_eq_true', nbeq] at h1
      obtain ⟨h1, rfl⟩ := h1
      split at e
      · rename_i e' k ys hr
        cases e
        simp only [CS.enc, CVRel] at hc ⊢
        obtain ⟨g1, h3, hs, hb⟩ := V.reg r g hg h1
        obtain ⟨g2, h4, hp⟩ := hc
        rw [h3] at h4
        cases h4
        rw [h3] at hr
        cases hr
        obtain ⟨rfl, _⟩ := hp
        have key : SlOk (β (ρ r)) 0 ys.length (β (ρ r)) (.row e' k ys) := by
          rcases R.heap _ _ h3 with ⟨hn, he⟩ | ⟨b, cap, tail, hbv, _, _, _⟩
          · subst he
            rw [hn]
            exact ⟨by simp, none, 0, none, rfl, rfl, fun h => absurd h (Nat.lt_irrefl 0)⟩
          · rw [hbv]
            exact ⟨by omega, _, cap, _, rfl, rfl, fun _ => by simp [add_zero']⟩
        exact ⟨g, hg, key.shape hs fun _ => hb⟩
      · cases e
    · cases e
  case sl0 r =>
    obtain ⟨g, hg⟩ := hk r (by simp [regsCS])
    split at e
    · obtain ⟨h1, h2⟩ := cond_some e
      simp only [Bool.and_eq_true, Bool.not_eq_true', nbeq] at h1
      obtain ⟨h1, rfl, rfl⟩ := h1
      cases h2
      simp only [CS.enc, CVRel] at hc ⊢
      obtain ⟨g1, h3, hs, hb⟩ := V.reg r g hg h1
      obtain ⟨g2, h4, hp⟩ := hc
      rw [h3] at h4
      cases h4
      exact ⟨g, hg, hp.shape hs fun _ => hb⟩
    · cases e
  case asl r base lim =>
    obtain ⟨g, hg⟩ := hk r (by simp [regsCS])
    split at e
    · obtain ⟨h1, h2⟩ := cond_some e
      simp only [Bool.and_eq_true, Bool.not_eq_true', nbeq] at h1
      obtain ⟨h1, rfl, rfl, rfl⟩ := h1
      cases h2
      simp only [CS.enc, CVRel] at hc ⊢
      obtain ⟨g1, h3, hs, hb⟩ := V.reg r g hg h1
      obtain ⟨g2, h4, hp⟩ := hc
      rw [h3] at h4
      cases h4
      exact ⟨g, hg, hp.shape hs fun _ => hb⟩
    · cases e
  case nilp =>
    split at e
    · obtain ⟨h1, h2⟩ := cond_some e; obtain rfl := isNilP_spec h1; exact hc
    · cases e
  case nils =>
    split at e
    · obtain ⟨h1, h2⟩ := cond_some e; obtain rfl := isNilS_spec h1; exact hc
    · cases e
  case fzp d =>
    split at e
    · rename_i cs room
      obtain ⟨h1, h2⟩ := cond_some e
      obtain rfl := nbeq.1 h1
      split at h2
      · rename_i y h3
        cases h2
        have := decD_enc h3
        rw [List.append_nil] at this
        subst this
        simp only [CS.enc, CVRel] at hc ⊢
        obtain ⟨A, hA, hf, hr⟩ := hc
        exact ⟨A, hA, hf.mono (fun x v hx hv => ⟨hv, fun h => hx (V.own _ h).1⟩), hr⟩
      · cases h2
    · rename_i r base room
      obtain ⟨h1, h2⟩ := cond_some e
      simp only [Bool.and_eq_true, nbeq] at h1
      obtain ⟨rfl, rfl⟩ := h1
      split at h2
      · rename_i segs hr
        split at h2
        · rename_i y gs2 h3
          cases h2
          simp only [CVRel] at hc
          obtain ⟨g, hg, hp⟩ := hc
          rw [hr] at hg
          cases hg
          obtain ⟨b, hbv, rfl, hsz, _⟩ := hp
          obtain ⟨b', T, cs, hbv', hh, hs⟩ := R.heap r _ hr
          rw [hbv] at hbv'
          cases hbv'
          obtain ⟨l1, l2, hl, h4, h5⟩ := frzD_rel R h3 hs (V.own.sub fun q hq => hgs q (by simp [hq]))
          simp only [SegsRel] at h5
          subst h5
          simp only [CS.enc, CVRel, offOf]
          refine ⟨⟨b, 0, none⟩, rfl, h4.at (fun j u hu => win_block hh j u (by rw [hl, List.append_nil]; exact hu)) (fun ho => ?_), by rw [encD_size]; simp, fun i lim h => by cases h⟩
          exact (V.own _ ho).2 r (hgs r (by simp)) _ hr trivial (by rw [hbv]; rfl)
        · cases h2
      · cases h2
    · cases e
  case boolc b =>
    split at e
    · rename_i b'
      obtain ⟨h1, h2⟩ := cond_some e
      have : b = b' := by simpa using h1
      subst this; exact hc
    · cases e
  case clo f caps =>
    split at e
    · rename_i f' caps'
      obtain ⟨h1, h2⟩ := cond_some e
      simp only [Bool.and_eq_true, nbeq, List.all_eq_true, Bool.not_eq_true'] at h1
      obtain ⟨rfl, h3, h4⟩ := h1
      have h4 := eqNats_spec h4
      subst h4
      simp only [CS.enc, CVRel, List.length_map] at hc ⊢
      obtain ⟨vs, hv, hl, H⟩ := hc
      refine ⟨vs, hv, hl, fun i r hr => ?_⟩
      obtain ⟨u, g, hu, hg⟩ := H i (ρ r) (by simp [hr])
      have hm : r ∈ caps := List.mem_of_getElem? hr
      obtain ⟨g', h5, h6⟩ := V.ptr (hk r (by simpa [regsCS] using hm)) (h3 r hm) ⟨g, hg⟩
      exact ⟨u, g', hu, h5, h6⟩
    · cases e

theorem CS.enc_form (s : CS) (x : s.T) : ((∃ k n, s = .ints k n) ∨ (∃ n, s = .junk n)) ∨ ((∀ k n, s ≠ .ints k n) ∧ (∀ n, s ≠ .junk n) ∧ (∀ k n f, s.enc x ≠ .ints k n f) ∧ ∀ n, s.enc x ≠ .junk n) := by
  cases s <;> simp [CS.enc]

theorem seg_dec (R : Rel P w0 fp nt β st a w) (V : View st β h' β' ρ N gs) {s : CS} {c : CV} {x : s.T} {gs' : List Nat} (e : s.dec st.heap ρ N c = some (x, gs')) (hgs : ∀ r ∈ gs', r ∈ gs)
    (hk : ∀ q ∈ regsCS s, ∃ g, h' q = some g) {cs : List CV} {l : List Value} (H : SegsRel st.heap β w (c :: cs) l) : ∃ l1 l2, l = l1 ++ l2 ∧ SegsRel h' β' w [s.enc x] l1 ∧ SegsRel st.heap β w cs l2 := by
  rcases CS.enc_form s x with (⟨k, n, rfl⟩ | ⟨n, rfl⟩) | ⟨h1, h2, h3, h4⟩
  · simp only [CS.dec] at e
    split at e
    · obtain ⟨h1, h2⟩ := cond_some e
      simp only [Bool.and_eq_true] at h1
      obtain rfl := beqK.1 h1.1
      obtain rfl := nbeq.1 h1.2
      cases h2
      simp only [SegsRel] at H
      obtain ⟨r, rfl, hr⟩ := H
      exact ⟨_, r, rfl, by simp only [CS.enc, SegsRel]; exact ⟨[], by simp, rfl⟩, hr⟩
    · cases e
  · simp only [CS.dec] at e
    split at e
    · obtain ⟨h1, h2⟩ := cond_some e
      obtain rfl := nbeq.1 h1
      simp only [SegsRel] at H
      obtain ⟨a', r, rfl, h3, h4, hr⟩ := H
      exact ⟨a', r, rfl, by simp only [CS.enc, SegsRel]; exact ⟨a', [], by simp, h3, h4, rfl⟩, hr⟩
    · rename_i hnj
      obtain ⟨h1, h2⟩ := cond_some e
      simp only [Bool.and_eq_true] at h1
      obtain rfl := nbeq.1 h1.2
      obtain ⟨v, r, rfl, hv, _, hr⟩ := segs_one (fun k n f h => by subst h; simp [one1] at h1) (fun n h => hnj n h) H
      exact ⟨[v], r, rfl, by simp only [CS.enc, SegsRel]; exact ⟨[v], [], rfl, rfl, fun u hu => by rw [List.mem_singleton.1 hu]; exact hv, rfl⟩, hr⟩
  · have hc1 : ∀ k n f, c ≠ .ints k n f := fun k n f h => by
      subst h
      cases s <;> simp only [CS.dec, frzSl] at e <;> first | (cases e; done) | (exact h1 _ _ rfl) | (exact h2 _ rfl)
    have hc2 : ∀ n, c ≠ .junk n := fun n h => by
      subst h
      cases s <;> simp only [CS.dec, frzSl] at e <;> first | (cases e; done) | (exact h2 _ rfl)
    obtain ⟨v, r, rfl, hv, hcv, hr⟩ := segs_one hc1 hc2 H
    have key := CS.dec_rel R V e hgs hk h1 h2 hcv
    refine ⟨[v], r, rfl, ?_, hr⟩
    generalize hx : s.enc x = y at key h3 h4
    cases y <;> simp only [SegsRel] <;> first
      | exact absurd rfl (h3 _ _ _)
      | exact absurd rfl (h4 _)
      | exact ⟨v, [], rfl, hv, key, rfl⟩

theorem segsDec_rel (R : Rel P w0 fp nt β st a w) (V : View st β h' β' ρ N gs) : ∀ {ss : List CS} {cs : List CV} {x : segsT ss} {gs' : List Nat}, segsDec st.heap ρ N ss cs = some (x, gs') → (∀ r ∈ gs', r ∈ gs) →
    (∀ q ∈ regsCSs ss, ∃ g, h' q = some g) → ∀ {l : List Value}, SegsRel st.heap β w cs l → SegsRel h' β' w (segsEnc ss x) l := by
  intro ss
  induction ss with
  | nil =>
    intro cs x gs' e _ _ l H
    cases cs with
    | nil => exact H
    | cons => cases e
  | cons s r ih =>
    intro cs x gs' e hgs hk l H
    have hk1 : ∀ q ∈ regsCS s, ∃ g, h' q = some g := fun q hq => hk q (by simp [regsCSs, hq])
    have hk2 : ∀ q ∈ regsCSs r, ∃ g, h' q = some g := fun q hq => hk q (by simp [regsCSs, hq])
    cases r with
    | nil =>
      match cs, e with
      | [c], e =>
        simp only [segsDec] at e
        obtain ⟨l1, l2, rfl, h1, h2⟩ := seg_dec R V e hgs hk1 H
        simp only [SegsRel] at h2
        subst h2
        rw [List.append_nil]
        exact h1
    | cons t r =>
      match cs, e with
      | c :: cs, e =>
        simp only [segsDec] at e
        split at e
        · rename_i y gs1 h1
          split at e
          · rename_i ys gs2 h2
            cases e
            obtain ⟨l1, l2, rfl, h3, h4⟩ := seg_dec R V h1 (fun r hr => hgs r (by simp [hr])) hk1 H
            exact h3.append (ih h2 (fun r hr => hgs r (by simp [hr])) hk2 h4)
          · cases e
        · cases e

theorem segsDec_size {h : Heap} {ρ : Nat → Nat} {N : Nat → Bool} : ∀ {ss : List CS} {cs : List CV} {x : segsT ss} {gs' : List Nat}, segsDec h ρ N ss cs = some (x, gs') → segSize (segsEnc ss x) = segSize cs := by
  have one : ∀ {s : CS} {c : CV} {x : s.T} {gs' : List Nat}, s.dec h ρ N c = some (x, gs') → (s.enc x).size = c.size := by
    intro s c x gs' e
    cases s <;> simp only [CS.dec] at e
    case fz d => cases c <;> simp only [frzSl] at e <;> first | (cases e; done) | rfl
    case ints k n =>
      split at e
      · obtain ⟨h1, h2⟩ := cond_some e; simp only [Bool.and_eq_true, nbeq] at h1; rw [CS.enc, CV.size, CV.size, h1.2]
      · cases e
    case junk n =>
      split at e
      · obtain ⟨h1, h2⟩ := cond_some e; rw [CS.enc, CV.size, CV.size, nbeq.1 h1]
      · rename_i hj
        obtain ⟨h1, h2⟩ := cond_some e
        simp only [Bool.and_eq_true, nbeq] at h1
        obtain ⟨h1, rfl⟩ := h1
        cases c <;> first | rfl | (cases h1; done) | exact absurd rfl (hj _)
    all_goals (split at e <;> first | rfl | (cases e; done))
  intro ss
  induction ss with
  | nil => intro cs x gs' e; cases cs with
    | nil => rfl
    | cons => cases e
  | cons s r ih =>
    intro cs x gs' e
    cases r with
    | nil =>
      match cs, e with
      | [c], e => simp only [segsDec] at e; simp only [segsEnc, segSize, one e]
    | cons t r =>
      match cs, e with
      | c :: cs, e =>
        simp only [segsDec] at e
        split at e
        · rename_i y gs1 h1
          split at e
          · rename_i ys gs2 h2
            cases e
            show (s.enc y).size + segSize (segsEnc (t :: r) ys) = c.size + segSize cs
            rw [one h1, ih h2]
          · cases e
        · cases e

def AS.rs : AS → List Nat
  | .c s => regsCS s
  | .agg ss => regsCSs ss
  | .dat _ => []
def RS.rs : RS → List Nat
  | .cells ss => regsCSs ss
  | _ => []

/-- a slot is no row of cells -/
def slotC : CS → Bool
  | .ints _ _ => false
  | .junk _ => false
  | _ => true
def slotA : AS → Bool
  | .c s => slotC s
  | _ => true

theorem AS.dec_rel (R : Rel P w0 fp nt β st a w) (V : View st β h' β' ρ N gs) {s : AS} {x : AV} {y : s.T} {gs' : List Nat} {v : Value} (hsl : slotA s = true) (e : s.dec st.heap ρ N x = some (y, gs')) (hgs : ∀ r ∈ gs', r ∈ gs)
    (hk : ∀ q ∈ s.rs, ∃ g, h' q = some g) (H : AVRel st.heap β w x v) : AVRel h' β' w (s.enc y) v := by
  cases s with
  | c s =>
    simp only [AS.dec] at e
    split at e
    · simp only [AS.enc, AVRel] at H ⊢
      exact CS.dec_rel R V e hgs hk (fun k n h => by subst h; cases hsl) (fun n h => by subst h; cases hsl) H
    · cases e
  | agg ss =>
    simp only [AS.dec] at e
    split at e
    · simp only [AS.enc, AVRel] at H ⊢
      obtain ⟨l, hl, hs⟩ := H
      exact ⟨l, hl, segsDec_rel R V e hgs hk hs⟩
    · cases e
  | dat d =>
    simp only [AS.dec] at e
    split at e
    · split at e
      · rename_i z gs2 h3
        cases e
        simp only [AS.enc, AVRel] at H ⊢
        obtain ⟨l, hl, hs⟩ := H
        obtain ⟨l1, l2, rfl, h4, h5⟩ := frzD_rel R h3 hs (V.own.sub hgs)
        simp only [SegsRel] at h5
        subst h5
        exact ⟨l1, by rw [hl, List.append_nil], h4.segs⟩
      · cases e
    · cases e

theorem RS.dec_shape {h : Heap} {s : RS} {g : Reg} {y : s.T} {gs' : List Nat} (e : s.dec h ρ N g = some (y, gs')) : Shape g (s.enc y) := by
  cases s with
  | cells ss =>
    simp only [RS.dec] at e
    split at e
    · simp only [RS.enc, Shape]; exact segsDec_size e
    · cases e
  | row e' k =>
    simp only [RS.dec] at e
    split at e
    · obtain ⟨h1, h2⟩ := cond_some e
      simp only [Bool.and_eq_true] at h1
      obtain rfl := nbeq.1 h1.1
      obtain rfl := beqK.1 h1.2
      cases h2
      exact ⟨rfl, rfl, rfl⟩
    · cases e
  | imap =>
    simp only [RS.dec] at e
    split at e
    · trivial
    · cases e
  | rowd e' d =>
    simp only [RS.dec] at e
    split at e
    · obtain ⟨h1, h2⟩ := cond_some e
      obtain rfl := nbeq.1 h1
      split at h2
      · rename_i ys hys
        cases h2
        obtain ⟨e0, hys⟩ := asDT_spec hys
        subst e0; subst hys
        exact ⟨rfl, rfl, rfl⟩
      · cases h2
    · cases e

theorem RS.dec_rel (R : Rel P w0 fp nt β st a w) (V : View st β h' β' ρ N gs) {s : RS} {g : Reg} {y : s.T} {gs' : List Nat} {bv : Value} (e : s.dec st.heap ρ N g = some (y, gs')) (hgs : ∀ r ∈ gs', r ∈ gs)
    (hk : ∀ q ∈ s.rs, ∃ g, h' q = some g) (H : RegRel st.heap β w bv g) : RegRel h' β' w bv (s.enc y) := by
  cases s with
  | cells ss =>
    simp only [RS.dec] at e
    split at e
    · obtain ⟨b, T, cs, h1, h2, h3⟩ := H
      exact ⟨b, T, cs, h1, h2, segsDec_rel R V e hgs hk h3⟩
    · cases e
  | row e' k =>
    simp only [RS.dec] at e
    split at e
    · obtain ⟨h1, h2⟩ := cond_some e
      simp only [Bool.and_eq_true] at h1
      obtain rfl := nbeq.1 h1.1
      obtain rfl := beqK.1 h1.2
      cases h2
      exact H
    · cases e
  | imap =>
    simp only [RS.dec] at e
    split at e
    · cases e; exact H
    · cases e
  | rowd e' d =>
    simp only [RS.dec] at e
    split at e
    · obtain ⟨h1, h2⟩ := cond_some e
      obtain rfl := nbeq.1 h1
      split at h2
      · rename_i ys hys
        cases h2
        obtain ⟨e0, hys⟩ := asDT_spec hys
        subst e0; subst hys
        rcases H with H | ⟨b, cap, l, tail, hbv, hh, hs, hl⟩
        · exact .inl H
        · refine .inr ⟨b, cap, l, tail, hbv, hh, ?_, hl⟩
          refine (hs.fzl (own := Own h' β') (fun b hb => (V.own b hb).1) (fun c hc => ?_)).segs
          rw [List.mem_flatMap] at hc
          obtain ⟨x, _, hx⟩ := hc
          exact encD_data _ _ c hx
      · cases h2
    · cases e

theorem RS.nil_rel {s : RS} {y : s.T} (e : s.nil = some y) : ((∃ e k, s.enc y = .row e k []) ∨ ∃ e d, s.enc y = .rowd e d []) ∧ RegRel h' β' w (.slice none 0 0) (s.enc y) ∧ (s.enc y).live := by
  cases s with
  | cells ss => cases e
  | row e' k => cases e; exact ⟨.inl ⟨e', k, rfl⟩, .inl ⟨rfl, rfl⟩, trivial⟩
  | imap => cases e
  | rowd e' d => cases e; exact ⟨.inr ⟨e', d, rfl⟩, .inl ⟨rfl, rfl⟩, trivial⟩

theorem RS.enc_live (s : RS) (y : s.T) : (s.enc y).live := by cases s <;> trivial
end
end Go.Abs
