/- An abstract interpreter of the code, and its soundness. -/
import Derived.Test.YtkkamfhppokooaaRAbs2R
import Derived.WalkKit
import Derived.ProofKit
import Derived.OpenShut
import Derived.ChangeOld
import Derived.Below
import Derived.SizedLaws
import Derived.ChangeArms
import Derived.KernelRfl
import Derived.Defers
import Derived.Recover
set_option linter.unusedVariables false
set_option linter.unusedSimpArgs false
namespace Go.Abs
universe u
open Go.RowKit
def regsCS : CS -> List Nat
 | .ptr r _ _ => [r]
 | .ptri r _ _ _ => [r]
 | .full r => [r]
 | .sl r => [r]
 | .asl r _ _ => [r]
 | .clo _ caps => caps
 | .sl0 r => [r]
 | _ => []
def regsCSs : List CS -> List Nat
 | [] => []
 | c :: r => regsCS c ++ regsCSs r
structure View (st : St) (β : Nat -> Value) (h' : Heap) (β' : Nat -> Value) (ρ : Nat -> Nat) (N : Nat -> Bool) (gs : List Nat) : Prop where
 reg : ∀ q g, h' q = some g -> N q = false -> ∃ g', st.heap (ρ q) = some g' ∧ Shape g' g ∧ β' q = β (ρ q)
 nil : ∀ q g, h' q = some g -> N q = true -> ((∃ e k, g = .row e k []) ∨ (∃ e d, g = .rowd e d []) ∨ ∃ e eb, g = .deep e eb []) ∧ β' q = .slice none 0 0
 own : OwnLess st β gs (Own h' β')
section
variable {P : Program} {w0 : World} {fp : FP} {nt : Nat} {β : Nat -> Value} {st : St} {a : Act} {w : World} {h' : Heap} {β' : Nat -> Value} {ρ : Nat -> Nat} {N : Nat -> Bool} {gs : List Nat}
theorem View.sub (V : View st β h' β' ρ N gs) {gs' : List Nat} (h : ∀ r ∈ gs', r ∈ gs) : View st β h' β' ρ N gs' := ⟨V.reg, V.nil, V.own.sub h⟩
theorem View.ptr (V : View st β h' β' ρ N gs) {q base room : Nat} {o : Option (Nat × Nat)} {v : Value} (hk : ∃ g, h' q = some g) (hn : N q = false) (H : ∃ g, st.heap (ρ q) = some g ∧ PtrOk (β (ρ q)) base o room v g) : ∃ g, h' q = some g ∧ PtrOk (β' q) base o room v g := by
 obtain ⟨g, hg⟩ := hk
 obtain ⟨g1, h1, hs, hb⟩ := V.reg q g hg hn
 obtain ⟨g2, h2, hp⟩ := H
 rw [h1] at h2
 cases h2
 exact ⟨g, hg, hp.shape hs fun _ => hb⟩
theorem CS.dec_rel (R : Rel P w0 fp nt β st a w) (V : View st β h' β' ρ N gs) {s : CS} {c : CV} {x : s.T} {gs' : List Nat} {v : Value} (e : s.dec st.heap ρ N c = some (x, gs')) (hgs : ∀ r ∈ gs', r ∈ gs)
  (hk : ∀ q ∈ regsCS s, ∃ g, h' q = some g) (hi : ∀ k n, s ≠ .ints k n) (hj : ∀ n, s ≠ .junk n) (hc : CVRel st.heap β w c v) : CVRel h' β' w (s.enc x) v := by
 cases s <;> simp only [CS.dec] at e
 case int k =>
  split at e
  ·obtain ⟨h1, h2⟩ := cond_some e; obtain rfl := beqK.1 h1; cases h2; exact hc
  ·cases e
 case bool => split at e <;> cases e; exact hc
 case str => split at e <;> cases e; exact hc
 case ints k n => exact absurd rfl (hi k n)
 case junk n => exact absurd rfl (hj n)
 case fz d =>
  simp only [CS.enc, CVRel]
  exact frzSl_rel R e hc (V.own.sub hgs)
 case fzn d =>
  split at e
  ·rename_i d' xs n
   split at e
   ·rename_i ys hys
    cases e
    obtain ⟨e0, hys⟩ := asDT_spec hys
    subst e0; subst hys
    simp only [CS.enc, CVRel] at hc ⊢
    exact hc.mono fun x v hx hv => ⟨hv, fun h => hx (V.own _ h).1⟩
   ·cases e
  ·rename_i r o n
   obtain ⟨h1, e⟩ := cond_some e
   obtain rfl := nbeq.1 h1
   split at e
   ·rename_i e' k xs hr
    split at e
    ·rename_i ys hys
     cases e
     obtain ⟨e0, hys⟩ := rowAs_spec hys
     subst e0
     simp only [CVRel] at hc
     obtain ⟨g, hg, hp⟩ := hc
     rw [hr] at hg
     cases hg
     have hys : ys = xs := hys
     simp only [CS.enc, CVRel]
     exact sl_fzn R hr hp (fun b hb h => (V.own b hb).2 r (hgs r (by simp)) _ hr trivial h) hys
    ·cases e
   ·cases e
  ·cases e
 case ptr r base room =>
  split at e
  ·obtain ⟨h1, h2⟩ := cond_some e
   simp only [Bool.and_eq_true, Bool.not_eq_true', nbeq] at h1
   obtain ⟨h1, rfl, rfl, rfl⟩ := h1
   simp only [CS.enc, CVRel] at hc ⊢
   exact V.ptr (hk r (by simp [regsCS])) h1 hc
  ·cases e
 case ptri r base lim room =>
  split at e
  ·obtain ⟨h1, h2⟩ := cond_some e
   simp only [Bool.and_eq_true, Bool.not_eq_true', nbeq] at h1
   obtain ⟨h1, rfl, rfl, rfl, rfl⟩ := h1
   cases h2
   simp only [CS.enc, CVRel] at hc ⊢
   exact V.ptr (hk r (by simp [regsCS])) h1 hc
  ·cases e
 case full r =>
  obtain ⟨g, hg⟩ := hk r (by simp [regsCS])
  split at e
  ·obtain ⟨h1, h2⟩ := cond_some e
   simp only [Bool.and_eq_true, Bool.not_eq_true', nbeq] at h1
   obtain ⟨h1, rfl⟩ := h1
   simp only [CS.enc, CVRel] at hc ⊢
   obtain ⟨g1, h3, hs, hb⟩ := V.reg r g hg h1
   obtain ⟨g2, h4, hp⟩ := hc
   rw [h3] at h4
   cases h4
   exact ⟨g, hg, hp.shape hs fun _ => hb⟩
  ·obtain ⟨h1, h2⟩ := cond_some e
   simp only [Bool.and_eq_true] at h1
   obtain rfl := isNilS_spec h1.2
   simp only [CS.enc, CVRel] at hc ⊢
   subst hc
   obtain ⟨h3, h4⟩ := V.nil r g hg h1.1
   refine ⟨g, hg, ?_⟩
   rw [h4]
   rcases h3 with ⟨e, k, rfl⟩ | ⟨e, d, rfl⟩ | ⟨e, eb, rfl⟩ <;> exact ⟨rfl, rfl⟩
  ·cases e
 case sl r =>
  obtain ⟨g, hg⟩ := hk r (by simp [regsCS])
  split at e
  ·obtain ⟨h1, h2⟩ := cond_some e
   simp only [Bool.and_eq_true, Bool.not_eq_true', nbeq] at h1
   obtain ⟨h1, rfl⟩ := h1
   cases h2
   simp only [CS.enc, CVRel] at hc ⊢
   obtain ⟨g1, h3, hs, hb⟩ := V.reg r g hg h1
   obtain ⟨g2, h4, hp⟩ := hc
   rw [h3] at h4
   cases h4
   exact ⟨g, hg, hp.shape hs fun _ => hb⟩
  ·rename_i r'
   obtain ⟨h1, e⟩ := cond_some e
   simp only [Bool.and_eq_true, Bool.not_eq_true', nbeq] at h1
   obtain ⟨h1, rfl⟩ := h1
   split at e
   ·rename_i e' k ys hr
    cases e
    simp only [CS.enc, CVRel] at hc ⊢
    obtain ⟨g1, h3, hs, hb⟩ := V.reg r g hg h1
    obtain ⟨g2, h4, hp⟩ := hc
    rw [h3] at h4
    cases h4
    rw [h3] at hr
    cases hr
    obtain ⟨rfl, _⟩ := hp
    have key : SlOk (β (ρ r)) 0 ys.length (β (ρ r)) (.row e' k ys) := by
     rcases R.heap _ _ h3 with ⟨hn, he⟩ | ⟨b, cap, tail, hbv, _, _, _⟩
     ·subst he
      rw [hn]
      exact ⟨by simp, none, 0, none, rfl, rfl, fun h => absurd h (Nat.lt_irrefl 0)⟩
     ·rw [hbv]
      exact ⟨by omega, _, cap, _, rfl, rfl, fun _ => by simp [add_zero']⟩
    exact ⟨g, hg, key.shape hs fun _ => hb⟩
   ·cases e
  ·cases e
 case sl0 r =>
  obtain ⟨g, hg⟩ := hk r (by simp [regsCS])
  split at e
  ·obtain ⟨h1, h2⟩ := cond_some e
   simp only [Bool.and_eq_true, Bool.not_eq_true', nbeq] at h1
   obtain ⟨h1, rfl, rfl⟩ := h1
   cases h2
   simp only [CS.enc, CVRel] at hc ⊢
   obtain ⟨g1, h3, hs, hb⟩ := V.reg r g hg h1
   obtain ⟨g2, h4, hp⟩ := hc
   rw [h3] at h4
   cases h4
   exact ⟨g, hg, hp.shape hs fun _ => hb⟩
  ·cases e
 case asl r base lim =>
  obtain ⟨g, hg⟩ := hk r (by simp [regsCS])
  split at e
  ·obtain ⟨h1, h2⟩ := cond_some e
   simp only [Bool.and_eq_true, Bool.not_eq_true', nbeq] at h1
   obtain ⟨h1, rfl, rfl, rfl⟩ := h1
   cases h2
   simp only [CS.enc, CVRel] at hc ⊢
   obtain ⟨g1, h3, hs, hb⟩ := V.reg r g hg h1
   obtain ⟨g2, h4, hp⟩ := hc
   rw [h3] at h4
   cases h4
   exact ⟨g, hg, hp.shape hs fun _ => hb⟩
  ·cases e
 case nilp =>
  split at e
  ·obtain ⟨h1, h2⟩ := cond_some e; obtain rfl := isNilP_spec h1; exact hc
  ·cases e
 case nils =>
  split at e
  ·obtain ⟨h1, h2⟩ := cond_some e; obtain rfl := isNilS_spec h1; exact hc
  ·cases e
 case fzp d =>
  split at e
  ·rename_i cs room
   obtain ⟨h1, h2⟩ := cond_some e
   obtain rfl := nbeq.1 h1
   split at h2
   ·rename_i y h3
    cases h2
    have := decD_enc h3
    rw [List.append_nil] at this
    subst this
    simp only [CS.enc, CVRel] at hc ⊢
    obtain ⟨A, hA, hf, hr⟩ := hc
    exact ⟨A, hA, hf.mono (fun x v hx hv => ⟨hv, fun h => hx (V.own _ h).1⟩), hr⟩
   ·cases h2
  ·rename_i r base room
   obtain ⟨h1, h2⟩ := cond_some e
   simp only [Bool.and_eq_true, nbeq] at h1
   obtain ⟨rfl, rfl⟩ := h1
   split at h2
   ·rename_i segs hr
    split at h2
    ·rename_i y gs2 h3
     cases h2
     simp only [CVRel] at hc
     obtain ⟨g, hg, hp⟩ := hc
     rw [hr] at hg
     cases hg
     obtain ⟨b, hbv, rfl, hsz, _⟩ := hp
     obtain ⟨b', T, cs, hbv', hh, hs⟩ := R.heap r _ hr
     rw [hbv] at hbv'
     cases hbv'
     obtain ⟨l1, l2, hl, h4, h5⟩ := frzD_rel R h3 hs (V.own.sub fun q hq => hgs q (by simp [hq]))
     simp only [SegsRel] at h5
     subst h5
     simp only [CS.enc, CVRel, offOf]
     refine ⟨⟨b, 0, none⟩, rfl, h4.at (fun j u hu => uwin_block hh j u (by rw [hl, List.append_nil]; exact hu)) (fun ho => ?_), by rw [encD_size]; simp, fun i lim h => by cases h⟩
     exact (V.own _ ho).2 r (hgs r (by simp)) _ hr trivial (by rw [hbv]; rfl)
    ·cases h2
   ·cases h2
  ·cases e
 case boolc b =>
  split at e
  ·rename_i b'
   obtain ⟨h1, h2⟩ := cond_some e
   have : b = b' := by simpa using h1
   subst this; exact hc
  ·cases e
 case clo f caps =>
  split at e
  ·rename_i f' caps'
   obtain ⟨h1, h2⟩ := cond_some e
   simp only [Bool.and_eq_true, nbeq, List.all_eq_true, Bool.not_eq_true'] at h1
   obtain ⟨rfl, h3, h4⟩ := h1
   have h4 := eqNats_spec h4
   subst h4
   simp only [CS.enc, CVRel, List.length_map] at hc ⊢
   obtain ⟨vs, hv, hl, H⟩ := hc
   refine ⟨vs, hv, hl, fun i r hr => ?_⟩
   obtain ⟨u, g, hu, hg⟩ := H i (ρ r) (by simp [hr])
   have hm : r ∈ caps := List.mem_of_getElem? hr
   obtain ⟨g', h5, h6⟩ := V.ptr (hk r (by simpa [regsCS] using hm)) (h3 r hm) ⟨g, hg⟩
   exact ⟨u, g', hu, h5, h6⟩
  ·cases e
theorem CS.enc_form (s : CS) (x : s.T) : ((∃ k n, s = .ints k n) ∨ (∃ n, s = .junk n)) ∨ ((∀ k n, s ≠ .ints k n) ∧ (∀ n, s ≠ .junk n) ∧ (∀ k n f, s.enc x ≠ .ints k n f) ∧ ∀ n, s.enc x ≠ .junk n) := by
 cases s <;> simp [CS.enc]
theorem seg_dec (R : Rel P w0 fp nt β st a w) (V : View st β h' β' ρ N gs) {s : CS} {c : CV} {x : s.T} {gs' : List Nat} (e : s.dec st.heap ρ N c = some (x, gs')) (hgs : ∀ r ∈ gs', r ∈ gs)
  (hk : ∀ q ∈ regsCS s, ∃ g, h' q = some g) {cs : List CV} {l : List Value} (H : SegsRel st.heap β w (c :: cs) l) : ∃ l1 l2, l = l1 ++ l2 ∧ SegsRel h' β' w [s.enc x] l1 ∧ SegsRel st.heap β w cs l2 := by
 rcases CS.enc_form s x with (⟨k, n, rfl⟩ | ⟨n, rfl⟩) | ⟨h1, h2, h3, h4⟩
 ·simp only [CS.dec] at e
  split at e
  ·obtain ⟨h1, h2⟩ := cond_some e
   simp only [Bool.and_eq_true] at h1
   obtain rfl := beqK.1 h1.1
   obtain rfl := nbeq.1 h1.2
   cases h2
   simp only [SegsRel] at H
   obtain ⟨r, rfl, hr⟩ := H
   exact ⟨_, r, rfl, by simp only [CS.enc, SegsRel]; exact ⟨[], by simp, rfl⟩, hr⟩
  ·cases e
 ·simp only [CS.dec] at e
  split at e
  ·obtain ⟨h1, h2⟩ := cond_some e
   obtain rfl := nbeq.1 h1
   simp only [SegsRel] at H
   obtain ⟨a', r, rfl, h3, h4, hr⟩ := H
   exact ⟨a', r, rfl, by simp only [CS.enc, SegsRel]; exact ⟨a', [], by simp, h3, h4, rfl⟩, hr⟩
  ·rename_i hnj
   obtain ⟨h1, h2⟩ := cond_some e
   simp only [Bool.and_eq_true] at h1
   obtain rfl := nbeq.1 h1.2
   obtain ⟨v, r, rfl, hv, _, hr⟩ := segs_one (fun k n f h => by subst h; simp [one1] at h1) (fun n h => hnj n h) H
   exact ⟨[v], r, rfl, by simp only [CS.enc, SegsRel]; exact ⟨[v], [], rfl, rfl, fun u hu => by rw [List.mem_singleton.1 hu]; exact hv, rfl⟩, hr⟩
 ·have hc1 : ∀ k n f, c ≠ .ints k n f := fun k n f h => by
   subst h
   cases s <;> simp only [CS.dec, frzSl] at e <;> first | (cases e; done) | (exact h1 _ _ rfl) | (exact h2 _ rfl)
  have hc2 : ∀ n, c ≠ .junk n := fun n h => by
   subst h
   cases s <;> simp only [CS.dec, frzSl] at e <;> first | (cases e; done) | (exact h2 _ rfl)
  obtain ⟨v, r, rfl, hv, hcv, hr⟩ := segs_one hc1 hc2 H
  have key := CS.dec_rel R V e hgs hk h1 h2 hcv
  refine ⟨[v], r, rfl, ?_, hr⟩
  generalize hx : s.enc x = y at key h3 h4
  cases y <;> simp only [SegsRel] <;> first
   | exact absurd rfl (h3 _ _ _)
   | exact absurd rfl (h4 _)
   | exact ⟨v, [], rfl, hv, key, rfl⟩
theorem segsDec_rel (R : Rel P w0 fp nt β st a w) (V : View st β h' β' ρ N gs) : ∀ {ss : List CS} {cs : List CV} {x : segsT ss} {gs' : List Nat}, segsDec st.heap ρ N ss cs = some (x, gs') -> (∀ r ∈ gs', r ∈ gs) ->
  (∀ q ∈ regsCSs ss, ∃ g, h' q = some g) -> ∀ {l : List Value}, SegsRel st.heap β w cs l -> SegsRel h' β' w (segsEnc ss x) l := by
 intro ss
 induction ss with
 | nil =>
  intro cs x gs' e _ _ l H
  cases cs with
  | nil => exact H
  | cons => cases e
 | cons s r ih =>
  intro cs x gs' e hgs hk l H
  have hk1 : ∀ q ∈ regsCS s, ∃ g, h' q = some g := fun q hq => hk q (by simp [regsCSs, hq])
  have hk2 : ∀ q ∈ regsCSs r, ∃ g, h' q = some g := fun q hq => hk q (by simp [regsCSs, hq])
  cases r with
  | nil =>
   match cs, e with
   | [c], e =>
    simp only [segsDec] at e
    obtain ⟨l1, l2, rfl, h1, h2⟩ := seg_dec R V e hgs hk1 H
    simp only [SegsRel] at h2
    subst h2
    rw [List.append_nil]
    exact h1
  | cons t r =>
   match cs, e with
   | c :: cs, e =>
    simp only [segsDec] at e
    split at e
    ·rename_i y gs1 h1
     split at e
     ·rename_i ys gs2 h2
      cases e
      obtain ⟨l1, l2, rfl, h3, h4⟩ := seg_dec R V h1 (fun r hr => hgs r (by simp [hr])) hk1 H
      exact h3.append (ih h2 (fun r hr => hgs r (by simp [hr])) hk2 h4)
     ·cases e
    ·cases e
theorem segsDec_size {h : Heap} {ρ : Nat -> Nat} {N : Nat -> Bool} : ∀ {ss : List CS} {cs : List CV} {x : segsT ss} {gs' : List Nat}, segsDec h ρ N ss cs = some (x, gs') -> segSize (segsEnc ss x) = segSize cs := by
 have one : ∀ {s : CS} {c : CV} {x : s.T} {gs' : List Nat}, s.dec h ρ N c = some (x, gs') -> (s.enc x).size = c.size := by
  intro s c x gs' e
  cases s <;> simp only [CS.dec] at e
  case fz d => cases c <;> simp only [frzSl] at e <;> first | (cases e; done) | rfl
  case ints k n =>
   split at e
   ·obtain ⟨h1, h2⟩ := cond_some e; simp only [Bool.and_eq_true, nbeq] at h1; rw [CS.enc, CV.size, CV.size, h1.2]
   ·cases e
  case junk n =>
   split at e
   ·obtain ⟨h1, h2⟩ := cond_some e; rw [CS.enc, CV.size, CV.size, nbeq.1 h1]
   ·rename_i hj
    obtain ⟨h1, h2⟩ := cond_some e
    simp only [Bool.and_eq_true, nbeq] at h1
    obtain ⟨h1, rfl⟩ := h1
    cases c <;> first | rfl | (cases h1; done) | exact absurd rfl (hj _)
  all_goals (split at e <;> first | rfl | (cases e; done))
 intro ss
 induction ss with
 | nil => intro cs x gs' e; cases cs with
  | nil => rfl
  | cons => cases e
 | cons s r ih =>
  intro cs x gs' e
  cases r with
  | nil =>
   match cs, e with
   | [c], e => simp only [segsDec] at e; simp only [segsEnc, segSize, one e]
  | cons t r =>
   match cs, e with
   | c :: cs, e =>
    simp only [segsDec] at e
    split at e
    ·rename_i y gs1 h1
     split at e
     ·rename_i ys gs2 h2
      cases e
      show (s.enc y).size + segSize (segsEnc (t :: r) ys) = c.size + segSize cs
      rw [one h1, ih h2]
     ·cases e
    ·cases e
def AS.rs : AS -> List Nat
 | .c s => regsCS s
 | .agg ss => regsCSs ss
 | .dat _ => []
def RS.rs : RS -> List Nat
 | .cells ss => regsCSs ss
 | .part ss => regsCSs ss
 | _ => []
def slotC : CS -> Bool
 | .ints _ _ => false
 | .junk _ => false
 | _ => true
def slotA : AS -> Bool
 | .c s => slotC s
 | _ => true
theorem AS.dec_rel (R : Rel P w0 fp nt β st a w) (V : View st β h' β' ρ N gs) {s : AS} {x : AV} {y : s.T} {gs' : List Nat} {v : Value} (hsl : slotA s = true) (e : s.dec st.heap ρ N x = some (y, gs')) (hgs : ∀ r ∈ gs', r ∈ gs)
  (hk : ∀ q ∈ s.rs, ∃ g, h' q = some g) (H : AVRel st.heap β w x v) : AVRel h' β' w (s.enc y) v := by
 cases s with
 | c s =>
  simp only [AS.dec] at e
  split at e
  ·simp only [AS.enc, AVRel] at H ⊢
   exact CS.dec_rel R V e hgs hk (fun k n h => by subst h; cases hsl) (fun n h => by subst h; cases hsl) H
  ·cases e
 | agg ss =>
  simp only [AS.dec] at e
  split at e
  ·simp only [AS.enc, AVRel] at H ⊢
   obtain ⟨l, hl, hs⟩ := H
   exact ⟨l, hl, segsDec_rel R V e hgs hk hs⟩
  ·cases e
 | dat d =>
  simp only [AS.dec] at e
  split at e
  ·split at e
   ·rename_i z gs2 h3
    cases e
    simp only [AS.enc, AVRel] at H ⊢
    obtain ⟨l, hl, hs⟩ := H
    obtain ⟨l1, l2, rfl, h4, h5⟩ := frzD_rel R h3 hs (V.own.sub hgs)
    simp only [SegsRel] at h5
    subst h5
    exact ⟨l1, by rw [hl, List.append_nil], h4.segs⟩
   ·cases e
  ·cases e
theorem RS.dec_shape {h : Heap} {s : RS} {g : Reg} {y : s.T} {gs' : List Nat} (e : s.dec h ρ N g = some (y, gs')) : Shape g (s.enc y) := by
 cases s with
 | cells ss =>
  simp only [RS.dec] at e
  split at e
  ·simp only [RS.enc, Shape]; exact segsDec_size e
  ·cases e
 | part ss =>
  simp only [RS.dec] at e
  split at e
  ·simp only [RS.enc, Shape]; exact segsDec_size e
  ·cases e
 | row e' k =>
  simp only [RS.dec] at e
  split at e
  ·obtain ⟨h1, h2⟩ := cond_some e
   simp only [Bool.and_eq_true] at h1
   obtain rfl := nbeq.1 h1.1
   obtain rfl := beqK.1 h1.2
   cases h2
   exact ⟨rfl, rfl, rfl⟩
  ·cases e
 | imap =>
  simp only [RS.dec] at e
  split at e
  ·trivial
  ·cases e
 | deep e' eb =>
  simp only [RS.dec] at e
  split at e
  ·obtain ⟨h1, h2⟩ := cond_some e
   simp only [Bool.and_eq_true] at h1
   obtain rfl := nbeq.1 h1.1
   obtain rfl := nbeq.1 h1.2
   cases h2
   exact ⟨rfl, rfl, rfl⟩
  ·cases e
 | rowd e' d =>
  simp only [RS.dec] at e
  split at e
  ·obtain ⟨h1, h2⟩ := cond_some e
   obtain rfl := nbeq.1 h1
   split at h2
   ·rename_i ys hys
    cases h2
    obtain ⟨e0, hys⟩ := asDT_spec hys
    subst e0; subst hys
    exact ⟨rfl, rfl, rfl⟩
   ·cases h2
  ·cases e
theorem RS.dec_rel (R : Rel P w0 fp nt β st a w) (V : View st β h' β' ρ N gs) {s : RS} {g : Reg} {y : s.T} {gs' : List Nat} {bv : Value} (e : s.dec st.heap ρ N g = some (y, gs')) (hgs : ∀ r ∈ gs', r ∈ gs)
  (hk : ∀ q ∈ s.rs, ∃ g, h' q = some g) (H : RegRel st.heap β w bv g) : RegRel h' β' w bv (s.enc y) := by
 cases s with
 | cells ss =>
  simp only [RS.dec] at e
  split at e
  ·obtain ⟨b, T, cs, h1, h2, h3⟩ := H
   exact ⟨b, T, cs, h1, h2, segsDec_rel R V e hgs hk h3⟩
  ·cases e
 | part ss =>
  simp only [RS.dec] at e
  split at e
  ·obtain ⟨b, sh, pre, cs, post, T, h1, h0, h2, h3⟩ := H
   exact ⟨b, sh, pre, cs, post, T, h1, h0, h2, segsDec_rel R V e hgs hk h3⟩
  ·cases e
 | row e' k =>
  simp only [RS.dec] at e
  split at e
  ·obtain ⟨h1, h2⟩ := cond_some e
   simp only [Bool.and_eq_true] at h1
   obtain rfl := nbeq.1 h1.1
   obtain rfl := beqK.1 h1.2
   cases h2
   exact H
  ·cases e
 | imap =>
  simp only [RS.dec] at e
  split at e
  ·cases e; exact H
  ·cases e
 | deep e' eb =>
  simp only [RS.dec] at e
  split at e
  ·obtain ⟨h1, h2⟩ := cond_some e
   simp only [Bool.and_eq_true] at h1
   obtain rfl := nbeq.1 h1.1
   obtain rfl := nbeq.1 h1.2
   cases h2
   exact H
  ·cases e
 | rowd e' d =>
  simp only [RS.dec] at e
  split at e
  ·obtain ⟨h1, h2⟩ := cond_some e
   obtain rfl := nbeq.1 h1
   split at h2
   ·rename_i ys hys
    cases h2
    obtain ⟨e0, hys⟩ := asDT_spec hys
    subst e0; subst hys
    rcases H with H | ⟨b, cap, l, tail, hbv, hh, hs, hl⟩
    ·exact .inl H
    ·refine .inr ⟨b, cap, l, tail, hbv, hh, ?_, hl⟩
     refine (hs.fzl (own := Own h' β') (fun b hb => (V.own b hb).1) (fun c hc => ?_)).segs
     rw [List.mem_flatMap] at hc
     obtain ⟨x, _, hx⟩ := hc
     exact encD_data _ _ c hx
   ·cases h2
  ·cases e
theorem RS.nil_rel {s : RS} {y : s.T} (e : s.nil = some y) : ((∃ e k, s.enc y = .row e k []) ∨ (∃ e d, s.enc y = .rowd e d []) ∨ ∃ e eb, s.enc y = .deep e eb []) ∧ RegRel h' β' w (.slice none 0 0) (s.enc y) ∧ (s.enc y).live := by
 cases s with
 | cells ss => cases e
 | row e' k => cases e; exact ⟨.inl ⟨e', k, rfl⟩, .inl ⟨rfl, rfl⟩, trivial⟩
 | imap => cases e
 | part ss => cases e
 | deep e' eb => cases e; exact ⟨.inr (.inr ⟨e', eb, rfl⟩), .inl ⟨rfl, rfl⟩, trivial⟩
 | rowd e' d => cases e; exact ⟨.inr (.inl ⟨e', d, rfl⟩), .inl ⟨rfl, rfl⟩, trivial⟩
theorem RS.enc_live (s : RS) (y : s.T) : (s.enc y).live := by cases s <;> trivial
end
end Go.Abs
namespace Go.Abs
universe u
open Go.RowKit
def VS.rs : VS -> List Nat
 | .env _ s => s.rs
 | .reg _ s => s.rs
def fixRs : List (Nat × CS) -> List Nat
 | [] => []
 | (_, s) :: r => regsCS s ++ fixRs r
def varsRs : List VS -> List Nat
 | [] => []
 | v :: r => v.rs ++ varsRs r
def VS.slot : VS -> Bool
 | .env _ s => slotA s
 | .reg _ _ => true
def Lay.closed (l : Lay) : Bool := ((fixRs l.fix ++ varsRs l.vars).all fun r => memB r (keysOf l.vars)) && (l.fix.all fun p => slotC p.2) && l.vars.all VS.slot
theorem unit_nil {h : Heap} {ρ : Nat -> Nat} {N : Nat -> Bool} {s : CS} {c : CV} {x y : s.T} {gs : List Nat} (hu : s.unit = some y) (e : s.dec h ρ N c = some (x, gs)) : gs = [] ∧ x = y := by
 cases s <;> simp only [CS.unit] at hu <;> first | (cases hu; done) | skip
 all_goals
  cases hu
  simp only [CS.dec] at e
  split at e <;> first | (cases e; done) | skip
 all_goals first
  | (obtain ⟨_, h2⟩ := cond_some e; cases h2; exact ⟨rfl, rfl⟩)
section
variable {ρ : Nat -> Nat} {N : Nat -> Bool} {st : St}
theorem fixDec_mem : ∀ {l : List (Nat × CS)}, fixDec ρ N st l = true -> ∀ t a, (t, a) ∈ fixEnvs l -> ∃ s x c, (t, s) ∈ l ∧ st.env t = some (.c c) ∧ s.dec st.heap ρ N c = some (x, []) ∧ a = .c (s.enc x) := by
 intro l
 induction l with
 | nil => intro _ t a h; simp [fixEnvs] at h
 | cons p l ih =>
  obtain ⟨t, s⟩ := p
  intro h u a hm
  simp only [fixDec] at h
  split at h
  ·rename_i x hx
   split at h
   ·rename_i y hy
    obtain ⟨y, gs⟩ := y
    simp only [fixEnvs] at hm
    have rest : (u, a) ∈ fixEnvs l -> ∃ s' x c, (u, s') ∈ (t, s) :: l ∧ st.env u = some (.c c) ∧ s'.dec st.heap ρ N c = some (x, []) ∧ a = .c (s'.enc x) := fun h' => by
     obtain ⟨s', x', c', h1, h2⟩ := ih h u a h'
     exact ⟨s', x', c', by simp [h1], h2⟩
    split at hm
    ·rename_i z hz
     rcases List.mem_cons.1 hm with e | hm
     ·cases e
      obtain ⟨rfl, rfl⟩ := unit_nil hz hy
      exact ⟨s, y, x, by simp, hx, hy, rfl⟩
     ·exact rest hm
    ·exact rest hm
   ·cases h
  ·cases h
theorem varsDec_mem : ∀ {l : List VS} {x : varsT l} {gs : List Nat}, varsDec ρ N st l = some (x, gs) ->
  (∀ t a, (t, a) ∈ varsEnvs l x -> ∃ s y a0 gs', VS.env t s ∈ l ∧ st.env t = some a0 ∧ s.dec st.heap ρ N a0 = some (y, gs') ∧ (∀ r ∈ gs', r ∈ gs) ∧ a = s.enc y ∧ ∀ r ∈ s.rs, r ∈ varsRs l) ∧
  (∀ r g, (r, g) ∈ varsRegs l x -> ∃ s y, g = RS.enc s y ∧ r ∈ keysOf l ∧ (∀ r ∈ s.rs, r ∈ varsRs l) ∧ ((N r = true ∧ s.nil = some y) ∨ (N r = false ∧ ∃ g0 gs', st.heap (ρ r) = some g0 ∧ s.dec st.heap ρ N g0 = some (y, gs') ∧ ∀ r ∈ gs', r ∈ gs))) := by
 have one : ∀ {v : VS} {x : v.T} {gs0 gs : List Nat} {le : List (Nat × AV)} {lr : List (Nat × Reg)} {l : List VS}, v.dec ρ N st = some (x, gs0) -> (∀ r ∈ gs0, r ∈ gs) ->
   (∀ t a, (t, a) ∈ le -> ∃ s y a0 gs', VS.env t s ∈ l ∧ st.env t = some a0 ∧ s.dec st.heap ρ N a0 = some (y, gs') ∧ (∀ r ∈ gs', r ∈ gs) ∧ a = s.enc y ∧ ∀ r ∈ s.rs, r ∈ varsRs l) ->
   (∀ r g, (r, g) ∈ lr -> ∃ s y, g = RS.enc s y ∧ r ∈ keysOf l ∧ (∀ r ∈ s.rs, r ∈ varsRs l) ∧ ((N r = true ∧ s.nil = some y) ∨ (N r = false ∧ ∃ g0 gs', st.heap (ρ r) = some g0 ∧ s.dec st.heap ρ N g0 = some (y, gs') ∧ ∀ r ∈ gs', r ∈ gs))) ->
   (∀ t a, (t, a) ∈ v.envs x le -> ∃ s y a0 gs', VS.env t s ∈ v :: l ∧ st.env t = some a0 ∧ s.dec st.heap ρ N a0 = some (y, gs') ∧ (∀ r ∈ gs', r ∈ gs) ∧ a = s.enc y ∧ ∀ r ∈ s.rs, r ∈ varsRs (v :: l)) ∧
   (∀ r g, (r, g) ∈ v.regs x lr -> ∃ s y, g = RS.enc s y ∧ r ∈ keysOf (v :: l) ∧ (∀ r ∈ s.rs, r ∈ varsRs (v :: l)) ∧ ((N r = true ∧ s.nil = some y) ∨ (N r = false ∧ ∃ g0 gs', st.heap (ρ r) = some g0 ∧ s.dec st.heap ρ N g0 = some (y, gs') ∧ ∀ r ∈ gs', r ∈ gs))) := by
  intro v x gs0 gs le lr l h hg h1 h2
  have up1 : ∀ {t a}, (t, a) ∈ le -> ∃ s y a0 gs', VS.env t s ∈ v :: l ∧ st.env t = some a0 ∧ s.dec st.heap ρ N a0 = some (y, gs') ∧ (∀ r ∈ gs', r ∈ gs) ∧ a = s.enc y ∧ ∀ r ∈ s.rs, r ∈ varsRs (v :: l) := fun hm => by
   obtain ⟨s, y, a0, gs', q1, q2, q3, q4, q5, q6⟩ := h1 _ _ hm
   exact ⟨s, y, a0, gs', by simp [q1], q2, q3, q4, q5, fun r hr => by simp only [varsRs, List.mem_append]; exact .inr (q6 r hr)⟩
  have up2 : ∀ {r g}, (r, g) ∈ lr -> ∃ s y, g = RS.enc s y ∧ r ∈ keysOf (v :: l) ∧ (∀ r ∈ s.rs, r ∈ varsRs (v :: l)) ∧ ((N r = true ∧ s.nil = some y) ∨ (N r = false ∧ ∃ g0 gs', st.heap (ρ r) = some g0 ∧ s.dec st.heap ρ N g0 = some (y, gs') ∧ ∀ r ∈ gs', r ∈ gs)) := fun hm => by
   obtain ⟨s, y, q1, q2, q3, q4⟩ := h2 _ _ hm
   refine ⟨s, y, q1, ?_, fun r hr => by simp only [varsRs, List.mem_append]; exact .inr (q3 r hr), q4⟩
   cases v with
   | env => exact q2
   | reg => simp only [keysOf, List.mem_cons]; exact .inr q2
  cases v with
  | env t s =>
   simp only [VS.dec] at h
   refine ⟨fun u b hm => ?_, fun r g hm => up2 hm⟩
   simp only [VS.envs, List.mem_cons] at hm
   rcases hm with e | hm
   ·cases e
    split at h
    ·rename_i a0 ha
     exact ⟨s, x, a0, gs0, by simp, ha, h, hg, rfl, fun r hr => by simp only [varsRs, List.mem_append]; exact .inl hr⟩
    ·cases h
   ·exact up1 hm
  | reg t s =>
   simp only [VS.dec] at h
   refine ⟨fun u b hm => up1 hm, fun u b hm => ?_⟩
   simp only [VS.regs, List.mem_cons] at hm
   rcases hm with e | hm
   ·cases e
    refine ⟨s, x, rfl, by simp [keysOf], fun r hr => by simp only [varsRs, List.mem_append]; exact .inl hr, ?_⟩
    cases hN : N t with
    | true =>
     rw [hN] at h
     simp only [cond_true] at h
     split at h
     ·rename_i y hy; cases h; exact .inl ⟨rfl, hy⟩
     ·cases h
    | false =>
     rw [hN] at h
     simp only [cond_false] at h
     split at h
     ·rename_i g0 hg0; exact .inr ⟨rfl, g0, gs0, hg0, h, hg⟩
     ·cases h
   ·exact up2 hm
 intro l
 induction l with
 | nil => intro x gs _; exact ⟨fun t a h => by simp [varsEnvs] at h, fun t a h => by simp [varsRegs] at h⟩
 | cons v r ih =>
  intro x gs h
  cases r with
  | nil => exact one h (fun r hr => hr) (by simp) (by simp)
  | cons w r =>
   simp only [varsDec] at h
   split at h
   ·rename_i y gs1 hy
    split at h
    ·rename_i z gs2 hz
     cases h
     obtain ⟨h1, h2⟩ := ih hz
     refine one hy (fun r hr => by simp [hr]) (fun t a hm => ?_) (fun r g hm => ?_)
     ·obtain ⟨s, y, a0, gs', q1, q2, q3, q4, q5⟩ := h1 t a hm
      exact ⟨s, y, a0, gs', q1, q2, q3, fun r hr => by simp [q4 r hr], q5⟩
     ·obtain ⟨s, y, q1, q2, q3, q4⟩ := h2 r g hm
      refine ⟨s, y, q1, q2, q3, q4.imp id ?_⟩
      rintro ⟨q5, g0, gs', q6, q7, q8⟩
      exact ⟨q5, g0, gs', q6, q7, fun r hr => by simp [q8 r hr]⟩
    ·cases h
   ·cases h
theorem keysOk_spec {ks : List Nat} (h : keysOk ρ N ks = true) : (∀ q q', q ∈ ks -> q' ∈ ks -> N q = false -> N q' = false -> ρ q = ρ q' -> q = q') ∧ ∀ q ∈ ks, q < hidN := by
 simp only [keysOk, Bool.and_eq_true, List.all_eq_true, nblt, Bool.not_eq_true'] at h
 exact ⟨fun q q' hq hq' hn hn' => distinct_map h.1 q q' (by simp [hq, hn]) (by simp [hq', hn']), fun q hq => h.2 q hq⟩
theorem keysKept_spec {ks : List Nat} (h : keysKept ρ N ks = true) {q : Nat} (hq : q ∈ ks) (hle : ioN ≤ q) : ρ q = q ∧ N q = false := by
 simp only [keysKept, List.all_eq_true, Bool.or_eq_true, Bool.and_eq_true, nbeq, nblt, Bool.not_eq_true'] at h
 rcases h q hq with h' | h'
 ·omega
 ·exact h'
end
section
variable {P : Program} {w0 : World} {fp : FP} {nt : Nat} {β : Nat -> Value} {st : St} {a : Act} {w : World} {ρ : Nat -> Nat} {N : Nat -> Bool}
structure Dec (st : St) (β : Nat -> Value) (w : World) (s' : St) (β' : Nat -> Value) (ks gs : List Nat) (ρ : Nat -> Nat) (N : Nat -> Bool) : Prop where
 view : View st β s'.heap β' ρ N gs
 env : ∀ t av, s'.env t = some av -> ∃ a0, st.env t = some a0 ∧ ∀ v, AVRel st.heap β w a0 v -> AVRel s'.heap β' w av v
 heap : ∀ q g, s'.heap q = some g -> RegRel s'.heap β' w (β' q) g
 sep : ∀ r r' g g' b, s'.heap r = some g -> s'.heap r' = some g' -> g.live -> g'.live -> Blk (β' r) b -> Blk (β' r') b -> r = r'
 own : ∀ b, OwnR s'.heap β' b -> OwnR st.heap β b ∧ ∀ r ∈ gs, ∀ g, st.heap r = some g -> g.live -> ¬ Blk (β r) b
 key : ∀ q g, s'.heap q = some g -> q ∈ ks
 keys : ∀ q ∈ ks, (∃ g, s'.heap q = some g) ∧ q < hidN
 inj : ∀ q q', q ∈ ks -> q' ∈ ks -> N q = false -> N q' = false -> ρ q = ρ q' -> q = q'
 live : ∀ q g, s'.heap q = some g -> g.live
 gone : ∀ r ∈ gs, ∀ q ∈ ks, N q = false -> ρ q ≠ r
theorem Lay.decN_rel (R : Rel P w0 fp nt β st a w) {l : Lay} (hc : l.closed = true) {x : l.T} {gs : List Nat} (e : l.decN st ρ N = some (x, gs)) {β' : Nat -> Value}
  (hβ : ∀ q, q < hidN -> β' q = if N q = true then .slice none 0 0 else β (ρ q)) (hhid : ∀ b, Hid β' b -> Own st.heap β b ∧ ∀ r ∈ gs, ∀ g, st.heap r = some g -> g.live -> ¬ Blk (β r) b) :
  Dec st β w (l.enc x) β' (keysOf l.vars) gs ρ N := by
 unfold Lay.decN at e
 obtain ⟨h1, e⟩ := cond_some e
 simp only [Bool.and_eq_true] at h1
 obtain ⟨hko, hfx⟩ := h1
 obtain ⟨hinj, hkn⟩ := keysOk_spec hko
 split at e
 ·rename_i x' gs' hv
  obtain ⟨hgs, e⟩ := cond_some e
  cases e
  simp only [List.all_eq_true, Bool.not_eq_true', <- Bool.not_eq_true, memN_iff, List.mem_map, List.mem_filter, not_exists, not_and] at hgs
  obtain ⟨hE, hR⟩ := varsDec_mem hv
  simp only [Lay.closed, Bool.and_eq_true, List.all_eq_true, memB_iff] at hc
  obtain ⟨⟨hcl, hsf⟩, hsv⟩ := hc
  have hkey : ∀ q ∈ keysOf l.vars, ∃ g, (l.enc x).heap q = some g := fun q hq => by
   obtain ⟨g, hg⟩ := keysOf_reg (x := x) hq
   exact ofL_key hg
  have hgone : ∀ r ∈ gs, ∀ q ∈ keysOf l.vars, N q = false -> ρ q ≠ r := fun r hr q hq hn h => hgs r hr q ⟨hq, by rw [hn]; simp⟩ h
  have hreg : ∀ q g, (l.enc x).heap q = some g -> ∃ s y, g = RS.enc s y ∧ q ∈ keysOf l.vars ∧ (∀ r ∈ s.rs, r ∈ varsRs l.vars) ∧ ((N q = true ∧ s.nil = some y) ∨ (N q = false ∧ ∃ g0 gs', st.heap (ρ q) = some g0 ∧ s.dec st.heap ρ N g0 = some (y, gs') ∧ ∀ r ∈ gs', r ∈ gs)) := fun q g hg => hR q g (ofL_mem hg)
  have hlive : ∀ q g, (l.enc x).heap q = some g -> g.live := fun q g hg => by
   obtain ⟨s, y, rfl, _⟩ := hreg q g hg
   exact s.enc_live y
  have hbase : ∀ q g, (l.enc x).heap q = some g -> N q = false -> β' q = β (ρ q) := fun q g hg hn => by
   obtain ⟨s, y, _, hq, _⟩ := hreg q g hg
   rw [hβ q (hkn q hq), if_neg (by simp [hn])]
  have hnilb : ∀ q g, (l.enc x).heap q = some g -> N q = true -> β' q = .slice none 0 0 := fun q g hg hn => by
   obtain ⟨s, y, _, hq, _⟩ := hreg q g hg
   rw [hβ q (hkn q hq), if_pos hn]
  have hownR : ∀ b, OwnR (l.enc x).heap β' b -> OwnR st.heap β b ∧ ∀ r ∈ gs, ∀ g, st.heap r = some g -> g.live -> ¬ Blk (β r) b := by
   rintro b ⟨q, g, hg, hl, hb⟩
   obtain ⟨s, y, rfl, hq, _, hcase⟩ := hreg q g hg
   rcases hcase with ⟨hn, _⟩ | ⟨hn, g0, gs', hg0, hd, _⟩
   ·rw [hnilb q _ hg hn] at hb; cases hb
   ·rw [hbase q _ hg hn] at hb
    have hl0 : g0.live := by
     have := RS.dec_shape hd
     cases g0 <;> first | trivial | (cases s <;> simp [RS.enc, Shape] at this)
    refine ⟨⟨ρ q, g0, hg0, hl0, hb⟩, fun r hr g1 hg1 hl1 hb1 => ?_⟩
    exact hgone r hr q hq hn (R.sep _ _ _ _ b hg0 hg1 hl0 hl1 hb hb1)
  have V : View st β (l.enc x).heap β' ρ N gs := by
   refine ⟨fun q g hg hn => ?_, fun q g hg hn => ?_, fun b hb => ?_⟩
   ·obtain ⟨s, y, rfl, hq, _, hcase⟩ := hreg q g hg
    rcases hcase with ⟨hn', _⟩ | ⟨_, g0, gs', hg0, hd, _⟩
    ·rw [hn] at hn'; cases hn'
    ·exact ⟨g0, hg0, RS.dec_shape hd, hbase q _ hg hn⟩
   ·obtain ⟨s, y, rfl, hq, _, hcase⟩ := hreg q g hg
    rcases hcase with ⟨_, hnil⟩ | ⟨hn', _⟩
    ·exact ⟨(RS.nil_rel (h' := fun _ => none) (β' := β') (w := w) hnil).1, hnilb q _ hg hn⟩
    ·rw [hn] at hn'; cases hn'
   ·rcases hb with hb | hb
    ·exact ⟨.inl (hownR b hb).1, (hownR b hb).2⟩
    ·exact hhid b hb
  refine ⟨V, fun t av ht => ?_, fun q g hg => ?_, fun r r' g g' b hr hr' hl hl' hb hb' => ?_, hownR, fun q g hg => (hreg q g hg).choose_spec.choose_spec.2.1, fun q hq => ⟨hkey q hq, hkn q hq⟩, hinj, hlive, hgone⟩
  ·rcases List.mem_append.1 (ofL_mem ht) with hm | hm
   ·obtain ⟨s, y, c, hs, h2, h3, rfl⟩ := fixDec_mem hfx t av hm
    refine ⟨_, h2, fun v hv => ?_⟩
    simp only [AVRel] at hv ⊢
    have hsl := hsf _ hs
    refine CS.dec_rel R V h3 (by simp) (fun q hq => hkey q (hcl q ?_)) (fun k n h => by subst h; cases hsl) (fun n h => by subst h; cases hsl) hv
    rw [List.mem_append]
    left
    clear hfx hm ht
    have : ∀ {l : List (Nat × CS)}, (t, s) ∈ l -> q ∈ fixRs l := by
     intro l
     induction l with
     | nil => intro h; simp at h
     | cons p l ih =>
      intro h
      simp only [fixRs, List.mem_append]
      rcases List.mem_cons.1 h with e | h
      ·cases e; exact .inl hq
      ·exact .inr (ih h)
    exact this hs
   ·obtain ⟨s, y, a0, gs', h1, h2, h3, h4, rfl, h6⟩ := hE t av hm
    exact ⟨a0, h2, fun v hv => AS.dec_rel R V (hsv _ h1) h3 h4 (fun q hq => hkey q (hcl q (by rw [List.mem_append]; exact .inr (h6 q hq)))) hv⟩
  ·obtain ⟨s, y, rfl, hq, hrs, hcase⟩ := hreg q g hg
   rcases hcase with ⟨hn, hnil⟩ | ⟨hn, g0, gs', hg0, hd, hgs'⟩
   ·rw [hnilb q _ hg hn]; exact (RS.nil_rel hnil).2.1
   ·rw [hbase q _ hg hn]
    exact RS.dec_rel R V hd hgs' (fun q hq => hkey q (hcl q (by rw [List.mem_append]; exact .inr (hrs q hq)))) (R.heap _ _ hg0)
  ·obtain ⟨s, y, rfl, hq, _, hcase⟩ := hreg r g hr
   obtain ⟨s', y', rfl, hq', _, hcase'⟩ := hreg r' g' hr'
   rcases hcase with ⟨hn, _⟩ | ⟨hn, g0, gs0, hg0, hd, _⟩
   ·rw [hnilb r _ hr hn] at hb; cases hb
   ·rcases hcase' with ⟨hn', _⟩ | ⟨hn', g0', gs0', hg0', hd', _⟩
    ·rw [hnilb r' _ hr' hn'] at hb'; cases hb'
    ·rw [hbase r _ hr hn] at hb
     rw [hbase r' _ hr' hn'] at hb'
     have live0 : ∀ {s : RS} {g0 : Reg} {y : s.T} {gs : List Nat}, s.dec st.heap ρ N g0 = some (y, gs) -> g0.live := by
      intro s g0 y gs hd
      have := RS.dec_shape hd
      cases g0 <;> first | trivial | (cases s <;> simp [RS.enc, Shape] at this)
     exact hinj r r' hq hq' hn hn' (R.sep _ _ _ _ b hg0 hg0' (live0 hd) (live0 hd') hb hb')
 ·cases e
theorem Lay.dec_rel {l : Lay} (hc : l.closed = true) {x : l.T} (e : l.dec st = some x) (R : Rel P w0 fp nt β st a w) : ∃ β', Rel P w0 fp nt β' (l.enc x) a w := by
 unfold Lay.dec at e
 dsimp only at e
 obtain ⟨hkk, e⟩ := cond_some e
 split at e
 ·rename_i y gs h
  cases e
  generalize rhoOf (namesOf st l.roots []) = ρ at h hkk
  generalize nilOf (namesOf st l.roots []) = N at h hkk
  refine ⟨fun q => if hidN ≤ q then β q else if N q = true then .slice none 0 0 else β (ρ q), ?_⟩
  have hh : ∀ q, hidN ≤ q -> (fun q => if hidN ≤ q then β q else if N q = true then .slice none 0 0 else β (ρ q)) q = β q := fun q hq => if_pos hq
  have D := Lay.decN_rel R hc h (β' := fun q => if hidN ≤ q then β q else if N q = true then .slice none 0 0 else β (ρ q)) (fun q hq => if_neg (by omega)) (fun b hb => by
   have hb := hb.congr hh
   exact ⟨.inr hb, fun r _ g hg hl hbb => R.apart ⟨r, g, hg, hl, hbb⟩ hb⟩)
  refine ⟨R.defers, R.size, R.small, fun t av ht => ?_, D.heap, D.sep, fun b hb => R.lo b (D.own b hb).1, R.hid, fun r hr => (hh r hr).trans (R.hb r hr), R.os, R.tape, R.output, R.grow, R.keep, fun q bv g hq hg hl => ?_, R.ancN⟩
  ·obtain ⟨a0, h1, h2⟩ := D.env t av ht
   exact h2 _ (R.env t a0 h1)
  ·have h2 := (D.keys q (D.key q g hg)).2
   obtain ⟨h4, h5⟩ := keysKept_spec hkk (D.key q g hg) (R.ancN q bv hq)
   obtain ⟨g', h6, h7, h8⟩ := D.view.reg q g hg h5
   have h8 : (if hidN ≤ q then β q else if N q = true then .slice none 0 0 else β (ρ q)) = β (ρ q) := h8
   show (if hidN ≤ q then β q else if N q = true then .slice none 0 0 else β (ρ q)) = bv
   rw [h8, h4]
   rw [h4] at h6
   refine R.anc q bv g' hq h6 ?_
   have := D.live q g hg
   cases g <;> cases g' <;> simp only [Shape] at h7 <;> first | trivial | (cases this)
 ·cases e
end
abbrev xT : AExit -> Type
 | .panic _ _ => Int
 | _ => Unit
def AExit.with : (x : AExit) -> xT x -> AExit
 | .panic t _, n => .panic t n
 | x, _ => x
def AExit.meets : (e x : AExit) -> Option (xT x)
 | e, .normal => (match e with | .normal => some () | _ => none)
 | e, .exit j => (match e with | .exit i => bif Nat.beq i j then some () else none | _ => none)
 | e, .ret => (match e with | .ret => some () | _ => none)
 | e, .panic t _ => (match e with | .panic t' n => bif Nat.beq t' t then some n else none | _ => none)
theorem AExit.meets_spec {e x : AExit} {n : xT x} (h : e.meets x = some n) : e = x.with n := by
 cases x <;> cases e <;> simp only [AExit.meets] at h <;> first | (cases h; done) | rfl | skip
 ·obtain ⟨h1, h2⟩ := cond_some h
  rw [nbeq.1 h1]; rfl
 ·obtain ⟨h1, h2⟩ := cond_some h
  cases h2
  rw [nbeq.1 h1]; rfl
abbrev outT1 (x : AExit × Lay) : Type := match x.1 with
 | .panic _ _ => Int × x.2.T
 | _ => x.2.T
def outDec1 (e : AExit) (st : St) : (x : AExit × Lay) -> Option (outT1 x)
 | (.panic t n, l) => (match e.meets (.panic t n) with | some m => (match l.dec st with | some s => some (m, s) | none => none) | none => none)
 | (.normal, l) => (match e.meets .normal with | some _ => l.dec st | none => none)
 | (.exit i, l) => (match e.meets (.exit i) with | some _ => l.dec st | none => none)
 | (.ret, l) => (match e.meets .ret with | some _ => l.dec st | none => none)
def outEnc1 : (x : AExit × Lay) -> outT1 x -> AExit × St
 | (.panic t _, l), s => (.panic t s.1, l.enc s.2)
 | (.normal, l), s => (.normal, l.enc s)
 | (.exit i, l), s => (.exit i, l.enc s)
 | (.ret, l), s => (.ret, l.enc s)
theorem outDec1_spec {e : AExit} {st : St} {x : AExit × Lay} {s : outT1 x} (h : outDec1 e st x = some s) : (outEnc1 x s).1 = e ∧ ∃ y, x.2.dec st = some y ∧ (outEnc1 x s).2 = x.2.enc y := by
 obtain ⟨x, l⟩ := x
 cases x <;> simp only [outDec1] at h
 case panic t n =>
  split at h
  ·rename_i m hm
   split at h
   ·rename_i y hy; cases h; exact ⟨(AExit.meets_spec hm).symm, y, hy, rfl⟩
   ·cases h
  ·cases h
 all_goals
  split at h
  ·rename_i m hm; exact ⟨(AExit.meets_spec hm).symm, s, h, rfl⟩
  ·cases h
abbrev outsT : List (AExit × Lay) -> Type
 | [] => Empty
 | [x] => outT1 x
 | x :: y :: r => outT1 x ⊕ outsT (y :: r)
def decOut (e : AExit) (st : St) : (outs : List (AExit × Lay)) -> Option (outsT outs)
 | [] => none
 | [x] => outDec1 e st x
 | x :: y :: r => (match outDec1 e st x with | some s => some (.inl s) | none => (match decOut e st (y :: r) with | some s => some (.inr s) | none => none))
def encOut : (outs : List (AExit × Lay)) -> outsT outs -> AExit × St
 | [], t => nomatch t
 | [x], t => outEnc1 x t
 | x :: y :: r, t => (match t with | .inl s => outEnc1 x s | .inr s => encOut (y :: r) s)
def closedOuts : List (AExit × Lay) -> Bool
 | [] => true
 | x :: r => x.2.closed && closedOuts r
section
variable {P : Program} {w0 : World} {fp : FP} {nt : Nat} {st : St} {a : Act} {w : World}
theorem Post.dec {l : Lay} (hc : l.closed = true) {x : l.T} (e : l.dec st = some x) (h : Post P w0 fp nt st a w) : Post P w0 fp nt (l.enc x) a w := by
 obtain ⟨β, R⟩ := h; exact Lay.dec_rel hc e R
theorem decOut_spec {e : AExit} : ∀ {outs : List (AExit × Lay)} {t : outsT outs}, closedOuts outs = true -> decOut e st outs = some t -> (encOut outs t).1 = e ∧ (Post P w0 fp nt st a w -> Post P w0 fp nt (encOut outs t).2 a w) := by
 have one : ∀ {x : AExit × Lay} {s : outT1 x}, x.2.closed = true -> outDec1 e st x = some s -> (outEnc1 x s).1 = e ∧ (Post P w0 fp nt st a w -> Post P w0 fp nt (outEnc1 x s).2 a w) := by
  intro x s hc h
  obtain ⟨h1, y, h2, h3⟩ := outDec1_spec h
  exact ⟨h1, fun hp => by rw [h3]; exact hp.dec hc h2⟩
 intro outs
 induction outs with
 | nil => intro t _ h; cases h
 | cons x r ih =>
  intro t hc h
  simp only [closedOuts, Bool.and_eq_true] at hc
  cases r with
  | nil => exact one hc.1 h
  | cons y r =>
   simp only [decOut] at h
   split at h
   ·rename_i s hs; cases h; exact one hc.1 hs
   ·split at h
    ·rename_i s hs; cases h; exact ih hc.2 hs
    ·cases h
end
def encK1 {ρ : Type} : (x : AExit × Lay) -> outT1 x -> (AExit -> St -> Option ρ) -> Option ρ
 | (.panic t _, l), s, κ => κ (.panic t s.1) (l.enc s.2)
 | (.normal, l), s, κ => κ .normal (l.enc s)
 | (.exit i, l), s, κ => κ (.exit i) (l.enc s)
 | (.ret, l), s, κ => κ .ret (l.enc s)
theorem encK1_eq {ρ : Type} {κ : AExit -> St -> Option ρ} {x : AExit × Lay} {s : outT1 x} : encK1 x s κ = κ (outEnc1 x s).1 (outEnc1 x s).2 := by
 obtain ⟨x, l⟩ := x
 cases x <;> rfl
def encK {ρ : Type} : (outs : List (AExit × Lay)) -> outsT outs -> (AExit -> St -> Option ρ) -> Option ρ
 | [], t, _ => nomatch t
 | [x], t, κ => encK1 x t κ
 | x :: y :: r, t, κ => (match t with | .inl s => encK1 x s κ | .inr s => encK (y :: r) s κ)
theorem encK_eq {ρ : Type} {κ : AExit -> St -> Option ρ} : ∀ {outs : List (AExit × Lay)} {t : outsT outs}, encK outs t κ = κ (encOut outs t).1 (encOut outs t).2 := by
 intro outs
 induction outs with
 | nil => intro t; exact nomatch t
 | cons x r ih =>
  intro t
  cases r with
  | nil => exact encK1_eq
  | cons y r =>
   cases t with
   | inl s => exact encK1_eq
   | inr s => exact ih
def cutEnt (l : Lay) (outs : List (AExit × Lay)) (f : l.T -> Option (outsT outs)) : LEnt :=
 ⟨fun st κ => (l.dec st).bind fun s => (f s).bind fun t => encK outs t κ⟩
section
variable {P : Program} (C : Ctx P) (nt : Nat)
theorem cut_ok {l : Lay} {outs : List (AExit × Lay)} {f : l.T -> Option (outsT outs)} {c : Code} {ann : Ann} (hl : l.closed = true) (ho : closedOuts outs = true) (hA : AnnOk P nt c ann)
  (heq : ∀ s, exec C.T C.E nt c ann (fun e st => decOut e st outs) (l.enc s) = f s) : LOk P nt (cutEnt l outs f) c := by
 intro ρ st κ r e w0 fp a w Q hp hq
 simp only [cutEnt] at e
 cases h1 : l.dec st with
 | none => rw [h1] at e; cases e
 | some s =>
  rw [h1] at e
  simp only [Option.bind_some] at e
  cases h2 : f s with
  | none => rw [h2] at e; cases e
  | some t =>
   rw [h2] at e
   simp only [Option.bind_some] at e
   rw [encK_eq] at e
   have h3 := heq s
   rw [h2] at h3
   refine exec_sound C nt h3 hA (hp.dec hl h1) ?_
   intro x st' a' w' h4 hp'
   obtain ⟨h5, h6⟩ := decOut_spec ho h4
   have h7 := hq _ _ a' w' e (h6 hp')
   rw [h5] at h7
   exact h7
def loopEnd {l : Lay} {outs : List (AExit × Lay)} (e : AExit) (st : St) : Option (l.T ⊕ outsT outs) :=
 match e with
 | .normal => (match l.dec st with | some s => some (.inl s) | none => none)
 | e => (match decOut e st outs with | some t => some (.inr t) | none => none)
theorem exists_least {p : Nat -> Prop} (h : ∃ n, p n) : ∃ n, p n ∧ ∀ m, p m -> n ≤ m := by
 obtain ⟨n, hn⟩ := h
 induction n using Nat.strongRecOn with
 | _ n ih =>
  by_cases h : ∃ m, m < n ∧ p m
  ·obtain ⟨m, hm, hp⟩ := h; exact ih m hm hp
  ·exact ⟨n, hn, fun m hm => by
    rcases Nat.lt_or_ge m n with h' | h'
    ·exact absurd ⟨m, h', hm⟩ h
    ·exact h'⟩
open Classical in
noncomputable def leastN (p : Nat -> Prop) : Nat := if h : ∃ n, p n then Classical.choose (exists_least h) else 0
theorem leastN_spec {p : Nat -> Prop} {n : Nat} (h : p n) : p (leastN p) ∧ leastN p ≤ n := by
 have hx : ∃ n, p n := ⟨n, h⟩
 unfold leastN
 rw [dif_pos hx]
 have := Classical.choose_spec (exists_least hx)
 exact ⟨this.1, this.2 n h⟩
theorem wp_loop_n {c : Code} {Q : Exit -> Act -> World -> Prop} (I : Nat -> Act -> World -> Prop) (round : ∀ n a w, I n a w -> c.wp P (Exit.then (fun a' w' => ∃ m, m < n ∧ I m a' w') Q) a w)
  {n : Nat} {a : Act} {w : World} (h : I n a w) : (Code.loop c).wp P Q a w := by
 refine wp_loop (I := fun a w => ∃ n, I n a w) (μ := fun a w => leastN fun n => I n a w) ⟨n, h⟩ ?_
 rintro a w ⟨n, hn⟩
 obtain ⟨h1, h2⟩ := leastN_spec (p := fun n => I n a w) hn
 refine wp_mono (round _ a w h1) ?_
 intro e a' w' hq
 cases e with
 | normal =>
  obtain ⟨m, hm, hI⟩ := hq
  have h3 := (leastN_spec (p := fun n => I n a' w') hI).2
  exact ⟨⟨m, hI⟩, by omega⟩
 | _ => exact hq
theorem loop_ok {l : Lay} {outs : List (AExit × Lay)} {step : l.T -> Option (l.T ⊕ outsT outs)} {c : Code} {ann : Ann} (hl : l.closed = true) (ho : closedOuts outs = true) (hA : AnnOk P nt c ann)
  (heq : ∀ s, exec C.T C.E nt c ann (fun e st => loopEnd e st) (l.enc s) = step s) : LOk P nt (cutEnt l outs (loopO step)) (.loop c) := by
 intro ρ st κ r e w0 fp a w Q hp hq
 simp only [cutEnt] at e
 cases h1 : l.dec st with
 | none => rw [h1] at e; cases e
 | some s =>
  rw [h1] at e
  simp only [Option.bind_some] at e
  cases h2 : loopO step s with
  | none => rw [h2] at e; cases e
  | some t =>
   rw [h2] at e
   simp only [Option.bind_some] at e
   rw [encK_eq] at e
   obtain ⟨n, hn⟩ := loopO_iff.1 h2
   refine wp_loop_n (I := fun n a w => ∃ s, iterN step n s = some t ∧ Post P w0 fp nt (l.enc s) a w) ?_ (n := n) ⟨s, hn, hp.dec hl h1⟩
   rintro n a w ⟨s, hn, hp⟩
   cases n with
   | zero => cases hn
   | succ n =>
    simp only [iterN] at hn
    have h3 := heq s
    cases hs : step s with
    | none => rw [hs] at hn; cases hn
    | some o =>
     rw [hs] at hn h3
     refine exec_sound C nt h3 hA hp ?_
     intro x st' a' w' h4 hp'
     cases x with
     | normal =>
      simp only [loopEnd] at h4
      split at h4
      ·rename_i s' hs'
       cases h4
       exact ⟨n, by omega, s', hn, hp'.dec hl hs'⟩
      ·cases h4
     | exit i =>
      simp only [loopEnd] at h4
      split at h4
      ·rename_i t' ht'
       cases h4
       cases hn
       obtain ⟨h5, h6⟩ := decOut_spec ho ht'
       have h7 := hq _ _ a' w' e (h6 hp')
       rw [h5] at h7
       exact h7
      ·cases h4
     | ret =>
      simp only [loopEnd] at h4
      split at h4
      ·rename_i t' ht'
       cases h4
       cases hn
       obtain ⟨h5, h6⟩ := decOut_spec ho ht'
       have h7 := hq _ _ a' w' e (h6 hp')
       rw [h5] at h7
       exact h7
      ·cases h4
     | panic q n =>
      simp only [loopEnd] at h4
      split at h4
      ·rename_i t' ht'
       cases h4
       cases hn
       obtain ⟨h5, h6⟩ := decOut_spec ho ht'
       have h7 := hq _ _ a' w' e (h6 hp')
       rw [h5] at h7
       exact h7
      ·cases h4
end
end Go.Abs
namespace Go.Abs
universe u
open Go.RowKit
def resAVs (T : Tab) (st : St) : List ResultVar -> Option (List AV)
 | [] => some []
 | .tmp t :: r => (match st.env t with
  | some a => (match resAVs T st r with | some l => some (a :: l) | none => none)
  | none => none)
 | .cell t ty :: r => (match st.env t, T.get ty with
  | some (.c x), some ti => (match loadAt ti st.heap x with
   | some δ => (match resAVs T st r with | some l => some (δ.av :: l) | none => none)
   | none => none)
  | _, _ => none)
def resAV : List AV -> AV
 | [a] => a
 | l => .tup l
def resV : List Value -> Value
 | [v] => v
 | vs => .tuple vs.toArray
def resOne (a : Act) : ResultVar -> Sem Value
 | .tmp t => pure (a.tmps.getD t undef)
 | .cell c t => do loadVar t (<- asAddr (a.tmps.getD c undef))
section
variable {P : Program} {w0 : World} {fp : FP} {nt : Nat} {β : Nat -> Value} {st : St} {a : Act} {w : World}
theorem asAddr_of_load {t : Nat} {x v : Value} (h : (Instr.loadAt t x).run P w = .ok v w) : (do loadVar t (<- asAddr x) : Sem Value).run P w = .ok v w := by
 unfold Instr.loadAt at h
 cases x with
 | pointer p =>
  cases p with
  | some A => simpa [Instr.sureAddr, asAddr] using h
  | none => simp [Instr.sureAddr, stuck] at h
 | _ => simp [Instr.sureAddr, stuck] at h
theorem run_results (C : Ctx P) (R : Rel P w0 fp nt β st a w) {fn : Func} {l : List AV} (e : resAVs C.T st fn.results.toList = some l) :
  ∃ vs : List Value, (results fn a.tmps).run P w = .ok (resV vs) w ∧ AVsRel st.heap β w l vs := by
 have key : ∀ (rs : List ResultVar) (l : List AV), resAVs C.T st rs = some l -> ∃ vs : List Value, (rs.mapM (resOne a)).run P w = .ok vs w ∧ AVsRel st.heap β w l vs := by
  intro rs
  induction rs with
  | nil => intro l e; cases e; exact ⟨[], by simp, by simp only [AVsRel]⟩
  | cons r rs ih =>
   intro l e
   cases r with
   | tmp t =>
    simp only [resAVs] at e
    split at e
    ·rename_i av ht
     split at e
     ·rename_i l' hl
      cases e
      obtain ⟨vs, h1, h2⟩ := ih l' hl
      refine ⟨a.tmps.getD t undef :: vs, ?_, by simp only [AVsRel]; exact ⟨_, _, rfl, R.env t av ht, h2⟩⟩
      rw [List.mapM_cons]
      simp only [Sem.run_bind, resOne, Sem.run_pure, Result.andThen_ok, h1]
     ·cases e
    ·cases e
   | cell t ty =>
    simp only [resAVs] at e
    split at e
    ·rename_i x ti ht hti
     split at e
     ·rename_i δ hδ
      split at e
      ·rename_i l' hl
       cases e
       obtain ⟨vs, h1, h2⟩ := ih l' hl
       have hx := R.env t _ ht
       simp only [AVRel] at hx
       obtain ⟨_, v, h3, h4⟩ := loadAt_rel R (C.hT _ _ hti) hx hδ
       refine ⟨v :: vs, ?_, by simp only [AVsRel]; exact ⟨_, _, rfl, h4, h2⟩⟩
       rw [List.mapM_cons]
       have h5 : (resOne a (.cell t ty)).run P w = .ok v w := asAddr_of_load h3
       simp only [Sem.run_bind, h5, Sem.run_pure, Result.andThen_ok, h1]
      ·cases e
     ·cases e
    ·cases e
 obtain ⟨vs, h1, h2⟩ := key _ _ e
 refine ⟨vs, ?_, h2⟩
 unfold results
 have h3 : (fn.results.mapM (resOne a)).run P w = .ok vs.toArray w := by
  cases hr : fn.results with
  | mk rl =>
   rw [hr] at h1
   rw [List.mapM_toArray, Sem.run_map, h1]
   rfl
 have h4 : (results fn a.tmps).run P w = ((fn.results.mapM (resOne a)) >>= fun vs => (pure (if h : vs.size = 1 then vs[0] else .tuple vs) : Sem Value)).run P w := rfl
 unfold results at h4
 rw [h4, Sem.run_bind, h3]
 simp only [Result.andThen_ok, Sem.run_pure]
 congr 1
 match vs with
 | [] => rfl
 | [v] => rfl
 | v :: u :: r => simp [resV]
theorem Rel.act (R : Rel P w0 fp nt β st a w) {nt' : Nat} {env : Nat -> Option AV} {a' : Act} {dfs : List Deferred} (hd : a'.defers = dfs) (hs : a'.tmps.size = nt') (hn : nt' ≤ ioN)
  (he : ∀ t av, env t = some av -> AVRel st.heap β w av (a'.tmps.getD t undef)) : Rel P w0 ⟨fp.anc, fp.hb, dfs⟩ nt' β { env := env, heap := st.heap } a' w :=
 ⟨hd, hs, hn, he, R.heap, R.sep, R.lo, R.hid, R.hb, R.os, R.tape, R.output, R.grow, R.keep, R.anc, R.ancN⟩
theorem avs_get : ∀ {h : Heap} {l : List AV} {vs : List Value}, AVsRel h β w l vs -> l.length = vs.length ∧ ∀ i av, l[i]? = some av -> AVRel h β w av (vs.toArray.getD i undef) := by
 intro h l
 induction l with
 | nil => intro vs H; simp only [AVsRel] at H; subst H; exact ⟨rfl, fun i av hi => by simp at hi⟩
 | cons x l ih =>
  intro vs H
  simp only [AVsRel] at H
  obtain ⟨v, r, rfl, hv, hr⟩ := H
  obtain ⟨h1, h2⟩ := ih hr
  refine ⟨by simp [h1], fun i av hi => ?_⟩
  cases i with
  | zero => simp at hi; subst hi; simpa using hv
  | succ i => simpa using h2 i av (by simpa using hi)
theorem avs_of : ∀ {h : Heap} {l : List AV} {vs : List Value}, l.length = vs.length -> (∀ i av, l[i]? = some av -> AVRel h β w av (vs.toArray.getD i undef)) -> AVsRel h β w l vs := by
 intro h l
 induction l with
 | nil => intro vs hl H; cases vs with
  | nil => simp only [AVsRel]
  | cons => simp at hl
 | cons x l ih =>
  intro vs hl H
  cases vs with
  | nil => simp at hl
  | cons v vs =>
   simp only [AVsRel]
   refine ⟨v, vs, rfl, by simpa using H 0 x rfl, ih (by simpa using hl) fun i av hi => ?_⟩
   simpa using H (i + 1) av (by simpa using hi)
end
structure FL where
 inp : Lay
 n : Nat
 outs : List (AExit × Lay)
 res : List ResultVar
 strict : Bool
abbrev FL.inT (S : FL) : Type := S.inp.T
abbrev FL.outT (S : FL) : Type := outsT S.outs
def finL (T : Tab) (S : FL) (e : AExit) (st : St) : Option S.outT :=
 match e with
 | .exit _ => none
 | .panic t n => decOut (.panic t n) { env := fun _ => none, heap := st.heap } S.outs
 | _ => (match resAVs T st S.res with
  | some l => decOut .ret { env := fun i => l[i]?, heap := st.heap } S.outs
  | none => none)
def endOf (e : AExit) (vs : List Value) : Ending :=
 match e with
 | .panic t n => .panicked (panChain t n)
 | _ => .returned (resV vs)
def CallsL (P : Program) (f : Nat) (S : FL) (F : S.inT -> Option S.outT) : Prop :=
 ∀ (us : List Value) (x : S.inT) (y : S.outT) (w : World) (fp : FP) (β : Nat -> Value), us.length = S.n -> fp.dfs = [] -> F x = some y ->
  Rel P w fp us.length β (S.inp.enc x) { tmps := us.toArray, defers := [] } w ->
  Calls P f us.toArray w fun e w' => ∃ (β' : Nat -> Value) (vs : List Value), Rel P w fp vs.length β' (encOut S.outs y).2 { tmps := vs.toArray, defers := [] } w' ∧ e = endOf (encOut S.outs y).1 vs ∧
   ((∀ t n, (encOut S.outs y).1 ≠ .panic t n) -> vs.length = S.res.length)
section
variable {P : Program} (C : Ctx P)
theorem resAVs_length {T : Tab} {st : St} : ∀ {rs : List ResultVar} {l : List AV}, resAVs T st rs = some l -> l.length = rs.length := by
 intro rs
 induction rs with
 | nil => intro l e; cases e; rfl
 | cons r rs ih =>
  intro l e
  cases r <;> simp only [resAVs] at e
  ·split at e
   ·split at e
    ·rename_i h; cases e; simp [ih h]
    ·cases e
   ·cases e
  ·split at e
   ·split at e
    ·split at e
     ·rename_i h; cases e; simp [ih h]
     ·cases e
    ·cases e
   ·cases e
theorem fun_callsL {f : Nat} {fn : Func} {c : Code} {S : FL} {F : S.inT -> Option S.outT} {ann : Ann} (hf : P.funcs[f]? = some fn) (hb : fn.body = some c) (hres : fn.results.toList = S.res) (hnt : (Nat.ble S.n fn.ntmps && Nat.ble fn.ntmps ioN && Nat.ble S.res.length ioN) = true)
  (hoc : closedOuts S.outs = true) (hA : AnnOk P fn.ntmps c ann) (heq : ∀ x, exec C.T C.E fn.ntmps c ann (finL C.T S) (S.inp.enc x) = F x) : CallsL P f S F := by
 intro us x y w fp β hlen hdfs hF R
 rw [Bool.and_eq_true, Bool.and_eq_true] at hnt
 obtain ⟨⟨hnt, hio⟩, hrio⟩ := hnt
 have hnt := nble.1 hnt
 have hio := nble.1 hio
 have hrio := nble.1 hrio
 refine calls_of_wp hf hb ?_
 have h0 := heq x
 rw [hF] at h0
 have hfp : fp = ⟨fp.anc, fp.hb, []⟩ := by cases fp; simp only at hdfs; subst hdfs; rfl
 have R0 : Rel P w fp fn.ntmps β (S.inp.enc x) { tmps := us.toArray ++ Array.replicate (fn.ntmps - us.toArray.size) undef, defers := [] } w := by
  have := R.act (nt' := fn.ntmps) (env := (S.inp.enc x).env) (a' := { tmps := us.toArray ++ Array.replicate (fn.ntmps - us.toArray.size) undef, defers := [] }) (dfs := []) rfl (by simp; omega) hio (fun t av ht => by
   have h1 := R.env t av ht
   have h2 : (us.toArray ++ Array.replicate (fn.ntmps - us.toArray.size) undef).getD t undef = us.toArray.getD t undef := by
    rw [Array.getD_eq_getD_getElem?, Array.getD_eq_getD_getElem?]
    by_cases ht : t < us.length
    ·rw [Array.getElem?_append_left (by simpa using ht)]
    ·rw [Array.getElem?_append_right (by simp; omega), Array.getElem?_replicate]
     rw [Array.getElem?_eq_none (xs := us.toArray) (by simp; omega)]
     split <;> rfl
   show AVRel _ _ _ _ ((us.toArray ++ Array.replicate (fn.ntmps - us.toArray.size) undef).getD t undef)
   rw [h2]
   exact h1)
  rw [hfp]
  exact this
 refine exec_sound C fn.ntmps h0 hA ⟨_, R0⟩ ?_
 intro ex st' a' w' h1 hp
 have key : ∀ l, resAVs C.T st' S.res = some l -> decOut .ret { env := fun i => l[i]?, heap := st'.heap } S.outs = some y -> bodyPost P fn (fun e w' => ∃ (β' : Nat -> Value) (vs : List Value), Rel P w fp vs.length β' (encOut S.outs y).2 { tmps := vs.toArray, defers := [] } w' ∧ e = endOf (encOut S.outs y).1 vs ∧
   ((∀ t n, (encOut S.outs y).1 ≠ .panic t n) -> vs.length = S.res.length)) .ret a' w' := by
  intro l h2 h3
  obtain ⟨β', R'⟩ := hp
  have hl := resAVs_length h2
  rw [<- hres] at h2
  obtain ⟨vs, h4, h5⟩ := run_results C R' h2
  obtain ⟨h6, h7⟩ := avs_get h5
  have R2 : Rel P w fp vs.length β' { env := fun i => l[i]?, heap := st'.heap } { tmps := vs.toArray, defers := [] } w' := by
   rw [hfp]
   exact R'.act rfl (by simp) (by rw [<- h6, hl]; exact hrio) (fun t av ht => h7 t av ht)
  obtain ⟨h8, h9⟩ := decOut_spec (P := P) (w0 := w) (fp := fp) (nt := vs.length) (a := { tmps := vs.toArray, defers := [] }) (w := w') hoc h3
  obtain ⟨β2, R3⟩ := h9 ⟨_, R2⟩
  exact ⟨R'.defers.trans hdfs, _, h4, β2, vs, R3, by rw [h8]; rfl, fun _ => by omega⟩
 cases ex with
 | exit i => cases h1
 | normal =>
  simp only [finL] at h1
  split at h1
  ·rename_i l h2; exact key l h2 h1
  ·cases h1
 | ret =>
  simp only [finL] at h1
  split at h1
  ·rename_i l h2; exact key l h2 h1
  ·cases h1
 | panic t n =>
  simp only [finL] at h1
  obtain ⟨β', R'⟩ := hp
  have R2 : Rel P w fp 0 β' { env := fun _ => none, heap := st'.heap } { tmps := #[], defers := [] } w' := by
   rw [hfp]
   exact R'.act rfl rfl (Nat.zero_le _) (fun t av ht => by cases ht)
  obtain ⟨h8, h9⟩ := decOut_spec (P := P) (w0 := w) (fp := fp) (nt := 0) (a := { tmps := #[], defers := [] }) (w := w') hoc h1
  obtain ⟨β2, R3⟩ := h9 ⟨_, R2⟩
  refine ⟨R'.defers.trans hdfs, β2, [], R3, by rw [h8]; rfl, fun h => absurd h8 (h t n)⟩
end
end Go.Abs
namespace Go.Abs
universe u
open Go.RowKit
def renCV (ρ : Nat -> Nat) : CV -> CV
 | .ptr r base o room => .ptr (ρ r) base o room
 | .full r => .full (ρ r)
 | .sl r o n => .sl (ρ r) o n
 | .asl r base lo n lim => .asl (ρ r) base lo n lim
 | .clo f caps => .clo f (caps.map ρ)
 | c => c
def renReg (ρ : Nat -> Nat) : Reg -> Reg
 | .cells segs => .cells (segs.map (renCV ρ))
 | .part segs => .part (segs.map (renCV ρ))
 | g => g
def noFzC : CV -> Bool
 | .fz _ _ _ => false
 | .fzp _ _ _ => false
 | _ => true
def noFzR : Reg -> Bool
 | .cells xs => xs.all noFzC
 | .part xs => xs.all noFzC
 | .rowd _ _ _ => false
 | .imap _ => true
 | .deep _ _ _ => true
 | .caps _ => true
 | _ => true
theorem renCV_size (ρ : Nat -> Nat) (c : CV) : (renCV ρ c).size = c.size := by cases c <;> rfl
theorem renSegs_size (ρ : Nat -> Nat) : ∀ cs : List CV, segSize (cs.map (renCV ρ)) = segSize cs := by
 intro cs
 induction cs with
 | nil => rfl
 | cons c cs ih => simp only [List.map_cons, segSize, renCV_size, ih]
theorem renReg_live (ρ : Nat -> Nat) (g : Reg) : (renReg ρ g).live ↔ g.live := by cases g <;> simp [renReg, Reg.live]
theorem renReg_shape (ρ : Nat -> Nat) (g : Reg) : Shape g (renReg ρ g) := by cases g <;> simp [renReg, Shape, renSegs_size]
section
variable {w : World} {h1 h2 : Heap} {β1 β2 : Nat -> Value} {τ : Nat -> Nat}
def Names (h1 : Heap) (β1 : Nat -> Value) (h2 : Heap) (β2 : Nat -> Value) (τ : Nat -> Nat) : Prop := ∀ q g, h1 q = some g -> h2 (τ q) = some (renReg τ g) ∧ β2 (τ q) = β1 q
theorem CVRel.ren (H : Names h1 β1 h2 β2 τ) {c : CV} {v : Value} (F : noFzC c = true ∨ ∀ b, Own h2 β2 b -> Own h1 β1 b) (hc : CVRel h1 β1 w c v) : CVRel h2 β2 w (renCV τ c) v := by
 have M : (∀ b, Own h2 β2 b -> Own h1 β1 b) -> ∀ (x : Addr) v, ¬ Own h1 β1 x.block -> ucell w x = some v -> ucell w x = some v ∧ ¬ Own h2 β2 x.block := fun F x v hx hv => ⟨hv, fun h => hx (F _ h)⟩
 cases c <;> simp only [renCV, CVRel] at hc ⊢ <;> try exact hc
 ·obtain ⟨g, hg, hp⟩ := hc; obtain ⟨e1, e2⟩ := H _ _ hg; exact ⟨_, e1, hp.shape (renReg_shape τ g) fun _ => e2⟩
 ·obtain ⟨g, hg, hp⟩ := hc; obtain ⟨e1, e2⟩ := H _ _ hg; exact ⟨_, e1, hp.shape (renReg_shape τ g) fun _ => e2⟩
 ·obtain ⟨g, hg, hp⟩ := hc; obtain ⟨e1, e2⟩ := H _ _ hg; exact ⟨_, e1, hp.shape (renReg_shape τ g) fun _ => e2⟩
 ·obtain ⟨g, hg, hp⟩ := hc; obtain ⟨e1, e2⟩ := H _ _ hg; exact ⟨_, e1, hp.shape (renReg_shape τ g) fun _ => e2⟩
 ·rcases F with F | F
  ·cases F
  ·exact hc.mono (M F)
 ·rcases F with F | F
  ·cases F
  ·obtain ⟨A, hA, hf, hr⟩ := hc
   exact ⟨A, hA, hf.mono (M F), hr⟩
 ·obtain ⟨vs, hv, hl, hc⟩ := hc
  refine ⟨vs, hv, by simpa using hl, fun i r hr => ?_⟩
  rw [List.getElem?_map] at hr
  cases hi : (_ : List Nat)[i]? with
  | none => rw [hi] at hr; cases hr
  | some q =>
   rw [hi] at hr
   simp only [Option.map_some, Option.some.injEq] at hr
   subst hr
   obtain ⟨u, g, hu, hg, hp⟩ := hc i q hi
   obtain ⟨e1, e2⟩ := H _ _ hg
   exact ⟨u, _, hu, e1, hp.shape (renReg_shape τ g) fun _ => e2⟩
theorem SegsRel.ren (H : Names h1 β1 h2 β2 τ) : ∀ {cs : List CV} {l : List Value}, (cs.all noFzC = true ∨ ∀ b, Own h2 β2 b -> Own h1 β1 b) -> SegsRel h1 β1 w cs l -> SegsRel h2 β2 w (cs.map (renCV τ)) l := by
 intro cs
 induction cs with
 | nil => exact fun _ hc => hc
 | cons c cs ih =>
  intro l F hc
  have F1 : noFzC c = true ∨ ∀ b, Own h2 β2 b -> Own h1 β1 b := F.imp (fun h => by simp only [List.all_cons, Bool.and_eq_true] at h; exact h.1) id
  have F2 : cs.all noFzC = true ∨ ∀ b, Own h2 β2 b -> Own h1 β1 b := F.imp (fun h => by simp only [List.all_cons, Bool.and_eq_true] at h; exact h.2) id
  cases c <;> simp only [List.map_cons, SegsRel] at hc
  case ints k n f => obtain ⟨r, hl, hc⟩ := hc; exact ⟨r, hl, ih F2 hc⟩
  case junk n => obtain ⟨a, r, hl, ha, h3, hc⟩ := hc; exact ⟨a, r, hl, ha, h3, ih F2 hc⟩
  all_goals (obtain ⟨v, r, hl, h3, hv, hc⟩ := hc; have := CVRel.ren H F1 hv; simp only [renCV] at this; simp only [List.map_cons, renCV, SegsRel]; exact ⟨v, r, hl, h3, this, ih F2 hc⟩)
theorem RegRel.ren (H : Names h1 β1 h2 β2 τ) {g : Reg} {bv : Value} (F : noFzR g = true ∨ ∀ b, Own h2 β2 b -> Own h1 β1 b) (hc : RegRel h1 β1 w bv g) : RegRel h2 β2 w bv (renReg τ g) := by
 cases g with
 | cells segs => obtain ⟨b, T, cs, e1, e2, e3⟩ := hc; exact ⟨b, T, cs, e1, e2, e3.ren H F⟩
 | row e k xs => exact hc
 | rowd e t xs =>
  rcases F with F | F
  ·cases F
  ·rcases hc with hc | ⟨b, cap, l, tail, hbv, hh, hs, hl⟩
   ·exact .inl hc
   ·refine .inr ⟨b, cap, l, tail, hbv, hh, ?_, hl⟩
    refine (hs.fzl (own := Own h2 β2) F (fun c hc => ?_)).segs
    rw [List.mem_flatMap] at hc
    obtain ⟨x, _, hx⟩ := hc
    exact encD_data _ _ c hx
 | imap xs => exact hc
 | deep e eb xs => exact hc
 | caps ds => exact hc
 | part segs => obtain ⟨b, sh, pre, cs, post, T, e1, e0, e2, e3⟩ := hc; exact ⟨b, sh, pre, cs, post, T, e1, e0, e2, e3.ren H F⟩
 | dead => trivial
end
def isSomeB (o : Option Reg) : Bool := match o with | some _ => true | none => false
def shapeB (o : Option Reg) (g : Reg) : Bool :=
 match o with
 | some (.cells s) => (match g with | .cells s' => Nat.beq (segSize s') (segSize s) | _ => false)
 | some (.deep e eb _) => (match g with | .deep e' eb' _ => Nat.beq e e' && Nat.beq eb eb' | _ => false)
 | some (.part s) => (match g with | .part s' => Nat.beq (segSize s') (segSize s) | _ => false)
 | some (.row e k _) => (match g with | .row e' k' _ => Nat.beq e e' && k == k' | _ => false)
 | some (.rowd e t _) => (match g with | .rowd e' t' _ => Nat.beq e e' && decide (t = t') | _ => false)
 | _ => false
def tau (d : Nat) (ρ : Nat -> Nat) (N : Nat -> Bool) (q : Nat) : Nat :=
 bif Nat.ble ioN q && !N q then ρ q else d + 1000 * (bif Nat.ble ioN q then q - ioN + 500 else q)
def deadsOf (S : FL) (ρ : Nat -> Nat) (N : Nat -> Bool) (gs : List Nat) (lay : Lay) : List Nat :=
 ((keysOf S.inp.vars).filter fun q => !N q && !memN q (keysOf lay.vars)).map ρ ++ bif S.strict then gs else []
def leaveHw (S : FL) (d : Nat) (h : Heap) (ρ : Nat -> Nat) (N : Nat -> Bool) (gs : List Nat) (lay : Lay) (s : lay.T) : Option (List (Nat × Reg)) :=
 let hw := (deadsOf S ρ N gs lay).map (fun r => (r, Reg.dead)) ++ (varsRegs lay.vars s).map fun p => (tau d ρ N p.1, renReg (tau d ρ N) p.2)
 bif distinct (hw.map (·.1)) && ((deadsOf S ρ N gs lay).all fun r => isSomeB (h r)) && ((varsRegs lay.vars s).all fun p =>
  (bif Nat.ble ioN p.1 && !N p.1 then memN p.1 (keysOf S.inp.vars) && shapeB (h (ρ p.1)) (renReg (tau d ρ N) p.2) else Nat.blt (tau d ρ N p.1) ioN && !isSomeB (h (tau d ρ N p.1))) && (S.strict || noFzR p.2)) then some hw else none
def resOf (τ : Nat -> Nat) (strict : Bool) (env : Nat -> Option AV) : Nat -> Nat -> Option (List AV)
 | 0, _ => some []
 | k + 1, i => (match env i, resOf τ strict env k (i + 1) with
  | some (.c x), some l => bif strict || noFzC x then some (.c (renCV τ x) :: l) else none
  | some (.agg xs), some l => bif strict || xs.all noFzC then some (.agg (xs.map (renCV τ)) :: l) else none
  | _, _ => none)
def leave1 (S : FL) (d : Nat) (h : Heap) (ρ : Nat -> Nat) (N : Nat -> Bool) (gs hr : List Nat) {κ : Type} (k : Delta -> Option κ) : (x : AExit × Lay) -> outT1 x -> Option κ
 | (.panic t _, lay), s => (match leaveHw S d h ρ N gs lay s.2 with | some hw => k ⟨.pan t s.1, hw, hw.map (·.1) ++ hr⟩ | none => none)
 | (.ret, lay), s => (match leaveHw S d h ρ N gs lay s, resOf (tau d ρ N) S.strict (lay.enc s).env S.res.length 0 with
  | some hw, some l => k ⟨resAV l, hw, hw.map (·.1) ++ hr⟩
  | _, _ => none)
 | (.normal, _), _ => none
 | (.exit _, _), _ => none
def leaveK (S : FL) (d : Nat) (h : Heap) (ρ : Nat -> Nat) (N : Nat -> Bool) (gs hr : List Nat) {κ : Type} : (outs : List (AExit × Lay)) -> outsT outs -> (Delta -> Option κ) -> Option κ
 | [], t, _ => nomatch t
 | [x], t, k => leave1 S d h ρ N gs hr k x t
 | x :: y :: r, t, k => (match t with | .inl s => leave1 S d h ρ N gs hr k x s | .inr s => leaveK S d h ρ N gs hr (y :: r) s k)
def callSt (l : List AV) (h : Heap) : St := { env := fun i => l[i]?, heap := h }
def nmL (S : FL) (l : List AV) (h : Heap) : List (Nat × Option Nat) := namesOf (callSt l h) S.inp.roots []
def hrL (S : FL) (l : List AV) (h : Heap) (gs : List Nat) : List Nat :=
 gs ++ (((keysOf S.inp.vars).map (rhoOf (nmL S l h))) ++ touchOf (callSt l h) S.inp.roots [])
def funEntL (S : FL) (fr : Bool) (F : S.inT -> Option S.outT) : Ent :=
 ⟨fun d l h k => bif Nat.beq l.length S.n then (match S.inp.decN (callSt l h) (rhoOf (nmL S l h)) (nilOf (nmL S l h)) with
  | some (x, gs) => (F x).bind fun y => leaveK S d h (rhoOf (nmL S l h)) (nilOf (nmL S l h)) gs (hrL S l h gs) S.outs y k
  | none => none) else none, fr⟩
def okL (S : FL) : Bool :=
 S.inp.closed && ((keysOf S.inp.vars).all fun q => Nat.ble ioN q) && Nat.ble S.n ioN && (S.inp.fix.all fun p => match p.2.unit with | some _ => true | none => false)
theorem leave1_nat {S : FL} {d : Nat} {h : Heap} {ρ : Nat -> Nat} {N : Nat -> Bool} {gs hr : List Nat} {κ : Type} {k : Delta -> Option κ} {x : AExit × Lay} {s : outT1 x} : leave1 S d h ρ N gs hr k x s = (leave1 S d h ρ N gs hr some x s).bind k := by
 obtain ⟨x, lay⟩ := x
 cases x <;> simp only [leave1] <;> try rfl
 ·split <;> rfl
 ·split <;> rfl
theorem leaveK_nat {S : FL} {d : Nat} {h : Heap} {ρ : Nat -> Nat} {N : Nat -> Bool} {gs hr : List Nat} {κ : Type} {k : Delta -> Option κ} : ∀ {outs : List (AExit × Lay)} {t : outsT outs}, leaveK S d h ρ N gs hr outs t k = (leaveK S d h ρ N gs hr outs t some).bind k := by
 intro outs
 induction outs with
 | nil => intro t; exact nomatch t
 | cons x r ih =>
  intro t
  cases r with
  | nil => exact leave1_nat
  | cons y r => cases t with
   | inl s => exact leave1_nat
   | inr s => exact ih
theorem leaveK_inv {S : FL} {d : Nat} {h : Heap} {ρ : Nat -> Nat} {N : Nat -> Bool} {gs hr : List Nat} {δ : Delta} : ∀ {outs : List (AExit × Lay)} {t : outsT outs}, leaveK S d h ρ N gs hr outs t some = some δ ->
  ∃ (lay : Lay) (s : lay.T) (hw : List (Nat × Reg)), leaveHw S d h ρ N gs lay s = some hw ∧ (encOut outs t).2 = lay.enc s ∧ δ.hw = hw ∧ δ.hr = hw.map (·.1) ++ hr ∧
   ((∃ p n, (encOut outs t).1 = .panic p n ∧ δ.av = .pan p n) ∨ ((encOut outs t).1 = .ret ∧ ∃ l, resOf (tau d ρ N) S.strict (lay.enc s).env S.res.length 0 = some l ∧ δ.av = resAV l)) := by
 have one : ∀ {x : AExit × Lay} {t : outT1 x}, leave1 S d h ρ N gs hr some x t = some δ ->
  ∃ (lay : Lay) (s : lay.T) (hw : List (Nat × Reg)), leaveHw S d h ρ N gs lay s = some hw ∧ (outEnc1 x t).2 = lay.enc s ∧ δ.hw = hw ∧ δ.hr = hw.map (·.1) ++ hr ∧
   ((∃ p n, (outEnc1 x t).1 = .panic p n ∧ δ.av = .pan p n) ∨ ((outEnc1 x t).1 = .ret ∧ ∃ l, resOf (tau d ρ N) S.strict (lay.enc s).env S.res.length 0 = some l ∧ δ.av = resAV l)) := by
  intro x t e
  obtain ⟨x, lay⟩ := x
  cases x <;> simp only [leave1] at e <;> try (cases e; done)
  ·split at e
   ·rename_i hw l h1 h2; cases e; exact ⟨lay, t, hw, h1, rfl, rfl, rfl, .inr ⟨rfl, l, h2, rfl⟩⟩
   ·cases e
  ·split at e
   ·rename_i hw h1; cases e; exact ⟨lay, t.2, hw, h1, rfl, rfl, rfl, .inl ⟨_, _, rfl, rfl⟩⟩
   ·cases e
 intro outs
 induction outs with
 | nil => intro t; exact nomatch t
 | cons x r ih =>
  intro t e
  cases r with
  | nil => exact one e
  | cons y r => cases t with
   | inl s => exact one e
   | inr s => exact ih e
end Go.Abs
namespace Go.Abs
universe u
open Go.RowKit
section
variable {P : Program} {w0 : World} {fp : FP} {nt : Nat} {β : Nat -> Value} {st : St} {a : Act} {w : World} {S : FL} {ρ : Nat -> Nat} {N : Nat -> Bool} {gs : List Nat}
structure Entered (P : Program) (S : FL) (st : St) (β : Nat -> Value) (w : World) (us : List Value) (x : S.inT) (ρ : Nat -> Nat) (N : Nat -> Bool) (gs : List Nat) (fpC : FP) (βc : Nat -> Value) : Prop where
 dfs : fpC.dfs = []
 rel : Rel P w fpC us.length βc (S.inp.enc x) { tmps := us.toArray, defers := [] } w
 hid : ∀ b, Hid βc b ↔ (S.strict = true ∧ Own st.heap β b ∧ (∀ r ∈ gs, ∀ g, st.heap r = some g -> g.live -> ¬ Blk (β r) b) ∧ ∀ q ∈ keysOf S.inp.vars, N q = false -> ¬ Blk (β (ρ q)) b)
 anc : ∀ q ∈ keysOf S.inp.vars, fpC.anc q = some (βc q)
 anc' : ∀ q bv, fpC.anc q = some bv -> q ∈ keysOf S.inp.vars ∧ bv = βc q
 base : ∀ q ∈ keysOf S.inp.vars, N q = false -> βc q = β (ρ q) ∧ ∃ g, st.heap (ρ q) = some g ∧ g.live
 nil : ∀ q ∈ keysOf S.inp.vars, N q = true -> βc q = .slice none 0 0
 io : ∀ q ∈ keysOf S.inp.vars, ioN ≤ q ∧ q < hidN
 inj : ∀ q q', q ∈ keysOf S.inp.vars -> q' ∈ keysOf S.inp.vars -> N q = false -> N q' = false -> ρ q = ρ q' -> q = q'
 gone : ∀ r ∈ gs, ∀ q ∈ keysOf S.inp.vars, N q = false -> ρ q ≠ r
open Classical in
theorem enter (R : Rel P w0 fp nt β st a w) (hok : okL S = true) {l : List AV} {us : List Value} (hl : AVsRel st.heap β w l us) (hn : l.length = S.n) {x : S.inT} (hdec : S.inp.decN (callSt l st.heap) ρ N = some (x, gs)) :
  ∃ fpC βc, Entered P S st β w us x ρ N gs fpC βc := by
 simp only [okL, Bool.and_eq_true, List.all_eq_true, nble] at hok
 obtain ⟨⟨⟨hcl, hkio⟩, hnio⟩, _⟩ := hok
 obtain ⟨hlen, hargs⟩ := avs_get hl
 have RA : Rel P w0 ⟨fp.anc, fp.hb, []⟩ us.length β (callSt l st.heap) { tmps := us.toArray, defers := [] } w := R.act rfl (by simp) (by omega) (fun t av ht => hargs t av ht)
 let HB : Nat -> Prop := fun b => S.strict = true ∧ Own st.heap β b ∧ (∀ r ∈ gs, ∀ g, st.heap r = some g -> g.live -> ¬ Blk (β r) b) ∧ ∀ q ∈ keysOf S.inp.vars, N q = false -> ¬ Blk (β (ρ q)) b
 let βc : Nat -> Value := fun q => if q < hidN then (if N q = true then .slice none 0 0 else β (ρ q)) else if HB (q - hidN) then .pointer (some ⟨q - hidN, 0, none⟩) else undef
 have hhid : ∀ b, Hid βc b ↔ HB b := by
  intro b
  constructor
  ·rintro ⟨r, hr, hb⟩
   have hlt : ¬ r < hidN := by omega
   simp only [βc, if_neg hlt] at hb
   split at hb
   ·rename_i h; simp only [Blk_ptr] at hb; rw [<- hb]; exact h
   ·simp [undef, blkOf] at hb
  ·intro hb
   refine ⟨hidN + b, by omega, ?_⟩
   have hlt : ¬ hidN + b < hidN := by omega
   have e : hidN + b - hidN = b := by omega
   simp only [βc, if_neg hlt, e, if_pos hb, Blk_ptr]
 have D := Lay.decN_rel RA hcl hdec (β' := βc) (fun q hq => by simp only [βc, if_pos hq]) (fun b hb => ⟨((hhid b).1 hb).2.1, ((hhid b).1 hb).2.2.1⟩)
 have hlive0 : ∀ q ∈ keysOf S.inp.vars, N q = false -> ∃ g, st.heap (ρ q) = some g ∧ g.live := by
  intro q hq hnq
  obtain ⟨⟨g, hg⟩, _⟩ := D.keys q hq
  obtain ⟨g', h1, h2, _⟩ := D.view.reg q g hg hnq
  refine ⟨g', h1, ?_⟩
  have := D.live q g hg
  cases g <;> cases g' <;> simp only [Shape] at h2 <;> first | trivial | (cases this)
 have hbase : ∀ q ∈ keysOf S.inp.vars, N q = false -> βc q = β (ρ q) := fun q hq hnq => by
  have := (D.keys q hq).2
  simp only [βc, if_pos this, hnq, Bool.false_eq_true, if_false]
 have hnil : ∀ q ∈ keysOf S.inp.vars, N q = true -> βc q = .slice none 0 0 := fun q hq hnq => by
  have := (D.keys q hq).2
  simp only [βc, if_pos this, hnq, if_true]
 refine ⟨⟨fun q => if q ∈ keysOf S.inp.vars then some (βc q) else none, βc, []⟩, βc, rfl, ?_, hhid, fun q hq => if_pos hq, ?_, fun q hq hnq => ⟨hbase q hq hnq, hlive0 q hq hnq⟩, hnil, fun q hq => ⟨hkio q hq, (D.keys q hq).2⟩, D.inj, D.gone⟩
 ·have hblk : ∀ b, (FP.blk ⟨fun q => if q ∈ keysOf S.inp.vars then some (βc q) else none, βc, []⟩ b) -> ∃ q ∈ keysOf S.inp.vars, N q = false ∧ Blk (β (ρ q)) b := by
   rintro b ⟨q, bv, h1, h2⟩
   simp only at h1
   split at h1
   ·rename_i hq
    cases h1
    cases hnq : N q with
    | true => rw [hnil q hq hnq] at h2; cases h2
    | false => rw [hbase q hq hnq] at h2; exact ⟨q, hq, hnq, h2⟩
   ·cases h1
  refine ⟨rfl, by simp, by omega, fun t av ht => ?_, D.heap, D.sep, ?_, ?_, fun _ _ => rfl, rfl, rfl, rfl, Nat.le_refl _, fun _ _ _ => rfl, ?_, ?_⟩
  ·obtain ⟨a0, h1, h2⟩ := D.env t av ht
   exact h2 _ (RA.env t a0 h1)
  ·rintro b ⟨q, g, hg, hgl, hb⟩
   exact .inr ⟨q, βc q, if_pos (D.key q g hg), hb⟩
  ·intro b hb
   have hb := (hhid b).1 hb
   refine ⟨hb.2.1.lt R, fun h => ?_⟩
   obtain ⟨q, hq, hnq, hqb⟩ := hblk b h
   exact hb.2.2.2 q hq hnq hqb
  ·intro q bv g h1 _ _
   simp only at h1
   split at h1
   ·cases h1; rfl
   ·cases h1
  ·intro q bv h1
   simp only at h1
   split at h1
   ·rename_i hq; exact hkio q hq
   ·cases h1
 ·intro q bv h1
  simp only at h1
  split at h1
  ·rename_i hq; cases h1; exact ⟨hq, rfl⟩
  ·cases h1
theorem heapPut_look {hw : List (Nat × Reg)} : ∀ {h : Heap} {r : Nat} {g : Reg}, distinct (hw.map (·.1)) = true -> (r, g) ∈ hw -> heapPut h hw r = some g := by
 induction hw with
 | nil => intro h r g _ hm; simp at hm
 | cons p l ih =>
  obtain ⟨q, g'⟩ := p
  intro h r g hd hm
  simp only [List.map_cons, distinct, Bool.and_eq_true, Bool.not_eq_true', <- Bool.not_eq_true, memN_iff] at hd
  simp only [heapPut]
  rcases List.mem_cons.1 hm with e | hm
  ·cases e
   rw [heapPut_ne hd.1, upd_same]
  ·exact ih hd.2 hm
theorem distinct_append {l l' : List Nat} : distinct (l ++ l') = true -> distinct l = true ∧ distinct l' = true ∧ ∀ x ∈ l, x ∉ l' := by
 induction l with
 | nil => intro h; exact ⟨rfl, h, by simp⟩
 | cons x l ih =>
  intro h
  simp only [List.cons_append, distinct, Bool.and_eq_true, Bool.not_eq_true', <- Bool.not_eq_true, memN_iff, List.mem_append, not_or] at h ⊢
  obtain ⟨h1, h2, h3⟩ := ih h.2
  refine ⟨⟨h.1.1, h1⟩, h2, fun y hy => ?_⟩
  rcases List.mem_cons.1 hy with rfl | hy
  ·exact h.1.2
  ·exact h3 y hy
theorem distinct_keys {τ : Nat -> Nat} : ∀ {l : List (Nat × Reg)}, distinct ((l.map fun p => (τ p.1, renReg τ p.2)).map (·.1)) = true -> ∀ q q' g g', (q, g) ∈ l -> (q', g') ∈ l -> τ q = τ q' -> q = q' ∧ g = g' := by
 intro l
 induction l with
 | nil => intro _ q q' g g' h; simp at h
 | cons p l ih =>
  intro h q q' g g' h1 h2 e
  simp only [List.map_cons, distinct, Bool.and_eq_true, Bool.not_eq_true', <- Bool.not_eq_true, memN_iff, List.map_map, List.mem_map, Function.comp, not_exists, not_and] at h
  rcases List.mem_cons.1 h1 with e1 | h1' <;> rcases List.mem_cons.1 h2 with e2 | h2'
  ·rw [<- e1] at e2; cases e2; exact ⟨rfl, rfl⟩
  ·subst e1; exact absurd e.symm (h.1 (q', g') h2')
  ·subst e2; exact absurd e (h.1 (q, g) h1')
  ·have h1 := h1'
   have h2 := h2'
   exact ih (by simpa [List.map_map, Function.comp] using h.2) q q' g g' h1 h2 e
open Classical in
theorem leave (R : Rel P w0 fp nt β st a w) {us : List Value} {x : S.inT} {fpC : FP} {βc : Nat -> Value} (En : Entered P S st β w us x ρ N gs fpC βc) {d : Nat} (hd : dstOk nt (some d) = true)
  {lay : Lay} {s : lay.T} {hw : List (Nat × Reg)} (hhw : leaveHw S d st.heap ρ N gs lay s = some hw) {nr : Nat} {βo : Nat -> Value} {ao : Act} {w' : World} (Ro : Rel P w fpC nr βo (lay.enc s) ao w') :
  ∃ β'', Names (lay.enc s).heap βo (heapPut st.heap hw) β'' (tau d ρ N) ∧ (S.strict = true -> ∀ b, Own (heapPut st.heap hw) β'' b -> Own (lay.enc s).heap βo b) ∧
   ∀ dst av v, dstOk nt dst = true -> AVRel (heapPut st.heap hw) β'' w' av v -> Rel P w0 fp nt β'' { env := putEnv st.env dst av, heap := heapPut st.heap hw } (a.put dst v) w' := by
 unfold leaveHw at hhw
 dsimp only at hhw
 obtain ⟨hc, hhw⟩ := cond_some hhw
 have hhw := (Option.some.inj hhw).symm
 simp only [Bool.and_eq_true, List.all_eq_true] at hc
 obtain ⟨⟨hdis, hdead⟩, hregs⟩ := hc
 rw [<- hhw] at hdis
 have hmem : ∀ q g, (lay.enc s).heap q = some g -> (q, g) ∈ varsRegs lay.vars s := fun q g h => ofL_mem h
 have hdis2 : distinct ((deadsOf S ρ N gs lay) ++ ((varsRegs lay.vars s).map fun p => (tau d ρ N p.1, renReg (tau d ρ N) p.2)).map (·.1)) = true := by
  rw [hhw] at hdis
  rw [List.map_append, List.map_map] at hdis
  have e : (deadsOf S ρ N gs lay).map ((fun x => x.1) ∘ fun r => (r, Reg.dead)) = deadsOf S ρ N gs lay := by
   rw [show ((fun x : Nat × Reg => x.1) ∘ fun r => (r, Reg.dead)) = id from rfl, List.map_id]
  rw [e] at hdis
  exact hdis
 obtain ⟨_, hdk, hdj⟩ := distinct_append hdis2
 have hinj := distinct_keys hdk
 have hin : ∀ q g, (q, g) ∈ varsRegs lay.vars s -> (tau d ρ N q, renReg (tau d ρ N) g) ∈ hw := fun q g h => by rw [hhw]; exact List.mem_append_right _ (List.mem_map.2 ⟨(q, g), h, rfl⟩)
 have hA : ∀ q g, (lay.enc s).heap q = some g -> heapPut st.heap hw (tau d ρ N q) = some (renReg (tau d ρ N) g) := fun q g h => heapPut_look hdis (hin q g (hmem q g h))
 have hDd : ∀ r, r ∈ deadsOf S ρ N gs lay -> heapPut st.heap hw r = some .dead := fun r h => heapPut_look hdis (by rw [hhw]; exact List.mem_append_left _ (List.mem_map.2 ⟨r, h, rfl⟩))
 have hB : ∀ r, (∀ q g, (lay.enc s).heap q = some g -> tau d ρ N q ≠ r) -> r ∉ deadsOf S ρ N gs lay -> heapPut st.heap hw r = st.heap r := by
  intro r h1 h2
  refine heapPut_ne fun hm => ?_
  rw [hhw, List.map_append, List.mem_append] at hm
  rcases hm with hm | hm
  ·simp only [List.map_map, List.mem_map, Function.comp] at hm
   obtain ⟨r', hr', e⟩ := hm
   exact h2 (e ▸ hr')
  ·simp only [List.map_map, List.mem_map, Function.comp] at hm
   obtain ⟨⟨q, g⟩, hq, e⟩ := hm
   obtain ⟨g2, hg2⟩ : ∃ g2, (lay.enc s).heap q = some g2 := ofL_key hq
   exact h1 q g2 hg2 e
 have hkind : ∀ q g, (lay.enc s).heap q = some g -> (ioN ≤ q ∧ N q = false ∧ q ∈ keysOf S.inp.vars ∧ tau d ρ N q = ρ q ∧ shapeB (st.heap (ρ q)) (renReg (tau d ρ N) g) = true) ∨
   (tau d ρ N q < ioN ∧ st.heap (tau d ρ N q) = none) := by
  intro q g h
  have := (hregs _ (hmem q g h)).1
  simp only [] at this
  cases hb : (Nat.ble ioN q && !N q) with
  | true =>
   rw [hb] at this
   simp only [cond_true, Bool.and_eq_true, memN_iff] at this
   have hb' := hb
   simp only [Bool.and_eq_true, Bool.not_eq_true', nble] at hb'
   exact .inl ⟨hb'.1, hb'.2, this.1, by simp only [tau, hb, cond_true], this.2⟩
  | false =>
   rw [hb] at this
   simp only [cond_false, Bool.and_eq_true, nblt, Bool.not_eq_true'] at this
   refine .inr ⟨this.1, ?_⟩
   have h3 := this.2
   cases he : st.heap (tau d ρ N q) with
   | none => rfl
   | some g => rw [he] at h3; cases h3
 have hfz : ∀ q g, (lay.enc s).heap q = some g -> noFzR g = true ∨ S.strict = true := fun q g h => by
  have := (hregs _ (hmem q g h)).2
  simp only [Bool.or_eq_true] at this
  exact this.symm
 have hback : ∀ q ∈ keysOf S.inp.vars, N q = false -> (∃ g, (lay.enc s).heap q = some g ∧ tau d ρ N q = ρ q) ∨ ρ q ∈ deadsOf S ρ N gs lay := by
  intro q hq hn
  cases hm : memN q (keysOf lay.vars) with
  | true =>
   left
   obtain ⟨g, hg⟩ := keysOf_reg (x := s) (memN_iff.1 hm)
   obtain ⟨g2, hg2⟩ : ∃ g2, (lay.enc s).heap q = some g2 := ofL_key hg
   refine ⟨g2, hg2, ?_⟩
   simp only [tau, nble.2 (En.io q hq).1, hn, Bool.not_false, Bool.and_true, cond_true]
  | false =>
   right
   simp only [deadsOf, List.mem_append, List.mem_map, List.mem_filter]
   exact .inl ⟨q, ⟨hq, by simp [hn, hm]⟩, rfl⟩
 have hτ : ∀ q q' g g', (lay.enc s).heap q = some g -> (lay.enc s).heap q' = some g' -> tau d ρ N q = tau d ρ N q' -> q = q' := fun q q' g g' h h' e => (hinj q q' g g' (hmem q g h) (hmem q' g' h') e).1
 let β'' : Nat -> Value := fun r => if h : ∃ q g, (lay.enc s).heap q = some g ∧ tau d ρ N q = r then βo (Classical.choose h) else β r
 have hβ1 : ∀ q g, (lay.enc s).heap q = some g -> β'' (tau d ρ N q) = βo q := by
  intro q g h
  have hx : ∃ q' g, (lay.enc s).heap q' = some g ∧ tau d ρ N q' = tau d ρ N q := ⟨q, g, h, rfl⟩
  simp only [β'', dif_pos hx]
  obtain ⟨g', h1, h2⟩ := Classical.choose_spec hx
  rw [hτ _ _ _ _ h1 h h2]
 have hβ2 : ∀ r, (∀ q g, (lay.enc s).heap q = some g -> tau d ρ N q ≠ r) -> β'' r = β r := by
  intro r h
  have hx : ¬ ∃ q g, (lay.enc s).heap q = some g ∧ tau d ρ N q = r := fun ⟨q, g, h1, h2⟩ => h q g h1 h2
  simp only [β'', dif_neg hx]
 have hanc : ∀ q g, (lay.enc s).heap q = some g -> g.live -> ioN ≤ q -> N q = false -> q ∈ keysOf S.inp.vars -> βo q = β (ρ q) := fun q g h hl h1 h2 h3 => by
  rw [Ro.anc q (βc q) g (En.anc q h3) h hl]; exact (En.base q h3 h2).1
 have hlive : ∀ q g, (lay.enc s).heap q = some g -> g.live := by
  have : ∀ {vs : List VS} {x : varsT vs} {q : Nat} {g : Reg}, (q, g) ∈ varsRegs vs x -> g.live := by
   have one : ∀ {v : VS} {x : v.T} {l : List (Nat × Reg)} {q : Nat} {g : Reg}, ((q, g) ∈ l -> g.live) -> (q, g) ∈ v.regs x l -> g.live := by
    intro v x l q g h hm
    cases v with
    | env => exact h hm
    | reg t s =>
     simp only [VS.regs, List.mem_cons] at hm
     rcases hm with e | hm
     ·cases e; exact s.enc_live x
     ·exact h hm
   intro vs
   induction vs with
   | nil => intro x q g h; simp [varsRegs] at h
   | cons v r ih =>
    intro x q g h
    cases r with
    | nil => exact one (fun h => by simp at h) h
    | cons v' r => exact one (fun h => ih h) h
  exact fun q g h => this (hmem q g h)
 have hhid : ∀ r, hidN ≤ r -> β'' r = β r := by
  intro r hr
  by_cases hx : ∃ q g, (lay.enc s).heap q = some g ∧ tau d ρ N q = r
  ·obtain ⟨q, g, h1, h2⟩ := hx
   rw [<- h2, hβ1 q g h1]
   rcases hkind q g h1 with ⟨h3, h4, h5, h6, _⟩ | ⟨h3, _⟩
   ·rw [hanc q g h1 (hlive q g h1) h3 h4 h5, h6]
   ·rw [h2] at h3
    have : ioN = 1000000 := rfl
    have : hidN = 2000000 := rfl
    omega
  ·exact hβ2 r (fun q g h1 h2 => hx ⟨q, g, h1, h2⟩)
 have hblkC : ∀ b, fpC.blk b -> ∃ q ∈ keysOf S.inp.vars, N q = false ∧ Blk (β (ρ q)) b := by
  rintro b ⟨q, bv, h1, h2⟩
  obtain ⟨hq, rfl⟩ := En.anc' q bv h1
  cases hnq : N q with
  | true => rw [En.nil q hq hnq] at h2; cases h2
  | false => rw [(En.base q hq hnq).1] at h2; exact ⟨q, hq, hnq, h2⟩
 have hkeep : ∀ b, b < w.heap.size -> ¬ (∃ q ∈ keysOf S.inp.vars, N q = false ∧ Blk (β (ρ q)) b) -> w'.heap[b]? = w.heap[b]? := fun b hb h => Ro.keep b hb fun h' => h (hblkC b h')
 have hio1 : ∀ b, (∃ q ∈ keysOf S.inp.vars, N q = false ∧ Blk (β (ρ q)) b) -> OwnR st.heap β b := by
  rintro b ⟨q, hq, hnq, hb⟩
  obtain ⟨_, g, hg, hl⟩ := En.base q hq hnq
  exact ⟨ρ q, g, hg, hl, hb⟩
 have hun : ∀ r g b, st.heap r = some g -> g.live -> Blk (β r) b -> (∀ q g, (lay.enc s).heap q = some g -> tau d ρ N q ≠ r) -> r ∉ deadsOf S ρ N gs lay -> ¬ (∃ q ∈ keysOf S.inp.vars, N q = false ∧ Blk (β (ρ q)) b) := by
  rintro r g b hg hl hb h1 h2 ⟨q, hq, hnq, hqb⟩
  obtain ⟨_, g', hg', hl'⟩ := En.base q hq hnq
  have := R.sep r (ρ q) g g' b hg hg' hl hl' hb hqb
  subst this
  rcases hback q hq hnq with ⟨g2, h3, h4⟩ | h3
  ·exact h1 q g2 h3 h4
  ·exact h2 h3
 have hNames : Names (lay.enc s).heap βo (heapPut st.heap hw) β'' (tau d ρ N) := fun q g h => ⟨hA q g h, hβ1 q g h⟩
 have hOwnS : S.strict = true -> ∀ b, Own (heapPut st.heap hw) β'' b -> Own (lay.enc s).heap βo b := by
  intro hst b hb
  have hH : Hid βc b -> Own (lay.enc s).heap βo b := fun h => .inr (Hid.congr (fun r hr => by
   rw [Ro.hb r hr]; exact (En.rel.hb r hr)) h)
  rcases hb with ⟨r, g, hr, hl, hb⟩ | hb
  ·by_cases hx : ∃ q g, (lay.enc s).heap q = some g ∧ tau d ρ N q = r
   ·obtain ⟨q, g2, h1, h2⟩ := hx
    subst h2
    rw [hβ1 q g2 h1] at hb
    rw [hA q g2 h1] at hr
    cases hr
    exact .inl ⟨q, g2, h1, (renReg_live _ _).1 hl, hb⟩
   ·have hx : ∀ q g, (lay.enc s).heap q = some g -> tau d ρ N q ≠ r := fun q g h1 h2 => hx ⟨q, g, h1, h2⟩
    by_cases hdd : r ∈ deadsOf S ρ N gs lay
    ·rw [hDd r hdd] at hr; cases hr; cases hl
    ·rw [hB r hx hdd] at hr
     rw [hβ2 r hx] at hb
     refine hH ((En.hid b).2 ⟨hst, .inl ⟨r, g, hr, hl, hb⟩, fun r' hr' g' hg' hl' hb' => ?_, fun q hq hnq hqb => hun r g b hr hl hb hx hdd ⟨q, hq, hnq, hqb⟩⟩)
     have := R.sep r r' g g' b hr hg' hl hl' hb hb'
     subst this
     exact hdd (by simp only [deadsOf, List.mem_append, hst, cond_true]; exact .inr hr')
  ·have hb := hb.congr hhid
   refine hH ((En.hid b).2 ⟨hst, .inr hb, fun r' hr' g' hg' hl' hb' => R.apart ⟨r', g', hg', hl', hb'⟩ hb, fun q hq hnq hqb => ?_⟩)
   obtain ⟨_, g', hg', hl'⟩ := En.base q hq hnq
   exact R.apart ⟨_, g', hg', hl', hqb⟩ hb
 refine ⟨β'', hNames, hOwnS, fun dst av v hdst hval => ?_⟩
 refine R.update (h' := heapPut st.heap hw) hdst Ro.os Ro.tape Ro.output Ro.grow hhid (fun b hb hno => hkeep b hb fun h => hno (hio1 b h)) ?_ ?_ ?_ ?_ ?_ (fun _ => hval)
 ·rintro b ⟨r, g, hr, hl, hb⟩
  by_cases hx : ∃ q g, (lay.enc s).heap q = some g ∧ tau d ρ N q = r
  ·obtain ⟨q, g2, h1, h2⟩ := hx
   subst h2
   rw [hβ1 q g2 h1] at hb
   rcases Ro.lo b ⟨q, g2, h1, hlive q g2 h1, hb⟩ with h | h
   ·exact .inr h
   ·exact .inl (hio1 b (hblkC b h))
  ·have hx : ∀ q g, (lay.enc s).heap q = some g -> tau d ρ N q ≠ r := fun q g h1 h2 => hx ⟨q, g, h1, h2⟩
   by_cases hdd : r ∈ deadsOf S ρ N gs lay
   ·rw [hDd r hdd] at hr; cases hr; cases hl
   ·rw [hB r hx hdd] at hr
    rw [hβ2 r hx] at hb
    exact .inl ⟨r, g, hr, hl, hb⟩
 ·intro r g hr
  by_cases hx : ∃ q g, (lay.enc s).heap q = some g ∧ tau d ρ N q = r
  ·obtain ⟨q, g2, h1, h2⟩ := hx
   subst h2
   rcases hkind q g2 h1 with ⟨h3, h4, h5, h6, h7⟩ | ⟨_, h3⟩
   ·refine ⟨_, hA q g2 h1, ?_, fun _ => by rw [hβ1 q g2 h1, hanc q g2 h1 (hlive q g2 h1) h3 h4 h5, h6]⟩
    rw [h6] at hr
    rw [hr] at h7
    have hbq := hanc q g2 h1 (hlive q g2 h1) h3 h4 h5
    have HR := R.heap _ _ hr
    have HO := Ro.heap _ _ h1
    rw [hbq] at HO
    cases g <;> cases g2 <;> simp only [renReg, shapeB] at h7 <;> first | (cases h7; done) | skip
    ·simpa [Shape, renReg, nbeq] using h7
    ·simp only [Bool.and_eq_true] at h7
     obtain rfl := nbeq.1 h7.1
     obtain rfl := beqK.1 h7.2
     refine ⟨rfl, rfl, ?_⟩
     rcases HR with ⟨e1, e2⟩ | ⟨b, cap, tl, e1, _⟩ <;> rcases HO with ⟨e3, e4⟩ | ⟨b', cap', tl', e3, _⟩
     ·rw [e2, e4]
     ·rw [e1] at e3; cases e3
     ·rw [e1] at e3; cases e3
     ·rw [e1] at e3; injection e3 with _ e _; exact e.symm
    ·simp only [Bool.and_eq_true, decide_eq_true_eq] at h7
     obtain rfl := nbeq.1 h7.1
     obtain rfl := h7.2
     refine ⟨rfl, rfl, ?_⟩
     rcases HR with ⟨e1, e2⟩ | ⟨b, cap, l1, tl, e1, _⟩ <;> rcases HO with ⟨e3, e4⟩ | ⟨b', cap', l2, tl', e3, _⟩
     ·rw [e2, e4]
     ·rw [e1] at e3; cases e3
     ·rw [e1] at e3; cases e3
     ·rw [e1] at e3; injection e3 with _ e _; exact e.symm
    ·simp only [Bool.and_eq_true] at h7
     obtain rfl := nbeq.1 h7.1
     obtain rfl := nbeq.1 h7.2
     refine ⟨rfl, rfl, ?_⟩
     have HO : RegRel _ βo w' (β (ρ q)) (.deep _ _ _) := HO
     rcases HR with ⟨e1, e2⟩ | ⟨b, cap, l1, tl, S1, S1', e1, _⟩ <;> rcases HO with ⟨e3, e4⟩ | ⟨b', cap', l2, tl', S2, S2', e3, _⟩
     ·rw [e2, e4]
     ·rw [e1] at e3; cases e3
     ·rw [e1] at e3; cases e3
     ·rw [e1] at e3
      simp only [Value.tuple.injEq, Array.mk.injEq, List.cons.injEq, Value.slice.injEq] at e3
      exact e3.1.2.1.symm
    ·simpa [Shape, renReg, nbeq] using h7
   ·rw [hr] at h3; cases h3
  ·have hx : ∀ q g, (lay.enc s).heap q = some g -> tau d ρ N q ≠ r := fun q g h1 h2 => hx ⟨q, g, h1, h2⟩
   by_cases hdd : r ∈ deadsOf S ρ N gs lay
   ·exact ⟨.dead, hDd r hdd, by cases g <;> trivial, fun h => h.elim⟩
   ·exact ⟨g, (hB r hx hdd).trans hr, .refl g, fun _ => hβ2 r hx⟩
 ·intro r g hio hr
  by_cases hx : ∃ q g, (lay.enc s).heap q = some g ∧ tau d ρ N q = r
  ·obtain ⟨q, g2, h1, h2⟩ := hx
   subst h2
   rcases hkind q g2 h1 with ⟨h3, h4, h5, h6, h7⟩ | ⟨h3, _⟩
   ·obtain ⟨_, g', hg', _⟩ := En.base q h5 h4
    exact ⟨g', by rw [h6]; exact hg'⟩
   ·omega
  ·have hx : ∀ q g, (lay.enc s).heap q = some g -> tau d ρ N q ≠ r := fun q g h1 h2 => hx ⟨q, g, h1, h2⟩
   by_cases hdd : r ∈ deadsOf S ρ N gs lay
   ·have := hdead r hdd
    cases hr' : st.heap r with
    | none => rw [hr'] at this; cases this
    | some g0 => exact ⟨g0, rfl⟩
   ·rw [hB r hx hdd] at hr; exact ⟨g, hr⟩
 ·intro M r g hr
  by_cases hx : ∃ q g, (lay.enc s).heap q = some g ∧ tau d ρ N q = r
  ·obtain ⟨q, g2, h1, h2⟩ := hx
   subst h2
   rw [hA q g2 h1] at hr
   cases hr
   rw [hβ1 q g2 h1]
   exact RegRel.ren hNames ((hfz q g2 h1).imp id hOwnS) (Ro.heap q g2 h1)
  ·have hx : ∀ q g, (lay.enc s).heap q = some g -> tau d ρ N q ≠ r := fun q g h1 h2 => hx ⟨q, g, h1, h2⟩
   by_cases hdd : r ∈ deadsOf S ρ N gs lay
   ·rw [hDd r hdd] at hr; cases hr; trivial
   ·rw [hB r hx hdd] at hr
    rw [hβ2 r hx]
    exact (R.heap r g hr).mono M fun b hb hl => hkeep b (OwnR.lt R ⟨r, g, hr, hl, hb⟩) (hun r g b hr hl hb hx hdd)
 ·intro r r' g g' b hr hr' hl hl' hb hb'
  have split1 : ∀ r g, heapPut st.heap hw r = some g -> g.live -> (∃ q g2, (lay.enc s).heap q = some g2 ∧ tau d ρ N q = r ∧ β'' r = βo q) ∨ (st.heap r = some g ∧ β'' r = β r ∧ (∀ q g, (lay.enc s).heap q = some g -> tau d ρ N q ≠ r) ∧ r ∉ deadsOf S ρ N gs lay) := by
   intro r g hr hl
   by_cases hx : ∃ q g, (lay.enc s).heap q = some g ∧ tau d ρ N q = r
   ·obtain ⟨q, g2, h1, h2⟩ := hx
    exact .inl ⟨q, g2, h1, h2, by rw [<- h2]; exact hβ1 q g2 h1⟩
   ·have hx : ∀ q g, (lay.enc s).heap q = some g -> tau d ρ N q ≠ r := fun q g h1 h2 => hx ⟨q, g, h1, h2⟩
    by_cases hdd : r ∈ deadsOf S ρ N gs lay
    ·rw [hDd r hdd] at hr; cases hr; cases hl
    ·exact .inr ⟨by rw [<- hB r hx hdd]; exact hr, hβ2 r hx, hx, hdd⟩
  have clash : ∀ q g2 r g, (lay.enc s).heap q = some g2 -> Blk (βo q) b -> st.heap r = some g -> g.live -> Blk (β r) b -> (∀ q g, (lay.enc s).heap q = some g -> tau d ρ N q ≠ r) -> r ∉ deadsOf S ρ N gs lay -> False := by
   intro q g2 r g h1 h2 h3 h4 h5 h6 h7
   rcases Ro.lo b ⟨q, g2, h1, hlive q g2 h1, h2⟩ with h | h
   ·have := OwnR.lt R ⟨r, g, h3, h4, h5⟩
    omega
   ·exact hun r g b h3 h4 h5 h6 h7 (hblkC b h)
  rcases split1 r g hr hl with ⟨q, g2, h1, h2, h3⟩ | ⟨h1, h2, h3, h4⟩ <;> rcases split1 r' g' hr' hl' with ⟨q', g2', h1', h2', h3'⟩ | ⟨h1', h2', h3', h4'⟩
  ·rw [h3] at hb
   rw [h3'] at hb'
   have := Ro.sep q q' g2 g2' b h1 h1' (hlive q g2 h1) (hlive q' g2' h1') hb hb'
   rw [<- h2, <- h2', this]
  ·rw [h3] at hb
   rw [h2'] at hb'
   exact (clash q g2 r' g' h1 hb h1' hl' hb' h3' h4').elim
  ·rw [h2] at hb
   rw [h3'] at hb'
   exact (clash q' g2' r g h1' hb' h1 hl hb h3 h4).elim
  ·rw [h2] at hb
   rw [h2'] at hb'
   exact R.sep r r' g g' b h1 h1' hl hl' hb hb'
end
end Go.Abs
namespace Go.Abs
universe u
open Go.RowKit
section
variable {h h' : Heap} {ρ : Nat -> Nat} {N : Nat -> Bool}
theorem CS.dec_dep {s : CS} {c : CV} {x : s.T} {gs : List Nat} (e : s.dec h ρ N c = some (x, gs)) (H : ∀ r ∈ gs, h' r = h r) (K : ∀ q ∈ regsCS s, h' (ρ q) = h (ρ q)) : s.dec h' ρ N c = some (x, gs) := by
 cases s <;> simp only [CS.dec] at e ⊢ <;> try exact e
 case fz d => exact frzSl_dep e H
 case sl r =>
  split at e
  ·exact e
  ·rename_i r'
   obtain ⟨h1, e⟩ := cond_some e
   rw [h1]
   simp only [cond_true]
   simp only [Bool.and_eq_true, nbeq] at h1
   rw [<- h1.2] at e ⊢
   rw [K r (by simp [regsCS])]
   exact e
  ·cases e
 case fzn d =>
  split at e
  ·exact e
  ·rename_i r o n
   obtain ⟨h1, e⟩ := cond_some e
   rw [h1]
   simp only [cond_true]
   split at e
   ·rename_i hr
    split at e
    ·rename_i hz; cases e; simp only [H r (by simp), hr, hz]
    ·cases e
   ·cases e
  ·cases e
 case fzp d =>
  split at e
  ·exact e
  ·rename_i r base room
   obtain ⟨h1, h2⟩ := cond_some e
   rw [h1]
   simp only [cond_true]
   split at h2
   ·rename_i segs hr
    split at h2
    ·rename_i y gs2 h3
     cases h2
     simp only [H r (by simp), hr, frzD_dep h3 (fun q hq => H q (by simp [hq]))]
    ·cases h2
   ·cases h2
  ·cases e
theorem segsDec_dep : ∀ {ss : List CS} {cs : List CV} {x : segsT ss} {gs : List Nat}, segsDec h ρ N ss cs = some (x, gs) -> (∀ r ∈ gs, h' r = h r) -> (∀ q ∈ regsCSs ss, h' (ρ q) = h (ρ q)) -> segsDec h' ρ N ss cs = some (x, gs) := by
 intro ss
 induction ss with
 | nil => intro cs x gs e _ _; cases cs <;> exact e
 | cons s r ih =>
  intro cs x gs e H K
  have K1 : ∀ q ∈ regsCS s, h' (ρ q) = h (ρ q) := fun q hq => K q (by simp only [regsCSs, List.mem_append]; exact .inl hq)
  have K2 : ∀ q ∈ regsCSs r, h' (ρ q) = h (ρ q) := fun q hq => K q (by simp only [regsCSs, List.mem_append]; exact .inr hq)
  cases r with
  | nil =>
   match cs, e with
   | [c], e => exact CS.dec_dep e H K1
  | cons t r =>
   match cs, e with
   | c :: cs, e =>
    simp only [segsDec] at e ⊢
    split at e
    ·rename_i h1
     split at e
     ·rename_i h2
      cases e
      simp only [CS.dec_dep h1 (fun r hr => H r (by simp [hr])) K1, ih h2 (fun r hr => H r (by simp [hr])) K2]
     ·cases e
    ·cases e
theorem AS.dec_dep {s : AS} {c : AV} {x : s.T} {gs : List Nat} (e : s.dec h ρ N c = some (x, gs)) (H : ∀ r ∈ gs, h' r = h r) (K : ∀ q ∈ s.rs, h' (ρ q) = h (ρ q)) : s.dec h' ρ N c = some (x, gs) := by
 cases s <;> simp only [AS.dec] at e ⊢
 ·split at e
  ·exact CS.dec_dep e H K
  ·cases e
 ·split at e
  ·exact segsDec_dep e H K
  ·cases e
 ·split at e
  ·split at e
   ·rename_i h1; cases e; simp only [frzD_dep h1 H]
   ·cases e
  ·cases e
theorem RS.dec_dep {s : RS} {c : Reg} {x : s.T} {gs : List Nat} (e : s.dec h ρ N c = some (x, gs)) (H : ∀ r ∈ gs, h' r = h r) (K : ∀ q ∈ s.rs, h' (ρ q) = h (ρ q)) : s.dec h' ρ N c = some (x, gs) := by
 cases s <;> simp only [RS.dec] at e ⊢
 ·split at e
  ·exact segsDec_dep e H K
  ·cases e
 ·exact e
 ·exact e
 ·exact e
 ·exact e
 ·split at e
  ·exact segsDec_dep e H K
  ·cases e
end
section
variable {ρ : Nat -> Nat} {N : Nat -> Bool} {l : List AV} {h h' : Heap}
theorem varsDec_dep : ∀ {vs : List VS} {x : varsT vs} {gs : List Nat}, varsDec ρ N (callSt l h) vs = some (x, gs) -> (∀ r ∈ gs, h' r = h r) -> (∀ q ∈ keysOf vs, h' (ρ q) = h (ρ q)) -> (∀ q ∈ varsRs vs, h' (ρ q) = h (ρ q)) -> varsDec ρ N (callSt l h') vs = some (x, gs) := by
 have one : ∀ {v : VS} {x : v.T} {gs : List Nat}, v.dec ρ N (callSt l h) = some (x, gs) -> (∀ r ∈ gs, h' r = h r) -> (∀ q ∈ keysOf [v], h' (ρ q) = h (ρ q)) -> (∀ q ∈ v.rs, h' (ρ q) = h (ρ q)) -> v.dec ρ N (callSt l h') = some (x, gs) := by
  intro v x gs e H K KR
  cases v with
  | env t s =>
   simp only [VS.dec, callSt] at e ⊢
   split at e
   ·exact AS.dec_dep e H KR
   ·cases e
  | reg q s =>
   simp only [VS.dec, callSt] at e ⊢
   cases hN : N q with
   | true => rw [hN] at e; exact e
   | false =>
    rw [hN] at e
    simp only [cond_false] at e ⊢
    rw [K q (by simp [keysOf])]
    split at e
    ·exact RS.dec_dep e H KR
    ·cases e
 intro vs
 induction vs with
 | nil => intro x gs e _ _ _; exact e
 | cons v r ih =>
  intro x gs e H K KR
  have R1 : ∀ q ∈ v.rs, h' (ρ q) = h (ρ q) := fun q hq => KR q (by simp only [varsRs, List.mem_append]; exact .inl hq)
  have R2 : ∀ q ∈ varsRs r, h' (ρ q) = h (ρ q) := fun q hq => KR q (by simp only [varsRs, List.mem_append]; exact .inr hq)
  have K1 : ∀ q ∈ keysOf [v], h' (ρ q) = h (ρ q) := fun q hq => K q (by cases v <;> simp [keysOf] at hq ⊢; exact .inl hq)
  have K2 : ∀ q ∈ keysOf r, h' (ρ q) = h (ρ q) := fun q hq => K q (by cases v <;> simp only [keysOf, List.mem_cons]; exact hq; exact .inr hq)
  cases r with
  | nil => exact one e H K1 R1
  | cons v' r =>
   simp only [varsDec] at e ⊢
   split at e
   ·rename_i h1
    split at e
    ·rename_i h2
     cases e
     simp only [one h1 (fun r hr => H r (by simp [hr])) K1 R1, ih h2 (fun r hr => H r (by simp [hr])) K2 R2]
    ·cases e
   ·cases e
theorem fixDec_dep : ∀ {fx : List (Nat × CS)}, (fx.all fun p => match p.2.unit with | some _ => true | none => false) = true -> (∀ q ∈ fixRs fx, h' (ρ q) = h (ρ q)) -> fixDec ρ N (callSt l h) fx = true -> fixDec ρ N (callSt l h') fx = true := by
 intro fx
 induction fx with
 | nil => intro _ _ e; exact e
 | cons p r ih =>
  obtain ⟨t, s⟩ := p
  intro hu K e
  have K1 : ∀ q ∈ regsCS s, h' (ρ q) = h (ρ q) := fun q hq => K q (by simp only [fixRs, List.mem_append]; exact .inl hq)
  have K2 : ∀ q ∈ fixRs r, h' (ρ q) = h (ρ q) := fun q hq => K q (by simp only [fixRs, List.mem_append]; exact .inr hq)
  simp only [List.all_cons, Bool.and_eq_true] at hu
  simp only [fixDec, callSt] at e ⊢
  split at e
  ·rename_i x hx
   split at e
   ·rename_i y hy
    obtain ⟨y, gs⟩ := y
    cases hun : s.unit with
    | none => have := hu.1; rw [hun] at this; cases this
    | some z =>
     obtain ⟨rfl, _⟩ := unit_nil hun hy
     rw [CS.dec_dep hy (by simp) K1]
     exact ih hu.2 K2 e
   ·cases e
  ·cases e
theorem srcCV_dep {ρ : Nat -> Nat} {s : Src} (H : ∀ q i, s = .reg q i -> h' (ρ q) = h (ρ q)) : srcCV (callSt l h') ρ s = srcCV (callSt l h) ρ s := by
 cases s with
 | env t i => rfl
 | reg q i => simp only [srcCV, callSt]; rw [H q i rfl]
theorem namesOf_dep : ∀ {rs : List (Nat × Src)} {acc : List (Nat × Option Nat)}, (∀ r ∈ touchOf (callSt l h) rs acc, h' r = h r) -> namesOf (callSt l h') rs acc = namesOf (callSt l h) rs acc ∧ touchOf (callSt l h') rs acc = touchOf (callSt l h) rs acc := by
 intro rs
 induction rs with
 | nil => intro acc _; exact ⟨rfl, rfl⟩
 | cons p r ih =>
  obtain ⟨q, s⟩ := p
  intro acc H
  simp only [touchOf, List.mem_append] at H
  have e : nameStep (callSt l h') q s acc = nameStep (callSt l h) q s acc := by
   unfold nameStep
   rw [srcCV_dep fun q' i hs => H _ (.inl (by subst hs; simp))]
  simp only [namesOf, touchOf, e]
  obtain ⟨h1, h2⟩ := ih (acc := nameStep (callSt l h) q s acc) fun r hr => H r (.inr hr)
  exact ⟨h1, by rw [h2]⟩
end
theorem resOf_plain {τ : Nat -> Nat} {strict : Bool} {env : Nat -> Option AV} : ∀ {k i : Nat} {l : List AV}, resOf τ strict env k i = some l -> ∀ x ∈ l, ∀ t n, x ≠ .pan t n := by
 intro k
 induction k with
 | zero => intro i l e; cases e; simp
 | succ k ih =>
  intro i l e
  simp only [resOf] at e
  split at e
  ·rename_i h1
   obtain ⟨_, h2⟩ := cond_some e
   cases h2
   intro x hx t n
   rcases List.mem_cons.1 hx with rfl | hx
   ·intro h; cases h
   ·exact ih h1 x hx t n
  ·rename_i h1
   obtain ⟨_, h2⟩ := cond_some e
   cases h2
   intro x hx t n
   rcases List.mem_cons.1 hx with rfl | hx
   ·intro h; cases h
   ·exact ih h1 x hx t n
  ·cases e
theorem resAV_nopan {l : List AV} (H : ∀ x ∈ l, ∀ t n, x ≠ .pan t n) : ∀ t n, resAV l ≠ .pan t n := by
 intro t n
 match l with
 | [] => intro h; cases h
 | [x] => exact H x (by simp) t n
 | x :: y :: r => intro h; cases h
theorem funEntL_inv {S : FL} {fr : Bool} {F : S.inT -> Option S.outT} {d : Nat} {l : List AV} {h : Heap} {δ : Delta} (e : (funEntL S fr F).k d l h some = some δ) :
  l.length = S.n ∧ ∃ x gs y, S.inp.decN (callSt l h) (rhoOf (nmL S l h)) (nilOf (nmL S l h)) = some (x, gs) ∧ F x = some y ∧ leaveK S d h (rhoOf (nmL S l h)) (nilOf (nmL S l h)) gs (hrL S l h gs) S.outs y some = some δ := by
 simp only [funEntL] at e
 obtain ⟨h1, e⟩ := cond_some e
 refine ⟨nbeq.1 h1, ?_⟩
 split at e
 ·rename_i x gs h2
  cases h3 : F x with
  | none => rw [h3] at e; cases e
  | some y => rw [h3] at e; exact ⟨x, gs, y, h2, h3, e⟩
 ·cases e
theorem leaveHw_dep {S : FL} {d : Nat} {h h' : Heap} {ρ : Nat -> Nat} {N : Nat -> Bool} {gs : List Nat} {lay : Lay} {s : lay.T} {hw : List (Nat × Reg)} (e : leaveHw S d h ρ N gs lay s = some hw)
  (H1 : ∀ r ∈ hw.map (·.1), h' r = h r) (H2 : ∀ q ∈ keysOf S.inp.vars, h' (ρ q) = h (ρ q)) : leaveHw S d h' ρ N gs lay s = some hw := by
 unfold leaveHw at e ⊢
 dsimp only at e ⊢
 obtain ⟨hc, hhw⟩ := cond_some e
 have hhw := Option.some.inj hhw
 simp only [Bool.and_eq_true, List.all_eq_true] at hc
 obtain ⟨⟨hdis, hdead⟩, hregs⟩ := hc
 have e1 : ((deadsOf S ρ N gs lay).all fun r => isSomeB (h' r)) = true := by
  rw [List.all_eq_true]
  intro r hr
  rw [H1 r (by rw [<- hhw]; simp only [List.map_append, List.map_map, List.mem_append, List.mem_map, Function.comp]; exact .inl ⟨r, hr, rfl⟩)]
  exact hdead r hr
 have e2 : ((varsRegs lay.vars s).all fun p =>
  (bif Nat.ble ioN p.1 && !N p.1 then memN p.1 (keysOf S.inp.vars) && shapeB (h' (ρ p.1)) (renReg (tau d ρ N) p.2) else Nat.blt (tau d ρ N p.1) ioN && !isSomeB (h' (tau d ρ N p.1))) && (S.strict || noFzR p.2)) = true := by
  rw [List.all_eq_true]
  intro p hp
  have hpr := hregs p hp
  cases hb : (Nat.ble ioN p.1 && !N p.1) with
  | true =>
   rw [hb] at hpr
   simp only [cond_true, Bool.and_eq_true] at hpr ⊢
   rw [H2 p.1 (memN_iff.1 hpr.1.1)]
   exact hpr
  | false =>
   rw [hb] at hpr
   simp only [cond_false, Bool.and_eq_true] at hpr ⊢
   rw [H1 (tau d ρ N p.1) (by rw [<- hhw]; simp only [List.map_append, List.map_map, List.mem_append, List.mem_map, Function.comp]; exact .inr ⟨p, hp, rfl⟩)]
   exact hpr
 rw [hdis, e1, e2, <- hhw]
 rfl
theorem leaveK_dep {S : FL} {d : Nat} {h h' : Heap} {ρ : Nat -> Nat} {N : Nat -> Bool} {gs hr : List Nat} {δ : Delta} (K : ∀ (lay : Lay) (s : lay.T) (hw : List (Nat × Reg)), leaveHw S d h ρ N gs lay s = some hw -> δ.hr = hw.map (·.1) ++ hr -> leaveHw S d h' ρ N gs lay s = some hw) :
  ∀ {outs : List (AExit × Lay)} {t : outsT outs}, leaveK S d h ρ N gs hr outs t some = some δ -> leaveK S d h' ρ N gs hr outs t some = some δ := by
 have one : ∀ {x : AExit × Lay} {t : outT1 x}, leave1 S d h ρ N gs hr some x t = some δ -> leave1 S d h' ρ N gs hr some x t = some δ := by
  intro x t e
  obtain ⟨x, lay⟩ := x
  cases x <;> simp only [leave1] at e ⊢ <;> try (cases e; done)
  ·split at e
   ·rename_i hw l h1 h2
    cases e
    simp only [K lay t hw h1 rfl, h2]
   ·cases e
  ·split at e
   ·rename_i hw h1
    cases e
    simp only [K lay t.2 hw h1 rfl]
   ·cases e
 intro outs
 induction outs with
 | nil => intro t; exact nomatch t
 | cons x r ih =>
  intro t e
  cases r with
  | nil => exact one e
  | cons y r => cases t with
   | inl s => exact one e
   | inr s => exact ih e
theorem res_rel {h1 h2 : Heap} {β1 β2 : Nat -> Value} {w : World} {τ : Nat -> Nat} {strict : Bool} (H : Names h1 β1 h2 β2 τ) (F : strict = true -> ∀ b, Own h2 β2 b -> Own h1 β1 b) {env : Nat -> Option AV} {vs : List Value} (he : ∀ i av, env i = some av -> AVRel h1 β1 w av (vs.toArray.getD i undef)) :
  ∀ {k i : Nat} {l : List AV}, resOf τ strict env k i = some l -> l.length = k ∧ ∀ j av, l[j]? = some av -> AVRel h2 β2 w av (vs.toArray.getD (i + j) undef) := by
 intro k
 induction k with
 | zero => intro i l e; cases e; exact ⟨rfl, fun j av hj => by simp at hj⟩
 | succ k ih =>
  intro i l e
  simp only [resOf] at e
  have step : ∀ {a : AV} {l' : List AV}, resOf τ strict env k (i + 1) = some l' -> AVRel h2 β2 w a (vs.toArray.getD i undef) -> (a :: l').length = k + 1 ∧ ∀ j av, (a :: l')[j]? = some av -> AVRel h2 β2 w av (vs.toArray.getD (i + j) undef) := by
   intro a l' h1 h3
   obtain ⟨h4, h5⟩ := ih h1
   refine ⟨by simp [h4], fun j av hj => ?_⟩
   cases j with
   | zero => simp at hj; subst hj; exact h3
   | succ j =>
    have := h5 j av (by simpa using hj)
    rwa [show i + (j + 1) = i + 1 + j by omega]
  split at e
  ·rename_i x l' hx hl'
   obtain ⟨h3, h4⟩ := cond_some e
   cases h4
   refine step hl' ?_
   have := he i _ hx
   simp only [AVRel] at this ⊢
   exact CVRel.ren H (by simp only [Bool.or_eq_true] at h3; exact h3.symm.imp id F) this
  ·rename_i xs l' hx hl'
   obtain ⟨h3, h4⟩ := cond_some e
   cases h4
   refine step hl' ?_
   have := he i _ hx
   simp only [AVRel] at this ⊢
   obtain ⟨l, hl, hs⟩ := this
   exact ⟨l, hl, SegsRel.ren H (by simp only [Bool.or_eq_true] at h3; exact h3.symm.imp id F) hs⟩
  ·cases e
section
variable {P : Program}
theorem fun_okL {f : Nat} {fn : Func} {c : Code} {S : FL} {fr : Bool} {F : S.inT -> Option S.outT} (hf : P.funcs[f]? = some fn) (hname : (fn.name == "runtime.NumGoroutine") = false) (hb : fn.body = some c) (hok : okL S = true) (H : CallsL P f S F) : EntOk P f (funEntL S fr F) := by
 refine ⟨?_, ?_, ?_⟩
 ·intro ρ d l h k
  simp only [funEntL]
  cases Nat.beq l.length S.n with
  | false => rfl
  | true =>
   simp only [cond_true]
   cases S.inp.decN (callSt l h) (rhoOf (nmL S l h)) (nilOf (nmL S l h)) with
   | none => rfl
   | some p =>
    obtain ⟨x, gs⟩ := p
    simp only
    cases F x with
    | none => rfl
    | some y => exact leaveK_nat
 ·intro _ d l h h' δ e hs
  obtain ⟨hn, x, gs, y, h1, h2, h3⟩ := funEntL_inv e
  obtain ⟨lay, s, hw, h4, _, h5, h6, _⟩ := leaveK_inv h3
  have hs' : ∀ r ∈ δ.hr, h' r = h r := fun r hr => hs r hr
  have hwin : WIn δ := fun r hr => by
   rw [h6, <- h5]; exact List.mem_append_left _ hr
  refine ⟨?_, hwin⟩
  have A1 : ∀ r ∈ hw.map (·.1), h' r = h r := fun r hr => hs' r (by rw [h6]; exact List.mem_append_left _ hr)
  have A2 : ∀ r ∈ hrL S l h gs, h' r = h r := fun r hr => hs' r (by rw [h6]; exact List.mem_append_right _ hr)
  have A3 : ∀ r ∈ gs, h' r = h r := fun r hr => A2 r (by simp [hrL, hr])
  have A4 : ∀ q ∈ keysOf S.inp.vars, h' (rhoOf (nmL S l h) q) = h (rhoOf (nmL S l h) q) := fun q hq => A2 _ (by
   simp only [hrL, List.mem_append, List.mem_map]; exact .inr (.inl ⟨q, hq, rfl⟩))
  have A5 : ∀ r ∈ touchOf (callSt l h) S.inp.roots [], h' r = h r := fun r hr => A2 r (by simp [hrL, hr])
  obtain ⟨e1, e2⟩ := namesOf_dep A5
  have e1 : nmL S l h' = nmL S l h := e1
  have e3 : hrL S l h' gs = hrL S l h gs := by simp only [hrL, e1, e2]
  simp only [okL, Bool.and_eq_true] at hok
  have hcl := hok.1.1.1
  simp only [Lay.closed, Bool.and_eq_true, List.all_eq_true, memB_iff, List.mem_append] at hcl
  have B1 : ∀ q ∈ fixRs S.inp.fix, h' (rhoOf (nmL S l h) q) = h (rhoOf (nmL S l h) q) := fun q hq => A4 q (hcl.1.1 q (.inl hq))
  have B2 : ∀ q ∈ varsRs S.inp.vars, h' (rhoOf (nmL S l h) q) = h (rhoOf (nmL S l h) q) := fun q hq => A4 q (hcl.1.1 q (.inr hq))
  have e4 : S.inp.decN (callSt l h') (rhoOf (nmL S l h)) (nilOf (nmL S l h)) = some (x, gs) := by
   unfold Lay.decN at h1 ⊢
   obtain ⟨g1, g2⟩ := cond_some h1
   simp only [Bool.and_eq_true] at g1
   rw [g1.1, fixDec_dep hok.2 B1 g1.2]
   simp only [Bool.and_true, cond_true]
   split at g2
   ·rename_i x' gs' g3
    obtain ⟨g4, g5⟩ := cond_some g2
    cases g5
    rw [varsDec_dep g3 A3 A4 B2]
    simp only [g4, cond_true]
   ·cases g2
  simp only [funEntL, hn, Nat.beq_refl, cond_true, e1, e4, h2, Option.bind_some, e3]
  exact leaveK_dep (fun lay s hw' g1 g2 => leaveHw_dep g1 (fun r hr => hs' r (by rw [g2]; exact List.mem_append_left _ hr)) A4) h3
 ·intro w0 fp nt β st a w o d l us δ next Q hexec hl hdst R hd e hn hp
  obtain ⟨hln, x, gs, y, h1, h2, h3⟩ := funEntL_inv e
  obtain ⟨lay, s, hw, h4, h5, h6, h7, h8⟩ := leaveK_inv h3
  obtain ⟨fpC, βc, En⟩ := enter R hok hl hln h1
  rw [hdst] at hd
  have hcall := H us x y w fpC βc (by have := (avs_get hl).1; omega) En.dfs h2 En.rel
  unfold Oper.wp
  rw [hexec, MuLone.run_callFunc_enter hf hname hb, Oper.upon_enter]
  refine hcall.mono ?_
  rintro e w' ⟨βo, vs, Ro, rfl, hlen⟩
  rw [h5] at Ro
  obtain ⟨β'', hN, hO, hL⟩ := leave R En hd h4 Ro
  obtain ⟨av, hw', hr⟩ := δ
  simp only at h6 h7 h8
  subst h6
  rcases h8 with ⟨p, n, h9, rfl⟩ | ⟨h9, res, h10, rfl⟩
  ·rw [h9]
   simp only [endOf]
   refine hp p n rfl w' ⟨β'', ?_⟩
   exact hL none (.c (.val undef)) undef rfl (by simp only [AVRel, CVRel])
  ·rw [h9] at hlen ⊢
   simp only [endOf]
   have hvl := hlen (fun t n h => by cases h)
   obtain ⟨hrl, hrr⟩ := res_rel hN hO (vs := vs) (fun i av hi => Ro.env i av hi) h10
   have hnp : NoPan ⟨resAV res, hw', hr⟩ := resAV_nopan (resOf_plain h10)
   refine hn hnp _ _ ⟨β'', ?_⟩
   rw [hdst]
   refine hL (some d) (resAV res) (resV vs) hd ?_
   have hav : AVsRel (heapPut st.heap hw') β'' w' res vs := avs_of (by omega) (fun i av hi => by have := hrr i av hi; rwa [Nat.zero_add] at this)
   match res, vs, hav with
   | [], vs, H => simp only [AVsRel] at H; subst H; simp only [resAV, AVRel]; exact ⟨[], rfl, by simp only [AVsRel]⟩
   | [x], vs, H =>
    simp only [AVsRel] at H
    obtain ⟨v, r, rfl, hv, rfl⟩ := H
    exact hv
   | x :: z :: l, vs, H =>
    have H' := H
    simp only [AVsRel] at H
    obtain ⟨v, r, rfl, hv, v', r', rfl, hv', hr⟩ := H
    simp only [resAV, AVRel]
    exact ⟨_, rfl, H'⟩
end
theorem EntsOk.nil (P : Program) : EntsOk P (ofL []) := fun _ _ e => by cases e
theorem EntsOk.cons {P : Program} {l : List (Nat × Ent)} {f : Nat} {e : Ent} (h : EntOk P f e) (H : EntsOk P (ofL l)) : EntsOk P (ofL ((f, e) :: l)) := by
 intro g e' h'
 simp only [ofL] at h'
 cases hb : Nat.beq f g <;> rw [hb] at h'
 ·exact H g e' h'
 ·obtain rfl := nbeq.1 hb
  cases h'
  exact h
end Go.Abs
namespace Go.Abs
def valChk : Value -> CV -> Bool
 | .int k n, .int k' n' => k == k' && n == n'
 | .bool a, .bool b => a == b
 | .string s, .str s' => decide (s = s')
 | .pointer none, .val (.pointer none) => true
 | .slice none n c, .val (.slice none n' c') => Nat.beq n 0 && Nat.beq c 0 && Nat.beq n' 0 && Nat.beq c' 0
 | .nilFunc, .val .nilFunc => true
 | .nilIface, .val .nilIface => true
 | .map none, .val (.map none) => true
 | _, _ => false
def intsChk (k : IntKind) (f : Nat -> Int) : Nat -> Nat -> List Value -> Option (List Value)
 | 0, _, l => some l
 | n + 1, i, .int k' x :: l => bif k == k' && f i == x then intsChk k f n (i + 1) l else none
 | _, _, _ => none
def zeroChk : List CV -> List Value -> Bool
 | [], [] => true
 | .ints k n f :: cs, l => (match intsChk k f n 0 l with | some r => zeroChk cs r | none => false)
 | c :: cs, v :: l => valChk v c && zeroChk cs l
 | _, _ => false
theorem valChk_rel {v : Value} {c : CV} (h : valChk v c = true) (hh : HeapT) (β : Nat -> Value) (w : World) : v.oneCell' = true ∧ CVRel hh β w c v ∧ (∀ k n f, c ≠ .ints k n f) ∧ ∀ n, c ≠ .junk n := by
 unfold valChk at h
 split at h <;> try (cases h; done)
 ·simp only [Bool.and_eq_true, beq_iff_eq] at h; obtain ⟨h1, rfl⟩ := h; obtain rfl := beqK.1 (by simpa using h1); exact ⟨rfl, by simp only [CVRel], by simp, by simp⟩
 ·obtain rfl := beq_iff_eq.1 h; exact ⟨rfl, by simp only [CVRel], by simp, by simp⟩
 ·obtain rfl := of_decide_eq_true h; exact ⟨rfl, by simp only [CVRel], by simp, by simp⟩
 ·exact ⟨rfl, by simp only [CVRel], by simp, by simp⟩
 ·simp only [Bool.and_eq_true, nbeq] at h; obtain ⟨⟨⟨rfl, rfl⟩, rfl⟩, rfl⟩ := h; exact ⟨rfl, by simp only [CVRel], by simp, by simp⟩
 all_goals exact ⟨rfl, by simp only [CVRel], by simp, by simp⟩
theorem intsChk_spec {k : IntKind} {f : Nat -> Int} : ∀ {n i : Nat} {l r : List Value}, intsChk k f n i l = some r -> l = ((List.range' i n).map fun j => Value.int k (f j)) ++ r := by
 intro n
 induction n with
 | zero => intro i l r h; cases h; rfl
 | succ n ih =>
  intro i l r h
  match l, h with
  | .int k' x :: l, h =>
   simp only [intsChk] at h
   obtain ⟨h1, h2⟩ := cond_some h
   simp only [Bool.and_eq_true, beq_iff_eq] at h1
   obtain ⟨h3, h4⟩ := h1
   obtain rfl := beqK.1 (by simpa using h3)
   have := ih h2
   rw [List.range'_succ, List.map_cons, List.cons_append, <- this, h4]
theorem zeroChk_one {c : CV} (hc : ∀ k n f, c ≠ .ints k n f) (cs : List CV) (v : Value) (l : List Value) : zeroChk (c :: cs) (v :: l) = (valChk v c && zeroChk cs l) := by
 cases c <;> first | rfl | exact absurd rfl (hc _ _ _)
theorem zeroChk_none {c : CV} (hc : ∀ k n f, c ≠ .ints k n f) (cs : List CV) : zeroChk (c :: cs) [] = false := by
 cases c <;> first | rfl | exact absurd rfl (hc _ _ _)
theorem zeroChk_rel : ∀ {cs : List CV} {l : List Value}, zeroChk cs l = true -> ∀ (h : HeapT) (β : Nat -> Value) (w : World), SegsRel h β w cs l := by
 intro cs
 induction cs with
 | nil => intro l h hh β w; cases l with
  | nil => simp only [SegsRel]
  | cons => cases h
 | cons c cs ih =>
  intro l h hh β w
  have one : ∀ v l', l = v :: l' -> (valChk v c && zeroChk cs l') = true -> SegsRel hh β w (c :: cs) l := by
   intro v l' hl h9
   subst hl
   have h9 := Bool.and_eq_true_iff.1 h9
   obtain ⟨h1, h2, h3, h4⟩ := valChk_rel h9.1 hh β w
   cases c <;> simp only [SegsRel] <;> first | exact ⟨v, l', rfl, h1, h2, ih h9.2 hh β w⟩ | exact absurd rfl (h3 _ _ _) | exact absurd rfl (h4 _)
  by_cases hc : ∀ k n f, c ≠ .ints k n f
  ·cases l with
   | nil => rw [zeroChk_none hc] at h; cases h
   | cons v l' => rw [zeroChk_one hc] at h; exact one v l' rfl h
  ·have hx : ∃ k n f, c = .ints k n f := by
    rcases Classical.em (∃ k n f, c = .ints k n f) with h | h
    ·exact h
    ·exact absurd (fun k n f e => h ⟨k, n, f, e⟩) hc
   obtain ⟨k, n, f, rfl⟩ := hx
   simp only [zeroChk] at h
   split at h
   ·rename_i r hr
    simp only [SegsRel]
    refine ⟨r, ?_, ih h hh β w⟩
    rw [intsChk_spec hr]
    simp [fnV, List.range_eq_range']
   ·cases h
def tdChk : TypeDesc -> TD -> Bool
 | .int k, .int k' => k == k'
 | .bool, .bool => true
 | .string, .str => true
 | .pointer _, .ptr => true
 | .slice e, .slice e' => Nat.beq e e'
 | .array n e, .array n' e' => Nat.beq n n' && Nat.beq e e'
 | .struct fs, .struct l => decide (fs.toList.map (fun f => (f.type, f.offset)) = l)
 | .interface _, .other => true
 | .func _ _ _, .other => true
 | .map _ _, .other => true
 | .map k e, .map k' e' => Nat.beq k k' && Nat.beq e e'
 | _, _ => false
theorem tdChk_rel {d : TypeDesc} {t : TD} (h : tdChk d t = true) : TDRel d t := by
 unfold tdChk at h
 split at h <;> try (cases h; done)
 ·exact beqK.1 h
 ·trivial
 ·trivial
 ·trivial
 ·exact nbeq.1 h
 ·simp only [Bool.and_eq_true, nbeq] at h; exact h
 ·have := of_decide_eq_true h; exact this
 ·trivial
 ·trivial
 ·trivial
 ·simp only [Bool.and_eq_true, nbeq] at h; exact h
def tiChk (P : Program) (t : Nat) (ti : TI) : Bool :=
 match P.info? t, P.underlying t with
 | some i, some d =>
  Nat.beq i.size ti.size && Nat.beq i.bytes ti.bytes && (match i.zero with | some z => zeroChk ti.zero z.cells.toList | none => false) && tdChk d ti.d &&
  (isAggT ti.d || Nat.beq ti.size 1) && Nat.beq (segSize ti.zero) ti.size && (match ti.d with | .int _ => Nat.blt 0 ti.bytes | _ => true) &&
  (match d with | .struct l => l.toList.all fun f => (P.info? f.type).isSome | _ => true) && (match ti.d with | .int _ => (match i.zero with | some (.int _ _) => true | _ => false) | _ => true)
 | _, _ => false
theorem tiChk_ok {P : Program} {t : Nat} {ti : TI} (h : tiChk P t ti = true) : TIOk P t ti := by
 unfold tiChk at h
 split at h
 ·rename_i i d hi hd
  simp only [Bool.and_eq_true, nbeq] at h
  obtain ⟨⟨⟨⟨⟨⟨⟨⟨h1, h2⟩, h3⟩, h4⟩, h5⟩, h6⟩, h7⟩, h8⟩, h9⟩ := h
  refine ⟨?_, ⟨d, hd, tdChk_rel h4⟩, ?_, h6, ?_, ?_, ?_⟩
  ·split at h3
   ·rename_i z hz; exact ⟨i, hi, h1, h2, z, hz, fun h β w => zeroChk_rel h3 h β w⟩
   ·cases h3
  ·intro ha; rw [ha] at h5; simpa using h5
  ·intro k hk; rw [hk] at h7; exact nblt.1 h7
  ·intro k hk
   rw [hk] at h9
   simp only [] at h9
   split at h9
   ·rename_i h10; exact ⟨_, _, _, hi, h10⟩
   ·cases h9
  ·intro l hl f hf
   rw [hd] at hl
   cases hl
   simp only [List.all_eq_true] at h8
   exact h8 f hf
 ·cases h
def tabChk (P : Program) : Tab -> Bool
 | [] => true
 | (t, ti) :: r => tiChk P t ti && tabChk P r
theorem tabChk_ok {P : Program} : ∀ {T : Tab}, tabChk P T = true -> TabOk P T := by
 intro T
 induction T with
 | nil => intro _; exact TabOk.nil P
 | cons p r ih =>
  obtain ⟨t, ti⟩ := p
  intro h
  simp only [tabChk, Bool.and_eq_true] at h
  exact TabOk.cons (tiChk_ok h.1) (ih h.2)
end Go.Abs
namespace Go.Abs
open Go.RowKit
noncomputable def Tree.rank (t : Tree) : Nat := SizeOf.sizeOf t
theorem Tree.rank_kid {t c : Tree} (h : c ∈ t.kids) : c.rank < t.rank := by
 cases t with
 | node a b k =>
  have := List.sizeOf_lt_of_mem (show c ∈ k from h)
  simp only [Tree.rank, Tree.node.sizeOf_spec]
  omega
def canIn (S : FL) (l : List AV) (h : Nat -> Option Reg) : Bool :=
 bif Nat.beq l.length S.n then (match S.inp.decN (callSt l h) (rhoOf (nmL S l h)) (nilOf (nmL S l h)) with | some _ => true | none => false) else false
def entOr (t : List AV -> (Nat -> Option Reg) -> Bool) (e1 e2 : Ent) : Ent :=
 ⟨fun d l h k => bif t l h then e1.k d l h k else e2.k d l h k, false⟩
theorem entOr_ok {P : Program} {f : Nat} {t : List AV -> (Nat -> Option Reg) -> Bool} {e1 e2 : Ent} (h1 : EntOk P f e1) (h2 : EntOk P f e2) : EntOk P f (entOr t e1 e2) := by
 refine ⟨fun d l h k => ?_, fun h => (by cases h), fun o d l us δ next Q a1 a2 a3 a4 a5 a6 a7 a8 => ?_⟩
 ·simp only [entOr]
  cases t l h
  ·exact h2.nat d l h k
  ·exact h1.nat d l h k
 ·rename_i st a w
  simp only [entOr] at a6
  cases ht : t l st.heap with
  | true => rw [ht] at a6; exact h1.call o d l us δ next Q a1 a2 a3 a4 a5 a6 a7 a8
  | false => rw [ht] at a6; exact h2.call o d l us δ next Q a1 a2 a3 a4 a5 a6 a7 a8
end Go.Abs
namespace Go.Abs
open Go.ChangeShapes Go.WideShapes Go.ChangeAt Go.RowKit
def In (W : World) (a : AV) (v : Value) : Prop := ∀ (h : HeapT) (β : Nat -> Value), (∀ b, ¬ Own h β b) -> AVRel h β W a v
section
variable {H : Type} {enc : TypeId × Value -> H} {P : Program} {W : World} {base : Nat} {spare : Nat -> Bool} {held : Bool} {r : Reach} {b0 : Nat} {t : TypeId} {v : Value} {d : DataW H} {ps : List MemPlace}
theorem nf_row {a : Addr} {n : Nat} {ps : List MemPlace} (h : ps = MemPlace.row a n) (hnf : W.noneFrozen ps) (i : Nat) (hi : i < n) : W.frozen? (a.add i) = false := by
 have := hnf a.block (a.off + i) (by rw [h]; exact MemPlace.mem_row.2 ⟨i, hi, rfl⟩)
 unfold Addr.add
 split
 ·rename_i h0; subst h0; exact this
 ·exact this
theorem in_ints_sz {e : TypeId} {k : IntKind} (ht : P.underlying t = some (.slice e)) (he : P.underlying e = some (.int k)) (hc : P.cellsOf e = 1) (hval : Value.okWide P W r b0 t v) (hsz : ∀ elems rest, d = .slice elems rest -> (elems.length + rest.length) * P.bytesOf e ≤ reachBytes) (hd : DataW.Trod enc P W base spare held t v d ps) (hnf : W.noneFrozen ps) :
  ∃ xs : List Int, (∀ x ∈ xs, (Lit.int k x).wf = true) ∧ xs.length * P.bytesOf e ≤ reachBytes ∧ In W (.c (.fz (.int k) xs none)) v := by
 obtain ⟨a, len, cap, rfl⟩ := okWide_slice ht hval
 obtain ⟨fuel, hf⟩ := hd
 rcases open_ints ht he hc hf with ⟨hcs, _⟩ | ⟨x, l, c, zs, hcs, _, hl, hm, hz, hd, hcell, hwz⟩
 ·simp [Value.cells] at hcs
  obtain ⟨rfl, rfl, rfl⟩ := hcs
  refine ⟨[], by simp, by simp, fun h β _ => ?_⟩
  simp only [AVRel, CVRel]
  exact .fz (.int k) [] none none 0 (Nat.le_refl _) (Nat.le_refl _) (fun _ => ⟨rfl, rfl⟩) (fun a h => by cases h)
 ·simp [Value.cells] at hcs
  obtain ⟨rfl, rfl, rfl⟩ := hcs
  have hzl : len ≤ zs.length := by rw [hz]; split <;> omega
  have htl : (zs.take len).length = len := by simp; omega
  refine ⟨zs.take len, fun y hy => hwz y (List.mem_of_mem_take hy), by
   have h1 := hsz _ _ (congrArg Prod.fst hd)
   simp only [lits, List.length_map] at h1
   have h2 : (zs.take len).length ≤ (zs.take len).length + (zs.drop len).length := Nat.le_add_right _ _
   exact Nat.le_trans (Nat.mul_le_mul_right _ h2) h1, fun h β hno => ?_⟩
  simp only [AVRel, CVRel]
  have key := FzV.fz (w := W) (own := Own h β) (.int k) (zs.take len) none (some x) cap (Nat.le_refl _) (by show (zs.take len).length ≤ cap; rw [htl]; exact hl) (fun h => by cases h) (by
   intro a' ha i hi
   cases ha
   have hsz : i * (DT.int k).size = i := Nat.mul_one i
   rw [hsz]
   have hi' : i < (zs.take len).length := hi
   have hi2 : i < zs.length := by rw [htl] at hi'; omega
   refine .one _ [] _ _ (ucell_mk (hcell i hi2) (nf_row (congrArg Prod.snd hd) hnf i hi2)) (hno _) ?_ (.nil _)
   have : (zs.take len)[i] = zs.getD i 0 := by simp [List.getD_eq_getElem?_getD, hi2]
   show FzV W (Own h β) (.int k ((zs.take len)[i])) _
   rw [this]
   exact .int k _)
  have key2 : FzV W (Own h β) (.fz (.int k) (zs.take len) none) (.slice (some x) (List.length (α := Int) (zs.take len)) cap) := key
  rw [htl] at key2
  exact key2
theorem Rel.below {w0 : World} {nt : Nat} {β : Nat -> Value} {st : St} {a : Act} {w : World} (R : Rel P w0 FP.nil nt β st a w) : Below w0.heap.size w0 w :=
 ⟨R.os, R.tape, R.output, R.grow, fun b hb => R.keep b hb FP.nil_blk⟩
theorem Rel.start {us : List Value} {st : St} {w : World} (hn : us.length ≤ ioN) (hheap : ∀ q, st.heap q = none) (hin : ∀ t av, st.env t = some av -> ∃ u, us[t]? = some u ∧ In w av u) :
  Rel P w FP.nil us.length (fun _ => undef) st { tmps := us.toArray, defers := [] } w := by
 have hno : ∀ b, ¬ Own st.heap (fun _ => undef) b := by
  rintro b (⟨r, g, h, _⟩ | ⟨r, _, h⟩)
  ·rw [hheap r] at h; cases h
  ·simp [undef, blkOf] at h
 refine ⟨rfl, by simp, hn, fun t av ht => ?_, fun r g h => ?_, fun r r' g g' b h => ?_, fun b hb => ?_, fun b hb => (FP.nil_hid hb).elim, fun _ _ => rfl, rfl, rfl, rfl, Nat.le_refl _, fun _ _ _ => rfl, fun q bv g h => (by cases h), fun q bv h => (by cases h)⟩
 ·obtain ⟨u, h1, h2⟩ := hin t av ht
  have e : us.toArray.getD t undef = u := by
   rw [Array.getD_eq_getD_getElem?]
   simp [h1]
  show AVRel _ _ _ _ (us.toArray.getD t undef)
  rw [e]
  exact h2 _ _ hno
 ·rw [hheap r] at h; cases h
 ·rw [hheap r] at h; cases h
 ·exact (hno b (.inl hb)).elim
theorem law_call {f : Nat} {S : FL} {F : S.inT -> Option S.outT} (h : CallsL P f S F)
  {us : List Value} {x : S.inT} {y : S.outT} {w : World} (hlen : us.length = S.n) (hF : F x = some y) (hn : Nat.ble S.n ioN = true) (hfix : S.inp.fix = []) (hheap : varsRegs S.inp.vars x = [])
  (hres : S.res.length = 1) (hout : (encOut S.outs y).1 = .ret) (hst : (encOut S.outs y).2.env 0 = some (.c (.bool true)))
  (hin : ∀ t av, (t, av) ∈ varsEnvs S.inp.vars x -> ∃ u, us[t]? = some u ∧ In w av u) :
  Calls P f us.toArray w fun e w' => e = .returned (.bool true) ∧ Below w.heap.size w w' := by
 have R := Rel.start (P := P) (us := us) (st := S.inp.enc x) (w := w) (by rw [hlen]; exact nble.1 hn) (fun q => by
  show ofL (varsRegs S.inp.vars x) q = none
  rw [hheap]; rfl) (fun t av ht => by
  have ht : ofL (fixEnvs S.inp.fix ++ varsEnvs S.inp.vars x) t = some av := ht
  rw [hfix] at ht
  exact hin t av (ofL_mem ht))
 refine (h us x y w FP.nil _ hlen rfl hF R).mono ?_
 rintro e w' ⟨β', vs, R', he, hl⟩
 have hl := hl (fun t n hp => by rw [hout] at hp; cases hp)
 rw [hres] at hl
 rw [hout] at he
 match vs, hl with
 | [v], _ =>
  have h0 := R'.env 0 _ hst
  simp only [AVRel, CVRel] at h0
  have h0 : v = .bool true := h0
  subst h0
  exact ⟨he, R'.below⟩
end
end Go.Abs
namespace Go.Abs
open Go.ChangeShapes Go.WideShapes Go.ChangeAt Go.RowKit
def DT.bytes : DT -> Nat
 | .int k => k.bits / 8
 | .bool => 1
 | .str => 16
 | .item => 56
 | .arr k n => k.bits / 8 * n
 | .sl _ => 24
 | .pair a b => a.bytes + b.bytes
 | .pt _ => 8
 | .unit => 0
mutual
inductive HasD (P : Program) : TypeId -> DT -> Prop
 | int {t k} : P.underlying t = some (.int k) -> HasD P t (.int k)
 | bool {t} : P.underlying t = some .bool -> HasD P t .bool
 | str {t} : P.underlying t = some .string -> HasD P t .str
 | sl {t e d} : P.underlying t = some (.slice e) -> P.cellsOf e = d.size -> Nat.ble d.bytes (P.bytesOf e) = true -> HasD P e d -> HasD P t (.sl d)
 | item {t b : TypeId} {f0 f1 f2 : Field} : P.underlying t = some (.struct #[f0, f1, f2]) -> P.cellsOf t = 3 -> P.bytesOf t = 56 -> f0.offset = 0 -> f1.offset = 1 -> f2.offset = 2 -> P.cellsOf f0.type = 1 -> P.cellsOf f1.type = 1 -> P.cellsOf f2.type = 1 ->
   P.underlying f0.type = some (.int .u8) -> P.underlying f1.type = some (.slice b) -> P.underlying b = some (.int .u8) -> P.cellsOf b = 1 -> P.bytesOf b = 1 -> P.underlying f2.type = some (.slice t) -> HasD P t .item
 | st3 {t : TypeId} {f0 f1 f2 : Field} {a b c : DT} : P.underlying t = some (.struct #[f0, f1, f2]) -> P.cellsOf t = a.size + (b.size + c.size) -> f0.offset = 0 -> f1.offset = a.size -> f2.offset = a.size + b.size -> P.cellsOf f0.type = a.size -> P.cellsOf f1.type = b.size -> P.cellsOf f2.type = c.size ->
   HasD P f0.type a -> HasD P f1.type b -> HasD P f2.type c -> HasD P t (.pair a (.pair b c))
 | st {t : TypeId} {fs : Array Field} {a b : DT} : P.underlying t = some (.struct fs) -> P.cellsOf t = (DT.pair a b).size -> HasFs P fs.toList 0 (.pair a b) -> HasD P t (.pair a b)
inductive HasFs (P : Program) : List Field -> Nat -> DT -> Prop
 | one {f : Field} {off : Nat} {a : DT} : f.offset = off -> P.cellsOf f.type = a.size -> HasD P f.type a -> HasFs P [f] off a
 | cons {f : Field} {fs : List Field} {off : Nat} {a b : DT} : f.offset = off -> P.cellsOf f.type = a.size -> HasD P f.type a -> HasFs P fs (off + a.size) b -> HasFs P (f :: fs) off (.pair a b)
end
inductive TreeOk : Tree -> Prop
 | node {t : Int} {b : List Int} {k : List Tree} : (0 ≤ t ∧ t < 256) -> (∀ y ∈ b, (Lit.int .u8 y).wf = true) -> b.length * 1 ≤ reachBytes -> k.length * 56 ≤ reachBytes -> (∀ c ∈ k, TreeOk c) -> TreeOk (.node t b k)
structure Bulk (H : Type) where
 f : DataW H -> Nat
 fs : List (DataW H) -> Nat
 nil : fs [] = 0
 cons : ∀ d r, fs (d :: r) = f d + fs r
 slice : ∀ e s, fs e ≤ f (.slice e s)
 agg : ∀ p, fs p ≤ f (.agg p)
 lit : ∀ k n, f (.lit (.int k n)) = 1
section
variable {H : Type} {enc : TypeId × Value -> H} {P : Program} {W : World} {base : Nat} {spare : Nat -> Bool} {held : Bool} (B : Option (Bulk H))
end
end Go.Abs
namespace Go.Abs
open Go.RowKit
section
variable {P : Program} {ops : Array Oper} {Q : Exit -> Act -> World -> Prop} {i : Nat} {rest : List Nat} {a : Act} {w w' : World} {o : Oper} {v : Value}
theorem wpOps_val (ho : ops[i]? = some o) (hg : Region.wanted o (yielded ops a.tmps) = true) (he : (execOp a.eval o).run P w = .ok (.value v) w') (h : wpOps P ops Q rest (a.put o.dst v) w') : wpOps P ops Q (i :: rest) a w := by
 simp only [wpOps, ho, hg, if_true]
 left
 unfold Oper.wp
 rw [he]
 exact h
theorem wpOps_halt (ho : ops[i]? = some o) (hg : Region.wanted o (yielded ops a.tmps) = true) (he : (execOp a.eval o).run P w = .halt (.panic v) w') (h : Q (.panic [{ v, recovered := false }]) a w') : wpOps P ops Q (i :: rest) a w := by
 simp only [wpOps, ho, hg, if_true]
 left
 unfold Oper.wp
 rw [he]
 exact h
end
def opsOf : Code -> Array Oper
 | .region _ ops _ => ops
 | _ => #[]
def opAt (ops : Array Oper) (i : Nat) : Oper := (ops[i]?).getD { dst := none, op := .move (.const undef), type := 0, pos := default, after := #[], guard := none }
def EndL (P : Program) (S : FL) (fp : FP) (w : World) (y : S.outT) (e : Ending) (w' : World) : Prop :=
 ∃ (β' : Nat -> Value) (vs : List Value), Rel P w fp vs.length β' (encOut S.outs y).2 { tmps := vs.toArray, defers := [] } w' ∧ e = endOf (encOut S.outs y).1 vs ∧
   ((∀ t n, (encOut S.outs y).1 ≠ .panic t n) -> vs.length = S.res.length)
def finR (T : Tab) (S : FL) (e : AExit) (st : St) : Option S.outT :=
 match e with
 | .normal => none
 | e => finL T S e st
theorem rest_callsL {P : Program} (C : Ctx P) {fn : Func} {c : Code} {S : FL} {ann : Ann} {y : S.outT} {st : St} {a : Act} {w w1 : World} {fp : FP} {β : Nat -> Value} (hres : fn.results.toList = S.res) (hrio : Nat.ble S.res.length ioN = true)
  (hoc : closedOuts S.outs = true) (hA : AnnOk P fn.ntmps c ann) (hdfs : fp.dfs = []) (h0 : exec C.T C.E fn.ntmps c ann (finL C.T S) st = some y) (R0 : Rel P w fp fn.ntmps β st a w1) : c.wp P (bodyPost P fn (EndL P S fp w y)) a w1 := by
 have hrio := nble.1 hrio
 have hfp : fp = ⟨fp.anc, fp.hb, []⟩ := by cases fp; simp only at hdfs; subst hdfs; rfl
 refine exec_sound C fn.ntmps h0 hA ⟨_, R0⟩ ?_
 intro ex st' a' w' h1 hp
 have key : ∀ l, resAVs C.T st' S.res = some l -> decOut .ret { env := fun i => l[i]?, heap := st'.heap } S.outs = some y -> bodyPost P fn (EndL P S fp w y) .ret a' w' := by
  intro l h2 h3
  obtain ⟨β', R'⟩ := hp
  have hl := resAVs_length h2
  rw [<- hres] at h2
  obtain ⟨vs, h4, h5⟩ := run_results C R' h2
  obtain ⟨h6, h7⟩ := avs_get h5
  have R2 : Rel P w fp vs.length β' { env := fun i => l[i]?, heap := st'.heap } { tmps := vs.toArray, defers := [] } w' := by
   rw [hfp]
   exact R'.act rfl (by simp) (by rw [<- h6, hl]; exact hrio) (fun t av ht => h7 t av ht)
  obtain ⟨h8, h9⟩ := decOut_spec (P := P) (w0 := w) (fp := fp) (nt := vs.length) (a := { tmps := vs.toArray, defers := [] }) (w := w') hoc h3
  obtain ⟨β2, R3⟩ := h9 ⟨_, R2⟩
  exact ⟨R'.defers.trans hdfs, _, h4, β2, vs, R3, by rw [h8]; rfl, fun _ => by omega⟩
 cases ex with
 | exit i => cases h1
 | normal =>
  simp only [finL] at h1
  split at h1
  ·rename_i l h2; exact key l h2 h1
  ·cases h1
 | ret =>
  simp only [finL] at h1
  split at h1
  ·rename_i l h2; exact key l h2 h1
  ·cases h1
 | panic t n =>
  simp only [finL] at h1
  obtain ⟨β', R'⟩ := hp
  have R2 : Rel P w fp 0 β' { env := fun _ => none, heap := st'.heap } { tmps := #[], defers := [] } w' := by
   rw [hfp]
   exact R'.act rfl rfl (Nat.zero_le _) (fun t av ht => by cases ht)
  obtain ⟨h8, h9⟩ := decOut_spec (P := P) (w0 := w) (fp := fp) (nt := 0) (a := { tmps := #[], defers := [] }) (w := w') hoc h1
  obtain ⟨β2, R3⟩ := h9 ⟨_, R2⟩
  refine ⟨R'.defers.trans hdfs, β2, [], R3, by rw [h8]; rfl, fun h => absurd h8 (h t n)⟩
theorem rest_callsR {P : Program} (C : Ctx P) {fn : Func} {c : Code} {S : FL} {ann : Ann} {y : S.outT} {st : St} {a : Act} {w w1 : World} {fp : FP} {β : Nat -> Value} (hres : fn.results.toList = S.res) (hrio : Nat.ble S.res.length ioN = true)
  (hoc : closedOuts S.outs = true) (hA : AnnOk P fn.ntmps c ann) (hdfs : fp.dfs = []) (h0 : exec C.T C.E fn.ntmps c ann (finR C.T S) st = some y) (R0 : Rel P w fp fn.ntmps β st a w1) : c.wp P (Exit.then (fun _ _ => False) (bodyPost P fn (EndL P S fp w y))) a w1 := by
 have hrio := nble.1 hrio
 have hfp : fp = ⟨fp.anc, fp.hb, []⟩ := by cases fp; simp only at hdfs; subst hdfs; rfl
 refine exec_sound C fn.ntmps h0 hA ⟨_, R0⟩ ?_
 intro ex st' a' w' h1 hp
 have key : ∀ l, resAVs C.T st' S.res = some l -> decOut .ret { env := fun i => l[i]?, heap := st'.heap } S.outs = some y -> bodyPost P fn (EndL P S fp w y) .ret a' w' := by
  intro l h2 h3
  obtain ⟨β', R'⟩ := hp
  have hl := resAVs_length h2
  rw [<- hres] at h2
  obtain ⟨vs, h4, h5⟩ := run_results C R' h2
  obtain ⟨h6, h7⟩ := avs_get h5
  have R2 : Rel P w fp vs.length β' { env := fun i => l[i]?, heap := st'.heap } { tmps := vs.toArray, defers := [] } w' := by
   rw [hfp]
   exact R'.act rfl (by simp) (by rw [<- h6, hl]; exact hrio) (fun t av ht => h7 t av ht)
  obtain ⟨h8, h9⟩ := decOut_spec (P := P) (w0 := w) (fp := fp) (nt := vs.length) (a := { tmps := vs.toArray, defers := [] }) (w := w') hoc h3
  obtain ⟨β2, R3⟩ := h9 ⟨_, R2⟩
  exact ⟨R'.defers.trans hdfs, _, h4, β2, vs, R3, by rw [h8]; rfl, fun _ => by omega⟩
 cases ex with
 | exit i => cases h1
 | normal => cases h1
 | ret =>
  simp only [finR, finL] at h1
  split at h1
  ·rename_i l h2; exact key l h2 h1
  ·cases h1
 | panic t n =>
  simp only [finR, finL] at h1
  obtain ⟨β', R'⟩ := hp
  have R2 : Rel P w fp 0 β' { env := fun _ => none, heap := st'.heap } { tmps := #[], defers := [] } w' := by
   rw [hfp]
   exact R'.act rfl rfl (Nat.zero_le _) (fun t av ht => by cases ht)
  obtain ⟨h8, h9⟩ := decOut_spec (P := P) (w0 := w) (fp := fp) (nt := 0) (a := { tmps := #[], defers := [] }) (w := w') hoc h1
  obtain ⟨β2, R3⟩ := h9 ⟨_, R2⟩
  refine ⟨R'.defers.trans hdfs, β2, [], R3, by rw [h8]; rfl, fun h => absurd h8 (h t n)⟩
end Go.Abs
namespace Go.Abs
universe u
open Go.RowKit
section
variable {P : Program} (C : Ctx P) {w0 : World} {fp : FP} {nt : Nat} {β : Nat -> Value} {st : St} {a : Act} {w : World}
theorem acts_wp {o : Oper} {δ : Delta} {next : Act -> World -> Prop} {Q : Exit -> Act -> World -> Prop} (ha : Acts C o st δ) (hd : dstOk nt o.dst = true) (R : Rel P w0 fp nt β st a w)
  (hn : NoPan δ -> ∀ a' w', Post P w0 fp nt (st.app o.dst δ) a' w' -> next a' w') (hpn : ∀ t n, δ.av = .pan t n -> ∀ w', Post P w0 fp nt (st.app none δ) a w' -> Q (.panic (panChain t n)) a w') : o.wp P a w next Q := by
 unfold Acts at ha
 split at ha
 ·rename_i f args hc
  obtain ⟨e, l, d, h1, h2, h3, h4⟩ := ha
  obtain ⟨cc, hop, hcc, rfl⟩ := calleeOf_spec hc
  obtain ⟨callee, as, ats⟩ := cc
  simp only at hcc
  subst hcc
  refine (C.hE f e h1).call o d l (as.toList.map a.eval) δ next Q ?_ (opds_rel R h2) h3 R hd h4 hn hpn
  rw [Conc.execOp_call_func (a := a) hop]
  congr 2
  apply Array.toList_inj.1
  simp
 ·split at ha
  ·rename_i f args caps hc
   obtain ⟨e, l, d, h1, h2, h3, h4⟩ := ha
   obtain ⟨cc, t, hop, hcc, rfl, ht⟩ := cloOf_spec hc
   obtain ⟨callee, as, ats⟩ := cc
   simp only at hcc
   subst hcc
   obtain ⟨vs, hv, hcap⟩ := cap_rel R ht
   refine (C.hE f e h1).call o d (l ++ capPtrs caps) (as.toList.map a.eval ++ vs) δ next Q ?_ ((opds_rel R h2).append hcap) h3 R hd h4 hn hpn
   rw [execOp_call_clo (a := a) hop hv]
   congr 2
   apply Array.toList_inj.1
   simp
  ·obtain ⟨rq, h1, h2, h3⟩ := ha
   exact Oper.wp_mono (hn h3) (aopA_sound C.hT C.hdep R hd h1 h2)
theorem ops_sound {all : Array Oper} {Q : Exit -> Act -> World -> Prop} {ρ : Type} {ops : List Oper} {i : Nat} {st : St} {fs : List Foot} {k : St -> List Foot -> Option ρ} {kp : Nat -> Int -> St -> List Oper -> List Foot -> Option ρ} {r : ρ} {is : List Nat} {a : Act} {w : World}
  (e : execOps C.T C.E nt all ops st fs k kp = some r) (hall : ∀ j o, ops[j]? = some o -> all[i + j]? = some o) (hp : Post P w0 fp nt st a w)
  (hq : ∀ st' fs' a w, k st' fs' = some r -> Post P w0 fp nt st' a w -> wpOps P all Q is a w)
  (hqp : ∀ t m st' rest fs' a w, kp t m st' rest fs' = some r -> Post P w0 fp nt st' a w -> Q (.panic (panChain t m)) a w) : wpOps P all Q (List.range' i ops.length ++ is) a w := by
 have hidx : ∀ {L : List Ran} {n : Nat}, L.map (·.2.1) <+: ops -> L.map (·.1) = List.range' i n -> n = L.length -> ∀ x ∈ L, all[x.1]? = some x.2.1 := by
  intro L n h1 h2 hn x hx
  obtain ⟨m, hm'⟩ := List.mem_iff_getElem?.1 hx
  have hml : m < L.length := (List.getElem?_eq_some_iff.1 hm').1
  have e1 : (L.map (·.1))[m]? = some x.1 := by simp [hm']
  have e2 : (L.map (·.2.1))[m]? = some x.2.1 := by simp [hm']
  rw [h2, List.getElem?_range' (by omega)] at e1
  obtain ⟨t, ht⟩ := h1
  have e3 : ops[m]? = some x.2.1 := by
   rw [<- ht, List.getElem?_append_left (by simpa using hml)]; exact e2
  have := hall m _ e3
  simp only [Nat.one_mul, Option.some.injEq] at e1
  rw [<- e1]; exact this
 rcases execOps_trace C (i := i) e with ⟨L, st', h1, h2, h3, h4, h5⟩ | ⟨L, st', o, δ, rest, t, m, h1, h2, h3, hdo, h4, h5, hpan, h6⟩
 ·rw [<- h2]
  exact wpOps_trace C (hidx ⟨[], by simp [h1]⟩ h2 (by have := congrArg List.length h1; simpa using this.symm)) h3 h4 hp (fun a w hp' => hq _ _ a w h5 hp')
 ·have e1 : List.range' i ops.length ++ is = L.map (·.1) ++ ((i + L.length) :: (List.range' (i + L.length + 1) rest.length ++ is)) := by
   rw [h2, h1]
   simp only [List.length_append, List.length_map, List.length_cons]
   rw [<- List.range'_append_1, List.range'_succ]
   simp
  rw [e1]
  refine wpOps_trace C (hidx ⟨o :: rest, by rw [h1]⟩ h2 rfl) h3 h4 hp (fun a w hp' => ?_)
  refine wpOps_pan C (hall L.length o (by rw [h1]; simp)) hdo h5 hpan hp' (fun w' hp2 => hqp _ _ _ _ _ _ _ h6 hp2)
theorem call_L {f : Nat} {fn : Func} {c : Code} {S : FL} {fr : Bool} {F : S.inT -> Option S.outT} (hf : P.funcs[f]? = some fn) (hname : (fn.name == "runtime.NumGoroutine") = false) (hb : fn.body = some c) (hok : okL S = true)
  {o : Oper} {d : Nat} {l : List AV} {us : List Value} {δ : Delta} {next : Act -> World -> Prop} {Q : Exit -> Act -> World -> Prop}
  (H : ∀ (x : S.inT) (y : S.outT) (fp' : FP) (β' : Nat -> Value), F x = some y -> fp'.dfs = [] -> Rel P w fp' us.length β' (S.inp.enc x) { tmps := us.toArray, defers := [] } w -> Calls P f us.toArray w (EndL P S fp' w y))
  (hexec : (execOp a.eval o).run P w = (callFunc f us.toArray).run P w) (hl : AVsRel st.heap β w l us) (hdst : o.dst = some d) (R : Rel P w0 fp nt β st a w) (hd : dstOk nt o.dst = true) (e : (funEntL S fr F).k d l st.heap some = some δ)
  (hn : NoPan δ -> ∀ a' w', Post P w0 fp nt (st.app o.dst δ) a' w' -> next a' w') (hp : ∀ t n, δ.av = .pan t n -> ∀ w', Post P w0 fp nt (st.app none δ) a w' -> Q (.panic (panChain t n)) a w') : o.wp P a w next Q := by
 obtain ⟨hln, x, gs, y, h1, h2, h3⟩ := funEntL_inv e
 obtain ⟨lay, s, hw, h4, h5, h6, h7, h8⟩ := leaveK_inv h3
 obtain ⟨fpC, βc, En⟩ := enter R hok hl hln h1
 rw [hdst] at hd
 have hcall := H x y fpC βc h2 En.dfs En.rel
 unfold Oper.wp
 rw [hexec, MuLone.run_callFunc_enter hf hname hb, Oper.upon_enter]
 refine hcall.mono ?_
 rintro e w' ⟨βo, vs, Ro, rfl, hlen⟩
 rw [h5] at Ro
 obtain ⟨β'', hN, hO, hL⟩ := leave R En hd h4 Ro
 obtain ⟨av, hw', hr⟩ := δ
 simp only at h6 h7 h8
 subst h6
 rcases h8 with ⟨p, n, h9, rfl⟩ | ⟨h9, res, h10, rfl⟩
 ·rw [h9]
  simp only [endOf]
  refine hp p n rfl w' ⟨β'', ?_⟩
  exact hL none (.c (.val undef)) undef rfl (by simp only [AVRel, CVRel])
 ·rw [h9] at hlen ⊢
  simp only [endOf]
  have hvl := hlen (fun t n h => by cases h)
  obtain ⟨hrl, hrr⟩ := res_rel hN hO (vs := vs) (fun i av hi => Ro.env i av hi) h10
  have hnp : NoPan ⟨resAV res, hw', hr⟩ := resAV_nopan (resOf_plain h10)
  refine hn hnp _ _ ⟨β'', ?_⟩
  rw [hdst]
  refine hL (some d) (resAV res) (resV vs) hd ?_
  have hav : AVsRel (heapPut st.heap hw') β'' w' res vs := avs_of (by omega) (fun i av hi => by have := hrr i av hi; rwa [Nat.zero_add] at this)
  match res, vs, hav with
  | [], vs, H => simp only [AVsRel] at H; subst H; simp only [resAV, AVRel]; exact ⟨[], rfl, by simp only [AVsRel]⟩
  | [x], vs, H =>
   simp only [AVsRel] at H
   obtain ⟨v, r, rfl, hv, rfl⟩ := H
   exact hv
  | x :: z :: l, vs, H =>
   have H' := H
   simp only [AVsRel] at H
   obtain ⟨v, r, rfl, hv, v', r', rfl, hv', hr⟩ := H
   simp only [resAV, AVRel]
   exact ⟨_, rfl, H'⟩
end
section
variable {P : Program}
def CallsDL (P : Program) (f : Nat) (S : FL) (u u' : FrameMode) (F : S.inT -> Option S.outT) : Prop :=
 ∀ (us : List Value) (x : S.inT) (y : S.outT) (w : World) (fp : FP) (β : Nat -> Value), us.length = S.n -> fp.dfs = [] -> F x = some y ->
  Rel P w fp us.length β (S.inp.enc x) { tmps := us.toArray, defers := [] } w ->
  CallsD P f us.toArray u w fun e u2 w' => u2 = u' ∧ EndL P S fp w y e w'
theorem wpOpsS_step {ops : Array Oper} {Q : Exit -> Act -> List Frame -> World -> Prop} {i : Nat} {rest : List Nat} {o : Oper} {a : Act} {cs : List Frame} {w : World} (ho : ops[i]? = some o) (hg : Region.wanted o (yielded ops a.tmps) = true)
  (h : o.wp P a w (fun a' w' => wpOpsS P ops Q rest a' cs w') (fun e a' w' => Q e a' cs w')) : wpOpsS P ops Q (i :: rest) a cs w := by
 unfold Oper.wp at h
 simp only [wpOpsS, ho, hg, if_true]
 split
 ·rename_i w' hr; rw [hr] at h; exact h.elim
 ·exact h
theorem wpOpsS_rec {ops : Array Oper} {Q : Exit -> Act -> List Frame -> World -> Prop} {i : Nat} {rest : List Nat} {o : Oper} {a : Act} {cs cs' : List Frame} {w : World} {v : Value} (ho : ops[i]? = some o) (hg : Region.wanted o (yielded ops a.tmps) = true)
  (hr : (execOp a.eval o).run P w = .ok .recover w) (hc : recoverD cs = some (v, cs') ∨ (recoverD cs = none ∧ v = .nilIface ∧ cs' = cs)) (h : wpOpsS P ops Q rest (a.put o.dst v) cs' w) : wpOpsS P ops Q (i :: rest) a cs w := by
 simp only [wpOpsS, ho, hg, if_true, hr]
 rcases hc with hc | ⟨hc, rfl, rfl⟩
 ·rw [hc]; exact h
 ·rw [hc]; exact h
theorem wanted_none {o : Oper} {y : Nat -> Option Bool} (h : o.guard = none) : Region.wanted o y = true := by simp [Region.wanted, h]
theorem recoverD_pan {c₀ : Frame} {cs : List Frame} {v : Value} (h : c₀.mode = .panicking [{ v := v, recovered := false }]) :
  recoverD (c₀ :: cs) = some (v, { c₀ with mode := .panicking [{ v := v, recovered := true }] } :: cs) := by
 simp only [recoverD, h]
theorem recoverD_ret {c₀ : Frame} {cs : List Frame} (h : c₀.mode = .returning) : recoverD (c₀ :: cs) = none := by
 simp only [recoverD, h]
def Recovers (u u' : FrameMode) (v : Value) : Prop := (u = .returning ∧ u' = .returning ∧ v = .nilIface) ∨ (u = .panicking [{ v := v, recovered := false }] ∧ u' = .panicking [{ v := v, recovered := true }])
theorem start_act {nt : Nat} {fp : FP} {w : World} {β : Nat -> Value} {st : St} {us : List Value} (hn : us.length ≤ nt) (hio : nt ≤ ioN) {dfs : List Deferred} (R : Rel P w fp us.length β st { tmps := us.toArray, defers := dfs } w) :
  Rel P w ⟨fp.anc, fp.hb, []⟩ nt β st { tmps := us.toArray ++ Array.replicate (nt - us.toArray.size) undef, defers := [] } w := by
 refine R.act (nt' := nt) (env := st.env) (dfs := []) rfl (by simp; omega) hio (fun t av ht => ?_)
 have h1 := R.env t av ht
 have h2 : (us.toArray ++ Array.replicate (nt - us.toArray.size) undef).getD t undef = us.toArray.getD t undef := by
  rw [Array.getD_eq_getD_getElem?, Array.getD_eq_getD_getElem?]
  by_cases ht : t < us.length
  ·rw [Array.getElem?_append_left (by simpa using ht)]
  ·rw [Array.getElem?_append_right (by simp; omega), Array.getElem?_replicate]
   rw [Array.getElem?_eq_none (xs := us.toArray) (by simp; omega)]
   split <;> rfl
 show AVRel _ _ _ _ ((us.toArray ++ Array.replicate (nt - us.toArray.size) undef).getD t undef)
 rw [h2]
 exact h1
def cloF (T : Tab) (E : Nat -> Option Ent) (nt : Nat) (S : FL) (ops : Array Oper) (t0 : Nat) (o1 : Oper) (rest : Code) (ann : Ann) (v : Value) (x : S.inT) : Option S.outT :=
 execOps T E nt ops [o1] { env := upd (S.inp.enc x).env t0 (some (.c (.val v))), heap := (S.inp.enc x).heap } [] (fun st' _ => exec T E nt rest ann (finL T S) st') (fun _ _ _ _ _ => none)
theorem clo_callsDL (C : Ctx P) {g : Nat} {fn : Func} {id : Nat} {ops : Array Oper} {rest : Code} {o0 o1 : Oper} {t0 : Nat} {S : FL} {F : S.inT -> Option S.outT} {ann : Ann} {u u' : FrameMode} {v : Value}
  (hf : P.funcs[g]? = some fn) (hb : fn.body = some (.seq (.region id ops false) rest)) (hs : List.range ops.size = [0, 1]) (h0 : ops[0]? = some o0) (h1 : ops[1]? = some o1) (hg0 : o0.guard = none) (hg1 : o1.guard = none)
  (hd0 : o0.dst = some t0) (ht0 : Nat.blt t0 fn.ntmps = true) (hrec : ∀ (a : Act) (w : World), (execOp a.eval o0).run P w = .ok .recover w)
  (hres : fn.results.toList = S.res) (hnt : (Nat.ble S.n fn.ntmps && Nat.ble fn.ntmps ioN && Nat.ble S.res.length ioN) = true) (hoc : closedOuts S.outs = true) (hA : AnnOk P fn.ntmps rest ann) (hu : Recovers u u' v)
  (heq : ∀ x, cloF C.T C.E fn.ntmps S ops t0 o1 rest ann v x = F x) : CallsDL P g S u u' F := by
 intro us x y w fp β hlen hdfs hF R
 rw [Bool.and_eq_true, Bool.and_eq_true] at hnt
 obtain ⟨⟨hnt, hio⟩, hrio⟩ := hnt
 have hnt := nble.1 hnt
 have hio := nble.1 hio
 have hfp : fp = ⟨fp.anc, fp.hb, []⟩ := by cases fp; simp only at hdfs; subst hdfs; rfl
 have e := heq x
 rw [hF] at e
 unfold cloF at e
 have R0 := start_act (nt := fn.ntmps) (by omega) hio R
 rw [<- hfp] at R0
 have R1 := R0.pure (dst := some t0) (av := .c (.val v)) (v := v) (hr := []) ht0 (by simp only [AVRel, CVRel])
 refine callsD_of_wpS hf hb ?_
 intro c₀ cs hu0
 refine wpS_seq (wpS_region ?_)
 rw [hs]
 refine wpOpsS_rec (v := v) (cs' := { c₀ with mode := u' } :: cs) h0 (wanted_none hg0) (hrec _ _) ?_ ?_
 ·rcases hu with ⟨rfl, rfl, rfl⟩ | ⟨rfl, rfl⟩
  ·refine .inr ⟨recoverD_ret hu0, rfl, ?_⟩
   rw [<- hu0]
  ·exact .inl (recoverD_pan hu0)
 obtain ⟨hd, δ, hst, hend⟩ := execOps_cons C e
 have hend : NoPan δ ∧ exec C.T C.E fn.ntmps rest ann (finL C.T S) ({ env := upd (S.inp.enc x).env t0 (some (.c (.val v))), heap := (S.inp.enc x).heap : St }.app o1.dst δ) = some y := by
  rcases hend with h2 | ⟨_, _, _, h2⟩
  ·exact h2
  ·cases h2
 obtain ⟨hnp, h2⟩ := hend
 have hacts : Acts C o1 { env := upd (S.inp.enc x).env t0 (some (.c (.val v))), heap := (S.inp.enc x).heap } δ := by
  cases hst with
  | run δ hw ha =>
   unfold WantsR at hw
   rw [hg1] at hw
   exact ha
  | skip hw =>
   unfold WantsR at hw
   rw [hg1] at hw
   cases hw
 refine wpOpsS_step h1 (wanted_none hg1) ?_
 rw [hd0]
 refine acts_wp C hacts hd R1 ?_ (fun t n h => absurd h (hnp t n))
 rintro - a' w' ⟨β', R2⟩
 show rest.wpS P _ a' _ w'
 refine wpS_of_wp ?_
 refine wp_mono (rest_callsL C hres hrio hoc hA hdfs h2 R2) ?_
 intro e a w'' h
 cases e with
 | normal => exact ⟨h.1, u', rfl, h.2.elim fun v h => ⟨v, h.1, rfl, h.2⟩⟩
 | ret => exact ⟨h.1, u', rfl, h.2.elim fun v h => ⟨v, h.1, rfl, h.2⟩⟩
 | panic ch => exact ⟨h.1, u', rfl, rfl, h.2⟩
 | outgrown => exact ⟨u', rfl, h⟩
 | exit i => exact h.elim
 | goto l => exact h.elim
end
end Go.Abs
namespace Go.Abs
universe u
open Go.RowKit
def unres : Nat -> AV -> List AV
 | 1, a => [a]
 | _, .tup l => l
 | _, _ => []
def cellPtr (st : St) (c : Nat) : Option Nat :=
 match st.env c with
 | some (.c (.ptr q base none _)) => bif Nat.beq base 0 then (match st.heap q with | some (.cells _) => some q | _ => none) else none
 | _ => none
def tied (st0 st : St) (cs : List Nat) : Bool := cs.all fun c => match cellPtr st0 c, cellPtr st c with | some q, some q' => Nat.beq q q' | _, _ => false
def slotsOf (st : St) : List Nat -> Option (List AV)
 | [] => some []
 | c :: cs => (match st.env c, slotsOf st cs with | some a, some l => some (a :: l) | _, _ => none)
def slotsK (st : St) (kn : List Nat) : List Nat -> Option (List AV)
 | [] => some []
 | c :: cs => (match (bif memB c kn then st.env c else some (.c (.val undef))), slotsK st kn cs with | some a, some l => some (a :: l) | _, _ => none)
def slotK (a : Act) (kn : List Nat) (c : Nat) : Value := bif memB c kn then a.tmps.getD c undef else undef
def goD (T : Tab) (S : FL) (cs : List Nat) (st0 : St) (ent : Ent) (st : St) : Option S.outT :=
 bif tied st0 st cs then (match slotsOf st cs with
  | some l => ent.k 0 l st.heap (fun δ => match δ.av with | .pan _ _ => none | _ => finL T S .ret (st.app none δ))
  | none => none) else none
def finD (T : Tab) (S : FL) (cs : List Nat) (st0 : St) (entR : Ent) (pt : Nat) (entP : Int -> Ent) (e : AExit) (st : St) : Option S.outT :=
 match e with
 | .normal => goD T S cs st0 entR st
 | .ret => goD T S cs st0 entR st
 | .panic t n => bif Nat.beq t pt then goD T S cs st0 (entP n) st else none
 | .exit _ => none
theorem leaves_mono {P : Program} {fn : Func} {tmps : Array Value} {R R' : Ending -> World -> Prop} (h : ∀ e w, R e w -> R' e w) : ∀ {ds : List Deferred} {u : FrameMode} {w : World}, Leaves P fn tmps R ds u w -> Leaves P fn tmps R' ds u w := by
 intro ds
 induction ds with
 | nil =>
  intro u w H
  cases u with
  | run => exact H.elim
  | returning => obtain ⟨v, h1, h2⟩ := H; exact ⟨v, h1, h _ _ h2⟩
  | panicking ch => exact h _ _ H
 | cons d ds ih =>
  intro u w H
  obtain ⟨hu, fv, cap, f, args, h1, h2, h3⟩ := H
  refine ⟨hu, fv, cap, f, args, h1, h2, h3.mono ?_⟩
  intro e u' w' h4
  cases e with
  | returned v => exact ih h4
  | panicked ch => exact ih h4
  | outgrown => exact h _ _ h4
section
variable {P : Program} (C : Ctx P) {w0 : World} {fp : FP} {nt : Nat} {β : Nat -> Value} {st : St} {a : Act} {w : World}
theorem slotsOf_rel (R : Rel P w0 fp nt β st a w) : ∀ {cs : List Nat} {l : List AV}, slotsOf st cs = some l -> AVsRel st.heap β w l (cs.map fun c => a.tmps.getD c undef) := by
 intro cs
 induction cs with
 | nil => intro l e; cases e; simp only [List.map_nil, AVsRel]
 | cons c cs ih =>
  intro l e
  simp only [slotsOf] at e
  split at e
  ·rename_i av l' h1 h2
   cases e
   simp only [List.map_cons, AVsRel]
   exact ⟨_, _, rfl, R.env c av h1, ih h2⟩
  ·cases e
theorem slotsK_rel (R : Rel P w0 fp nt β st a w) {kn : List Nat} : ∀ {cs : List Nat} {l : List AV}, slotsK st kn cs = some l -> AVsRel st.heap β w l (cs.map (slotK a kn)) := by
 intro cs
 induction cs with
 | nil => intro l e; cases e; simp only [List.map_nil, AVsRel]
 | cons c cs ih =>
  intro l e
  simp only [slotsK] at e
  split at e
  ·rename_i av l' h1 h2
   cases e
   simp only [List.map_cons, AVsRel]
   refine ⟨_, _, rfl, ?_, ih h2⟩
   unfold slotK
   cases hb : memB c kn with
   | true => rw [hb] at h1; exact R.env c av h1
   | false => rw [hb] at h1; cases h1; simp only [AVRel, CVRel, cond_false]
  ·cases e
theorem cellPtr_rel (R : Rel P w0 fp nt β st a w) {c q : Nat} (h : cellPtr st c = some q) : ∃ b segs, a.tmps.getD c undef = .pointer (some ⟨b, 0, none⟩) ∧ β q = .pointer (some ⟨b, 0, none⟩) ∧ st.heap q = some (.cells segs) := by
 unfold cellPtr at h
 split at h
 ·rename_i q' base room he
  obtain ⟨h1, h2⟩ := cond_some h
  have h1 := nbeq.1 h1
  split at h2
  ·rename_i segs hs
   cases h2
   have := R.env c _ he
   simp only [AVRel, CVRel] at this
   obtain ⟨g, hg, hp⟩ := this
   rw [hs] at hg
   cases hg
   obtain ⟨b, e1, e2, _⟩ := hp
   subst h1
   exact ⟨b, segs, by rw [e2]; rfl, e1, hs⟩
  ·cases h2
 ·cases h
theorem tied_rel {w1 w' : World} {fp : FP} {β β' : Nat -> Value} {st0 st : St} {a a' : Act} (R : Rel P w1 fp nt β st0 a w) (R' : Rel P w1 fp nt β' st a' w') (hanc : ∀ q g, st0.heap q = some g -> fp.anc q = some (β q)) {cs : List Nat} (h : tied st0 st cs = true) :
  cs.map (fun c => a'.tmps.getD c undef) = cs.map (fun c => a.tmps.getD c undef) := by
 refine List.map_congr_left fun c hc => ?_
 simp only [tied, List.all_eq_true] at h
 have := h c hc
 split at this
 ·rename_i q q' h1 h2
  have e := nbeq.1 this
  subst e
  obtain ⟨b, segs, e1, e2, e3⟩ := cellPtr_rel R h1
  obtain ⟨b', segs', e4, e5, e6⟩ := cellPtr_rel R' h2
  have := R'.anc q (β q) _ (hanc q _ e3) e6 trivial
  rw [this, e2] at e5
  rw [e1, e4]
  exact e5.symm
 ·cases this
theorem go_leaves {g : Nat} {fnc : Func} {cc : Code} {SC : FL} {FC : SC.inT -> Option SC.outT} {u u' : FrameMode} (hu : u ≠ .run) (hset : settle u' = .returning) (hfc : P.funcs[g]? = some fnc) (hname : (fnc.name == "runtime.NumGoroutine") = false) (hbc : fnc.body = some cc)
  (hokC : okL SC = true) (hC : CallsDL P g SC u u' FC) {S : FL} {fn : Func} (hres : fn.results.toList = S.res) (hrio : Nat.ble S.res.length ioN = true) (hoc : closedOuts S.outs = true) {y : S.outT} {w1 : World} {cs : List Nat} {st0 : St} {β0 : Nat -> Value} {a0 : Act} {wa : World} {vs : List Value} {d : Deferred}
  (hvs : vs = cs.map fun c => a0.tmps.getD c undef) (hdd : d = { target := .fn (.func g) vs.toArray, args := #[] }) (hnt : Nat.blt 0 nt = true)
  (R0 : Rel P w1 fp nt β0 st0 a0 wa) (hanc : ∀ q g, st0.heap q = some g -> fp.anc q = some (β0 q)) (R : Rel P w1 fp nt β st a w) (h : goD C.T S cs st0 (funEntL SC false FC) st = some y) :
  Leaves P fn a.tmps (EndL P S ⟨fp.anc, fp.hb, []⟩ w1 y) [d] u w := by
 unfold goD at h
 obtain ⟨ht, h⟩ := cond_some h
 have htie := tied_rel R0 R hanc ht
 split at h
 ·rename_i l hl
  have hrel := slotsOf_rel R hl
  rw [htie, <- hvs] at hrel
  have hnat := (fun (ρ : Type) (k : Delta -> Option ρ) => (show (funEntL SC false FC).k 0 l st.heap k = ((funEntL SC false FC).k 0 l st.heap some).bind k from by
   simp only [funEntL]
   cases Nat.beq l.length SC.n with
   | false => rfl
   | true =>
    simp only [cond_true]
    cases SC.inp.decN (callSt l st.heap) (rhoOf (nmL SC l st.heap)) (nilOf (nmL SC l st.heap)) with
    | none => rfl
    | some p =>
     obtain ⟨x, gs⟩ := p
     simp only
     cases FC x with
     | none => rfl
     | some y => exact leaveK_nat))
  rw [hnat] at h
  cases hδ : (funEntL SC false FC).k 0 l st.heap some with
  | none => rw [hδ] at h; cases h
  | some δ =>
   rw [hδ] at h
   simp only [Option.bind_some] at h
   obtain ⟨hln, x, gs, yC, h1, h2, h3⟩ := funEntL_inv hδ
   obtain ⟨lay, s, hw, h4, h5, h6, h7, h8⟩ := leaveK_inv h3
   obtain ⟨fpC, βc, En⟩ := enter R hokC hrel hln h1
   have hcall := hC vs x yC w fpC βc (by have := (avs_get hrel).1; omega) En.dfs h2 En.rel
   rw [hdd]
   refine leaves_cons (f := g) (args := vs.toArray) hu ?_ (hcall.mono ?_)
   ·show (callFunc g (#[] ++ vs.toArray)).run P w = _
    rw [MuLone.run_callFunc_enter hfc hname hbc]
    simp
   ·rintro e u2 w' ⟨rfl, βo, rs, Ro, rfl, hlen⟩
    rw [h5] at Ro
    obtain ⟨β'', hN, hO, hL⟩ := leave R En (d := 0) hnt h4 Ro
    obtain ⟨av, hw', hr⟩ := δ
    simp only at h6 h7 h8
    subst h6
    rcases h8 with ⟨p, n, h9, rfl⟩ | ⟨h9, res, h10, rfl⟩
    ·simp only at h; cases h
    ·rw [h9]
     simp only [endOf]
     show Leaves P fn a.tmps _ [] (settle u2) w'
     rw [hset]
     have hfin : finL C.T S .ret (st.app none ⟨resAV res, hw', hr⟩) = some y := by
      simp only at h
      split at h
      ·cases h
      ·exact h
     simp only [finL] at hfin
     split at hfin
     ·rename_i l2 hl2
      have R2 : Rel P w1 fp nt β'' (st.app none ⟨resAV res, hw', hr⟩) a w' := hL none (.c (.val undef)) undef rfl (by simp only [AVRel, CVRel])
      have hl3 := resAVs_length hl2
      rw [<- hres] at hl2
      obtain ⟨vs2, h11, h12⟩ := run_results C R2 hl2
      obtain ⟨h13, h14⟩ := avs_get h12
      have R3 : Rel P w1 ⟨fp.anc, fp.hb, []⟩ vs2.length β'' { env := fun i => l2[i]?, heap := (st.app none ⟨resAV res, hw', hr⟩).heap } { tmps := vs2.toArray, defers := [] } w' :=
       R2.act rfl (by simp) (by rw [<- h13, hl3]; exact nble.1 hrio) (fun t av ht => h14 t av ht)
      obtain ⟨h15, h16⟩ := decOut_spec (P := P) (w0 := w1) (fp := ⟨fp.anc, fp.hb, []⟩) (nt := vs2.length) (a := { tmps := vs2.toArray, defers := [] }) (w := w') hoc hfin
      obtain ⟨β2, R4⟩ := h16 ⟨_, R3⟩
      exact ⟨_, h11, β2, vs2, R4, by rw [h15]; rfl, fun _ => by omega⟩
     ·cases hfin
 ·cases h
end
def VS.lt (p : Nat -> Bool) : VS -> Bool
 | .env t _ => p t
 | .reg _ _ => true
def slotsLt (l : Lay) (p : Nat -> Bool) : Bool := (l.fix.all fun x => p x.1) && l.vars.all (VS.lt p)
theorem fixEnvs_lt {p : Nat -> Bool} : ∀ {l : List (Nat × CS)}, (∀ x ∈ l, p x.1 = true) -> ∀ x ∈ fixEnvs l, p x.1 = true := by
 intro l
 induction l with
 | nil => intro _ p hp; simp [fixEnvs] at hp
 | cons q r ih =>
  obtain ⟨t, s⟩ := q
  intro H x hx
  simp only [fixEnvs] at hx
  split at hx
  ·rcases List.mem_cons.1 hx with rfl | hx
   ·exact H (t, s) (by simp)
   ·exact ih (fun p hp => H p (by simp [hp])) x hx
  ·exact ih (fun p hp => H p (by simp [hp])) x hx
theorem varsEnvs_lt {p : Nat -> Bool} : ∀ {l : List VS} {x : varsT l}, (∀ v ∈ l, v.lt p = true) -> ∀ y ∈ varsEnvs l x, p y.1 = true := by
 have one : ∀ {v : VS} {x : v.T} {l : List (Nat × AV)}, v.lt p = true -> (∀ y ∈ l, p y.1 = true) -> ∀ y ∈ v.envs x l, p y.1 = true := by
  intro v x l h H y hy
  cases v with
  | env t s =>
   simp only [VS.envs] at hy
   rcases List.mem_cons.1 hy with rfl | hy
   ·exact h
   ·exact H y hy
  | reg q s => exact H y hy
 intro l
 induction l with
 | nil => intro x _ p hp; simp [varsEnvs] at hp
 | cons v r ih =>
  intro x H
  cases r with
  | nil => exact one (H v (by simp)) (fun p hp => by simp at hp)
  | cons w r => exact one (H v (by simp)) (ih fun u hu => H u (by simp only [List.mem_cons] at hu ⊢; exact .inr hu))
theorem slotsLt_spec {l : Lay} {p : Nat -> Bool} (h : slotsLt l p = true) {x : l.T} {t : Nat} {av : AV} (ht : (l.enc x).env t = some av) : p t = true := by
 simp only [slotsLt, Bool.and_eq_true, List.all_eq_true] at h
 have hm : (t, av) ∈ fixEnvs l.fix ++ varsEnvs l.vars x := ofL_mem ht
 rcases List.mem_append.1 hm with hm | hm
 ·exact fixEnvs_lt (fun y hy => h.1 y hy) (t, av) hm
 ·exact varsEnvs_lt h.2 (t, av) hm
section
variable {P : Program}
def midF (S SM : FL) (kn : List Nat) (tc : Nat) (FM : SM.inT -> Option SM.outT) (st : St) : Option S.outT :=
 match slotsK st kn (List.range SM.n) with
 | some l => (funEntL SM false FM).k tc l st.heap (fun δ => match δ.av with | .pan _ _ => none | av => decOut .ret { env := fun i => (unres SM.res.length av)[i]?, heap := heapPut st.heap δ.hw } S.outs)
 | none => none
def deferF (T : Tab) (E : Nat -> Option Ent) (nt : Nat) (A : Code) (ann : Ann) (S SM : FL) (kn : List Nat) (tc : Nat) (FM : SM.inT -> Option SM.outT) (x : S.inT) : Option S.outT :=
 exec T E nt A ann (fun e st => match e with | .normal => midF S SM kn tc FM st | _ => none) (S.inp.enc x)
theorem unres_res : ∀ {l : List AV}, unres l.length (resAV l) = l := by
 intro l
 match l with
 | [] => rfl
 | [a] => rfl
 | a :: b :: r => rfl
structure CloOk (P : Program) (g : Nat) (SC : FL) (pt : Nat) (FR : SC.inT -> Option SC.outT) (FPn : Int -> SC.inT -> Option SC.outT) : Prop where
 ret : CallsDL P g SC .returning .returning FR
 pan : ∀ n, CallsDL P g SC (.panicking [{ v := .iface pt (.agg #[.int .i64 n]), recovered := false }]) (.panicking [{ v := .iface pt (.agg #[.int .i64 n]), recovered := true }]) (FPn n)
theorem defer_callsL (C : Ctx P) {f g : Nat} {fn fnc : Func} {A rest cc : Code} {id : Nat} {ops : Array Oper} {o0 o1 : Oper} {tc pt : Nat} {cs kn : List Nat} {S SM SC : FL} {annA ann : Ann} {FR : SC.inT -> Option SC.outT} {FPn : Int -> SC.inT -> Option SC.outT} {FM : SM.inT -> Option SM.outT} {F : S.inT -> Option S.outT}
  (hf : P.funcs[f]? = some fn) (hb : fn.body = some (.seq A (.seq (.region id ops false) rest))) (hs : List.range ops.size = [0, 1]) (h0 : ops[0]? = some o0) (h1 : ops[1]? = some o1) (hg0 : o0.guard = none) (hg1 : o1.guard = none)
  (hd0 : o0.dst = some tc) (hd1 : o1.dst = none) (htc : (Nat.ble SM.n tc && Nat.blt tc fn.ntmps && Nat.blt 0 fn.ntmps && cs.all fun c => Nat.blt c SM.n) = true)
  (hmk : ∀ (a : Act) (w : World), (execOp a.eval o0).run P w = .ok (.value (.func (.func g) #[] (cs.map fun c => a.tmps.getD c undef).toArray)) w)
  (hdf : ∀ (a : Act) (w : World) (vs : Array Value), a.tmps.getD tc undef = .func (.func g) #[] vs -> (execOp a.eval o1).run P w = .ok (.defer { target := .fn (.func g) vs, args := #[] }) w)
  (hfc : P.funcs[g]? = some fnc) (hname : (fnc.name == "runtime.NumGoroutine") = false) (hbc : fnc.body = some cc) (hokC : okL SC = true) (hC : CloOk P g SC pt FR FPn)
  (hres : fn.results.toList = S.res) (hresM : SM.res = S.res) (hnt : (Nat.ble S.n fn.ntmps && Nat.ble fn.ntmps ioN && Nat.ble S.res.length ioN) = true) (hoc : closedOuts S.outs = true) (hocM : closedOuts SM.outs = true) (hokM : okL SM = true) (hslM : slotsLt SM.inp (fun t => memB t kn && Nat.blt t SM.n) = true) (hA1 : AnnOk P fn.ntmps A annA) (hA2 : AnnOk P fn.ntmps rest ann)
  (hM : ∀ x, exec C.T C.E fn.ntmps rest ann (finD C.T SM cs (SM.inp.enc x) (funEntL SC false FR) pt (fun n => funEntL SC false (FPn n))) (SM.inp.enc x) = FM x)
  (heq : ∀ x, deferF C.T C.E fn.ntmps A annA S SM kn tc FM x = F x) : CallsL P f S F := by
 intro us x y w fp β hlen hdfs hF R
 rw [Bool.and_eq_true, Bool.and_eq_true] at hnt
 obtain ⟨⟨hnt, hio⟩, hrio⟩ := hnt
 have hnt := nble.1 hnt
 have hio := nble.1 hio
 simp only [Bool.and_eq_true, List.all_eq_true, nble, nblt] at htc
 obtain ⟨⟨⟨htc1, htc2⟩, htc3⟩, hcs⟩ := htc
 have hfp : fp = ⟨fp.anc, fp.hb, []⟩ := by cases fp; simp only at hdfs; subst hdfs; rfl
 have e := heq x
 rw [hF] at e
 unfold deferF at e
 have R0 := start_act (nt := fn.ntmps) (by omega) hio R
 rw [<- hfp] at R0
 refine calls_of_wp_defers hf hb (wp_seq ?_)
 refine exec_sound C fn.ntmps e hA1 ⟨_, R0⟩ ?_
 intro ex st a1 w1 h2 hp
 have h2' : ex = .normal ∧ midF S SM kn tc FM st = some y := by
  cases ex <;> first | exact ⟨rfl, h2⟩ | (cases h2; done)
 obtain ⟨rfl, h2⟩ := h2'
 obtain ⟨β1, R1⟩ := hp
 show (Code.seq (.region id ops false) rest).wp P _ a1 w1
 unfold midF at h2
 cases hl : slotsK st kn (List.range SM.n) with
 | none => rw [hl] at h2; cases h2
 | some l =>
  rw [hl] at h2
  simp only at h2
  have hnat := (fun (ρ : Type) (k : Delta -> Option ρ) => (show (funEntL SM false FM).k tc l st.heap k = ((funEntL SM false FM).k tc l st.heap some).bind k from by
   simp only [funEntL]
   cases Nat.beq l.length SM.n with
   | false => rfl
   | true =>
    simp only [cond_true]
    cases SM.inp.decN (callSt l st.heap) (rhoOf (nmL SM l st.heap)) (nilOf (nmL SM l st.heap)) with
    | none => rfl
    | some p =>
     obtain ⟨x, gs⟩ := p
     simp only
     cases FM x with
     | none => rfl
     | some y => exact leaveK_nat))
  rw [hnat] at h2
  cases hδ : (funEntL SM false FM).k tc l st.heap some with
  | none => rw [hδ] at h2; cases h2
  | some δ =>
  rw [hδ] at h2
  simp only [Option.bind_some] at h2
  have hrel := slotsK_rel R1 hl
  generalize hvsM : (List.range SM.n).map (slotK a1 kn) = usM at hrel
  obtain ⟨hln, xM, gs, yM, h3, h4, h5⟩ := funEntL_inv hδ
  obtain ⟨lay, s, hw, h6, h7, h8, h9, h10⟩ := leaveK_inv h5
  obtain ⟨fpC, βc, En⟩ := enter R1 hokM hrel hln h3
  have hsz : a1.tmps.size = fn.ntmps := R1.size
  have hkey : ∀ t av, (SM.inp.enc xM).env t = some av -> memB t kn = true ∧ t < SM.n := fun t av ht => by
   have := slotsLt_spec hslM ht
   simp only [Bool.and_eq_true, nblt] at this
   exact this
  have husM : ∀ t, memB t kn = true -> t < SM.n -> usM.toArray.getD t undef = a1.tmps.getD t undef := by
   intro t hk ht
   rw [<- hvsM, Array.getD_eq_getD_getElem?]
   simp [ht, slotK, hk]
  have hvs : ∀ c ∈ cs, (a1.tmps.setIfInBounds tc (.func (.func g) #[] (cs.map fun c => a1.tmps.getD c undef).toArray)).getD c undef = a1.tmps.getD c undef := by
   intro c hc
   have := hcs c hc
   rw [Array.getD_eq_getD_getElem?, Array.getD_eq_getD_getElem?, Array.getElem?_setIfInBounds_ne (by omega)]
  let d : Deferred := { target := .fn (.func g) (cs.map fun c => a1.tmps.getD c undef).toArray, args := #[] }
  let a2 : Act := { tmps := a1.tmps.setIfInBounds tc (.func (.func g) #[] (cs.map fun c => a1.tmps.getD c undef).toArray), defers := [d] }
  have R2 : Rel P w1 ⟨fpC.anc, fpC.hb, [d]⟩ fn.ntmps βc (SM.inp.enc xM) a2 w1 := by
   refine En.rel.act (dfs := [d]) rfl (by simp [a2, hsz]) hio (fun t av ht => ?_)
   have h11 := En.rel.env t av ht
   obtain ⟨hkn, htn⟩ := hkey t av ht
   have : a2.tmps.getD t undef = usM.toArray.getD t undef := by
    rw [husM t hkn htn]
    show (a1.tmps.setIfInBounds tc _).getD t undef = _
    rw [Array.getD_eq_getD_getElem?, Array.getD_eq_getD_getElem?, Array.getElem?_setIfInBounds_ne (by omega)]
   rw [this]
   exact h11
  have hanc : ∀ q g, (SM.inp.enc xM).heap q = some g -> fpC.anc q = some (βc q) := fun q g hg => En.anc q (reg_keysOf (ofL_mem hg))
  have hM' := hM xM
  rw [h4] at hM'
  have hdef1 : a1.defers = [] := R1.defers.trans hdfs
  refine wp_seq (wp_region ?_)
  rw [hs]
  refine wpOps_val h0 (wanted_none hg0) (hmk a1 w1) ?_
  rw [hd0]
  have hput : a1.put (some tc) (.func (.func g) #[] (cs.map fun c => a1.tmps.getD c undef).toArray) = { tmps := a2.tmps, defers := [] } := by
   simp only [Act.put, a2]
   rw [hdef1]
  rw [hput]
  have hcl : (Act.mk a2.tmps []).tmps.getD tc undef = .func (.func g) #[] (cs.map fun c => a1.tmps.getD c undef).toArray := by
   show (a1.tmps.setIfInBounds tc _).getD tc undef = _
   rw [Array.getD_eq_getD_getElem?, Array.getElem?_setIfInBounds_self_of_lt (by omega)]
   rfl
  simp only [wpOps, h1, wanted_none hg1, if_true]
  left
  unfold Oper.wp
  rw [hdf _ _ _ hcl, Oper.upon_defer, hd1]
  show rest.wp P _ a2 w1
  have hback : ∀ e w', EndL P SM ⟨fpC.anc, fpC.hb, []⟩ w1 yM e w' -> EndL P S fp w y e w' := by
   have hfpC : (⟨fpC.anc, fpC.hb, []⟩ : FP) = fpC := by have := En.dfs; cases fpC; simp only at this; subst this; rfl
   rw [hfpC]
   rintro e w' ⟨βo, vs, Ro, rfl, hlen'⟩
   rw [h7] at Ro
   obtain ⟨β'', hN, hO, hL⟩ := leave R1 En (d := tc) (nblt.2 htc2) h6 Ro
   obtain ⟨av, hw', hr⟩ := δ
   simp only at h8 h9 h10
   subst h8
   rcases h10 with ⟨p, n, h11, rfl⟩ | ⟨h11, res, h12, rfl⟩
   ·simp only at h2; cases h2
   ·rw [h11] at hlen' ⊢
    have hvl := hlen' (fun t n h => by cases h)
    obtain ⟨hrl, hrr⟩ := res_rel hN hO (vs := vs) (fun i av hi => Ro.env i av hi) h12
    have hdec : decOut .ret { env := fun i => res[i]?, heap := heapPut st.heap hw' } S.outs = some y := by
     have e3 : unres SM.res.length (resAV res) = res := by rw [<- hrl]; exact unres_res
     have hnp := resAV_nopan (resOf_plain h12)
     simp only at h2
     rw [e3] at h2; exact h2
    have RL := hL none (.c (.val undef)) undef rfl (by simp only [AVRel, CVRel])
    have R3 : Rel P w fp vs.length β'' { env := fun i => res[i]?, heap := heapPut st.heap hw' } { tmps := vs.toArray, defers := [] } w' := by
     rw [hfp]
     refine RL.act rfl (by simp) (by rw [hvl, hresM]; exact nble.1 hrio) (fun t av ht => ?_)
     have := hrr t av ht
     rw [Nat.zero_add] at this
     exact this
    obtain ⟨h15, h16⟩ := decOut_spec (P := P) (w0 := w) (fp := fp) (nt := vs.length) (a := { tmps := vs.toArray, defers := [] }) (w := w') hoc hdec
    obtain ⟨β2, R4⟩ := h16 ⟨_, R3⟩
    exact ⟨β2, vs, R4, by rw [h15], fun _ => by rw [hvl, hresM]⟩
  have hvsM : ∀ vs : List Value, vs = cs.map (fun c => a1.tmps.getD c undef) -> vs = cs.map fun c => a2.tmps.getD c undef := by
   rintro vs rfl
   exact List.map_congr_left fun c hc => (hvs c hc).symm
  refine exec_sound C fn.ntmps hM' hA2 ⟨_, R2⟩ ?_
  intro ex st' a' w' h13 hp'
  obtain ⟨β', R'⟩ := hp'
  have hdd : a'.defers = [d] := R'.defers
  have hret : goD C.T SM cs (SM.inp.enc xM) (funEntL SC false FR) st' = some yM -> Leaves P fn a'.tmps (EndL P S fp w y) a'.defers .returning w' := by
   intro h
   rw [hdd]
   exact leaves_mono hback (go_leaves C (fp := ⟨fpC.anc, fpC.hb, [d]⟩) (by simp) rfl hfc hname hbc hokC hC.ret (by rw [hres, hresM]) (by rw [hresM]; exact hrio) hocM (hvsM _ rfl) rfl (nblt.2 htc3) R2 hanc R' h)
  cases ex with
  | exit i => cases h13
  | normal => exact hret h13
  | ret => exact hret h13
  | panic t n =>
   simp only [finD] at h13
   obtain ⟨h14, h20⟩ := cond_some h13
   have h14 := nbeq.1 h14
   subst h14
   show Leaves P fn a'.tmps (EndL P S fp w y) a'.defers (.panicking (panChain t n)) w'
   rw [hdd]
   exact leaves_mono hback (go_leaves C (fp := ⟨fpC.anc, fpC.hb, [d]⟩) (by simp [panChain]) rfl hfc hname hbc hokC (hC.pan n) (by rw [hres, hresM]) (by rw [hresM]; exact hrio) hocM (hvsM _ rfl) rfl (nblt.2 htc3) R2 hanc R' h20)
end
end Go.Abs
namespace Go.Abs
universe u
open Go.RowKit
def numI (pt : Nat) : Value -> Option Int
 | .iface t (.agg cs) => bif Nat.beq t pt then (match cs.toList with | [.int .i64 n] => some n | _ => none) else none
 | _ => none
def isNilI : Value -> Bool
 | .nilIface => true
 | _ => false
theorem numI_spec {pt : Nat} {v : Value} {n : Int} (h : numI pt v = some n) : v = .iface pt (.agg #[.int .i64 n]) := by
 unfold numI at h
 split at h
 ·rename_i t cs
  obtain ⟨h1, h2⟩ := cond_some h
  have h1 := nbeq.1 h1
  subst h1
  split at h2
  ·rename_i m hm
   cases h2
   have : cs = #[.int .i64 n] := by apply Array.toList_inj.1; exact hm
   rw [this]
  ·cases h2
 ·cases h
theorem isNilI_spec {v : Value} (h : isNilI v = true) : v = .nilIface := by cases v <;> first | rfl | (cases h; done)
def caughtEnt (pt : Nat) (S : FL) (F : Int -> S.inT -> Option S.outT) : Ent :=
 ⟨fun d l h k => match l with
  | [.c (.val v), b] => (match numI pt v with
   | some n => (funEntL S false (F n)).k d [.c (.val v), b] h k
   | none => bif isNilI v then k ⟨.tup [], [], []⟩ else none)
  | _ => none, false⟩
theorem opAt_all {ops : Array Oper} {i k : Nat} (h : Nat.ble (i + k) ops.size = true) : ∀ j o, ((List.range' i k).map (opAt ops))[j]? = some o -> ops[i + j]? = some o := by
 intro j o hj
 have h := nble.1 h
 rw [List.getElem?_map] at hj
 cases hr : (List.range' i k)[j]? with
 | none => rw [hr] at hj; cases hj
 | some m =>
  rw [hr] at hj
  simp only [Option.map_some, Option.some.injEq] at hj
  obtain ⟨hlt, _⟩ := List.getElem?_eq_some_iff.1 hr
  have hlt : j < k := by simpa using hlt
  rw [List.getElem?_range' hlt] at hr
  simp only [Nat.one_mul, Option.some.injEq] at hr
  subst hr
  have hb : i + j < ops.size := by omega
  rw [<- hj]
  simp [opAt, hb]
theorem avBool {h : Heap} {β : Nat -> Value} {w : World} {b : Bool} {v : Value} (e : v = .bool b) : AVRel h β w (.c (.bool b)) v := by simp only [AVRel, CVRel]; exact e
theorem avNum {h : Heap} {β : Nat -> Value} {w : World} {n : Int} {v : Value} (e : v = .agg #[.int .i64 n]) : AVRel h β w (.agg [.int .i64 n]) v := by
 simp only [AVRel, SegsRel, CVRel]; exact ⟨[.int .i64 n], e, .int .i64 n, [], rfl, rfl, rfl, rfl⟩
theorem noCuts {P : Program} {nt : Nat} {c : Code} : AnnOk P nt c .none := annOk_of_cuts (fun x hx => absurd hx (by show x ∉ ([] : List (List Nat × LEnt)); simp))
theorem avEq {h : Heap} {β : Nat -> Value} {w : World} {av : AV} {v v' : Value} (H : AVRel h β w av v) (e : v' = v) : AVRel h β w av v' := by rw [e]; exact H
theorem wpOps_end {P : Program} {ops : Array Oper} {c : Code} {Q : Exit -> Act -> World -> Prop} {a : Act} {w : World} (h : c.wp P Q a w) : wpOps P ops (Exit.then (c.wp P Q) Q) [] a w := h
theorem defer_run {P : Program} {a : Act} {w : World} {o : Oper} {t g : Nat} {ats : Array TypeId} {vs : Array Value} (hop : o.op = .defer { callee := .value (.tmp t), args := #[], argTypes := ats }) (hv : a.tmps.getD t undef = .func (.func g) #[] vs) :
  (execOp a.eval o).run P w = .ok (.defer { target := .fn (.func g) vs, args := #[] }) w := by
 have ef : a.eval (.tmp t) = .func (.func g) #[] vs := hv
 unfold execOp
 simp [hop, resolve, Deferred.ofValue, ef]
theorem funEntL_nat {S : FL} {fr : Bool} {F : S.inT -> Option S.outT} {ρ : Type} {d : Nat} {l : List AV} {h : HeapT} {k : Delta -> Option ρ} : (funEntL S fr F).k d l h k = ((funEntL S fr F).k d l h some).bind k := by
 simp only [funEntL]
 cases Nat.beq l.length S.n with
 | false => rfl
 | true =>
  simp only [cond_true]
  cases S.inp.decN (callSt l h) (rhoOf (nmL S l h)) (nilOf (nmL S l h)) with
  | none => rfl
  | some p =>
   obtain ⟨x, gs⟩ := p
   simp only
   cases F x with
   | none => rfl
   | some y => exact leaveK_nat
theorem caught_ok {P : Program} {f : Nat} {fn : Func} {c : Code} {pt : Nat} {S : FL} {F : Int -> S.inT -> Option S.outT} (hf : P.funcs[f]? = some fn) (hname : (fn.name == "runtime.NumGoroutine") = false) (hb : fn.body = some c) (hok : okL S = true)
  (Hn : ∀ (n : Int) (pv : Value) (x : S.inT) (y : S.outT) (w : World) (fp : FP) (β : Nat -> Value), F n x = some y -> fp.dfs = [] ->
   Rel P w fp 2 β (S.inp.enc x) { tmps := #[.iface pt (.agg #[.int .i64 n]), pv], defers := [] } w -> Calls P f #[.iface pt (.agg #[.int .i64 n]), pv] w (EndL P S fp w y))
  (H0 : ∀ (pv : Value) (w : World), Calls P f #[.nilIface, pv] w fun e w' => e = .returned (.tuple #[]) ∧ w' = w) : EntOk P f (caughtEnt pt S F) := by
 refine ⟨fun d l h k => ?_, fun h => (by cases h), fun o d l us δ next Q a1 a2 a3 a4 a5 a6 a7 a8 => ?_⟩
 ·simp only [caughtEnt]
  split
  ·split
   ·exact funEntL_nat
   ·cases isNilI _ with
    | true => rfl
    | false => rfl
  ·rfl
 ·rename_i w0 fp nt β st a w
  simp only [caughtEnt] at a6
  split at a6
  ·rename_i v b
   have a2' := a2
   simp only [AVsRel] at a2'
   obtain ⟨v1, r, rfl, hv1, v2, r2, rfl, hv2, rfl⟩ := a2'
   simp only [AVRel, CVRel] at hv1
   subst hv1
   split at a6
   ·rename_i n hn
    have hv := numI_spec hn
    subst hv
    refine call_L hf hname hb hok (fun x y fp' β' h1 h2 h3 => Hn n v2 x y w fp' β' h1 h2 h3) a1 a2 a3 a4 a5 a6 a7 a8
   ·obtain ⟨h1, h2⟩ := cond_some a6
    have hv := isNilI_spec h1
    subst hv
    cases h2
    unfold Oper.wp
    rw [a1, MuLone.run_callFunc_enter hf hname hb, Oper.upon_enter]
    refine (H0 v2 w).mono ?_
    rintro e w' ⟨rfl, rfl⟩
    refine a7 (fun t n h => by cases h) _ _ ⟨β, ?_⟩
    exact a4.pure a5 (by simp only [AVRel]; exact ⟨[], rfl, by simp only [AVsRel]⟩)
  ·cases a6
end Go.Abs
namespace Go.Abs
universe u
open Go.RowKit
def act2 (nt t0 t1 : Nat) (us : List Value) (v : Value) : Act := ({ tmps := us.toArray ++ Array.replicate (nt - us.toArray.size) undef, defers := [] : Act }.put (some t0) v).put (some t1) v
theorem clo_callsDL2 {P : Program} {g : Nat} {fn : Func} {id : Nat} {ops : Array Oper} {rest : Code} {o0 o1 : Oper} {t0 t1 : Nat} {S : FL} {F : S.inT -> Option S.outT} {u u' : FrameMode} {v : Value}
  (hf : P.funcs[g]? = some fn) (hb : fn.body = some (.seq (.region id ops false) rest)) (hs : List.range ops.size = [0, 1]) (h0 : ops[0]? = some o0) (h1 : ops[1]? = some o1) (hg0 : o0.guard = none) (hg1 : o1.guard = none)
  (hd0 : o0.dst = some t0) (hd1 : o1.dst = some t1) (ht0 : Nat.blt t0 fn.ntmps = true) (hrec : ∀ (a : Act) (w : World), (execOp a.eval o0).run P w = .ok .recover w)
  (hasg : ∀ (a : Act) (w : World), (execOp a.eval o1).run P w = .ok (.value (a.tmps.getD t0 undef)) w) (hu : Recovers u u' v)
  (hrest : ∀ (us : List Value) (x : S.inT) (y : S.outT) (w : World) (fp : FP) (β : Nat -> Value), us.length = S.n -> fp.dfs = [] -> F x = some y -> Rel P w fp us.length β (S.inp.enc x) { tmps := us.toArray, defers := [] } w ->
   rest.wp P (bodyPost P fn (EndL P S fp w y)) (act2 fn.ntmps t0 t1 us v) w) : CallsDL P g S u u' F := by
 intro us x y w fp β hlen hdfs hF R
 refine callsD_of_wpS hf hb ?_
 intro c₀ cs hu0
 refine wpS_seq (wpS_region ?_)
 rw [hs]
 refine wpOpsS_rec (v := v) (cs' := { c₀ with mode := u' } :: cs) h0 (wanted_none hg0) (hrec _ _) ?_ ?_
 ·rcases hu with ⟨rfl, rfl, rfl⟩ | ⟨rfl, rfl⟩
  ·refine .inr ⟨recoverD_ret hu0, rfl, ?_⟩
   rw [<- hu0]
  ·exact .inl (recoverD_pan hu0)
 refine wpOpsS_step h1 (wanted_none hg1) ?_
 rw [hd0]
 refine wp_val (hasg _ _) ?_
 have hget : ({ tmps := us.toArray ++ Array.replicate (fn.ntmps - us.toArray.size) undef, defers := [] : Act }.put (some t0) v).tmps.getD t0 undef = v := by
  have hlt : t0 < (us.toArray ++ Array.replicate (fn.ntmps - us.toArray.size) undef).size := by
   have := nblt.1 ht0
   simp
   omega
  simp only [Act.put]
  rw [Array.getD_eq_getD_getElem?, Array.getElem?_setIfInBounds_self_of_lt hlt]
  rfl
 rw [hd1, hget]
 show rest.wpS P _ (act2 fn.ntmps t0 t1 us v) _ w
 refine wpS_of_wp ?_
 refine wp_mono (hrest us x y w fp β hlen hdfs hF R) ?_
 intro e a w'' h
 cases e with
 | normal => exact ⟨h.1, u', rfl, h.2.elim fun v h => ⟨v, h.1, rfl, h.2⟩⟩
 | ret => exact ⟨h.1, u', rfl, h.2.elim fun v h => ⟨v, h.1, rfl, h.2⟩⟩
 | panic ch => exact ⟨h.1, u', rfl, rfl, h.2⟩
 | outgrown => exact ⟨u', rfl, h⟩
 | exit i => exact h.elim
 | goto l => exact h.elim
end Go.Abs
namespace Go.Abs
universe u
open Go.RowKit
section
variable {P : Program}
end
section
variable {P : Program} {w0 : World} {fp : FP} {nt : Nat} {β : Nat -> Value} {st : St} {a : Act} {w : World}
theorem Rel.gone (R : Rel P w0 fp nt β st a w) {dst : Option Nat} (hd : dstOk nt dst = true) {gs : List Nat} {w' : World} {hr : List Nat} (hos : w'.os = w.os) (htape : w'.tape = w.tape) (hout : w'.output = w.output) (hgrow : w.heap.size ≤ w'.heap.size)
  (hgs : ∀ r ∈ gs, ∃ g, st.heap r = some g) (hblk : ∀ b, b < w.heap.size -> (∀ r ∈ gs, ∀ g, st.heap r = some g -> g.live -> ¬ Blk (β r) b) -> w'.heap[b]? = w.heap[b]?) :
  Rel P w0 fp nt β (st.app dst ⟨.tup [], gs.map (fun r => (r, Reg.dead)), hr⟩) (a.put dst (.tuple #[])) w' := by
 have hdead : ∀ (l : List Nat) (h : Heap) r, heapPut h (l.map fun r => (r, Reg.dead)) r = if r ∈ l then some .dead else h r := by
  intro l
  induction l with
  | nil => intro h r; simp [heapPut]
  | cons x l ih =>
   intro h r
   simp only [List.map_cons, heapPut]
   rw [ih]
   by_cases h1 : r ∈ l
   ·simp [h1]
   ·by_cases h2 : r = x
    ·subst h2; simp [h1, upd_same]
    ·simp [h1, h2, upd_ne _ _ h2]
 have look : ∀ r g1, heapPut st.heap (gs.map fun r => (r, Reg.dead)) r = some g1 -> g1.live -> st.heap r = some g1 ∧ r ∉ gs := by
  intro r g1 h1 hl
  rw [hdead] at h1
  split at h1
  ·cases h1; cases hl
  ·rename_i hm; exact ⟨h1, hm⟩
 simp only [St.app]
 refine R.update (β' := β) (w' := w') hd hos htape hout hgrow (fun _ _ => rfl) (fun b hb hno => hblk b hb fun r hr g hg hl hbb => hno ⟨r, g, hg, hl, hbb⟩) ?_ ?_ ?_ ?_ ?_ (fun _ => by simp only [AVRel, AVsRel]; exact ⟨[], rfl, rfl⟩)
 ·rintro b ⟨r, g1, h1, h2, h3⟩
  exact .inl ⟨r, g1, (look r g1 h1 h2).1, h2, h3⟩
 ·intro r g1 h1
  rw [hdead]
  split
  ·exact ⟨.dead, rfl, by cases g1 <;> trivial, fun h => h.elim⟩
  ·exact ⟨g1, h1, .refl g1, fun _ => rfl⟩
 ·intro r g1 hio h1
  rw [hdead] at h1
  split at h1
  ·rename_i hm; exact hgs r hm
  ·exact ⟨g1, h1⟩
 ·intro M r g1 h1
  cases g1 with
  | dead => trivial
  | _ =>
   obtain ⟨h2, h3⟩ := look r _ h1 trivial
   refine (R.heap r _ h2).mono M fun b hb hl => hblk b (OwnR.lt R ⟨r, _, h2, hl, hb⟩) fun r' hr' g' hg' hl' hb' => ?_
   have := R.sep r r' _ g' b h2 hg' hl hl' hb hb'
   subst this
   exact h3 hr'
 ·intro r r' g1 g2 b h1 h2 l1 l2 e1 e2
  exact R.sep r r' g1 g2 b (look r g1 h1 l1).1 (look r' g2 h2 l2).1 l1 l2 e1 e2
theorem segs3 {h : Heap} {x : Int} {q1 q2 : Nat} {l : List Value} (H : SegsRel h β w [.int .u8 x, .full q1, .full q2] l) : ∃ v1 v2, l = [.int .u8 x, v1, v2] ∧ CVRel h β w (.full q1) v1 ∧ CVRel h β w (.full q2) v2 := by
 simp only [SegsRel] at H
 obtain ⟨u0, r0, rfl, _, h0, u1, r1, rfl, _, h1, u2, r2, rfl, _, h2, rfl⟩ := H
 simp only [CVRel] at h0
 subst h0
 exact ⟨u1, u2, rfl, h1, h2⟩
end
end Go.Abs
namespace Go.Abs
universe u
open Go.RowKit
def frzK (h : Nat -> Option Reg) {ρ : Type} (k : Delta -> Option ρ) (δ : Delta) : Option ρ :=
 match δ.av with
  | .tup [.agg [.int .u8 t, .full q1, .full q2], .c (.int .i64 n)] => (match heapPut h δ.hw q1, heapPut h δ.hw q2 with
   | some (.row _ .u8 body), some (.deep _ _ kids) => k ⟨.tup [.agg [.int .u8 t, .fz (.int .u8) body none, .fz .item kids none], .c (.int .i64 n)], δ.hw ++ [(q1, .dead), (q2, .dead)], δ.hr⟩
   | _, _ => none)
  | _ => none
theorem frzK_nat {h : Nat -> Option Reg} {ρ : Type} {k : Delta -> Option ρ} {δ : Delta} : frzK h k δ = (frzK h some δ).bind k := by
 unfold frzK
 split
 ·split <;> rfl
 ·rfl
def frzEnt (e0 : Ent) : Ent := ⟨fun d l h k => e0.k d l h (frzK h k), false⟩
theorem heapPut_append : ∀ (l l' : List (Nat × Reg)) (h : Heap), heapPut h (l ++ l') = heapPut (heapPut h l) l' := by
 intro l
 induction l with
 | nil => intro l' h; rfl
 | cons p l ih => intro l' h; obtain ⟨a, b⟩ := p; simp only [List.cons_append, heapPut]; exact ih _ _
section
variable {P : Program} {w0 : World} {fp : FP} {nt : Nat} {β : Nat -> Value} {st : St} {a : Act} {w : World}
theorem Rel.freeze (R : Rel P w0 fp nt β st a w) {d q1 q2 e' e eb : Nat} {t n : Int} {body : List Int} {kids : List Tree} (hd : st.env d = some (.tup [.agg [.int .u8 t, .full q1, .full q2], .c (.int .i64 n)])) (h1 : st.heap q1 = some (.row e' .u8 body)) (h2 : st.heap q2 = some (.deep e eb kids)) :
  Rel P w0 fp nt β { env := upd st.env d (some (.tup [.agg [.int .u8 t, .fz (.int .u8) body none, .fz .item kids none], .c (.int .i64 n)])), heap := upd (upd st.heap q1 (some .dead)) q2 (some .dead) } a w := by
 have e0 : killH [q1, q2] st.heap = upd (upd st.heap q1 (some .dead)) q2 (some .dead) := by
  funext r
  unfold killH
  by_cases c2 : r = q2
  ·subst c2
   rw [upd_same]
   have : memB r [q1, r] = true := memB_iff.2 (by simp)
   rw [this]; rfl
  ·rw [upd_ne _ _ c2]
   by_cases c1 : r = q1
   ·subst c1
    rw [upd_same]
    have : memB r [r, q2] = true := memB_iff.2 (by simp)
    rw [this]; rfl
   ·rw [upd_ne _ _ c1]
    have : memB r [q1, q2] = false := by
     cases hb : memB r [q1, q2] with
     | false => rfl
     | true => have := memB_iff.1 hb; simp at this; rcases this with h | h <;> contradiction
    rw [this]; rfl
 have K := R.killW [q1, q2]
 rw [e0] at K
 have live : ∀ r g, upd (upd st.heap q1 (some .dead)) q2 (some .dead) r = some g -> g.live -> st.heap r = some g ∧ r ≠ q1 ∧ r ≠ q2 := by
  intro r g h hl
  by_cases c2 : r = q2
  ·subst c2; rw [upd_same] at h; cases h; cases hl
  ·rw [upd_ne _ _ c2] at h
   by_cases c1 : r = q1
   ·subst c1; rw [upd_same] at h; cases h; cases hl
   ·rw [upd_ne _ _ c1] at h; exact ⟨h, c1, c2⟩
 have hown : ∀ q g, (q = q1 ∨ q = q2) -> st.heap q = some g -> g.live -> ∀ b, Own (upd (upd st.heap q1 (some .dead)) q2 (some .dead)) β b -> Own st.heap β b ∧ ∀ r ∈ [q], ∀ g, st.heap r = some g -> g.live -> ¬ Blk (β r) b := by
  intro q g hq hg hl b hb
  rcases hb with ⟨r, g', h, hl', hb⟩ | hb
  ·obtain ⟨c1, c2, c3⟩ := live r g' h hl'
   refine ⟨.inl ⟨r, g', c1, hl', hb⟩, fun r' hr' g2 hg2 hl2 hb2 => ?_⟩
   simp only [List.mem_singleton] at hr'
   subst hr'
   have := R.sep r r' g' g2 b c1 hg2 hl' hl2 hb hb2
   subst this
   rcases hq with h | h
   ·exact c2 h
   ·exact c3 h
  ·refine ⟨.inr hb, fun r' hr' g2 hg2 hl2 hb2 => R.apart ⟨r', g2, hg2, hl2, hb2⟩ hb⟩
 refine ⟨K.defers, K.size, K.small, fun t' av ht => ?_, K.heap, K.sep, K.lo, K.hid, K.hb, K.os, K.tape, K.output, K.grow, K.keep, K.anc, K.ancN⟩
 by_cases c : t' = d
 ·subst c
  simp only [upd_same, Option.some.injEq] at ht
  subst ht
  have hv := R.env t' _ hd
  simp only [AVRel, AVsRel] at hv ⊢
  obtain ⟨l, hl, v1, r1, rfl, ⟨l1, rfl, hs⟩, v2, r2, rfl, hv2, rfl⟩ := hv
  obtain ⟨u1, u2, rfl, hu1, hu2⟩ := segs3 hs
  refine ⟨_, hl, _, _, rfl, ⟨_, rfl, ?_⟩, _, _, rfl, hv2, rfl⟩
  have f1 := frzSl_rel (own := Own (upd (upd st.heap q1 (some .dead)) q2 (some .dead)) β) R (t := .int .u8) (c := .full q1) (xs := body) (gs := [q1]) (by simp [frzSl, h1, rowAs]) hu1 (hown q1 _ (.inl rfl) h1 trivial)
  have f2 := frzSl_rel (own := Own (upd (upd st.heap q1 (some .dead)) q2 (some .dead)) β) R (t := .item) (c := .full q2) (xs := kids) (gs := [q2]) (by simp [frzSl, h2, asDT]) hu2 (hown q2 _ (.inr rfl) h2 trivial)
  obtain ⟨o1, r1, _, _⟩ := fzV_one f1
  obtain ⟨o2, r2, _, _⟩ := fzV_one f2
  simp only [SegsRel, CVRel]
  exact ⟨_, _, rfl, rfl, rfl, _, _, rfl, o1, f1, _, _, rfl, o2, f2, rfl⟩
 ·have ht : upd st.env d _ t' = some av := ht
  rw [upd_ne _ _ c] at ht
  exact K.env t' av ht
theorem frz_ok {f : Nat} {e0 : Ent} (H : EntOk P f e0) : EntOk P f (frzEnt e0) := by
 refine ⟨fun d l h k => ?_, fun h => (by cases h), fun o d l us δ next Q a1 a2 a3 a4 a5 a6 a7 a8 => ?_⟩
 ·simp only [frzEnt]
  rw [H.nat d l h (frzK h k), H.nat d l h (frzK h some)]
  cases e0.k d l h some with
  | none => rfl
  | some δ => exact frzK_nat
 ·rename_i w0 fp nt β st a w
  simp only [frzEnt] at a6
  rw [H.nat d l st.heap (frzK st.heap some)] at a6
  cases hδ : e0.k d l st.heap some with
  | none => rw [hδ] at a6; cases a6
  | some δ0 =>
  rw [hδ] at a6
  simp only [Option.bind_some, frzK] at a6
  split at a6
  ·rename_i t q1 q2 n hav
   split at a6
   ·rename_i e' body e eb kids g1 g2
    cases a6
    refine H.call o d l us δ0 next Q a1 a2 a3 a4 a5 hδ (fun hnp a' w' hp => ?_) (fun t n h => by rw [hav] at h; cases h)
    refine a7 (fun t n h => by cases h) a' w' ?_
    obtain ⟨β', R⟩ := hp
    refine ⟨β', ?_⟩
    rw [a3] at R ⊢
    have hR := R.freeze (d := d) (q1 := q1) (q2 := q2) (by simp only [St.app, putEnv]; rw [upd_same, hav]) g1 g2
    simp only [St.app, putEnv, heapPut_append, heapPut] at hR ⊢
    have hu : upd (upd st.env d (some δ0.av)) d (some (AV.tup [.agg [.int .u8 t, .fz (.int .u8) body none, .fz .item kids none], .c (.int .i64 n)])) = upd st.env d (some (AV.tup [.agg [.int .u8 t, .fz (.int .u8) body none, .fz .item kids none], .c (.int .i64 n)])) := by
     funext x
     by_cases c : x = d
     ·subst c; rw [upd_same, upd_same]
     ·rw [upd_ne _ _ c, upd_ne _ _ c, upd_ne _ _ c]
    rw [hu] at hR
    exact hR
   ·cases a6
  ·cases a6
end
end Go.Abs
namespace Go.Abs
universe u
open Go.RowKit
abbrev extDT : DT := .pair (.int .i64) (.pair .bool (.sl (.int .u8)))
abbrev certDT : DT := .pair (.int .u64) (.pair .str (.pair .str (.pair (.sl (.int .u8)) (.pair (.sl extDT) (.sl (.int .u8))))))
abbrev CapS (eb : Nat) (res : List ResultVar) : FL :=
 ⟨⟨[(0, .full 1000000)], [.reg 1000000 (.row eb .u8)], [(1000000, .env 0 0)]⟩, 1, [(.ret, ⟨[], [.env 0 (.dat certDT), .env 1 (.c (.fz (.int .u8))), .env 2 (.c (.int .i64)), .reg 1000000 (.row eb .u8)], []⟩)], res, true⟩
abbrev CapY : Type := certDT.T × List Int × Int × List Int
section
variable {P : Program}
open Classical in
theorem cap_raw {f eb : Nat} {r0 r1 r2 : ResultVar} {F : List Int -> Option CapY} (H : CallsL P f (CapS eb [r0, r1, r2]) F) {xs : List Int} {c : certDT.T} {s xs' : List Int} {e : Int} (hF : F xs = some (c, s, e, xs')) {w : World} {bv : Value} (hrow : RegRel (fun _ => none) (fun _ => undef) w bv (.row eb .u8 xs)) :
  Calls P f #[bv] w fun en w' => ∃ v3 v4 v5 v1 : Value, en = .returned (.tuple #[.agg #[.int .u64 c.1, .string c.2.1, .string c.2.2.1, v3, v4, v5], v1, .int .i64 e]) ∧
   FzV w' (fun b => b < w.heap.size) (.fz (.int .u8) c.2.2.2.1 none) v3 ∧ FzV w' (fun b => b < w.heap.size) (.fz extDT c.2.2.2.2.1 none) v4 ∧ FzV w' (fun b => b < w.heap.size) (.fz (.int .u8) c.2.2.2.2.2 none) v5 ∧ FzV w' (fun b => b < w.heap.size) (.fz (.int .u8) s none) v1 ∧
   RegRel (fun _ => none) (fun _ => undef) w' bv (.row eb .u8 xs') ∧ (∀ b, b < w.heap.size -> ¬ Blk bv b -> w'.heap[b]? = w.heap[b]?) ∧ w'.os = w.os ∧ w'.tape = w.tape ∧ w'.output = w.output ∧ w.heap.size ≤ w'.heap.size := by
 let hbf : Nat -> Value := fun q => if hidN ≤ q ∧ q - hidN < w.heap.size ∧ ¬ Blk bv (q - hidN) then .pointer (some ⟨q - hidN, 0, none⟩) else undef
 let β : Nat -> Value := fun q => if q = 1000000 then bv else hbf q
 let fp : FP := ⟨fun q => if q = 1000000 then some bv else none, hbf, []⟩
 have b0 : β 1000000 = bv := rfl
 have g0 : ((CapS eb [r0, r1, r2]).inp.enc xs).heap 1000000 = some (.row eb .u8 xs) := rfl
 have hkeys : ∀ r g, ((CapS eb [r0, r1, r2]).inp.enc xs).heap r = some g -> r = 1000000 ∧ g = .row eb .u8 xs := by
  intro r g h
  have hm : (r, g) ∈ [((1000000 : Nat), Reg.row eb .u8 xs)] := ofL_mem h
  simpa using hm
 have hone : bv.oneCell' = true := by rcases hrow with ⟨rfl, _⟩ | ⟨b, cap, tail, rfl, _⟩ <;> rfl
 have hblkfp : ∀ b, fp.blk b ↔ Blk bv b := by
  intro b
  constructor
  ·rintro ⟨q, bv', hq, hb⟩
   simp only [fp] at hq
   split at hq
   ·cases hq; exact hb
   ·cases hq
  ·exact fun h => ⟨1000000, bv, by simp [fp], h⟩
 have hhid : ∀ b, Hid hbf b ↔ b < w.heap.size ∧ ¬ Blk bv b := by
  intro b
  constructor
  ·rintro ⟨r, hr, hb⟩
   simp only [hbf] at hb
   split at hb
   ·rename_i h
    rw [Blk_ptr] at hb
    simp only at hb
    rw [<- hb]; exact h.2
   ·exact absurd hb Blk_undef
  ·rintro ⟨h1, h2⟩
   refine ⟨hidN + b, by omega, ?_⟩
   have e1 : hidN + b - hidN = b := by omega
   simp only [hbf, e1]
   rw [if_pos ⟨by omega, h1, h2⟩]
   exact Blk_ptr.2 rfl
 have hβhid : ∀ r, hidN ≤ r -> β r = fp.hb r := by
  intro r hr
  have e1 : ¬ r = 1000000 := by have : hidN = 2000000 := rfl; omega
  simp only [β, if_neg e1, fp]
 have R0 : Rel P w fp 1 β ((CapS eb [r0, r1, r2]).inp.enc xs) { tmps := [bv].toArray, defers := [] } w := by
  refine ⟨rfl, rfl, by decide, ?_, ?_, ?_, ?_, ?_, hβhid, rfl, rfl, rfl, Nat.le_refl _, fun _ _ _ => rfl, ?_, ?_⟩
  ·intro t av ht
   have hm : (t, av) ∈ [((0 : Nat), AV.c (.full 1000000))] := ofL_mem ht
   simp only [List.mem_singleton, Prod.mk.injEq] at hm
   obtain ⟨rfl, rfl⟩ := hm
   simp only [AVRel, CVRel]
   exact ⟨_, g0, rfl, hone⟩
  ·intro r g h
   obtain ⟨rfl, rfl⟩ := hkeys r g h
   exact hrow
  ·intro r r' g g' b h h' _ _ _ _
   rw [(hkeys r g h).1, (hkeys r' g' h').1]
  ·rintro b ⟨r, g, h, hl, hb⟩
   obtain ⟨rfl, rfl⟩ := hkeys r g h
   exact .inr ((hblkfp b).2 hb)
  ·intro b hb
   obtain ⟨h1, h2⟩ := (hhid b).1 hb
   exact ⟨h1, fun h => h2 ((hblkfp b).1 h)⟩
  ·intro q bv' g hq hg hl
   simp only [fp] at hq
   split at hq
   ·rename_i h; cases hq; subst h; rfl
   ·cases hq
  ·intro q bv' hq
   simp only [fp] at hq
   split at hq
   ·rename_i h
    have : ioN = 1000000 := rfl
    omega
   ·cases hq
 refine (H [bv] xs (c, s, e, xs') w fp β rfl rfl hF R0).mono ?_
 rintro en w' ⟨β', vs, R, he, hlen⟩
 have hl3 : vs.length = 3 := hlen (fun t n h => by cases h)
 obtain ⟨u0, u1, u2, rfl⟩ : ∃ u0 u1 u2, vs = [u0, u1, u2] := by
  match vs, hl3 with
  | [u0, u1, u2], _ => exact ⟨u0, u1, u2, rfl⟩
 have k0 : ((encOut (CapS eb [r0, r1, r2]).outs (c, s, e, xs')).2).heap 1000000 = some (.row eb .u8 xs') := rfl
 have ha := R.anc 1000000 bv _ rfl k0 trivial
 have e0 := R.env 0 _ (show ((encOut (CapS eb [r0, r1, r2]).outs (c, s, e, xs')).2).env 0 = some (.agg (encD certDT c)) from rfl)
 have e1 := R.env 1 _ (show ((encOut (CapS eb [r0, r1, r2]).outs (c, s, e, xs')).2).env 1 = some (.c (.fz (.int .u8) s none)) from rfl)
 have e2 := R.env 2 _ (show ((encOut (CapS eb [r0, r1, r2]).outs (c, s, e, xs')).2).env 2 = some (.c (.int .i64 e)) from rfl)
 have e0 : AVRel ((encOut (CapS eb [r0, r1, r2]).outs (c, s, e, xs')).2).heap β' w' (.agg (encD certDT c)) u0 := e0
 have e1 : AVRel ((encOut (CapS eb [r0, r1, r2]).outs (c, s, e, xs')).2).heap β' w' (.c (.fz (.int .u8) s none)) u1 := e1
 have e2 : AVRel ((encOut (CapS eb [r0, r1, r2]).outs (c, s, e, xs')).2).heap β' w' (.c (.int .i64 e)) u2 := e2
 have hownall : ∀ b, b < w.heap.size -> Own ((encOut (CapS eb [r0, r1, r2]).outs (c, s, e, xs')).2).heap β' b := by
  intro b hb
  by_cases h : Blk bv b
  ·exact .inl ⟨1000000, _, k0, trivial, by rw [ha]; exact h⟩
  ·have h2 := (hhid b).2 ⟨hb, h⟩
   exact .inr (Hid.congr (β := β') (β' := hbf) (fun r hr => (R.hb r hr).symm) h2)
 have mono : ∀ {cv : CV} {v : Value}, FzV w' (Own ((encOut (CapS eb [r0, r1, r2]).outs (c, s, e, xs')).2).heap β') cv v -> FzV w' (fun b => b < w.heap.size) cv v := fun h => h.mono fun x v hx hv => ⟨hv, fun h2 => hx (hownall _ h2)⟩
 obtain ⟨c1, c2, c3, c4, c5, c6⟩ := c
 have henc : encD certDT (c1, c2, c3, c4, c5, c6) = [.int .u64 c1, .str c2, .str c3, .fz (.int .u8) c4 none, .fz extDT c5 none, .fz (.int .u8) c6 none] := rfl
 rw [henc] at e0
 simp only [AVRel, SegsRel, CVRel] at e0 e1 e2
 obtain ⟨l, rfl, w0, q0, rfl, _, rfl, w1, q1, rfl, _, rfl, w2, q2, rfl, _, rfl, w3, q3, rfl, _, h3, w4, q4, rfl, _, h4, w5, q5, rfl, _, h5, rfl⟩ := e0
 subst e2
 refine ⟨w3, w4, w5, u1, he, mono h3, mono h4, mono h5, mono e1, ?_, fun b hb h => R.keep b hb fun h' => h ((hblkfp b).1 h'), R.os, R.tape, R.output, R.grow⟩
 have hr := R.heap 1000000 _ k0
 rw [ha] at hr
 exact hr
def capEnt (eb : Nat) (F : List Int -> Option CapY) : Ent :=
 ⟨fun d l h k => match l with
  | [.c (.full q)] => (match h q, h d with
   | some (.row eb' .u8 xs), none => bif Nat.beq eb eb' then (F xs).bind fun y =>
     k ⟨.tup [.agg [.int .u64 y.1.1, .str y.1.2.1, .str y.1.2.2.1, .sl d 0 0, .sl d 1 0, .sl d 2 0], .c (.sl d 3 0), .c (.int .i64 y.2.2.1)],
      [(d, .caps [⟨.int .u8, y.1.2.2.2.1⟩, ⟨extDT, y.1.2.2.2.2.1⟩, ⟨.int .u8, y.1.2.2.2.2.2⟩, ⟨.int .u8, y.2.1⟩]), (q, .row eb .u8 y.2.2.2)], [q, d]⟩ else none
   | _, _ => none)
  | _ => none, false⟩
theorem fz_cap {w w' : World} {S : List Nat} {t : DT} {xs : List t.T} {v : Value} (hS : ∀ b, w.heap.size ≤ b -> b < w'.heap.size -> b ∈ S) (h : FzV w' (fun b => b < w.heap.size) (.fz t xs none) v) : FzV w' (fun b => b ∉ S) (.fz t xs none) v :=
 h.mono fun x u hx hu => ⟨hu, fun hn => hn (hS _ (by omega) (World.block_lt_of_cell? w' x (ucell_cell hu)))⟩
theorem cap_ok {f eb : Nat} {fn : Func} {cd : Code} {r0 r1 r2 : ResultVar} {F : List Int -> Option CapY} (hf : P.funcs[f]? = some fn) (hname : (fn.name == "runtime.NumGoroutine") = false) (hb : fn.body = some cd) (H : CallsL P f (CapS eb [r0, r1, r2]) F) : EntOk P f (capEnt eb F) := by
 refine ⟨fun d l h k => ?_, fun h => (by cases h), fun o d l us δ next Q a1 a2 a3 a4 a5 a6 a7 a8 => ?_⟩
 ·simp only [capEnt]
  split
  ·split
   ·rename_i eb' xs _ _
    cases Nat.beq eb eb' with
    | false => rfl
    | true =>
     simp only [cond_true]
     cases F xs with
     | none => rfl
     | some y => rfl
   ·rfl
  ·rfl
 ·rename_i w0 fp nt β st a w
  simp only [capEnt] at a6
  split at a6
  ·rename_i q
   split at a6
   ·rename_i eb' xs hg hgd
    have h70 := cond_some a6
    have h1 := h70.1
    replace a6 := h70.2
    clear h70
    obtain rfl := nbeq.1 h1
    cases hF : F xs with
    | none => rw [hF] at a6; cases a6
    | some y =>
    rw [hF] at a6
    cases a6
    obtain ⟨c, s, e, xs'⟩ := y
    have a2' := a2
    simp only [AVsRel] at a2'
    obtain ⟨v1, r1', rfl, hv1, rfl⟩ := a2'
    simp only [AVRel, CVRel] at hv1
    obtain ⟨g, hg', hp⟩ := hv1
    rw [hg] at hg'
    cases hg'
    simp only [FullOk] at hp
    obtain ⟨rfl, _⟩ := hp
    have hrow0 := a4.heap q _ hg
    have hcall := cap_raw H hF (w := w) (bv := β q) (by exact hrow0)
    unfold Oper.wp
    have hv0 : ([β q] : List Value).toArray = #[β q] := rfl
    rw [a1, hv0, MuLone.run_callFunc_enter hf hname hb, Oper.upon_enter]
    refine hcall.mono ?_
    rintro en w' ⟨v3, v4, v5, vv, rfl, f3, f4, f5, f1, hrow, hkeep, q5, q6, q7, q8⟩
    let S : List Nat := List.range' w.heap.size (w'.heap.size - w.heap.size)
    have hS : ∀ b, b ∈ S ↔ w.heap.size ≤ b ∧ b < w'.heap.size := by
     intro b
     simp only [S, List.mem_range'_1]
     omega
    have hS' : ∀ b, w.heap.size ≤ b -> b < w'.heap.size -> b ∈ S := fun b h1 h2 => (hS b).2 ⟨h1, h2⟩
    let bv : Value := .tuple ([v3, v4, v5, vv].map (fun v => Value.agg #[v]) ++ S.map ptrTo).toArray
    have hbvS : ∀ b, Blk bv b ↔ b ∈ S := fun b => Blk_caps
    have hd : d < nt := by have := a5; rw [a3] at this; simpa [dstOk, Nat.blt_eq] using this
    have hsm := a4.small
    have hdq : d ≠ q := fun h => by rw [h, hg] at hgd; cases hgd
    have hlen : xs'.length = xs.length := by
     rcases hrow0 with ⟨h1, h2⟩ | ⟨b, cap, tl, h1, _⟩ <;> rcases hrow with ⟨h3, h4⟩ | ⟨b', cap', tl', h3, _⟩
     ·rw [h2, h4]
     ·rw [h1] at h3; cases h3
     ·rw [h1] at h3; cases h3
     ·rw [h1] at h3; injection h3 with _ h _; exact h.symm
    have look : ∀ r g1, upd (upd st.heap d (some (.caps [⟨.int .u8, c.2.2.2.1⟩, ⟨extDT, c.2.2.2.2.1⟩, ⟨.int .u8, c.2.2.2.2.2⟩, ⟨.int .u8, s⟩]))) q (some (.row eb .u8 xs')) r = some g1 ->
      (r = q ∧ g1 = .row eb .u8 xs') ∨ (r = d ∧ g1 = .caps [⟨.int .u8, c.2.2.2.1⟩, ⟨extDT, c.2.2.2.2.1⟩, ⟨.int .u8, c.2.2.2.2.2⟩, ⟨.int .u8, s⟩]) ∨ (r ≠ q ∧ r ≠ d ∧ st.heap r = some g1) := by
     intro r g1 h
     by_cases e1 : r = q
     ·subst e1; rw [upd_same] at h; cases h; exact .inl ⟨rfl, rfl⟩
     ·rw [upd_ne _ _ e1] at h
      by_cases e2 : r = d
      ·subst e2; rw [upd_same] at h; cases h; exact .inr (.inl ⟨rfl, rfl⟩)
      ·rw [upd_ne _ _ e2] at h; exact .inr (.inr ⟨e1, e2, h⟩)
    have hβ : ∀ r, r ≠ d -> upd β d bv r = β r := fun r h => upd_ne _ _ h
    have hβd : upd β d bv d = bv := upd_same _ _ _
    have hc0 : capAt bv 0 = some v3 := by rw [capAt_caps (by simp)]; rfl
    have hc1 : capAt bv 1 = some v4 := by rw [capAt_caps (by simp)]; rfl
    have hc2 : capAt bv 2 = some v5 := by rw [capAt_caps (by simp)]; rfl
    have hc3 : capAt bv 3 = some vv := by rw [capAt_caps (by simp)]; rfl
    have one3 := (fzV_one (h := fun _ => none) (β := fun _ => undef) (f3.mono (own' := Own (fun _ => none) (fun _ => undef)) fun x u hx hu => ⟨hu, fun h => Own.none h⟩)).1
    have one4 := (fzV_one (h := fun _ => none) (β := fun _ => undef) (f4.mono (own' := Own (fun _ => none) (fun _ => undef)) fun x u hx hu => ⟨hu, fun h => Own.none h⟩)).1
    have one5 := (fzV_one (h := fun _ => none) (β := fun _ => undef) (f5.mono (own' := Own (fun _ => none) (fun _ => undef)) fun x u hx hu => ⟨hu, fun h => Own.none h⟩)).1
    have one1' := (fzV_one (h := fun _ => none) (β := fun _ => undef) (f1.mono (own' := Own (fun _ => none) (fun _ => undef)) fun x u hx hu => ⟨hu, fun h => Own.none h⟩)).1
    refine a7 (fun t n h => by cases h) _ _ ⟨upd β d bv, ?_⟩
    show Rel P w0 fp nt (upd β d bv) { env := putEnv st.env o.dst (.tup [.agg [.int .u64 c.1, .str c.2.1, .str c.2.2.1, .sl d 0 0, .sl d 1 0, .sl d 2 0], .c (.sl d 3 0), .c (.int .i64 e)]), heap := upd (upd st.heap d (some (.caps [⟨.int .u8, c.2.2.2.1⟩, ⟨extDT, c.2.2.2.2.1⟩, ⟨.int .u8, c.2.2.2.2.2⟩, ⟨.int .u8, s⟩]))) q (some (.row eb .u8 xs')) } (a.put o.dst _) w'
    refine a4.update (β' := upd β d bv) (w' := w') a5 q5 q6 q7 q8 ?_ (fun x hx hno => hkeep x hx fun h => hno ⟨q, _, hg, trivial, h⟩) ?_ ?_ ?_ ?_ ?_ ?_
    ·intro r hr
     exact hβ r (by have : hidN = 2000000 := rfl; have : ioN = 1000000 := rfl; omega)
    ·rintro x ⟨r, g1, h1, h2, h3⟩
     rcases look r g1 h1 with ⟨rfl, rfl⟩ | ⟨rfl, rfl⟩ | ⟨e1, e2, h4⟩
     ·rw [hβ _ (Ne.symm hdq)] at h3
      exact .inl ⟨_, _, hg, trivial, h3⟩
     ·rw [hβd] at h3
      exact .inr ((hS x).1 ((hbvS x).1 h3)).1
     ·rw [hβ _ e2] at h3
      exact .inl ⟨r, g1, h4, h2, h3⟩
    ·intro r g1 h1
     have e2 : r ≠ d := fun h => by rw [h, hgd] at h1; cases h1
     by_cases e1 : r = q
     ·subst e1
      rw [hg] at h1
      cases h1
      exact ⟨_, upd_same _ _ _, ⟨rfl, rfl, hlen⟩, fun _ => hβ _ e2⟩
     ·exact ⟨g1, by rw [upd_ne _ _ e1, upd_ne _ _ e2]; exact h1, .refl g1, fun _ => hβ _ e2⟩
    ·intro r g1 hr h1
     have e2 : r ≠ d := fun h => by omega
     by_cases e1 : r = q
     ·exact ⟨_, e1 ▸ hg⟩
     ·rw [upd_ne _ _ e1, upd_ne _ _ e2] at h1; exact ⟨g1, h1⟩
    ·intro M r g1 h1
     rcases look r g1 h1 with ⟨rfl, rfl⟩ | ⟨rfl, rfl⟩ | ⟨e1, e2, h4⟩
     ·rw [hβ _ (Ne.symm hdq)]
      exact hrow
     ·rw [hβd]
      refine ⟨[v3, v4, v5, vv], S, rfl, rfl, fun i x hx => ?_, fun b hb => ?_⟩
      ·match i, hx with
       | 0, hx => cases hx; exact ⟨v3, rfl, fz_cap hS' f3⟩
       | 1, hx => cases hx; exact ⟨v4, rfl, fz_cap hS' f4⟩
       | 2, hx => cases hx; exact ⟨v5, rfl, fz_cap hS' f5⟩
       | 3, hx => cases hx; exact ⟨vv, rfl, fz_cap hS' f1⟩
       | i + 4, hx => cases hx
      ·have := ((hS b).1 hb).2
       exact ⟨_, Array.getElem?_eq_getElem this⟩
     ·rw [hβ _ e2]
      cases g1 with
      | dead => trivial
      | _ => exact (a4.heap r _ h4).mono M fun x hx hl' => hkeep x (OwnR.lt a4 ⟨r, _, h4, hl', hx⟩) fun h => e1 (a4.sep r q _ _ x h4 hg hl' trivial hx h)
    ·intro r r' g1 g2 x h1 h2 p1 p2 e1 e2
     have cl : ∀ r g, r ≠ d -> st.heap r = some g -> g.live -> Blk (β r) x -> Blk bv x -> False := by
      intro r g _ k3 k4 k5 k6
      have := OwnR.lt a4 ⟨r, g, k3, k4, k5⟩
      have := ((hS x).1 ((hbvS x).1 k6)).1
      omega
     rcases look r g1 h1 with ⟨rfl, rfl⟩ | ⟨rfl, rfl⟩ | ⟨j1, j2, j4⟩ <;> rcases look r' g2 h2 with ⟨rfl, rfl⟩ | ⟨rfl, rfl⟩ | ⟨i1, i2, i4⟩
     ·rfl
     ·rw [hβ _ (Ne.symm hdq)] at e1
      rw [hβd] at e2
      exact (cl _ _ (Ne.symm hdq) hg trivial e1 e2).elim
     ·rw [hβ _ (Ne.symm hdq)] at e1
      rw [hβ _ i2] at e2
      exact a4.sep _ _ _ _ x hg i4 trivial p2 e1 e2
     ·rw [hβd] at e1
      rw [hβ _ (Ne.symm hdq)] at e2
      exact (cl _ _ (Ne.symm hdq) hg trivial e2 e1).elim
     ·rfl
     ·rw [hβd] at e1
      rw [hβ _ i2] at e2
      exact (cl _ _ i2 i4 p2 e2 e1).elim
     ·rw [hβ _ j2] at e1
      rw [hβ _ (Ne.symm hdq)] at e2
      exact a4.sep _ _ _ _ x j4 hg p1 trivial e1 e2
     ·rw [hβ _ j2] at e1
      rw [hβd] at e2
      exact (cl _ _ j2 j4 p1 e1 e2).elim
     ·rw [hβ _ j2] at e1
      rw [hβ _ i2] at e2
      exact a4.sep _ _ _ _ x j4 i4 p1 p2 e1 e2
    ·intro _
     have hgd' : upd (upd st.heap d (some (.caps [⟨.int .u8, c.2.2.2.1⟩, ⟨extDT, c.2.2.2.2.1⟩, ⟨.int .u8, c.2.2.2.2.2⟩, ⟨.int .u8, s⟩]))) q (some (.row eb .u8 xs')) d = some (.caps [⟨.int .u8, c.2.2.2.1⟩, ⟨extDT, c.2.2.2.2.1⟩, ⟨.int .u8, c.2.2.2.2.2⟩, ⟨.int .u8, s⟩]) := by rw [upd_ne _ _ hdq, upd_same]
     have sl : ∀ i v, i < 4 -> capAt bv i = some v -> v.oneCell' = true -> CVRel (upd (upd st.heap d (some (.caps [⟨.int .u8, c.2.2.2.1⟩, ⟨extDT, c.2.2.2.2.1⟩, ⟨.int .u8, c.2.2.2.2.2⟩, ⟨.int .u8, s⟩]))) q (some (.row eb .u8 xs'))) (upd β d bv) w' (.sl d i 0) v := by
      intro i v hi hc ho
      simp only [CVRel]
      exact ⟨_, hgd', rfl, hi, by rw [hβd]; exact hc, ho⟩
     simp only [AVRel, AVsRel]
     refine ⟨_, rfl, _, _, rfl, ⟨_, rfl, ?_⟩, _, _, rfl, sl 3 vv (by omega) hc3 one1', _, _, rfl, (by simp only [CVRel]), rfl⟩
     simp only [SegsRel]
     exact ⟨_, _, rfl, rfl, (by simp only [CVRel]), _, _, rfl, rfl, (by simp only [CVRel]), _, _, rfl, rfl, (by simp only [CVRel]), _, _, rfl, one3, sl 0 v3 (by omega) hc0 one3, _, _, rfl, one4, sl 1 v4 (by omega) hc1 one4, _, _, rfl, one5, sl 2 v5 (by omega) hc2 one5, rfl⟩
   ·cases a6
  ·cases a6
end
end Go.Abs
namespace Go.Abs
universe u
open Go.RowKit
def look : List (Nat × Value) -> Nat -> Option Value
 | [], _ => none
 | (k, v) :: r, t => bif Nat.beq k t then some v else look r t
def At (nt : Nat) (l : List (Nat × Value)) (a : Act) : Prop := a.tmps.size = nt ∧ a.defers = [] ∧ ∀ t v, look l t = some v -> a.tmps.getD t undef = v
def valL (l : List (Nat × Value)) : Operand -> Option Value
 | .tmp t => look l t
 | .const v => some v
 | _ => none
def subL (l : List (Nat × Value)) : List (Nat × Value) -> Prop
 | [] => True
 | (k, v) :: r => look l k = some v ∧ subL l r
section
variable {P : Program} {nt : Nat} {l : List (Nat × Value)} {a : Act} {w w' : World} {ops : Array Oper} {Q : Exit -> Act -> World -> Prop} {i : Nat} {rest : List Nat} {T : Tab}
theorem At.val (A : At nt l a) {x : Operand} {v : Value} (h : valL l x = some v) : a.eval x = v := by
 cases x with
 | tmp t => exact A.2.2 t v h
 | const u => exact Option.some.inj h
 | global g => cases h
 | func f => cases h
theorem At.put (A : At nt l a) {d : Nat} (v : Value) (hd : Nat.blt d nt = true) : At nt ((d, v) :: l) (a.put (some d) v) := by
 have hd := nblt.1 hd
 refine ⟨by simp [Act.put, A.1], A.2.1, fun t u h => ?_⟩
 simp only [look] at h
 simp only [Act.put, Array.getD_eq_getD_getElem?, Array.getElem?_setIfInBounds]
 cases hb : Nat.beq d t with
 | true =>
  rw [hb] at h
  obtain rfl := nbeq.1 hb
  simp only [cond_true, Option.some.injEq] at h
  rw [if_pos rfl, if_pos (by rw [A.1]; exact hd)]
  simpa using h
 | false =>
  rw [hb] at h
  have hne : ¬ d = t := fun e => by rw [e, Nat.beq_refl] at hb; cases hb
  rw [if_neg hne]
  have := A.2.2 t u h
  rwa [Array.getD_eq_getD_getElem?] at this
theorem At.sub (A : At nt l a) {l' : List (Nat × Value)} (h : subL l l') : At nt l' a := by
 refine ⟨A.1, A.2.1, ?_⟩
 induction l' with
 | nil => intro t v h; cases h
 | cons p r ih =>
  intro t v ht
  obtain ⟨k, u⟩ := p
  simp only [look] at ht
  cases hb : Nat.beq k t with
  | true =>
   rw [hb] at ht
   obtain rfl := nbeq.1 hb
   simp only [cond_true, Option.some.injEq] at ht
   subst ht
   exact A.2.2 _ _ h.1
  | false => rw [hb] at ht; exact ih h.2 t v ht
theorem At.enter2 {x y : Value} {args : Array Value} (ha : args = #[x, y]) (hn : 2 ≤ nt) : At nt [(0, x), (1, y)] { tmps := args ++ Array.replicate (nt - args.size) undef, defers := [] } := by
 subst ha
 refine ⟨by simp; omega, rfl, fun t v h => ?_⟩
 match t, h with
 | 0, h => cases h; simp [Array.getD_eq_getD_getElem?, Array.getElem?_append]
 | 1, h => cases h; simp [Array.getD_eq_getD_getElem?, Array.getElem?_append]
 | t + 2, h => cases h
def opIs (ops : Array Oper) (i : Nat) (d : Option Nat) (op : Op) : Prop := (ops[i]?).map (fun o => (o.op, o.guard, o.dst)) = some (op, none, d)
theorem opIs_mk {d : Option Nat} {op : Op} (h : (ops[i]?).map (fun o => (o.op, o.guard, o.dst)) = some (op, none, d)) : opIs ops i d op := h
theorem st_value {op : Op} {d : Nat} {v : Value} (hk : opIs ops i (some d) op) (hd : Nat.blt d nt = true) (A : At nt l a) (hrun : ∀ o : Oper, o.op = op -> (execOp a.eval o).run P w = .ok (.value v) w)
  (next : ∀ a', At nt ((d, v) :: l) a' -> wpOps P ops Q rest a' w) : wpOps P ops Q (i :: rest) a w := by
 unfold opIs at hk
 cases ho : ops[i]? with
 | none => rw [ho] at hk; cases hk
 | some o =>
  rw [ho] at hk
  simp only [Option.map_some, Option.some.injEq, Prod.mk.injEq] at hk
  refine wpOps_val ho (wanted_none hk.2.1) (hrun o hk.1) ?_
  rw [hk.2.2]
  exact next _ (A.put v hd)
theorem st_move {x : Operand} {d : Nat} {v : Value} (hk : opIs ops i (some d) (.move x)) (hd : Nat.blt d nt = true) (A : At nt l a) (hx : valL l x = some v)
  (next : ∀ a', At nt ((d, v) :: l) a' -> wpOps P ops Q rest a' w) : wpOps P ops Q (i :: rest) a w :=
 st_value hk hd A (fun o ho => by simp [execOp, ho, A.val hx]) next
theorem st_assign {x : Operand} {d : Nat} {v : Value} (hk : opIs ops i (some d) (.assign x)) (hd : Nat.blt d nt = true) (A : At nt l a) (hx : valL l x = some v)
  (next : ∀ a', At nt ((d, v) :: l) a' -> wpOps P ops Q rest a' w) : wpOps P ops Q (i :: rest) a w :=
 st_value hk hd A (fun o ho => by simp [execOp, ho, A.val hx]) next
theorem st_nil {x : Operand} {d : Nat} {p : Addr} (hk : opIs ops i (some d) (.nilCheck x)) (hd : Nat.blt d nt = true) (A : At nt l a) (hx : valL l x = some (.pointer (some p)))
  (next : ∀ a', At nt ((d, .pointer (some p)) :: l) a' -> wpOps P ops Q rest a' w) : wpOps P ops Q (i :: rest) a w :=
 st_value hk hd A (fun o ho => by simp [execOp, ho, A.val hx]) next
theorem st_field (hT : TabOk P T) {x : Operand} {d s f off sz by' t : Nat} {fs : List (Nat × Nat)} {z : List CV} {ft : TI} {p : Addr} (hk : opIs ops i (some d) (.fieldAddr s x f)) (hd : Nat.blt d nt = true) (A : At nt l a) (hx : valL l x = some (.pointer (some p)))
  (h1 : T.get s = some ⟨.struct fs, sz, by', z⟩) (h2 : fieldOf fs f = some (t, off)) (h3 : T.get t = some ft) (h4 : Nat.blt 0 ft.size = true)
  (next : ∀ a', At nt ((d, .pointer (some (p.add off))) :: l) a' -> wpOps P ops Q rest a' w) : wpOps P ops Q (i :: rest) a w := by
 refine st_value hk hd A (fun o ho => ?_) next
 have h4 := nblt.1 h4
 obtain ⟨lf, hu, hl⟩ := tdStruct (hT _ _ h1)
 obtain ⟨fd, hfd, rfl, rfl⟩ := fieldOf_rel hl h2
 obtain ⟨ii, hi, hsz, _⟩ := (hT _ _ h3).info
 have hne : ¬ ii.size = 0 := by omega
 have : (Instr.fieldAt s (.pointer (some p)) f).run P w = .ok (.pointer (some (p.add fd.offset))) w := by
  simp [Instr.fieldAt, run_underlying hu, hfd, Instr.sureAddr, fieldPlace, run_sizeOf hi, hne]
 simp [execOp, ho, A.val hx, Sem.run_bind, this]
theorem st_load (hT : TabOk P T) {x : Operand} {d t : Nat} {ti : TI} {p : Addr} {v : Value} (hk : opIs ops i (some d) (.load t x)) (hd : Nat.blt d nt = true) (A : At nt l a) (hx : valL l x = some (.pointer (some p)))
  (h1 : T.get t = some ti) (h2 : isAggT ti.d = false) (hc : w.cell? p = some v)
  (next : ∀ a', At nt ((d, v) :: l) a' -> wpOps P ops Q rest a' w) : wpOps P ops Q (i :: rest) a w := by
 refine st_value hk hd A (fun o ho => ?_) next
 obtain ⟨td, hu, hd'⟩ := (hT _ _ h1).desc
 have e1 : (loadVar t p).run P w = .ok v w := by
  unfold loadVar
  simp only [Sem.run_bind, isAgg_rel hu hd', h2, Result.andThen_ok, Bool.false_eq_true, if_false]
  simp [load, Sem.run, hc]
 have : (Instr.loadAt t (.pointer (some p))).run P w = .ok v w := by simp [Instr.loadAt, Instr.sureAddr, e1]
 simp [execOp, ho, A.val hx, Sem.run_bind, this]
theorem st_len (hT : TabOk P T) {x : Operand} {d t el sz by' : Nat} {z : List CV} {p : Option Addr} {n c : Nat} (hk : opIs ops i (some d) (.call { callee := .builtin .len, args := #[x], argTypes := #[t] })) (hd : Nat.blt d nt = true) (A : At nt l a) (hx : valL l x = some (.slice p n c))
  (h1 : T.get t = some ⟨.slice el, sz, by', z⟩)
  (next : ∀ a', At nt ((d, .int .i64 n) :: l) a' -> wpOps P ops Q rest a' w) : wpOps P ops Q (i :: rest) a w := by
 refine st_value hk hd A (fun o ho => ?_) next
 have hut := tdSlice (hT _ _ h1)
 simp [execOp, ho, A.val hx, resolve, invoke, builtin, Sem.run_bind, Builtin.len_, run_underlying hut, goInt]
theorem st_lss {x y : Operand} {d t t2 : Nat} {m n : Int} (hk : opIs ops i (some d) (.binOp .lss t x y t2)) (hd : Nat.blt d nt = true) (A : At nt l a) (hx : valL l x = some (.int .i64 m)) (hy : valL l y = some (.int .i64 n))
  (next : ∀ a', At nt ((d, .bool (decide (m < n))) :: l) a' -> wpOps P ops Q rest a' w) : wpOps P ops Q (i :: rest) a w := by
 refine st_value hk hd A (fun o ho => ?_) next
 simp [execOp, ho, A.val hx, A.val hy, eqGuard, Sem.run_bind, binOp, Op.intCmp]
theorem st_inc {x : Operand} {d t t2 : Nat} {m : Nat} (hk : opIs ops i (some d) (.binOp .add t x (.const (.int .i64 1)) t2)) (hd : Nat.blt d nt = true) (A : At nt l a) (hx : valL l x = some (.int .i64 m)) (hm : m < 2 ^ 62)
  (next : ∀ a', At nt ((d, .int .i64 ((m + 1 : Nat) : Int)) :: l) a' -> wpOps P ops Q rest a' w) : wpOps P ops Q (i :: rest) a w := by
 refine st_value hk hd A (fun o ho => ?_) next
 have : IntKind.wrap .i64 ((m : Int) + 1) = ((m + 1 : Nat) : Int) := by
  simp [IntKind.wrap, IntKind.signed, IntKind.bits]
  omega
 simp [execOp, ho, A.val hx, At.val A (x := .const (.int .i64 1)) rfl, eqGuard, Sem.run_bind, binOp, Op.intArith, this]
theorem st_index (hT : TabOk P T) {x y : Operand} {d t el sz by' : Nat} {z : List CV} {ti : TI} {p : Addr} {n c j : Nat} (hk : opIs ops i (some d) (.indexAddr t x y)) (hd : Nat.blt d nt = true) (A : At nt l a) (hx : valL l x = some (.slice (some p) n c)) (hy : valL l y = some (.int .i64 j))
  (h1 : T.get t = some ⟨.slice el, sz, by', z⟩) (h2 : T.get el = some ti) (hj : j < n)
  (next : ∀ a', At nt ((d, .pointer (some (p.add (j * ti.size)))) :: l) a' -> wpOps P ops Q rest a' w) : wpOps P ops Q (i :: rest) a w := by
 refine st_value hk hd A (fun o ho => ?_) next
 have hu := tdSlice (hT _ _ h1)
 obtain ⟨ii, hi, hsz, _⟩ := (hT _ _ h2).info
 have : (Instr.indexAt t (.slice (some p) n c) (.int .i64 j)).run P w = .ok (.pointer (some (p.add (j * ti.size)))) w := by
  simp [Instr.indexAt, asIntOf_int, run_underlying hu, hj, run_sizeOf hi, hsz]
 simp [execOp, ho, A.val hx, A.val hy, Sem.run_bind, this]
theorem st_store (hT : TabOk P T) {x y : Operand} {t : Nat} {ti : TI} {p : Addr} {u : Value} {k : IntKind} {n : Int} (hk : opIs ops i none (.store t x y)) (A : At nt l a) (hx : valL l x = some (.pointer (some p))) (hy : valL l y = some (.int k n))
  (h1 : T.get t = some ti) (h2 : Nat.beq ti.size 1 = true) (hc : ucell w p = some u)
  (next : wpOps P ops Q rest a (w.setCell p (.int k n))) : wpOps P ops Q (i :: rest) a w := by
 unfold opIs at hk
 cases ho : ops[i]? with
 | none => rw [ho] at hk; cases hk
 | some o =>
  rw [ho] at hk
  simp only [Option.map_some, Option.some.injEq, Prod.mk.injEq] at hk
  obtain ⟨h3, h4, h5⟩ := hk
  obtain ⟨ii, hi, hsz, _⟩ := (hT _ _ h1).info
  have h2 := nbeq.1 h2
  have e1 : (store p (.int k n)).run P w = .ok () (w.setCell p (.int k n)) := by
   rw [run_store P w p _ _ rfl, ucell_cell hc]
   simp [ucell_free hc]
  have e2 : (Instr.storeAt t (.pointer (some p)) (.int k n)).run P w = .ok () (w.setCell p (.int k n)) := by
   have hs : ii.size = 1 := by omega
   simp [Instr.storeAt, Instr.sureAddr, storeVar, run_sizeOf hi, hs, Value.cells, storeCells, add_zero', Sem.run_bind, e1]
  simp only [wpOps, ho, wanted_none h4, if_true]
  left
  unfold Oper.wp
  have : (execOp a.eval o).run P w = .ok .skip (w.setCell p (.int k n)) := by simp [execOp, h3, A.val hx, A.val hy, Sem.run_bind, e2]
  rw [this, Oper.upon_skip, h5]
  exact next
end
def Like (v v' : Value) : Prop := v' = v ∨ ∃ k n m, v = .int k n ∧ v' = .int k m
structure Sp (S : List Nat) (w w' : World) : Prop where
 os : w'.os = w.os
 tape : w'.tape = w.tape
 output : w'.output = w.output
 size : w'.heap.size = w.heap.size
 keep : ∀ b, b ∉ S -> w'.heap[b]? = w.heap[b]?
 cell : ∀ x v, ucell w x = some v -> ∃ v', ucell w' x = some v' ∧ Like v v'
theorem Sp.refl (S : List Nat) (w : World) : Sp S w w := ⟨rfl, rfl, rfl, rfl, fun _ _ => rfl, fun _ v h => ⟨v, h, .inl rfl⟩⟩
theorem Sp.int {S : List Nat} {w w' : World} (H : Sp S w w') {x : Addr} {k : IntKind} {n : Int} (h : ucell w x = some (.int k n)) : ∃ m, ucell w' x = some (.int k m) := by
 obtain ⟨v', h1, h2⟩ := H.cell x _ h
 rcases h2 with rfl | ⟨k', n', m, e, rfl⟩
 ·exact ⟨n, h1⟩
 ·cases e; exact ⟨m, h1⟩
theorem Sp.sl {S : List Nat} {w w' : World} (H : Sp S w w') {x : Addr} {p : Option Addr} {n c : Nat} (h : ucell w x = some (.slice p n c)) : w'.cell? x = some (.slice p n c) := by
 obtain ⟨v', h1, h2⟩ := H.cell x _ h
 rcases h2 with rfl | ⟨k', n', m, e, rfl⟩
 ·exact ucell_cell h1
 ·cases e
theorem Sp.store {S : List Nat} {w w' : World} (H : Sp S w w') {x : Addr} {k : IntKind} {n m : Int} (h : ucell w' x = some (.int k n)) (hx : x.block ∈ S) : Sp S w (w'.setCell x (.int k m)) := by
 have hfr : ∀ y, (w'.setCell x (.int k m)).frozen? y = w'.frozen? y := fun y => World.frozen?_setCell _ _ _ _
 refine ⟨H.os, H.tape, H.output, by simp [World.setCell, H.size], fun b hb => ?_, fun y v hy => ?_⟩
 ·rw [Below.heap_setCell _ _ _ _ (fun e => hb (by rw [e]; exact hx))]; exact H.keep b hb
 ·obtain ⟨v', h1, h2⟩ := H.cell y v hy
  by_cases e : y = x
  ·subst e
   rw [h] at h1
   cases h1
   refine ⟨.int k m, ucell_mk (World.cell?_setCell_same _ _ _ (ucell_cell h)) ((hfr y).trans (ucell_free h)), ?_⟩
   rcases h2 with h2 | ⟨k', n', m', h2, h3⟩
   ·exact .inr ⟨k, n, m, h2.symm, rfl⟩
   ·cases h3; exact .inr ⟨k, n', m, h2, rfl⟩
  ·exact ⟨v', ucell_mk ((World.cell?_setCell_other _ _ _ _ (Ne.symm e)).trans (ucell_cell h1)) ((hfr y).trans (ucell_free h1)), h2⟩
theorem fz_by {S : List Nat} {w : World} {xs : List Int} {v : Value} (h : FzV w (fun b => b ∉ S) (.fz (.int .u8) xs none) v) :
  ∃ p c, v = .slice p xs.length c ∧ (p = none -> xs = []) ∧ ∀ a, p = some a -> ∀ i, i < xs.length -> (a.add (i * 1)).block ∈ S ∧ ∃ n, ucell w (a.add (i * 1)) = some (.int .u8 n) := by
 cases h with
 | fz t xs n A c hn hc h0 hat =>
  refine ⟨A, c, rfl, fun h => (h0 h).1, fun a ha i hi => ?_⟩
  have := hat a ha i hi
  have H : FzAtI w (fun b => b ∉ S) (FzV w (fun b => b ∉ S)) [.int .u8 xs[i]] (a.add (i * 1)) := this
  cases H with
  | one c cs a v hc ho hv hr =>
   cases hv
   exact ⟨Classical.not_not.1 ho, _, hc⟩
theorem fz_es {S : List Nat} {w : World} {xs : List extDT.T} {v : Value} (h : FzV w (fun b => b ∉ S) (.fz extDT xs none) v) :
  ∃ p c, v = .slice p xs.length c ∧ (p = none -> xs = []) ∧ ∀ a, p = some a -> ∀ i (hi : i < xs.length), ((a.add (i * 3)).add 0).block ∈ S ∧ (∃ n, ucell w ((a.add (i * 3)).add 0) = some (.int .i64 n)) ∧
   ∃ u, ucell w ((a.add (i * 3)).add 2) = some u ∧ FzV w (fun b => b ∉ S) (.fz (.int .u8) (xs[i]).2.2 none) u := by
 cases h with
 | fz t xs n A c hn hc h0 hat =>
  refine ⟨A, c, rfl, fun h => (h0 h).1, fun a ha i hi => ?_⟩
  have := hat a ha i hi
  have H : FzAtI w (fun b => b ∉ S) (FzV w (fun b => b ∉ S)) [.int .i64 (xs[i]).1, .bool (xs[i]).2.1, .fz (.int .u8) (xs[i]).2.2 none] (a.add (i * 3)) := this
  rw [add_zero']
  cases H with
  | one c cs a v hc ho hv hr =>
   cases hv
   cases hr with
   | one c cs a v hc2 ho2 hv2 hr2 =>
    cases hr2 with
    | one c cs a v hc3 ho3 hv3 hr3 =>
     rw [add_add] at hc3
     exact ⟨Classical.not_not.1 ho, ⟨_, hc⟩, v, hc3, hv3⟩
def NormQ (I : Act -> World -> Prop) : Exit -> Act -> World -> Prop := fun e a w => e = .normal ∧ I a w
theorem seqN {P : Program} {x y : Code} {I J : Act -> World -> Prop} {a : Act} {w : World} (h : x.wp P (NormQ I) a w) (h2 : ∀ a w, I a w -> y.wp P (NormQ J) a w) : (Code.seq x y).wp P (NormQ J) a w := by
 refine wp_seq (wp_mono h ?_)
 rintro e a w ⟨rfl, hI⟩
 exact h2 a w hI
theorem monoN {P : Program} {x : Code} {I J : Act -> World -> Prop} {a : Act} {w : World} (h : x.wp P (NormQ I) a w) (h2 : ∀ a w, I a w -> J a w) : x.wp P (NormQ J) a w :=
 wp_mono h fun e a w ⟨h, hI⟩ => ⟨h, h2 a w hI⟩
theorem count_loop {P : Program} {nt s tc id id2 N : Nat} {l : List (Nat × Value)} {RA BODY RI : Code} {S : List Nat} {w0 : World}
  (hA : ∀ k a w, At nt ((s, .int .i64 (k : Nat)) :: l) a -> Sp S w0 w -> RA.wp P (NormQ fun a' w' => a'.eval (.tmp tc) = .bool (decide ((k : Int) < (N : Int))) ∧ At nt ((s, .int .i64 (k : Nat)) :: l) a' ∧ w' = w) a w)
  (hB : ∀ k a w, k < N -> At nt ((s, .int .i64 (k : Nat)) :: l) a -> Sp S w0 w -> BODY.wp P (NormQ fun a' w' => At nt ((s, .int .i64 (k : Nat)) :: l) a' ∧ Sp S w0 w') a w)
  (hI : ∀ k a w, k < N -> At nt ((s, .int .i64 (k : Nat)) :: l) a -> RI.wp P (NormQ fun a' w' => At nt ((s, .int .i64 (k + 1 : Nat)) :: l) a' ∧ w' = w) a w)
  (hl : ∀ v, subL ((s, v) :: l) l) {a : Act} {w : World} (A : At nt ((s, .int .i64 (0 : Nat)) :: l) a) (H : Sp S w0 w) :
  (Code.block id (.loop (.seq (.seq RA (.cond (.tmp tc) .skip (.exit id))) (.seq (.block id2 BODY) RI)))).wp P (NormQ fun a' w' => At nt l a' ∧ Sp S w0 w') a w := by
 refine wp_block ?_
 refine wp_loop_n (I := fun m a w => ∃ k, k ≤ N ∧ m = N - k ∧ At nt ((s, .int .i64 (k : Nat)) :: l) a ∧ Sp S w0 w) ?_ ⟨0, Nat.zero_le _, rfl, A, H⟩
 rintro m a w ⟨k, hk, rfl, A, H⟩
 refine wp_seq (wp_seq ?_)
 refine wp_mono (hA k a w A H) ?_
 rintro e a1 w1 ⟨rfl, hv, A1, rfl⟩
 show Code.wp P _ _ a1 w1
 rcases Nat.lt_or_ge k N with hlt | hge
 ·have hd : decide ((k : Int) < (N : Int)) = true := by simp [hlt]
  rw [hd] at hv
  refine wp_cond_true hv (wp_skip ?_)
  show Code.wp P _ _ a1 w1
  refine wp_seq (wp_block ?_)
  refine wp_mono (hB k a1 w1 hlt A1 H) ?_
  rintro e a2 w2 ⟨rfl, A2, H2⟩
  show Code.wp P _ _ a2 w2
  refine wp_mono (hI k a2 w2 hlt A2) ?_
  rintro e a3 w3 ⟨rfl, A3, rfl⟩
  exact ⟨N - (k + 1), by omega, k + 1, hlt, rfl, A3, H2⟩
 ·have hd : decide ((k : Int) < (N : Int)) = false := by simp; omega
  rw [hd] at hv
  refine wp_cond_false hv (wp_exit ?_)
  show (if id = id then _ else _)
  rw [if_pos rfl]
  exact ⟨rfl, A1.sub (hl _), H⟩
end Go.Abs
namespace Go.Abs
universe u
open Go.RowKit
def capLim : Nat := 4611686018427387904
def capSmall (xk : List Int) (xe : List extDT.T) (xs xt : List Int) : Bool :=
 Nat.blt xk.length capLim && Nat.blt (List.length xe) capLim && Nat.blt xs.length capLim && Nat.blt xt.length capLim && List.all xe fun x => Nat.blt x.2.2.length capLim
def spoilC : Ent :=
 ⟨fun d l h k => match l with
  | [.c (.ptr r 0 none 6), .c (.sl q 3 0)] => (match h r, h q with
   | some (.cells [.int .u64 x, .str s1, .str s2, .sl q1 0 0, .sl q2 1 0, .sl q3 2 0]), some (.caps [x0, x1, x2, x3]) =>
    bif Nat.beq q q1 && Nat.beq q q2 && Nat.beq q q3 then
     (asDT (.int .u8) x0.1 x0.2).bind fun xk => (asDT extDT x1.1 x1.2).bind fun xe => (asDT (.int .u8) x2.1 x2.2).bind fun xs => (asDT (.int .u8) x3.1 x3.2).bind fun xt =>
      if capSmall xk xe xs xt = true then k ⟨.tup [], [(r, .dead), (q, .dead)], [r, q]⟩ else none
    else none
   | _, _ => none)
  | _ => none, false⟩
def SpoilsC (P : Program) (f : Nat) : Prop :=
 ∀ {w : World} {B T : Nat} {cs : Array Value} {S : List Nat} {vk ve vs vt : Value} {xk xs xt : List Int} {xe : List extDT.T}, w.heap[B]? = some (.cells cs T (0, 0)) -> cs[3]? = some vk -> cs[4]? = some ve -> cs[5]? = some vs -> B ∉ S ->
  FzV w (fun b => b ∉ S) (.fz (.int .u8) xk none) vk -> FzV w (fun b => b ∉ S) (.fz extDT xe none) ve -> FzV w (fun b => b ∉ S) (.fz (.int .u8) xs none) vs -> FzV w (fun b => b ∉ S) (.fz (.int .u8) xt none) vt ->
  xk.length < 2 ^ 62 -> List.length xe < 2 ^ 62 -> xs.length < 2 ^ 62 -> xt.length < 2 ^ 62 -> (∀ x ∈ xe, x.2.2.length < 2 ^ 62) ->
  Calls P f #[.pointer (some ⟨B, 0, none⟩), vt] w fun en w' => en = .returned (.tuple #[]) ∧ Sp S w w'
section
variable {P : Program}
theorem segs6 {h : Heap} {β : Nat -> Value} {w : World} {x : Int} {s1 s2 : ByteArray} {q : Nat} {l : List Value} (H : SegsRel h β w [.int .u64 x, .str s1, .str s2, .sl q 0 0, .sl q 1 0, .sl q 2 0] l) :
  ∃ v0 v1 v2 v3 v4 v5, l = [v0, v1, v2, v3, v4, v5] ∧ CVRel h β w (.sl q 0 0) v3 ∧ CVRel h β w (.sl q 1 0) v4 ∧ CVRel h β w (.sl q 2 0) v5 := by
 simp only [SegsRel] at H
 obtain ⟨u0, r0, rfl, _, h0, u1, r1, rfl, _, h1, u2, r2, rfl, _, h2, u3, r3, rfl, _, h3, u4, r4, rfl, _, h4, u5, r5, rfl, _, h5, rfl⟩ := H
 exact ⟨_, _, _, _, _, _, rfl, h3, h4, h5⟩
theorem spoilC_ok {f : Nat} {fn : Func} {c : Code} (hf : P.funcs[f]? = some fn) (hname : (fn.name == "runtime.NumGoroutine") = false) (hb : fn.body = some c) (H : SpoilsC P f) : EntOk P f spoilC := by
 refine ⟨fun d l h k => ?_, fun h => (by cases h), fun o d l us δ next Q a1 a2 a3 a4 a5 a6 a7 a8 => ?_⟩
 ·simp only [spoilC]
  split
  ·split
   ·rename_i x s1 s2 q1 q2 q3 x0 x1 x2 x3 _ _
    cases (Nat.beq _ q1 && Nat.beq _ q2 && Nat.beq _ q3) with
    | false => rfl
    | true =>
     simp only [cond_true]
     cases asDT (.int .u8) x0.1 x0.2 with
     | none => rfl
     | some xk =>
      cases asDT extDT x1.1 x1.2 with
      | none => rfl
      | some xe =>
       cases asDT (.int .u8) x2.1 x2.2 with
       | none => rfl
       | some xs =>
        cases asDT (.int .u8) x3.1 x3.2 with
        | none => rfl
        | some xt =>
         simp only [Option.bind_some]
         cases capSmall xk xe xs xt <;> rfl
   ·rfl
  ·rfl
 ·rename_i w0 fp nt β st a w
  simp only [spoilC] at a6
  split at a6
  ·rename_i r q
   split at a6
   ·rename_i x s1 s2 q1 q2 q3 x0 x1 x2 x3 hg hq
    have h70 := cond_some a6
    have h1 := h70.1
    replace a6 := h70.2
    clear h70
    simp only [Bool.and_eq_true] at h1
    obtain ⟨⟨h1, h2⟩, h3⟩ := h1
    obtain rfl := nbeq.1 h1
    obtain rfl := nbeq.1 h2
    obtain rfl := nbeq.1 h3
    obtain ⟨t0, y0⟩ := x0
    obtain ⟨t1, y1⟩ := x1
    obtain ⟨t2, y2⟩ := x2
    obtain ⟨t3, y3⟩ := x3
    simp only [Option.bind_eq_some_iff] at a6
    obtain ⟨xk, e0, xe, e1, xs, e2, xt, e3, a6⟩ := a6
    obtain ⟨z0, e0⟩ := asDT_spec e0
    obtain ⟨z1, e1⟩ := asDT_spec e1
    obtain ⟨z2, e2⟩ := asDT_spec e2
    obtain ⟨z3, e3⟩ := asDT_spec e3
    subst z0
    subst z1
    subst z2
    subst z3
    simp only at e0 e1 e2 e3
    subst e0
    subst e1
    subst e2
    subst e3
    split at a6
    rotate_left
    ·cases a6
    rename_i hsm
    cases a6
    simp only [capSmall, Bool.and_eq_true, List.all_eq_true, nblt] at hsm
    obtain ⟨⟨⟨⟨m1, m2⟩, m3⟩, m4⟩, m5⟩ := hsm
    have a2' := a2
    simp only [AVsRel] at a2'
    obtain ⟨v1, r1, rfl, hv1, v2, r2, rfl, hv2, rfl⟩ := a2'
    simp only [AVRel, CVRel] at hv1 hv2
    obtain ⟨g, hg', hp⟩ := hv1
    rw [hg] at hg'
    cases hg'
    obtain ⟨b, hbv, rfl, _⟩ := hp
    obtain ⟨b', T, cs, hbv', hh, hs⟩ := a4.heap r _ hg
    obtain rfl : b' = b := by rw [hbv] at hbv'; simpa using hbv'.symm
    obtain ⟨u0, u1, u2, u3, u4, u5, hcs, hu3, hu4, hu5⟩ := segs6 hs
    simp only [CVRel] at hu3 hu4 hu5
    obtain ⟨gg, hgg, hpt⟩ := hv2
    rw [hq] at hgg
    cases hgg
    obtain ⟨_, hgg, hp3⟩ := hu3
    rw [hq] at hgg
    cases hgg
    obtain ⟨_, hgg, hp4⟩ := hu4
    rw [hq] at hgg
    cases hgg
    obtain ⟨_, hgg, hp5⟩ := hu5
    rw [hq] at hgg
    cases hgg
    simp only [SlOk] at hpt hp3 hp4 hp5
    obtain ⟨vs, S, hbq, hlv, hd, hex⟩ := a4.heap q _ hq
    have at' : ∀ {i : Nat} {x : Σ t : DT, List t.T} {v : Value}, [(⟨.int .u8, y0⟩ : Σ t : DT, List t.T), ⟨extDT, y1⟩, ⟨.int .u8, y2⟩, ⟨.int .u8, y3⟩][i]? = some x -> i < vs.length -> capAt (β q) i = some v -> FzV w (fun b => b ∉ S) (.fz x.1 x.2 none) v := by
     intro i x v hx hi hv
     obtain ⟨u, hu, hf⟩ := hd i x hx
     rw [hbq, capAt_caps hi] at hv
     have : u = v := by rw [hu] at hv; exact Option.some.inj hv
     subst this
     exact hf
    have hl4 : vs.length = 4 := hlv
    have hBq : ∀ x, Blk (β q) x ↔ x ∈ S := fun x => by rw [hbq]; exact Blk_caps
    have hBr : Blk (β r) b' := by rw [hbv]; exact Blk_ptr.2 rfl
    have hBS : b' ∉ S := fun hx => by
     have := a4.sep r q _ _ b' hg hq trivial trivial hBr ((hBq b').2 hx)
     subst this
     rw [hg] at hq
     cases hq
    have hcs' : ∀ i, cs[i]? = [u0, u1, u2, u3, u4, u5][i]? := fun i => by rw [<- hcs, Array.getElem?_toList]
    have hcall := H (xk := y0) (xe := y1) (xs := y2) (xt := y3) hh (by rw [hcs']; rfl) (by rw [hcs']; rfl) (by rw [hcs']; rfl) hBS (at' (i := 0) rfl (by omega) hp3.2.2.1) (at' (i := 1) rfl (by omega) hp4.2.2.1) (at' (i := 2) rfl (by omega) hp5.2.2.1) (at' (i := 3) rfl (by omega) hpt.2.2.1) m1 m2 m3 m4 (fun x hx => m5 x hx)
    unfold Oper.wp
    have hv0 : ([Value.pointer (some ⟨b', 0 + offOf none, none⟩), v2] : List Value).toArray = #[Value.pointer (some ⟨b', 0, none⟩), v2] := rfl
    rw [a1, hv0, MuLone.run_callFunc_enter hf hname hb, Oper.upon_enter]
    refine hcall.mono ?_
    rintro en w' ⟨rfl, hsp⟩
    refine a7 (fun t n h => by cases h) _ _ ⟨β, ?_⟩
    refine a4.gone (gs := [r, q]) a5 hsp.os hsp.tape hsp.output (Nat.le_of_eq hsp.size.symm) ?_ ?_
    ·intro r' hr'
     simp only [List.mem_cons, List.not_mem_nil, or_false] at hr'
     rcases hr' with rfl | rfl
     ·exact ⟨_, hg⟩
     ·exact ⟨_, hq⟩
    ·intro b hb hno
     exact hsp.keep b fun h => hno q (by simp) _ hq trivial ((hBq b).2 h)
   ·cases a6
  ·cases a6
end
end Go.Abs
