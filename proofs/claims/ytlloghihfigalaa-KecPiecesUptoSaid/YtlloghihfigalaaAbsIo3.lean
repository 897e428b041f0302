/- Calls with a pointer that is handed in, seen by the caller. -/
import Derived.Test.YtlloghihfigalaaAbsIo2
set_option linter.unusedVariables false
set_option linter.unusedSimpArgs false
namespace Go.Abs
open Go.RowKit

section
variable {P : Program} {w0 : World} {fp : Nat → Prop} {nt : Nat} {β : Nat → Value} {st : St} {a : Act} {w : World}

/-- A slice of numbers whose regions are others than r lies in another block. -/
theorem slice_off (R : Rel P w0 fp nt β st a w) {r : Nat} {g : Reg} {b : Nat} (hr : st.heap r = some g) (hl : g.live) (hb : blkOf (β r) = some b)
    {x : AV} {u : Value} (hx : AVRel st.heap β w x u) {k : IntKind} {ys : List Int} {rs : List Nat} (e : sliceInts st.heap x = some (k, ys, rs)) (hn : r ∉ rs) {A : Option Addr} {n c : Nat} (hu : u = .slice A n c) (h0 : 0 < ys.length) {a : Addr} (ha : A = some a) : a.block ≠ b := by
  subst ha
  unfold sliceInts at e
  split at e
  · rename_i q
    simp only [AVRel, CVRel] at hx
    obtain ⟨g', hg, hp⟩ := hx
    rw [hg] at e
    cases g' <;> simp only [] at e <;> try (cases e; done)
    cases e
    obtain ⟨h1, _⟩ := hp
    intro hab
    have : blkOf (β q) = some b := by rw [← h1, hu, ← hab]; rfl
    exact hn (by rw [R.sep r q g _ b hr hg hl trivial hb this]; simp)
  · rename_i q p m
    simp only [AVRel, CVRel] at hx
    obtain ⟨g', hg, hp⟩ := hx
    rw [hg] at e
    cases g' <;> simp only [] at e <;> try (cases e; done)
    rename_i e' k' xs
    cases e
    obtain ⟨hlen, A', cap, A'', hbv, hv, hA⟩ := hp
    rw [hu] at hv
    cases hv
    intro hab
    have hp : p < xs.length := by simp at h0; omega
    rcases R.heap q _ hg with ⟨h2, rfl⟩ | ⟨b', cap', tail, hbv', hh, hc, hm⟩
    · simp at hp
    · rw [hbv'] at hbv; cases hbv
      have := hA (by omega)
      simp only [Option.map_some, Option.some.injEq] at this
      subst this
      rw [add_block] at hab
      have hq : blkOf (β q) = some b := by rw [hbv', ← hab]; rfl
      exact hn (by rw [R.sep r q g _ b hr hg hl trivial hb hq]; simp)
  · rename_i q base lo m lim
    simp only [AVRel, CVRel] at hx
    obtain ⟨g', hg, hp⟩ := hx
    rw [hg] at e
    cases g' <;> simp only [] at e <;> try (cases e; done)
    rename_i segs
    obtain ⟨b', hbv, hlo, hlim, hv⟩ := hp
    rw [hu] at hv
    intro hab
    have hab' : b' = b := by
      cases hv
      rw [← hab]; split <;> rfl
    have hq : blkOf (β q) = some b := by rw [hbv, ← hab']; rfl
    split at e
    · obtain ⟨_, h2⟩ := cond_some e
      cases h2
      exact hn (by rw [R.sep r q g _ b hr hg hl trivial hb hq]; simp)
    · cases e
  · rename_i k' xs m
    cases e
    simp only [AVRel, CVRel] at hx
    subst hu
    cases hx with
    | fz t xs n A' c' hn' hc h1 hat =>
      intro hab
      have hx0 : 0 < List.length (α := Int) xs := by
        rcases Nat.eq_zero_or_pos (List.length (α := Int) xs) with h9 | h9
        · have := List.eq_nil_of_length_eq_zero (l := (xs : List Int)) h9
          subst this
          cases m with
          | none => exact h0
          | some v => exact absurd (show 0 < (List.take v ([] : List Int)).length from h0) (by simp)
        · exact h9
      have H := hat a rfl 0 hx0
      have H' : FzAtI w (Own st.heap β) (FzV w (Own st.heap β)) [.int k xs[0]] (a.add (0 * (DT.int k).size)) := H
      cases H' with
      | one c cs a' v hc ho hv hr' =>
        rw [add_block] at ho
        exact ho (hab ▸ ⟨r, g, hr, hl, hb⟩)
  · cases e

theorem ints_frozen' (R : Rel P w0 fp nt β st a w) {x : AV} {u : Value} (hx : AVRel st.heap β w x u) {k : IntKind} {ys : List Int} {rs : List Nat} (e : sliceInts st.heap x = some (k, ys, rs)) {own : Nat → Prop}
    (ho : ∀ a n c, u = .slice (some a) n c → 0 < ys.length → ¬ own a.block) : FzV w own (.fz (.int k) ys none) u := by
  obtain ⟨A, c, hu, hA, hcells⟩ := sliceInts_rel R hx e
  obtain ⟨h1, h2⟩ := sliceInts_cap R hx e hu
  subst hu
  refine .fz (.int k) ys none A c (Nat.le_refl _) h1 (fun h => ⟨hA h, h2 h⟩) ?_
  intro a' ha i hi
  have hsz : i * (DT.int k).size = i := Nat.mul_one i
  rw [hsz]
  refine .one _ [] _ _ (hcells a' ha i (.int k ys[i]) ?_) (by rw [add_block]; exact ho a' _ _ (by rw [ha]) (Nat.lt_of_le_of_lt (Nat.zero_le _) hi)) (.int k _) (.nil _)
  simp only [intsV, List.getElem?_map]
  have hi' : i < List.length (α := Int) ys := hi
  rw [List.getElem?_eq_getElem hi']
  rfl

theorem PS.dec_rel' (R : Rel P w0 fp nt β st a w) {r : Nat} {g : Reg} {b : Nat} (hr : st.heap r = some g) (hl : g.live) (hb : blkOf (β r) = some b)
    {p : PS} (hp : freePS p = true) (hnp : noPtrs [p] = true) {x : AV} {u : Value} (hx : AVRel st.heap β w x u) {y : p.T} {rs : List Nat} (e : p.dec st.heap x = some (y, rs)) (hn : r ∉ rs) {h' : HeapT} {β' : Nat → Value} (H : ∀ b', Own h' β' b' → b' = b) :
    AVRel h' β' w (p.enc y) u := by
  cases p with
  | val s =>
    simp only [PS.dec] at e
    split at e
    · rename_i z hz
      cases e
      obtain ⟨h1, h2⟩ := freeAS_enc hp y
      simp only [PS.enc]
      refine AVRel.view (h := st.heap) (β := β) (fun b' hb' => ?_) h1 h2 ?_
      · rw [H b' hb']; exact ⟨r, g, hr, hl, hb⟩
      · rw [← renAV_id (p := s) y, AS.dec_enc hz]
        exact hx
    · cases e
  | ints k =>
    simp only [PS.dec] at e
    split at e
    · rename_i v
      obtain ⟨h1, h2⟩ := cond_some e
      cases h2
      obtain rfl := isNilS_spec h1
      simp only [AVRel, CVRel] at hx
      subst hx
      simp only [PS.enc, AVRel, CVRel]
      exact .fz (.int k) [] none none 0 (Nat.le_refl _) (Nat.le_refl _) (fun _ => ⟨rfl, rfl⟩) (fun a h => by cases h)
    · split at e
      · rename_i k' ys rs' hs
        obtain ⟨h1, h2⟩ := cond_some e
        obtain rfl := beqK.1 h1
        cases h2
        simp only [PS.enc, AVRel, CVRel]
        exact ints_frozen' R hx hs fun a' n c hu h0 ho => slice_off R hr hl hb hx hs hn hu h0 rfl (H _ ho)
      · cases e
  | ptrs k n => cases hnp
  | intsn k =>
    obtain ⟨q, e', rfl, hq, rfl⟩ := intsn_inv e
    simp only [PS.enc, AVRel, CVRel]
    refine intsn_frozen R hx hq fun b' hb' ho => ?_
    rw [H b' ho] at hb'
    exact hn (by rw [R.sep r q g _ b hr hq hl trivial hb hb']; simp)

theorem noPtrs_cons {p : PS} {l : List PS} (h : noPtrs (p :: l) = true) : noPtrs [p] = true ∧ noPtrs l = true := by
  cases p <;> simp only [noPtrs] at h ⊢ <;> first | (cases h; done) | exact ⟨trivial, h⟩

theorem psDec_rel' (R : Rel P w0 fp nt β st a w) {r : Nat} {g : Reg} {b : Nat} (hr : st.heap r = some g) (hl : g.live) (hb : blkOf (β r) = some b)
    {h' : HeapT} {β' : Nat → Value} (H : ∀ b', Own h' β' b' → b' = b) : ∀ {ps : List PS} {i : Nat} {l : List AV} {us : List Value} {x : psT ps} {rs : List Nat}, psFree ps = true → noPtrs ps = true → AVsRel st.heap β w l us → psDec st.heap ps l = some (x, rs) → r ∉ rs →
    us.length = ps.length ∧ ∀ t av, (t, av) ∈ psEnc i ps x → ∃ j u, t = i + j ∧ us[j]? = some u ∧ AVRel h' β' w av u := by
  intro ps
  induction ps with
  | nil =>
    intro i l us x rs hf hnp hl e hn
    cases l with
    | nil => simp only [AVsRel] at hl; subst hl; exact ⟨rfl, fun t av h => by simp [psEnc] at h⟩
    | cons => cases e
  | cons p r ih =>
    intro i l us x rs hf hnp hl e hn
    simp only [psFree, Bool.and_eq_true] at hf
    obtain ⟨hnp1, hnp2⟩ := noPtrs_cons hnp
    cases r with
    | nil =>
      match l, e with
      | [y], e =>
        simp only [psDec] at e
        simp only [AVsRel] at hl
        obtain ⟨u, r', rfl, hu, rfl⟩ := hl
        refine ⟨rfl, fun t av h => ?_⟩
        simp only [psEnc, List.mem_singleton] at h
        cases h
        exact ⟨0, u, by omega, by simp, PS.dec_rel' R hr ‹_› hb hf.1 hnp1 hu e hn H⟩
    | cons q r =>
      match l, e with
      | y :: l, e =>
        simp only [psDec] at e
        simp only [AVsRel] at hl
        obtain ⟨u, us', rfl, hu, hl⟩ := hl
        split at e
        · rename_i z rs1 hz
          split at e
          · rename_i zs rs2 hzs
            cases e
            simp only [List.mem_append, not_or] at hn
            obtain ⟨h1, h2⟩ := ih (i := i + 1) hf.2 hnp2 hl hzs hn.2
            refine ⟨by simp at h1 ⊢; omega, fun t av h => ?_⟩
            simp only [psEnc, List.mem_cons] at h
            rcases h with h | h
            · cases h
              exact ⟨0, u, by omega, by simp, PS.dec_rel' R hr ‹_› hb hf.1 hnp1 hu hz hn.1 H⟩
            · obtain ⟨j, v, h3, h4, h5⟩ := h2 t av h
              exact ⟨j + 1, v, by omega, by simpa using h4, h5⟩
          · cases e
        · cases e

/-- what is known of an argument list that is decoded -/
theorem inDec_args (R : Rel P w0 fp nt β st a w) {S : FI} (hok : outOk S = true) (hf : psFree S.ps = true) {l : List AV} {us : List Value} (hl : AVsRel st.heap β w l us) {x : inT S} {rs : List Nat} {ro : Option Nat} (e : inDec st.heap S l = some (x, rs, ro)) :
    ∃ ob, ArgsI S us x w ob ∧ ((S.io = none ∧ ro = none ∧ ob = none) ∨ ∃ ss segs r b, S.io = some ss ∧ ro = some r ∧ ob = some b ∧ st.heap r = some (.cells segs) ∧ (∃ z : segsT ss, segsEnc ss z = segs) ∧ β r = .pointer (some ⟨b, 0, none⟩) ∧ ioOks ss = true) := by
  obtain ⟨io, ps, rs', alt, res⟩ := S
  simp only [outOk, Bool.and_eq_true] at hok
  obtain ⟨_, hi⟩ := hok
  cases io with
  | none =>
    simp only [inDec] at e
    split at e
    · rename_i z qs hz
      cases e
      refine ⟨none, ⟨?_, (fun segs h => by cases h), (fun _ => rfl), ?_⟩, .inl ⟨rfl, rfl, rfl⟩⟩
      · have := (psDec_rel (i := 0) (h' := fun _ => none) (β' := fun _ => undef) R (by rintro b ⟨r, g, hr, _⟩; cases hr) hf hl hz).1
        simpa [nParams] using this
      · intro t av ht
        have hno : ∀ b, ¬ Own (fun _ => none) (fun _ => undef) b := by rintro b ⟨r, g, hr, _⟩; cases hr
        obtain ⟨j, u, h4, h5, _⟩ := (psDec_rel (i := 0) R hno hf hl hz).2 t av ht
        obtain rfl : t = j := by omega
        refine ⟨u, h5, fun h β' hno' _ => ?_⟩
        obtain ⟨j', u', h7, h8, h9⟩ := (psDec_rel (i := 0) (h' := h) (β' := β') R (fun b hb => by cases hno' b hb) hf hl hz).2 t av ht
        obtain rfl : j' = t := by omega
        rw [h5] at h8
        cases h8
        exact h9
    · cases e
  | some ss =>
    simp only [Bool.and_eq_true] at hi
    simp only [inDec] at e
    split at e
    · rename_i r base room l'
      split at e
      · rename_i segs hr
        split at e
        · rename_i z y qs hz hy
          obtain ⟨h1, h2⟩ := cond_some e
          cases h2
          simp only [Bool.and_eq_true, Bool.not_eq_true'] at h1
          obtain ⟨⟨h1, h3⟩, h4⟩ := h1
          obtain rfl := nbeq.1 h1
          obtain rfl := nbeq.1 h3
          have hnr : r ∉ rs := fun hm => by rw [memB_iff.2 hm] at h4; cases h4
          have hs := segsDec_id hz
          subst hs
          simp only [AVsRel] at hl
          obtain ⟨u, us', rfl, hu, hl'⟩ := hl
          simp only [AVRel, CVRel] at hu
          obtain ⟨g, hg, hp⟩ := hu
          rw [hr] at hg
          cases hg
          obtain ⟨b, hbv, hu, _, _⟩ := hp
          obtain ⟨b', T, cs, hbv', hw, hss⟩ := R.heap r _ hr
          rw [hbv] at hbv'
          cases hbv'
          have hblk : blkOf (β r) = some b := by rw [hbv]; rfl
          have hown : Own st.heap β b := ⟨r, _, hr, trivial, hblk⟩
          refine ⟨some b, ⟨?_, ?_, (fun h => by cases h), ?_⟩, .inr ⟨ss, _, r, b, rfl, rfl, rfl, hr, ⟨z, rfl⟩, hbv, hi.1⟩⟩
          · have := (psDec_rel' (i := 1) (h' := fun _ => none) (β' := fun _ => undef) R hr trivial hblk (by rintro b ⟨r, g, hr, _⟩; cases hr) hf hi.2 hl' hy hnr).1
            simp [nParams, this]; omega
          · intro segs hsg
            cases hsg
            exact ⟨b, T, cs, rfl, hw, fun h β' hno => SegsRel.view (fun b' hb' => by rw [hno b' hb']; exact hown) (regsSegs_io hi.1) hss⟩
          · intro t av ht
            simp only [argEnvs, List.mem_cons] at ht
            rcases ht with ht | ht
            · cases ht
              refine ⟨u, rfl, fun h β' _ hh => ?_⟩
              obtain ⟨h5, h6⟩ := hh _ b rfl rfl
              simp only [AVRel, CVRel]
              exact ⟨_, h5, b, h6, hu, by simp [offOf], fun i lim h => by cases h⟩
            · obtain ⟨j, u', h4, h5, _⟩ := (psDec_rel' (i := 1) (h' := fun _ => none) (β' := fun _ => undef) R hr trivial hblk (by rintro b ⟨r, g, hr, _⟩; cases hr) hf hi.2 hl' hy hnr).2 t av ht
              subst h4
              refine ⟨u', by rw [Nat.add_comm]; exact h5, fun h β' hno _ => ?_⟩
              obtain ⟨j', u'', h7, h8, h9⟩ := (psDec_rel' (i := 1) (h' := h) (β' := β') R hr trivial hblk (fun b' hb' => by have := hno b' hb'; cases this; rfl) hf hi.2 hl' hy hnr).2 _ av ht
              obtain rfl : j' = j := by omega
              rw [h5] at h8
              cases h8
              exact h9
        · cases e
      · cases e
    · cases e
end
end Go.Abs
