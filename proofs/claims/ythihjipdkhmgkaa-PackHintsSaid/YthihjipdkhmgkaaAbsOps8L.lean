/- Operations on data, strings, closures: they are right. -/
import Derived.Test.YthihjipdkhmgkaaAbsFrzL
import Derived.Lib.ConvBytes
import Derived.Laws.BytesString
import Derived.Laws.CopyRow
import Derived.Laws.IdiomCopy
import Derived.Maps.AppendAt
set_option linter.unusedVariables false
set_option linter.unusedSimpArgs false
namespace Go.Abs
universe u
open Go.RowKit

section
variable {P : Program} {w0 : World} {fp : FP} {nt : Nat} {β : Nat → Value} {st : St} {a : Act} {w : World} {T : Tab} {o : Oper} {Q : Exit → Act → World → Prop}

theorem capRegs_rel (R : Rel P w0 fp nt β st a w) : ∀ {xs : List Operand} {rs : List Nat}, capRegs st xs = some rs → rs.length = xs.length ∧ ∀ (i r : Nat), rs[i]? = some r → ∃ (u : Value) (g : Reg), (xs.map a.eval)[i]? = some u ∧ st.heap r = some g ∧ PtrOk (β r) 0 none 1 u g := by
  intro xs
  induction xs with
  | nil => intro rs e; cases e; exact ⟨rfl, fun i r h => by simp at h⟩
  | cons x xs ih =>
    intro rs e
    simp only [capRegs] at e
    split at e
    · rename_i q base room l h1 h2
      obtain ⟨h3, h4⟩ := cond_some e
      cases h4
      simp only [Bool.and_eq_true] at h3
      obtain ⟨⟨h3, h5⟩, h6⟩ := h3
      obtain rfl := nbeq.1 h3
      have h5 := nble.1 h5
      obtain ⟨h7, h8⟩ := ih h2
      refine ⟨by simp [h7], fun i r hi => ?_⟩
      cases i with
      | succ i => simpa using h8 i r (by simpa using hi)
      | zero =>
        simp at hi
        subst hi
        have := opd_rel R h1
        simp only [AVRel, CVRel] at this
        obtain ⟨g, hg, hp⟩ := this
        obtain ⟨segs, hs⟩ := cellsB_rel h6
        rw [hs] at hg
        cases hg
        obtain ⟨b, hbv, hv, hsz, hlim⟩ := hp
        exact ⟨a.eval x, _, rfl, hs, b, hbv, hv, by omega, fun i lim h => by cases h⟩
    · cases e

theorem ofBytes_fold : ∀ (ns : List Int) (s : ByteArray), ns.foldl (fun r n => r.push (UInt8.ofNat n.toNat)) s = ⟨s.data ++ (ns.map fun n => UInt8.ofNat n.toNat).toArray⟩ := by
  intro ns
  induction ns with
  | nil => intro s; simp
  | cons n ns ih => intro s; rw [List.foldl_cons, ih]; simp [ByteArray.push]

theorem bytesOf_rel (R : Rel P w0 fp nt β st a w) {x : AV} {u : Value} (hx : AVRel st.heap β w x u) {xs : List Int} {rs : List Nat} (e : bytesOf st.heap x = some (xs, rs)) :
    ∃ A c, u = .slice A xs.length c ∧ (A = none → xs = []) ∧ ∀ A', A = some A' → ∀ j v, (intsV .u8 xs)[j]? = some v → w.cell? (A'.add j) = some v := by
  unfold bytesOf at e
  cases hn : isNilSlice x with
  | true =>
    rw [hn] at e
    cases e
    unfold isNilSlice at hn
    split at hn
    · simp only [AVRel, CVRel] at hx
      subst hx
      exact ⟨none, _, rfl, fun _ => rfl, fun A' h => by cases h⟩
    · cases hn
  | false =>
    rw [hn] at e
    simp only [cond_false] at e
    split at e
    · rename_i ys rs' hs
      cases e
      exact sliceInts_rel R hx hs
    · cases e

theorem isU8_spec (hT : TabOk P T) {e : Nat} (h : isU8 T e = true) : P.underlying e = some (.int .u8) := by
  unfold isU8 at h
  split at h
  · rename_i h1; exact tdInt (hT _ _ h1)
  · cases h

/-- an own region's block turns, which is given up thereby -/
theorem Rel.giveUp (R : Rel P w0 fp nt β st a w) {r b : Nat} {g : Reg} (hg : st.heap r = some g) (hl : g.live) (hbv : blkOf (β r) = some b) {w' : World} (hos : w'.os = w.os) (htape : w'.tape = w.tape) (hout : w'.output = w.output)
    (hsz : w'.heap.size = w.heap.size) (hoth : ∀ b', b' ≠ b → w'.heap[b']? = w.heap[b']?) {dst : Option Nat} (hd : dstOk nt dst = true) {av : AV} {v : Value}
    (hval : ¬ Own (upd st.heap r (some .dead)) β b → (∀ h', Mono st.heap β w h' β w' → h' = upd st.heap r (some .dead) → AVRel h' β w' av v)) :
    Rel P w0 fp nt β { env := putEnv st.env dst av, heap := upd st.heap r (some .dead) } (a.put dst v) w' := by
  have hob : OwnR st.heap β b := ⟨r, g, hg, hl, hbv⟩
  have hOwn : ∀ b', OwnR (upd st.heap r (some .dead)) β b' → OwnR st.heap β b' ∧ b' ≠ b := by
    rintro b' ⟨r', g1, h1, h2, h3⟩
    by_cases e : r' = r
    · subst e; rw [upd_same] at h1; cases h1; cases h2
    · rw [upd_ne _ _ e] at h1
      refine ⟨⟨r', g1, h1, h2, h3⟩, fun e' => ?_⟩
      subst e'
      exact e (R.sep r' r g1 g b' h1 hg h2 hl h3 hbv)
  have hno : ¬ Own (upd st.heap r (some .dead)) β b := by
    rintro (h | h)
    · exact (hOwn b h).2 rfl
    · exact R.apart hob h
  refine R.update (w' := w') (h' := upd st.heap r (some .dead)) hd hos htape hout (by omega) (fun _ _ => rfl) (fun b' _ hn => hoth b' fun e => hn (e ▸ hob)) (fun b' h => .inl (hOwn b' h).1) ?_ ?_ ?_ ?_ (fun M => hval hno _ M rfl)
  · intro r' g1 h1
    by_cases e : r' = r
    · subst e; exact ⟨.dead, upd_same _ _ _, by cases g1 <;> trivial, fun h => h.elim⟩
    · exact ⟨g1, by rw [upd_ne _ _ e]; exact h1, .refl g1, fun _ => rfl⟩
  · intro q g1 _ h1
    by_cases e : q = r
    · subst e; exact ⟨g, hg⟩
    · rw [upd_ne _ _ e] at h1; exact ⟨g1, h1⟩
  · intro M r' g1 h1
    by_cases e : r' = r
    · subst e; rw [upd_same] at h1; cases h1; trivial
    · rw [upd_ne _ _ e] at h1
      refine (R.heap r' g1 h1).mono M fun b' hb' hl1 => hoth b' fun e' => ?_
      subst e'
      exact e (R.sep r' r g1 g b' h1 hg hl1 hl hb' hbv)
  · intro r1 r2 g1 g2 b' h1 h2 l1 l2 e1 e2
    by_cases d1 : r1 = r
    · subst d1; rw [upd_same] at h1; cases h1; cases l1
    · by_cases d2 : r2 = r
      · subst d2; rw [upd_same] at h2; cases h2; cases l2
      · rw [upd_ne _ _ d1] at h1
        rw [upd_ne _ _ d2] at h2
        exact R.sep r1 r2 g1 g2 b' h1 h2 l1 l2 e1 e2

theorem convert2_rel (hT : TabOk P T) (R : Rel P w0 fp nt β st a w) (hd : dstOk nt o.dst = true) {s d : Nat} {x : AV} {u : Value} (hx : AVRel st.heap β w x u) {rq : Option Req} {δ : Delta} (e : convert2 T st.heap s d x = some (rq, δ)) :
    ∃ v w', (convert s d u).run P w = .ok v w' ∧ ∃ β', Rel P w0 fp nt β' (st.app o.dst δ) (a.put o.dst v) w' := by
  unfold convert2 at e
  split at e
  · -- a string's bytes
    rename_i _ _ _ el _ _ _ h1 h2
    obtain ⟨ds, hs, _⟩ := (hT _ _ h1).desc
    have hdt := tdSlice (hT _ _ h2)
    split at e
    · rename_i b
      obtain ⟨h3, h4⟩ := cond_some e
      cases h4
      have hu8 := isU8_spec hT h3
      simp only [AVRel, CVRel] at hx
      subst hx
      refine ⟨_, _, Lib.run_convert_string_bytes w s d el b hs hdt hu8, β, ?_⟩
      have hold : ∀ j, j < w.heap.size → (Lib.bytesWorld w el b).heap[j]? = w.heap[j]? := fun j hj => Lib.bytesWorld_at_old w el b j hj
      have hbsz := Lib.bytesWorld_size w el b
      have hgrow : b.size ≤ grownCap w b.size 0 el := grownCap_ge w b.size 0 el
      have hwf : ∀ b', b' < w.heap.size → ¬ OwnR st.heap β b' → (Lib.bytesWorld w el b).heap[b']? = w.heap[b']? := fun b' hb' _ => hold b' hb'
      refine R.update (w' := Lib.bytesWorld w el b) (h' := st.heap) hd ?_ ?_ ?_ (by omega) (fun _ _ => rfl) hwf (fun b' h => .inl h) (fun r g hr => ⟨g, hr, .refl g, fun _ => rfl⟩) (fun q g _ h => ⟨g, h⟩) (fun M r g hr => (R.heap r g hr).mono M fun b' hb' hl => hold b' (OwnR.lt R ⟨r, g, hr, hl, hb'⟩)) R.sep (fun M => ?_)
      · simp [Lib.bytesWorld, World.freeze, World.alloc, World.drew, -World.alloc_eq, -World.drew_eq]
      · simp [Lib.bytesWorld, World.freeze, World.alloc, World.drew, -World.alloc_eq, -World.drew_eq]
      · simp [Lib.bytesWorld, World.freeze, World.alloc, World.drew, -World.alloc_eq, -World.drew_eq]
      · have hno : ¬ Own st.heap β w.heap.size := fun h => by have := Own.lt R h; omega
        have hlen : (toBytes b).length = b.size := by simp [toBytes]
        simp only [AVRel, CVRel]
        have := fz_of_ints (w := Lib.bytesWorld w el b) (own := Own st.heap β) (A := some ⟨w.heap.size, 0, none⟩) (cap := grownCap w b.size 0 el) (k := .u8) (xs := toBytes b) (fun h => by cases h) (by omega) (fun A hA j hj => by
          cases hA
          rw [add_lit, Nat.zero_add]
          rw [Lib.bytesWorld_cell w el b j (by omega)]
          have hj' : j < b.data.size := by have : b.data.size = b.size := rfl; omega
          simp [toBytes, List.getD]
          rw [Array.getElem?_eq_getElem hj']
          rfl) (fun A hA _ => by cases hA; exact hno)
        rw [hlen] at this
        exact this
    · cases e
  · -- bytes as a string
    rename_i el _ _ _ _ _ _ h1 h2
    have hs := tdSlice (hT _ _ h1)
    obtain ⟨dd, hdt, hdr⟩ := (hT _ _ h2).desc
    have hdt : P.underlying d = some .string := by
      cases dd <;> simp only [TDRel] at hdr <;> first | exact hdt | (cases hdr; done) | exact hdr.elim
    obtain ⟨h3, e⟩ := cond_some e
    have hu8 := isU8_spec hT h3
    split at e
    · rename_i xs rs h4
      cases e
      obtain ⟨A, c, rfl, hnil, hcells⟩ := bytesOf_rel R hx h4
      have hstr : ∀ u, (convert s d u).run P w = .ok (.string (ofBytes xs)) w → ∃ v w', (convert s d u).run P w = .ok v w' ∧ ∃ β', Rel P w0 fp nt β' (st.app o.dst ⟨.c (.str (ofBytes xs)), [], rs⟩) (a.put o.dst v) w' := fun u h => ⟨_, _, h, β, R.pure hd (by simp only [AVRel, CVRel])⟩
      refine hstr _ ?_
      rw [run_convert_bytes_string w s d el A xs.length c hs hu8 hdt]
      cases A with
      | none =>
        have := hnil rfl
        subst this
        simp [Conv.bytesToString, ofBytes]
        try rfl
      | some A =>
        have hl := run_loadCells_list (P := P) w A (intsV .u8 xs) (fun j v hv => hcells A rfl j v hv)
        rw [intsV_length] at hl
        rw [run_bytesToString w A xs.length c xs hl, ofBytes_fold]
        simp [ofBytes]
        try rfl
    · cases e
  · -- the same bytes
    rename_i el _ _ _ el' _ _ _ h1 h2
    have h30 := cond_some e
    replace e := h30.2
    have h3 := h30.1
    clear h30
    simp only [Bool.and_eq_true] at h3
    obtain rfl := nbeq.1 h3.1.1
    have hs := tdSlice (hT _ _ h1)
    have hu8 := isU8_spec hT h3.1.2
    split at e
    · rename_i r
      split at e
      · rename_i e' y ys hr
        cases e
        simp only [AVRel, CVRel] at hx
        obtain ⟨g, hg, hp⟩ := hx
        rw [hr] at hg
        cases hg
        obtain ⟨rfl, _⟩ := hp
        rcases R.heap r _ hr with ⟨_, he⟩ | ⟨b, cap, tail, hbv, hh, hcp, hm⟩
        · cases he
        · refine ⟨β r, w.freeze ⟨b, (intsV .u8 (y :: ys) ++ tail).length, none⟩ 1, ?_, β, ?_⟩
          · rw [hbv]
            simp [convert, run_underlying hs, run_underlying hu8, markStringish, World.shape?, hh]
          · have hfz : ∀ b', b' ≠ b → (w.freeze ⟨b, (intsV .u8 (y :: ys) ++ tail).length, none⟩ 1).heap[b']? = w.heap[b']? := by
              intro b' hb'
              simp [World.freeze, Array.getElem?_modify, Ne.symm hb']
            have hcell : ∀ j v, (intsV .u8 (y :: ys))[j]? = some v → (w.freeze ⟨b, (intsV .u8 (y :: ys) ++ tail).length, none⟩ 1).cell? ⟨b, j, none⟩ = some v := by
              intro j v hv
              have hlt := (Array.getElem?_eq_some_iff.1 hh).1
              have hj : j < (intsV .u8 (y :: ys)).length := (List.getElem?_eq_some_iff.1 hv).1
              simp only [World.cell?, World.freeze, if_neg (show ¬ (1 : Nat) = 0 by omega)]
              rw [Array.getElem?_modify, if_pos rfl, hh]
              simp only [Option.map_some]
              rw [show ((intsV .u8 (y :: ys) ++ tail).toArray)[j]? = (intsV .u8 (y :: ys) ++ tail)[j]? by simp, List.getElem?_append_left hj]
              exact hv
            refine R.giveUp hr trivial (by rw [hbv]; rfl) (by simp [World.freeze]) (by simp [World.freeze]) (by simp [World.freeze]) (by simp [World.freeze]) hfz hd (fun hno h' M he => ?_)
            subst he
            simp only [AVRel, CVRel]
            rw [hbv]
            exact fz_of_ints (xs := y :: ys) (fun h => by cases h) (by omega) (fun A hA j hj => by
              cases hA
              rw [add_lit, Nat.zero_add]
              refine hcell j _ ?_
              simp only [intsV, List.getElem?_map]
              rw [List.getElem?_eq_getElem hj]
              rfl) (fun A hA _ => by cases hA; exact hno)
      · cases e
    · cases e
  · cases e
end
end Go.Abs
