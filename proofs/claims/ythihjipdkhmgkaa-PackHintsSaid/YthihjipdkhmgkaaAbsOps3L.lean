/- Places, indexes, slices, appends. -/
import Derived.Test.YthihjipdkhmgkaaAbsOps2L
import Derived.Maps.AppendAt
set_option linter.unusedVariables false
set_option linter.unusedSimpArgs false
namespace Go.Abs
open Go.RowKit

section
variable {P : Program} {w0 : World} {fp : FP} {nt : Nat} {β : Nat → Value} {st : St} {a : Act} {w : World} {T : Tab} {o : Oper} {Q : Exit → Act → World → Prop}

theorem offOf_step (o : Option (Nat × Nat)) (i size lim : Nat) : offOf (stepOff o i size lim) = offOf o + i * size := by
  unfold stepOff
  cases hb : Nat.beq size 1 with
  | true =>
    obtain rfl := nbeq.1 hb
    cases o <;> simp [offOf]
  | false => cases o <;> simp [offOf]

theorem step_lim {o : Option (Nat × Nat)} {i size lim room n : Nat} (hi : i < n) (hroom : n * size ≤ room) (hlim : ∀ j l, o = some (j, l) → j + room ≤ l) (hl : lim = n * size) :
    ∀ j l, stepOff o i size lim = some (j, l) → j + size ≤ l := by
  intro j l e
  have hle : i * size + size ≤ n * size := by
    calc i * size + size = (i + 1) * size := by rw [Nat.add_mul, Nat.one_mul]
      _ ≤ n * size := Nat.mul_le_mul_right _ hi
  have hi1 : (bif Nat.beq size 1 then i else i * size) = i * size := by
    cases hb : Nat.beq size 1 with
    | true => obtain rfl := nbeq.1 hb; simp
    | false => rfl
  unfold stepOff at e
  cases o with
  | none =>
    simp only [Option.some.injEq, Prod.mk.injEq] at e
    obtain ⟨e1, e2⟩ := e
    rw [hi1] at e1
    omega
  | some p =>
    obtain ⟨p, l'⟩ := p
    simp only [Option.some.injEq, Prod.mk.injEq] at e
    obtain ⟨e1, e2⟩ := e
    rw [hi1] at e1
    have := hlim p l' rfl
    omega

theorem PtrOk.step {bv v : Value} {base room n size i : Nat} {o : Option (Nat × Nat)} {g : Reg} (h : PtrOk bv base o room v g) (hg : g.live) (hi : i < n) (hroom : n * size ≤ room) :
    ∃ A : Addr, v = .pointer (some A) ∧ PtrOk bv base (stepOff o i size (n * size)) size (.pointer (some (A.add (i * size)))) g := by
  have hle : i * size + size ≤ n * size := by
    calc i * size + size = (i + 1) * size := by rw [Nat.add_mul, Nat.one_mul]
      _ ≤ n * size := Nat.mul_le_mul_right _ hi
  cases g with
  | dead => exact hg.elim
  | rowd => exact h.elim
  | imap => exact h.elim
  | cells segs =>
    obtain ⟨b, hbv, rfl, hsz, hlim⟩ := h
    refine ⟨_, rfl, b, hbv, ?_, ?_, step_lim hi hroom hlim rfl⟩
    · rw [add_lit, offOf_step, Nat.add_assoc]
    · rw [offOf_step]; omega
  | row e k xs =>
    obtain ⟨rfl, hlen, b, cap, hbv, rfl⟩ := h
    refine ⟨_, rfl, rfl, ?_, b, cap, hbv, ?_⟩
    · rw [offOf_step]; omega
    · rw [add_lit, offOf_step]

theorem dropSegs_fz {own : Nat → Prop} : ∀ {cs rest : List CV} {n : Nat} {A : Addr}, FzAt w own cs A → dropSegs cs n = some rest → FzAt w own rest (A.add n) ∧ segSize rest + n = segSize cs := by
  intro cs
  induction cs with
  | nil =>
    intro rest n A H e
    simp only [dropSegs] at e
    cases hb : Nat.beq n 0 <;> simp only [hb, cond_true, cond_false] at e
    · cases e
    · obtain rfl := nbeq.1 hb
      cases e
      rw [add_zero']
      exact ⟨H, rfl⟩
  | cons c cs ih =>
    intro rest n A H e
    simp only [dropSegs] at e
    cases hb : Nat.beq n 0 <;> simp only [hb, cond_true, cond_false] at e
    · cases hl : Nat.ble c.size n <;> simp only [hl, cond_true, cond_false] at e
      · cases e
      · have hle := nble.1 hl
        have hnext : FzAt w own cs (A.add c.size) := by
          cases H with
          | ints k m f cs a hc ho hr => exact hr
          | one c cs a v hc ho hv hr =>
            have : c.size = 1 := by cases hv <;> rfl
            rw [this]; exact hr
        obtain ⟨h1, h2⟩ := ih hnext e
        rw [add_add] at h1
        refine ⟨by rwa [show c.size + (n - c.size) = n by omega] at h1, ?_⟩
        simp only [segSize]; omega
    · obtain rfl := nbeq.1 hb
      cases e
      rw [add_zero']
      exact ⟨H, rfl⟩

theorem fieldOf_rel {l : Array Field} {fs : List (Nat × Nat)} {f t off : Nat} (h : l.toList.map (fun f => (f.type, f.offset)) = fs) (e : fieldOf fs f = some (t, off)) : ∃ fd, l[f]? = some fd ∧ fd.type = t ∧ fd.offset = off := by
  unfold fieldOf at e
  rw [← h, List.getElem?_map] at e
  cases hl : l.toList[f]? with
  | none => rw [hl] at e; cases e
  | some fd =>
    rw [hl] at e
    simp only [Option.map_some, Option.some.injEq, Prod.mk.injEq] at e
    exact ⟨fd, by simpa using hl, e.1, e.2⟩

theorem cellsB_rel {h : Heap} {r : Nat} (e : cellsB h r = true) : ∃ segs, h r = some (.cells segs) := by
  unfold cellsB at e
  split at e
  · rename_i segs hs; exact ⟨segs, hs⟩
  · cases e
theorem liveB_rel {h : Heap} {r : Nat} (e : liveB h r = true) : ∃ g, h r = some g ∧ g.live := by
  unfold liveB at e
  split at e
  · rename_i segs hs; exact ⟨_, hs, trivial⟩
  · rename_i hs; exact ⟨_, hs, trivial⟩
  · cases e

theorem fieldAddr_rel (hT : TabOk P T) (R : Rel P w0 fp nt β st a w) {s f : Nat} {x : AV} {u : Value} (hx : AVRel st.heap β w x u) {rq : Option Req} {δ : Delta} (e : fieldAddrAV T st.heap s f x = some (rq, δ)) :
    δ.hw = [] ∧ ∃ v, (Instr.fieldAt s u f).run P w = .ok v w ∧ AVRel st.heap β w δ.av v := by
  have common : ∀ {fs : List (Nat × Nat)} {by' z t off ft} {sz : Nat}, T.get s = some ⟨.struct fs, sz, by', z⟩ → fieldOf fs f = some (t, off) → T.get t = some ft → 0 < ft.size → ∀ A : Addr,
      (Instr.fieldAt s (.pointer (some A)) f).run P w = .ok (.pointer (some (A.add off))) w := by
    intro fs by' z t off ft sz h1 h2 h3 h4 A
    obtain ⟨l, hu, hl⟩ := tdStruct (hT _ _ h1)
    obtain ⟨fd, hfd, rfl, rfl⟩ := fieldOf_rel hl h2
    obtain ⟨i, hi, hsz, _⟩ := (hT _ _ h3).info
    have hne : ¬ i.size = 0 := by omega
    simp [Instr.fieldAt, run_underlying hu, hfd, Instr.sureAddr, fieldPlace, run_sizeOf hi, hne]
  unfold fieldAddrAV at e
  split at e
  · rename_i r base o room
    cases h1 : T.get s with
    | none => rw [h1] at e; cases e
    | some ti =>
      rw [h1] at e
      obtain ⟨td, sz, by', z⟩ := ti
      cases td <;> simp only [] at e <;> try (cases e; done)
      rename_i fs
      cases h2 : fieldOf fs f with
      | none => rw [h2] at e; cases e
      | some to =>
        obtain ⟨t, off⟩ := to
        rw [h2] at e
        cases o with
        | some _ => cases e
        | none =>
          simp only [] at e
          cases h3 : T.get t with
          | none => rw [h3] at e; cases e
          | some ft =>
            rw [h3] at e
            simp only [] at e
            cases hb : (Nat.ble (off + ft.size) room && Nat.blt 0 ft.size && cellsB st.heap r) <;> simp only [hb, cond_true, cond_false] at e
            · cases e
            simp only [Bool.and_eq_true] at hb
            have hb1 := nble.1 hb.1.1
            have hb2 := nblt.1 hb.1.2
            obtain ⟨segs, hs⟩ := cellsB_rel hb.2
            cases e
            refine ⟨rfl, ?_⟩
            obtain ⟨g, hg, hp⟩ := hx
            rw [hs] at hg
            cases hg
            obtain ⟨b, hbv, rfl, hsz, _⟩ := hp
            refine ⟨_, common h1 h2 h3 hb2 _, _, hs, b, hbv, ?_, by simp [offOf] at *; omega, by simp⟩
            rw [add_lit]; simp [offOf]
  · rename_i cs o room
    cases h1 : T.get s with
    | none => rw [h1] at e; cases e
    | some ti =>
      rw [h1] at e
      obtain ⟨td, sz, by', z⟩ := ti
      cases td <;> simp only [] at e <;> try (cases e; done)
      rename_i fs
      cases h2 : fieldOf fs f with
      | none => rw [h2] at e; cases e
      | some to =>
        obtain ⟨t, off⟩ := to
        rw [h2] at e
        cases o with
        | some _ => cases e
        | none =>
          simp only [] at e
          cases h3 : T.get t with
          | none => rw [h3] at e; cases e
          | some ft =>
            cases h4 : dropSegs cs off with
            | none => rw [h3, h4] at e; cases e
            | some cs' =>
              rw [h3, h4] at e
              simp only [] at e
              cases hb : (Nat.ble (off + ft.size) room && Nat.blt 0 ft.size) <;> simp only [hb, cond_true, cond_false] at e
              · cases e
              simp only [Bool.and_eq_true] at hb
              have hb1 := nble.1 hb.1
              have hb2 := nblt.1 hb.2
              cases e
              refine ⟨rfl, ?_⟩
              obtain ⟨A, rfl, hf, hsz, hlim⟩ := hx
              obtain ⟨h5, h6⟩ := dropSegs_fz hf h4
              simp only [offOf, Nat.zero_add] at hsz ⊢
              refine ⟨_, common h1 h2 h3 hb2 _, A.add off, ?_, h5, by simp [offOf]; omega, by simp⟩
              rw [add_zero']; simp [offOf, add_zero']
  · cases e

theorem encD_size : ∀ (t : DT) (x : t.T), segSize (encD t x) = t.size
  | .int _, _ => rfl
  | .bool, _ => rfl
  | .str, _ => rfl
  | .item, _ => rfl
  | .arr _ n, _ => by simp [encD, segSize, CV.size, DT.size]
  | .sl _, _ => rfl
  | .pair a b, x => by simp [encD, segSize_append, encD_size a, encD_size b, DT.size]
  | .pt _, _ => rfl
  | .unit, _ => rfl

theorem asIntOf_int (k : IntKind) (n : Int) : (asIntOf (.int k n)).run P w = .ok (k, n) w := rfl

/-- x[i]'s place -/
theorem indexAddr_rel (hT : TabOk P T) (R : Rel P w0 fp nt β st a w) {t : Nat} {k : IntKind} {i : Int} {x : AV} {u : Value} (hx : AVRel st.heap β w x u) {rq : Option Req} {δ : Delta} (e : indexAddrAV T st.heap t x i = some (rq, δ)) (hr : ∀ r, rq = some r → r.p) :
    δ.hw = [] ∧ ∃ v, (Instr.indexAt t u (.int k i)).run P w = .ok v w ∧ AVRel st.heap β w δ.av v := by
  have arr : ∀ {n el te : Nat} {ti : TI} {sz by' : Nat} {z}, T.get t = some ⟨.array n el, sz, by', z⟩ → T.get el = some ti → 1 < n → 0 ≤ i ∧ i < (n : Int) → ∀ A : Addr,
      (Instr.indexAt t (.pointer (some A)) (.int k i)).run P w = .ok (.pointer (some (A.add (i.toNat * ti.size)))) w := by
    intro n el te ti sz by' z h1 h2 h3 h4 A
    have hu := tdArray (hT _ _ h1)
    obtain ⟨ii, hi, hsz, _⟩ := (hT _ _ h2).info
    simp [Instr.indexAt, asIntOf_int, run_underlying hu, Instr.sureAddr, h4, run_sizeOf hi, hsz]
  have sli : ∀ {el : Nat} {ti : TI} {sz by' : Nat} {z}, T.get t = some ⟨.slice el, sz, by', z⟩ → T.get el = some ti → ∀ (A : Addr) (n c : Nat), 0 ≤ i ∧ i < (n : Int) →
      (Instr.indexAt t (.slice (some A) n c) (.int k i)).run P w = .ok (.pointer (some (A.add (i.toNat * ti.size)))) w := by
    intro el ti sz by' z h1 h2 A n c h4
    have hu := tdSlice (hT _ _ h1)
    obtain ⟨ii, hi, hsz, _⟩ := (hT _ _ h2).info
    simp [Instr.indexAt, asIntOf_int, run_underlying hu, h4, run_sizeOf hi, hsz]
  unfold indexAddrAV at e
  split at e
  · rename_i n el sz by' z h1
    cases h2 : T.get el with
    | none => rw [h2] at e; cases x <;> simp only [] at e <;> cases e
    | some te =>
      rw [h2] at e
      split at e
      · rename_i te' r base o room heq
        cases heq
        cases hb : (Nat.ble (n * te.size) room && Nat.blt 1 n && liveB st.heap r) <;> simp only [hb, cond_true, cond_false] at e
        · cases e
        simp only [Bool.and_eq_true] at hb
        have hb1 := nble.1 hb.1.1
        have hb2 := nblt.1 hb.1.2
        obtain ⟨g, hg, hl⟩ := liveB_rel hb.2
        cases e
        have hin := hr _ rfl
        simp only [req] at hin
        obtain ⟨g', hg', hp⟩ := hx
        rw [hg] at hg'
        cases hg'
        obtain ⟨A, rfl, hp'⟩ := PtrOk.step (i := i.toNat) hp hl (by omega) hb1
        exact ⟨rfl, _, arr (te := 0) h1 h2 hb2 hin A, g, hg, hp'⟩
      · rename_i te' cs o room heq
        cases heq
        cases hb : (Nat.ble (n * te.size) room && Nat.blt 1 n) <;> simp only [hb, cond_true, cond_false] at e
        · cases e
        simp only [Bool.and_eq_true] at hb
        have hb1 := nble.1 hb.1
        have hb2 := nblt.1 hb.2
        cases e
        have hin := hr _ rfl
        simp only [req] at hin
        obtain ⟨A, rfl, hf, hsz, hlim⟩ := hx
        refine ⟨rfl, _, arr (te := 0) h1 h2 hb2 hin _, A, ?_, hf, ?_, step_lim (by omega) hb1 hlim rfl⟩
        · rw [add_add, offOf_step]
        · rw [offOf_step]
          have hle : i.toNat * te.size + te.size ≤ n * te.size := by
            calc i.toNat * te.size + te.size = (i.toNat + 1) * te.size := by rw [Nat.add_mul, Nat.one_mul]
              _ ≤ n * te.size := Nat.mul_le_mul_right _ (by omega)
          omega
      · cases e
  · rename_i el sz by' z h1
    cases h2 : T.get el with
    | none => rw [h2] at e; cases x <;> simp only [] at e <;> cases e
    | some te =>
      rw [h2] at e
      split at e
      · rename_i te' r heq
        cases heq
        cases hg : st.heap r with
        | none => rw [hg] at e; cases e
        | some g =>
          rw [hg] at e
          cases g <;> simp only [] at e <;> try (cases e; done)
          rename_i e' k' xs
          cases hb : Nat.beq te.size 1 <;> simp only [hb, cond_true, cond_false] at e
          · cases e
          have hsz1 := nbeq.1 hb
          cases e
          have hin := hr _ rfl
          simp only [req] at hin
          obtain ⟨g', hg', hp⟩ := hx
          rw [hg] at hg'
          cases hg'
          obtain ⟨rfl, _⟩ := hp
          rcases R.heap r _ hg with ⟨hn, rfl⟩ | ⟨b, cap, tail, hbv, hh, hc, hm⟩
          · simp at hin; omega
          · rw [hbv]
            refine ⟨rfl, _, sli h1 h2 _ _ _ hin, _, hg, rfl, by simp [offOf]; omega, b, cap, hbv, ?_⟩
            rw [add_lit, hsz1]; simp [offOf]
      · rename_i te' r p n heq
        cases heq
        cases hg : st.heap r with
        | none => rw [hg] at e; cases e
        | some g =>
          rw [hg] at e
          cases g <;> simp only [] at e <;> try (cases e; done)
          rename_i e' k' xs
          cases hb : Nat.beq te.size 1 <;> simp only [hb, cond_true, cond_false] at e
          · cases e
          have hsz1 := nbeq.1 hb
          cases e
          have hin := hr _ rfl
          simp only [req] at hin
          obtain ⟨g', hg', hp⟩ := hx
          rw [hg] at hg'
          cases hg'
          obtain ⟨hlen, A, cap, A', hbv, rfl, hA⟩ := hp
          rcases R.heap r _ hg with ⟨hn, rfl⟩ | ⟨b, cap', tail, hbv', hh, hc, hm⟩
          · simp at hlen; omega
          · rw [hbv'] at hbv
            cases hbv
            have hA' := hA (by omega)
            subst hA'
            simp only [Option.map_some]
            refine ⟨trivial, _, sli h1 h2 _ _ _ hin, _, hg, by simp, by simp [offOf]; omega, b, _, hbv', ?_⟩
            rw [add_lit, add_lit, hsz1]; simp [offOf]
      · rename_i te' r base lo n lim heq
        cases heq
        cases hb : (Nat.beq te.size 1 && cellsB st.heap r) <;> simp only [hb, cond_true, cond_false] at e
        · cases e
        simp only [Bool.and_eq_true] at hb
        have hsz1 := nbeq.1 hb.1
        obtain ⟨segs, hs⟩ := cellsB_rel hb.2
        cases e
        have hin := hr _ rfl
        simp only [req] at hin
        obtain ⟨g', hg', hp⟩ := hx
        rw [hs] at hg'
        cases hg'
        obtain ⟨b, hbv, hlo, hlim, rfl⟩ := hp
        rw [if_neg (by omega)]
        refine ⟨rfl, _, sli h1 h2 _ _ _ hin, _, hs, b, hbv, ?_, by simp [offOf]; omega, by simp; omega⟩
        rw [add_lit, hsz1]; simp [offOf, Nat.add_assoc]
      · rename_i te' d xs n heq
        cases heq
        cases hb : Nat.beq te.size d.size <;> simp only [hb, cond_true, cond_false] at e
        · cases e
        have hsz1 := nbeq.1 hb
        cases e
        have hin := hr _ rfl
        simp only [req] at hin
        simp only [AVRel, CVRel] at hx
        cases hx with
        | fz t' xs' n' A c hn hc h0 hat =>
          cases A with
          | none => have := (h0 rfl).1; subst this; simp at hn; omega
          | some A =>
            refine ⟨rfl, _, sli h1 h2 _ _ _ hin, A.add (i.toNat * te.size), by simp [offOf, add_zero'], ?_, ?_, by simp⟩
            · have hlt : i.toNat < xs.length := by omega
              have := hat A rfl i.toNat hlt
              rw [hsz1]
              rw [List.getD_eq_getElem?_getD, List.getElem?_eq_getElem hlt]
              exact this
            · rw [encD_size]; simp [offOf]
      · cases e
  · cases e
end
end Go.Abs
