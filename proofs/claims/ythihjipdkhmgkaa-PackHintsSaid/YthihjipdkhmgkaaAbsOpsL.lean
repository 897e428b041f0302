/- One operation: what the abstract step tells, the machine's step does. -/
import Derived.Test.YthihjipdkhmgkaaAbsSegsL
namespace Go.Abs
open Go.RowKit

def TDRel : TypeDesc → TD → Prop
  | .int k, .int k' => k = k'
  | .bool, .bool => True
  | .string, .str => True
  | .pointer _, .ptr => True
  | .slice e, .slice e' => e = e'
  | .array n e, .array n' e' => n = n' ∧ e = e'
  | .struct fs, .struct l => fs.toList.map (fun f => (f.type, f.offset)) = l
  | .interface _, .other => True
  | .func _ _ _, .other => True
  | .map _ _, .other => True
  | .map k e, .map k' e' => k = k' ∧ e = e'
  | _, _ => False

structure TIOk (P : Program) (t : Nat) (ti : TI) : Prop where
  info : ∃ i, P.info? t = some i ∧ i.size = ti.size ∧ i.bytes = ti.bytes ∧ ∃ z, i.zero = some z ∧ ∀ h β w, SegsRel h β w ti.zero z.cells.toList
  desc : ∃ d, P.underlying t = some d ∧ TDRel d ti.d
  agg1 : isAggT ti.d = false → ti.size = 1
  zsize : segSize ti.zero = ti.size
  bpos : ∀ k, ti.d = .int k → 0 < ti.bytes
  zint : ∀ k, ti.d = .int k → ∃ i k' n, P.info? t = some i ∧ i.zero = some (.int k' n)
  flds : ∀ l, P.underlying t = some (.struct l) → ∀ f ∈ l.toList, (P.info? f.type).isSome = true

def TabOk (P : Program) (T : Tab) : Prop := ∀ t ti, T.get t = some ti → TIOk P t ti

theorem TabOk.nil (P : Program) : TabOk P [] := fun _ _ e => by cases e
theorem TabOk.cons {P : Program} {T : Tab} {t : Nat} {ti : TI} (h : TIOk P t ti) (H : TabOk P T) : TabOk P ((t, ti) :: T) := by
  intro u ui e
  simp only [Tab.get] at e
  cases hb : Nat.beq t u <;> simp only [hb, cond_true, cond_false] at e
  · exact H u ui e
  · obtain rfl := nbeq.1 hb
    cases e
    exact h

section
variable {P : Program} {w0 : World} {fp : FP} {nt : Nat} {β : Nat → Value} {st : St} {a : Act} {w : World} {T : Tab} {o : Oper} {Q : Exit → Act → World → Prop}

def Post (P : Program) (w0 : World) (fp : FP) (nt : Nat) (st : St) (a : Act) (w : World) : Prop := ∃ β, Rel P w0 fp nt β st a w

theorem wp_val {next : Act → World → Prop} {v : Value} {w' : World} (hrun : (execOp a.eval o).run P w = .ok (.value v) w') (h : next (a.put o.dst v) w') : o.wp P a w next Q := by
  unfold Oper.wp; rw [hrun]; exact h
theorem wp_skip' {next : Act → World → Prop} {w' : World} (hrun : (execOp a.eval o).run P w = .ok .skip w') (h : next (a.put o.dst undef) w') : o.wp P a w next Q := by
  unfold Oper.wp; rw [hrun]; exact h

theorem fin_pure (R : Rel P w0 fp nt β st a w) (hd : dstOk nt o.dst = true) {av : AV} {v : Value} {hr : List Nat} (hrun : (execOp a.eval o).run P w = .ok (.value v) w) (hv : AVRel st.heap β w av v) :
    o.wp P a w (Post P w0 fp nt (st.app o.dst ⟨av, [], hr⟩)) Q := wp_val hrun ⟨β, R.pure hd hv⟩

theorem opd_rel (R : Rel P w0 fp nt β st a w) {x : Operand} {av : AV} (e : opd st x = some av) : AVRel st.heap β w av (a.eval x) := by
  cases x with
  | tmp t => exact R.env t av e
  | const v => cases e; cases v <;> simp only [ofValue, AVRel, CVRel, Act.eval]
  | global g => cases e
  | func f =>
    cases e
    simp only [AVRel, CVRel, Act.eval]
    exact ⟨[], rfl, rfl, fun i r h => by simp at h⟩

theorem opds_rel (R : Rel P w0 fp nt β st a w) : ∀ {xs : List Operand} {l : List AV}, opds st xs = some l → AVsRel st.heap β w l (xs.map a.eval) := by
  intro xs
  induction xs with
  | nil => intro l e; cases e; simp only [AVsRel, List.map_nil]
  | cons x xs ih =>
    intro l e
    simp only [opds] at e
    cases h1 : opd st x with
    | none => rw [h1] at e; cases e
    | some av =>
      cases h2 : opds st xs with
      | none => rw [h1, h2] at e; cases e
      | some l' =>
        rw [h1, h2] at e
        cases e
        simp only [AVsRel, List.map_cons]
        exact ⟨_, _, rfl, opd_rel R h1, ih h2⟩

theorem partsAV_rel (R : Rel P w0 fp nt β st a w) : ∀ {ps : List (Nat × Operand)} {l : List (Nat × AV)}, partsAV st ps = some l →
    l.map (·.1) = ps.map (·.1) ∧ AVsRel st.heap β w (l.map (·.2)) (ps.map fun p => a.eval p.2) := by
  intro ps
  induction ps with
  | nil => intro l e; cases e; simp [AVsRel]
  | cons p ps ih =>
    obtain ⟨i, x⟩ := p
    intro l e
    simp only [partsAV] at e
    cases h1 : opd st x with
    | none => rw [h1] at e; cases e
    | some av =>
      cases h2 : partsAV st ps with
      | none => rw [h1, h2] at e; cases e
      | some l' =>
        rw [h1, h2] at e
        cases e
        obtain ⟨h3, h4⟩ := ih h2
        refine ⟨by simp [h3], ?_⟩
        simp only [AVsRel, List.map_cons]
        exact ⟨_, _, rfl, opd_rel R h1, h4⟩

/-! ### Addresses, windows -/
theorem add_add (x : Addr) (i j : Nat) : (x.add i).add j = x.add (i + j) := by
  unfold Addr.add
  by_cases hi : i = 0 <;> by_cases hj : j = 0 <;> simp [hi, hj, Nat.add_assoc]
theorem add_lit (b o j : Nat) : (⟨b, o, none⟩ : Addr).add j = ⟨b, o + j, none⟩ := by
  unfold Addr.add
  by_cases hj : j = 0 <;> simp [hj]
theorem add_zero' (x : Addr) : x.add 0 = x := by simp [Addr.add]
theorem add_block (x : Addr) (i : Nat) : (x.add i).block = x.block := by unfold Addr.add; split <;> rfl

def Win (w : World) (A : Addr) (l : List Value) : Prop := ∀ j v, l[j]? = some v → w.cell? (A.add j) = some v

theorem win_block {b T : Nat} {cs : Array Value} {fr : Nat × Nat} (h : w.heap[b]? = some (.cells cs T fr)) : Win w ⟨b, 0, none⟩ cs.toList := by
  intro j v hv
  rw [add_lit]
  simp only [Nat.zero_add, World.cell?, h]
  simpa using hv

theorem Win.drop {A : Addr} {l : List Value} (h : Win w A l) (n : Nat) : Win w (A.add n) (l.drop n) := by
  intro j v hv
  rw [add_add]
  exact h _ _ (by simpa using hv)

/-- frozen cells as a window -/
theorem fzV_one {h : Heap} {c : CV} {v : Value} (H : FzV w (Own h β) c v) : v.oneCell' = true ∧ CVRel h β w c v ∧ (∀ k n f, c ≠ .ints k n f) ∧ (∀ n, c ≠ .junk n) := by
  cases H with
  | int => exact ⟨rfl, by simp only [CVRel], by simp, by simp⟩
  | bool => exact ⟨rfl, by simp only [CVRel], by simp, by simp⟩
  | str => exact ⟨rfl, by simp only [CVRel], by simp, by simp⟩
  | fz t xs n A c hn hc h0 hat => exact ⟨rfl, by simp only [CVRel]; exact .fz t xs n A c hn hc h0 hat, by simp, by simp⟩
  | pt cs room a hat hr => exact ⟨rfl, by simp only [CVRel]; exact ⟨a, by simp [offOf, Addr.add], hat, by simpa [offOf] using hr, by simp⟩, by simp, by simp⟩

theorem fz_win {h : Heap} {cs : List CV} {A : Addr} (H : FzAt w (Own h β) cs A) : ∃ l, SegsRel h β w cs l ∧ Win w A l := by
  induction H with
  | nil a => exact ⟨[], by simp [SegsRel], fun j v hv => by simp at hv⟩
  | ints k n f cs a hc ho hr ih =>
    obtain ⟨l, hs, hw⟩ := ih
    refine ⟨fnV k n f ++ l, by simp only [SegsRel]; exact ⟨l, rfl, hs⟩, fun j v hv => ?_⟩
    by_cases hj : j < n
    · rw [List.getElem?_append_left (by simp; omega), fnV_get _ _ _ _ hj] at hv
      cases hv
      exact hc j hj
    · rw [List.getElem?_append_right (by simp; omega)] at hv
      have := hw _ _ hv
      rw [add_add] at this
      simp only [fnV_length] at this
      rwa [show n + (j - n) = j by omega] at this
  | one c cs a v hc ho hv hr ih =>
    obtain ⟨l, hs, hw⟩ := ih
    obtain ⟨h1, h2, h3, h4⟩ := fzV_one hv
    refine ⟨v :: l, ?_, fun j u hu => ?_⟩
    · cases c <;> simp only [SegsRel] <;> first
        | exact ⟨v, l, rfl, h1, h2, hs⟩
        | exact absurd rfl (h3 _ _ _)
        | exact absurd rfl (h4 _)
    · cases j with
      | zero => simp at hu; subst hu; rw [add_zero']; exact hc
      | succ j =>
        have := hw j u (by simpa using hu)
        rw [add_add] at this
        rwa [Nat.add_comm 1 j] at this

theorem run_sizeOf {t : Nat} {i : TypeInfo} (h : P.info? t = some i) : (sizeOf t).run P w = .ok i.size w := by simp [sizeOf, typeInfo, h]

theorem isAgg_rel {t : Nat} {d : TypeDesc} {td : TD} (hu : P.underlying t = some d) (h : TDRel d td) : (isAgg t).run P w = .ok (isAggT td) w := by
  unfold isAgg
  rw [Sem.run_bind, run_underlying hu w]
  cases d <;> cases td <;> simp_all [TDRel, isAggT]

/-- reading a variable of a type at a window -/
theorem run_loadVar {t : Nat} {ti : TI} (hT : TIOk P t ti) {A : Addr} {l : List Value} {off : Nat} (hw : Win w A l) (hlen : off + ti.size ≤ l.length) :
    (isAggT ti.d = true → (loadVar t (A.add off)).run P w = .ok (.agg ((l.drop off).take ti.size).toArray) w) ∧
    (isAggT ti.d = false → ∀ v, l[off]? = some v → (loadVar t (A.add off)).run P w = .ok v w) := by
  obtain ⟨i, hi, hsz, _⟩ := hT.info
  obtain ⟨d, hu, hd⟩ := hT.desc
  constructor
  · intro ha
    have hl : (loadCells (A.add off) ((l.drop off).take ti.size).length).run P w = .ok ((l.drop off).take ti.size).toArray w :=
      run_loadCells_list (P := P) w (A.add off) _ (fun j v hv => by
        rw [List.getElem?_take] at hv
        split at hv
        · rw [add_add]; exact hw _ _ (by simpa using hv)
        · cases hv)
    rw [show ((l.drop off).take ti.size).length = ti.size by simp; omega] at hl
    unfold loadVar
    simp [Sem.run_bind, isAgg_rel hu hd, ha, run_sizeOf hi, hsz, hl]
  · intro ha v hv
    unfold loadVar
    simp only [Sem.run_bind, isAgg_rel hu hd, ha, Result.andThen_ok, Bool.false_eq_true, if_false]
    simp [load, Sem.run, hw _ _ hv]

theorem loadAt_rel (R : Rel P w0 fp nt β st a w) {t : Nat} {ti : TI} (hT : TIOk P t ti) {c : CV} {x : Value} (hx : CVRel st.heap β w c x) {δ : Delta} (e : loadAt ti st.heap c = some δ) :
    δ.hw = [] ∧ ∃ v, (Instr.loadAt t x).run P w = .ok v w ∧ AVRel st.heap β w δ.av v := by
  have finish : ∀ {A : Addr} {l : List Value} {off : Nat} {av : AV}, Win w A l → off + ti.size ≤ l.length → (isAggT ti.d = true → AVRel st.heap β w av (.agg ((l.drop off).take ti.size).toArray)) →
      (isAggT ti.d = false → ∃ v, l[off]? = some v ∧ AVRel st.heap β w av v) → ∃ v, (Instr.loadAt t (.pointer (some (A.add off)))).run P w = .ok v w ∧ AVRel st.heap β w av v := by
    intro A l off av hw hlen h1 h2
    have H := run_loadVar hT hw hlen
    have e1 : ∀ r, (loadVar t (A.add off)).run P w = r → (Instr.loadAt t (.pointer (some (A.add off)))).run P w = r := by
      intro r hr
      simp [Instr.loadAt, Instr.sureAddr, hr]
    cases ha : isAggT ti.d with
    | true => exact ⟨_, e1 _ (H.1 ha), h1 ha⟩
    | false =>
      obtain ⟨v, hv, hr⟩ := h2 ha
      exact ⟨v, e1 _ (H.2 ha v hv), hr⟩
  cases c <;> simp only [loadAt] at e <;> try (cases e; done)
  case ptr r base o room =>
    cases hb : Nat.ble ti.size room <;> simp only [hb, cond_true, cond_false] at e
    · cases e
    have hroom := nble.1 hb
    obtain ⟨g, hg, hp⟩ := hx
    rw [hg] at e
    have hreg := R.heap r g hg
    cases g with
    | dead => cases e
    | rowd => cases e
    | imap => cases e
    | cells segs =>
      simp only [] at e
      obtain ⟨b, hbv, rfl, hsz, hlim⟩ := hp
      obtain ⟨b', TT, cs, hbv', hh, hs⟩ := hreg
      obtain rfl : b' = b := by rw [hbv] at hbv'; simpa using hbv'.symm
      cases hd : dropSegs segs base with
      | none => rw [hd] at e; cases e
      | some rest =>
        rw [hd] at e
        simp only [] at e
        cases hrd : readSegs ti o rest with
        | none => rw [hrd] at e; cases e
        | some av =>
          rw [hrd] at e
          cases e
          refine ⟨rfl, ?_⟩
          obtain ⟨h1, h2⟩ := dropSegs_rel hs hd
          obtain ⟨h3, h4, h5⟩ := readSegs_rel h2 hrd (fun i lim e => by have := hlim i lim e; omega) hT.agg1
          have hw := (win_block hh).drop base
          have := finish hw h3 h4 h5
          rw [add_add, add_lit, Nat.zero_add] at this
          exact this
    | row e' k xs =>
      simp only [] at e
      obtain ⟨rfl, hlen, b, cap, hbv, rfl⟩ := hp
      have hcell : Win w ⟨b, 0, none⟩ (intsV k xs) := by
        rcases hreg with ⟨hn, _⟩ | ⟨b', cap', tail, hbv', hh, _, _⟩
        · rw [hn] at hbv; cases hbv
        · rw [hbv'] at hbv
          cases hbv
          intro j v hv
          refine win_block hh j v ?_
          rw [List.getElem?_append_left (by
            rcases Nat.lt_or_ge j (intsV k xs).length with h | h
            · exact h
            · rw [List.getElem?_eq_none h] at hv; cases hv)]
          exact hv
      have := finish (off := offOf o) (av := δ.av) hcell (by simp; omega)
      rw [add_lit, Nat.zero_add] at this
      cases ha : isAggT ti.d <;> simp only [ha, cond_true, cond_false] at e
      · cases e
        refine ⟨rfl, this (fun h => by rw [ha] at h; cases h) fun _ => ?_⟩
        have hsz := hT.agg1 ha
        have hlt : offOf o < xs.length := by omega
        refine ⟨.int k (xs.getD (offOf o) 0), ?_, rfl⟩
        simp [intsV, hlt]
      · cases e
        refine ⟨rfl, this (fun _ => ?_) (fun h => by rw [ha] at h; cases h)⟩
        refine ⟨_, rfl, ⟨[], ?_, rfl⟩⟩
        rw [List.append_nil]
        apply List.ext_getElem?
        intro j
        rw [List.getElem?_take, List.getElem?_drop]
        by_cases hj : j < ti.size
        · rw [if_pos hj, fnV_get _ _ _ _ hj]
          have hlt : offOf o + j < xs.length := by omega
          simp [intsV, hlt]
        · rw [if_neg hj, List.getElem?_eq_none (by simp; omega)]
  case fzp cs o room =>
    cases hb : Nat.ble ti.size room <;> simp only [hb, cond_true, cond_false] at e
    · cases e
    have hroom := nble.1 hb
    obtain ⟨A, rfl, hf, hsz, hlim⟩ := hx
    obtain ⟨l, hs, hw⟩ := fz_win hf
    cases hrd : readSegs ti o cs with
    | none => rw [hrd] at e; cases e
    | some av =>
      rw [hrd] at e
      cases e
      obtain ⟨h3, h4, h5⟩ := readSegs_rel hs hrd (fun i lim e => by have := hlim i lim e; omega) hT.agg1
      exact ⟨rfl, finish hw h3 h4 h5⟩
end
end Go.Abs
