/- Operations on data: rows of data, copies; all of them are right. -/
import Derived.Test.YthihjipdkhmgkaaAbsOps8L
set_option linter.unusedVariables false
set_option linter.unusedSimpArgs false
namespace Go.Abs
universe u
open Go.RowKit

section
variable {P : Program} {w0 : World} {fp : FP} {nt : Nat} {β : Nat → Value} {st : St} {a : Act} {w : World} {T : Tab} {o : Oper} {Q : Exit → Act → World → Prop}

theorem seqDat_rel (R : Rel P w0 fp nt β st a w) {d : DT} {own : Nat → Prop} : ∀ {l : List (Nat × AV)} {vs : List Value} {i : Nat} {xs : List d.T} {gs : List Nat}, seqDat st.heap d i l = some (xs, gs) → AVsRel st.heap β w (l.map (·.2)) vs → OwnLess st β gs own →
    l.map (·.1) = List.range' i l.length ∧ xs.length = l.length ∧ FzL w own (xs.flatMap (encD d)) (vs.flatMap fun v => v.cells.toList) ∧ ∀ v ∈ vs, v.cells.size = d.size := by
  intro l
  induction l with
  | nil => intro vs i xs gs e hv H; cases e; simp only [List.map_nil, AVsRel] at hv; subst hv; exact ⟨rfl, rfl, rfl, by simp⟩
  | cons p l ih =>
    obtain ⟨j, av⟩ := p
    intro vs i xs gs e hv H
    simp only [List.map_cons, AVsRel] at hv
    obtain ⟨v, r, rfl, hx, hr⟩ := hv
    simp only [seqDat] at e
    obtain ⟨h1, e2⟩ := cond_some e
    clear e
    obtain rfl := nbeq.1 h1
    split at e2
    · rename_i cs hcs
      split at e2
      · rename_i x gs1 hf
        split at e2
        · rename_i xs' gs2 hs
          cases e2
          obtain ⟨h2, h3, h4, h5⟩ := ih hs hr (H.sub (by simp; intro r hr; exact .inr hr))
          have hc := cellAV_rel hx hcs
          obtain ⟨l1, l2, hl, h6, h7⟩ := frzD_rel R hf hc (H.sub (by simp; intro r hr; exact .inl hr))
          simp only [SegsRel] at h7
          subst h7
          rw [List.append_nil] at hl
          refine ⟨by simp [h2, List.range'_succ], by simp [h3], ?_, ?_⟩
          · rw [List.flatMap_cons, List.flatMap_cons]
            exact (hl ▸ h6).append h4
          · intro u hu
            rcases List.mem_cons.1 hu with rfl | hu
            · have h8 : l1.length = segSize (encD d x) := by
                have : ∀ {cs : List CV} {l : List Value}, FzL w own cs l → l.length = segSize cs := by
                  intro cs
                  induction cs with
                  | nil => intro l H; simp only [FzL] at H; subst H; rfl
                  | cons c cs ih =>
                    intro l H
                    cases c <;> simp only [FzL] at H
                    case ints k n f => obtain ⟨r, rfl, H⟩ := H; simp [segSize, CV.size, ih H]
                    case junk n => obtain ⟨v, r, rfl, hv, H⟩ := H; cases hv
                    all_goals (obtain ⟨v, r, rfl, hv, H⟩ := H; simp [segSize, CV.size, ih H]; omega)
                exact this h6
              rw [encD_size] at h8
              rw [← Array.length_toList, hl, h8]
            · exact h5 u hu
        · cases e2
      · cases e2
    · cases e2

theorem fill_dat {sz : Nat} : ∀ (vs : List Value) (i : Nat) (cells : List Value), (∀ v ∈ vs, v.cells.size = sz) → (i + vs.length) * sz ≤ cells.length →
    Instr.fill (fun i => some (i * sz, sz)) cells.toArray ((List.range' i vs.length).zip vs) = some (cells.take (i * sz) ++ (vs.flatMap fun v => v.cells.toList) ++ cells.drop ((i + vs.length) * sz)).toArray := by
  intro vs
  induction vs with
  | nil => intro i cells _ _; simp [Instr.fill]
  | cons v vs ih =>
    intro i cells hs hc
    have hv := hs v (by simp)
    have hm : (i + (vs.length + 1)) * sz = i * sz + sz + vs.length * sz := by rw [Nat.add_mul, Nat.add_mul]; omega
    simp only [List.length_cons] at hc
    simp only [List.length_cons, List.range'_succ, List.zip_cons_cons]
    rw [fill_one (place := fun i => some (i * sz, sz)) (off := i * sz) (size := sz) rfl (by rw [hv]) (by rw [hm] at hc; omega)]
    rw [ih (i + 1) _ (fun u hu => hs u (by simp [hu])) (by simp [hv]; rw [show (i + 1 + vs.length) * sz = i * sz + sz + vs.length * sz by rw [show i + 1 + vs.length = i + (vs.length + 1) by omega, hm]]; omega)]
    congr 2
    have e1 : (cells.take (i * sz)).length = i * sz := by simp; omega
    have e2 : v.cells.toList.length = sz := by simp [hv]
    have e3 : (i + 1) * sz = i * sz + sz := by rw [Nat.add_mul, Nat.one_mul]
    have e4 : (i + 1 + vs.length) * sz = (i + (vs.length + 1)) * sz := by congr 1; omega
    rw [e3, e4, List.flatMap_cons]
    have e5 : (cells.take (i * sz) ++ v.cells.toList ++ cells.drop (i * sz + v.cells.size)).take (i * sz + sz) = cells.take (i * sz) ++ v.cells.toList := by
      rw [List.take_append_of_le_length (by simp [hv]; omega), List.take_of_length_le (by simp [hv]; omega)]
    have e6 : (cells.take (i * sz) ++ v.cells.toList ++ cells.drop (i * sz + v.cells.size)).drop ((i + (vs.length + 1)) * sz) = cells.drop ((i + (vs.length + 1)) * sz) := by
      rw [List.drop_append, List.drop_of_length_le (by simp [hv]; omega), List.nil_append, List.drop_drop]
      congr 1
      simp [hv, e1]
      omega
    rw [hv] at e5 e6
    rw [e5, e6]
    simp

theorem datInfo (hT : TabOk P T) {e : Nat} {te : TI} (h : T.get e = some te) : ∃ i zv, P.info? e = some i ∧ i.size = te.size ∧ i.bytes = te.bytes ∧ i.zero = some zv ∧ zv.cells.size = te.size := by
  obtain ⟨i, hi, hsz, hby, zv, hz, hzs⟩ := (hT _ _ h).info
  have h2 := (hzs (fun _ => none) (fun _ => undef) default).length
  rw [(hT _ _ h).zsize] at h2
  exact ⟨i, zv, hi, hsz, hby, hz, by simpa using h2⟩

/-- own regions are given up; a new one, in a new block, is told instead -/
theorem Rel.turned (R : Rel P w0 fp nt β st a w) {q : Nat} (hd : dstOk nt (some q) = true) (hfree : st.heap q = none) {gs : List Nat} {g : Reg} {bv : Value} {obj : Obj} (hgs : ∀ r ∈ gs, ∃ g, st.heap r = some g) (hbv : ∀ b, blkOf bv = some b → b = w.heap.size) (hfull : FullOk bv bv g)
    (hreg : ∀ h', (∀ b, Own h' (upd β q bv) b → (Own st.heap β b ∧ ∀ r ∈ gs, ∀ g, st.heap r = some g → g.live → blkOf (β r) ≠ some b) ∨ b = w.heap.size) → RegRel h' (upd β q bv) (w.alloc obj) bv g) :
    Rel P w0 fp nt (upd β q bv) (st.app (some q) ⟨.c (.full q), gs.map (fun r => (r, Reg.dead)) ++ [(q, g)], q :: gs⟩) (a.put (some q) bv) (w.alloc obj) := by
  have hne : ∀ r g1, st.heap r = some g1 → r ≠ q := fun r g1 h e => by subst e; rw [hfree] at h; cases h
  have hkill : ∀ (h : Heap), heapPut h (gs.map (fun r => (r, Reg.dead)) ++ [(q, g)]) = upd (heapPut h (gs.map fun r => (r, Reg.dead))) q (some g) := by
    intro h
    have : ∀ (l l' : List (Nat × Reg)) (h : Heap), heapPut h (l ++ l') = heapPut (heapPut h l) l' := by
      intro l
      induction l with
      | nil => intro l' h; rfl
      | cons p l ih => intro l' h; obtain ⟨a, b⟩ := p; simp only [List.cons_append, heapPut]; exact ih _ _
    rw [this]
    rfl
  have hdead : ∀ (l : List Nat) (h : Heap) r, heapPut h (l.map fun r => (r, Reg.dead)) r = if r ∈ l then some .dead else h r := by
    intro l
    induction l with
    | nil => intro h r; simp [heapPut]
    | cons x l ih =>
      intro h r
      simp only [List.map_cons, heapPut]
      rw [ih]
      by_cases h1 : r ∈ l
      · simp [h1]
      · by_cases h2 : r = x
        · subst h2; simp [h1, upd_same]
        · simp [h1, h2, upd_ne _ _ h2]
  simp only [St.app]
  rw [hkill]
  have look : ∀ r g1, heapPut st.heap (gs.map fun r => (r, Reg.dead)) r = some g1 → g1.live → st.heap r = some g1 ∧ r ∉ gs := by
    intro r g1 h1 hl
    rw [hdead] at h1
    split at h1
    · cases h1; cases hl
    · rename_i hm; exact ⟨h1, hm⟩
  have hownR : ∀ b, OwnR (upd (heapPut st.heap (gs.map fun r => (r, Reg.dead))) q (some g)) (upd β q bv) b → (OwnR st.heap β b ∧ ∀ r ∈ gs, ∀ g, st.heap r = some g → g.live → blkOf (β r) ≠ some b) ∨ b = w.heap.size := by
    rintro b ⟨r, g1, h1, h2, h3⟩
    by_cases e : r = q
    · subst e
      rw [upd_same] at h3
      exact .inr (hbv b h3)
    · rw [upd_ne _ _ e] at h1 h3
      obtain ⟨h4, h5⟩ := look r g1 h1 h2
      refine .inl ⟨⟨r, g1, h4, h2, h3⟩, fun r' hr' g' hg' hl' hb' => ?_⟩
      have := R.sep r r' g1 g' b h4 hg' h2 hl' h3 hb'
      subst this
      exact h5 hr'
  refine R.update (w' := w.alloc obj) hd rfl rfl rfl (by simp) (dst_hid R hd _) (fun b hb _ => Below.heap_alloc w obj b hb) (fun b hb => (hownR b hb).imp (·.1) fun h => by omega) ?_ ?_ ?_ ?_ ?_
  · intro r g1 h1
    have e := hne r g1 h1
    rw [upd_ne _ _ e, hdead]
    split
    · exact ⟨.dead, rfl, by cases g1 <;> trivial, fun h => h.elim⟩
    · exact ⟨g1, h1, .refl g1, fun _ => upd_ne _ _ e⟩
  · intro r g1 hio h1
    have e : r ≠ q := fun h => by
      have h1 : q < nt := by simpa [dstOk, Nat.blt_eq] using hd
      have := R.small
      omega
    rw [upd_ne _ _ e, hdead] at h1
    split at h1
    · rename_i hm; exact hgs r hm
    · exact ⟨g1, h1⟩
  · intro M r g1 h1
    by_cases e : r = q
    · subst e
      rw [upd_same] at h1
      cases h1
      rw [upd_same]
      refine hreg _ fun b hb => ?_
      rcases hb with hb | hb
      · exact (hownR b hb).imp (fun h => ⟨.inl h.1, h.2⟩) id
      · have hb := hb.congr (dst_hid R hd bv)
        exact .inl ⟨.inr hb, fun r _ g hg hl hbb => R.apart ⟨r, g, hg, hl, hbb⟩ hb⟩
    · rw [upd_ne _ _ e] at h1
      rw [upd_ne _ _ e]
      rw [hdead] at h1
      split at h1
      · cases h1; trivial
      · exact (R.heap r g1 h1).mono M fun b hb hl => Below.heap_alloc w obj b (OwnR.lt R ⟨r, g1, h1, hl, hb⟩)
  · intro r r' g1 g2 b h1 h2 l1 l2 e1 e2
    by_cases d1 : r = q <;> by_cases d2 : r' = q
    · rw [d1, d2]
    · subst d1
      rw [upd_same] at e1
      rw [upd_ne _ _ d2] at h2 e2
      have := hbv b e1
      have := OwnR.lt R ⟨r', g2, (look r' g2 h2 l2).1, l2, e2⟩
      omega
    · subst d2
      rw [upd_same] at e2
      rw [upd_ne _ _ d1] at h1 e1
      have := hbv b e2
      have := OwnR.lt R ⟨r, g1, (look r g1 h1 l1).1, l1, e1⟩
      omega
    · rw [upd_ne _ _ d1] at h1 e1
      rw [upd_ne _ _ d2] at h2 e2
      exact R.sep r r' g1 g2 b (look r g1 h1 l1).1 (look r' g2 h2 l2).1 l1 l2 e1 e2
  · intro _
    simp only [AVRel, CVRel]
    exact ⟨g, upd_same _ _ _, by rw [upd_same]; exact hfull⟩

theorem frzSl_gs {h : Heap} {t : DT} {c : CV} {xs : List t.T} {gs : List Nat} (e : frzSl h t c = some (xs, gs)) : ∀ r ∈ gs, ∃ g, h r = some g := by
  unfold frzSl at e
  split at e
  · split at e
    · split at e <;> cases e <;> simp
    · cases e
  · obtain ⟨_, h2⟩ := cond_some e; cases h2; simp
  · split at e
    · rename_i hr
      split at e
      · cases e; intro r hr'; simp only [List.mem_singleton] at hr'; subst hr'; exact ⟨_, hr⟩
      · cases e
    · rename_i hr
      split at e
      · cases e; intro r hr'; simp only [List.mem_singleton] at hr'; subst hr'; exact ⟨_, hr⟩
      · cases e
    · cases e
  · split at e
    · rename_i hr
      split at e
      · cases e; intro r hr'; simp only [List.mem_singleton] at hr'; subst hr'; exact ⟨_, hr⟩
      · cases e
    · cases e
  · split at e
    · rename_i hr
      split at e
      · obtain ⟨_, e⟩ := cond_some e
        split at e
        · cases e; intro r hr'; simp only [List.mem_singleton] at hr'; subst hr'; exact ⟨_, hr⟩
        · cases e
      · cases e
    · cases e
  · cases e

theorem frzD_gs {h : Heap} : ∀ {t : DT} {cs rest : List CV} {x : t.T} {gs : List Nat}, frzD h t cs = some (x, rest, gs) → ∀ r ∈ gs, ∃ g, h r = some g := by
  intro t
  induction t with
  | sl t ih =>
    intro cs rest x gs e
    simp only [frzD] at e
    split at e
    · split at e
      · rename_i hf; cases e; exact frzSl_gs hf
      · cases e
    · cases e
  | item =>
    intro cs rest x gs e
    simp only [frzD] at e
    split at e
    · split at e
      · rename_i h1 h2
        cases e
        intro r hr
        rcases List.mem_append.1 hr with h | h
        · exact frzSl_gs h1 r h
        · exact frzSl_gs h2 r h
      · cases e
    · cases e
  | pair a b iha ihb =>
    intro cs rest x gs e
    simp only [frzD] at e
    split at e
    · rename_i h1
      split at e
      · rename_i h2
        cases e
        intro r hr
        rcases List.mem_append.1 hr with h | h
        · exact iha h1 r h
        · exact ihb h2 r h
      · cases e
    · cases e
  | pt t ih => intro cs rest x gs e; simp [frzD] at e
  | unit => intro cs rest x gs e; simp [frzD] at e
  | _ =>
    intro cs rest x gs e
    simp only [frzD] at e
    split at e <;> first | (cases e; done) | (cases e; intro r hr; simp at hr) | (obtain ⟨_, h2⟩ := cond_some e; cases h2; intro r hr; simp at hr)

theorem seqDat_gs {h : Heap} {d : DT} : ∀ {l : List (Nat × AV)} {i : Nat} {xs : List d.T} {gs : List Nat}, seqDat h d i l = some (xs, gs) → ∀ r ∈ gs, ∃ g, h r = some g := by
  intro l
  induction l with
  | nil => intro i xs gs e; cases e; simp
  | cons p l ih =>
    obtain ⟨j, av⟩ := p
    intro i xs gs e
    simp only [seqDat] at e
    obtain ⟨_, e2⟩ := cond_some e
    clear e
    split at e2
    · split at e2
      · rename_i hf
        split at e2
        · rename_i hs
          cases e2
          intro r hr
          rcases List.mem_append.1 hr with h | h
          · exact frzD_gs hf r h
          · exact ih hs r h
        · cases e2
      · cases e2
    · cases e2

theorem FzL.mono {own own' : Nat → Prop} {w w' : World} (H : ∀ (x : Addr) v, ¬ own x.block → w.cell? x = some v → w'.cell? x = some v ∧ ¬ own' x.block) : ∀ {cs : List CV} {l : List Value}, FzL w own cs l → FzL w' own' cs l := by
  intro cs
  induction cs with
  | nil => exact fun h => h
  | cons c cs ih =>
    intro l h
    cases c <;> simp only [FzL] at h ⊢
    case ints k n f => obtain ⟨r, hl, h⟩ := h; exact ⟨r, hl, ih h⟩
    all_goals (obtain ⟨v, r, hl, hv, h⟩ := h; exact ⟨v, r, hl, hv.mono H, ih h⟩)

theorem cells_alloc {w : World} {obj : Obj} {x : Addr} {v : Value} (h : w.cell? x = some v) : (w.alloc obj).cell? x = some v := by
  have hlt := World.block_lt_of_cell? w x h
  exact (World.cell?_of_block (w := w) (Below.heap_alloc w obj x.block hlt)).trans h

theorem buildDat_rel (hT : TabOk P T) (R : Rel P w0 fp nt β st a w) (hd : dstOk nt o.dst = true) {t n : Nat} {ps : Array (Nat × Operand)} (hop : o.op = .buildSlice t n ps) {rq : Option Req} {δ : Delta} (e : aop2 T o st = some (rq, δ)) :
    ∃ v w', (Instr.buildSlice t n (ps.map fun (i, x) => (i, a.eval x))).run P w = .ok v w' ∧ ∃ β', Rel P w0 fp nt β' (st.app o.dst δ) (a.put o.dst v) w' := by
  simp only [aop2, hop] at e
  split at e
  · rename_i q el _ _ _ l hdst h1 h2
    have ht := tdSlice (hT _ _ h1)
    obtain ⟨hi1, hi2⟩ := partsAV_rel R h2
    have hpl : (ps.map fun (i, x) => (i, a.eval x)).toList = (l.map (·.1)).zip (ps.toList.map fun p => a.eval p.2) := by
      rw [hi1, Array.toList_map, List.zip_map']
    split at e
    · rename_i te d h3 h4 hfree
      split at e
      · rename_i xs gs h5
        have h60 := cond_some e
        have h6 := h60.1
        have e2 := h60.2
        clear h60 e
        cases e2
        simp only [Bool.and_eq_true] at h6
        obtain ⟨⟨⟨⟨hn, hnl⟩, hsz⟩, hpos⟩, hns⟩ := h6
        have hns := nble.1 hns
        have hn := nble.1 hn
        have hnl := nbeq.1 hnl
        have hsz := nbeq.1 hsz
        have hpos := nblt.1 hpos
        obtain ⟨i, zv, hi, his, hby, hz, hzs⟩ := datInfo hT h3
        have hown0 : OwnLess st β gs (fun b => Own st.heap β b ∧ ∀ r ∈ gs, ∀ g, st.heap r = some g → g.live → blkOf (β r) ≠ some b) := fun b hb => hb
        obtain ⟨g1, g2, g3, g4⟩ := seqDat_rel R h5 hi2 hown0
        have hvl : (ps.toList.map fun p => a.eval p.2).length = n := by rw [hi2.length, List.length_map, ← hnl]
        have hzero : (zeroValue el).run P w = .ok zv w := by simp [zeroValue, typeInfo, hi, hz]
        have hcl : ((ps.toList.map fun p => a.eval p.2).flatMap fun v => v.cells.toList).length = n * te.size := by
          have : ∀ {vs : List Value}, (∀ v ∈ vs, v.cells.size = d.size) → (vs.flatMap fun v => v.cells.toList).length = vs.length * d.size := by
            intro vs
            induction vs with
            | nil => intro _; simp
            | cons v vs ih => intro h; rw [List.flatMap_cons, List.length_append, ih (fun u hu => h u (by simp [hu]))]; simp [h v (by simp), Nat.add_mul]; omega
          rw [this g4, hvl, hsz]
        have hfill : ∀ zs : Array Value, zs.size = n * te.size → Instr.fill (fun i => some (i * te.size, te.size)) zs ((l.map (·.1)).zip (ps.toList.map fun p => a.eval p.2)) = some ((ps.toList.map fun p => a.eval p.2).flatMap fun v => v.cells.toList).toArray := by
          intro zs hzs
          have := fill_dat (sz := te.size) (ps.toList.map fun p => a.eval p.2) 0 zs.toList (fun v hv => by rw [g4 v hv, hsz]) (by simp [hvl, hzs])
          rw [hvl] at this
          rw [g1, ← hnl]
          rw [show zs.toList.toArray = zs by simp] at this
          rw [this]
          simp [hzs]
        have hrun : (Instr.buildSlice t n (ps.map fun (i, x) => (i, a.eval x))).run P w = .ok (.slice (some ⟨w.heap.size, 0, none⟩) n n) (w.alloc (.cells ((ps.toList.map fun p => a.eval p.2).flatMap fun v => v.cells.toList).toArray el)) := by
          simp only [Instr.buildSlice, Sem.run_bind, run_underlying ht, Result.andThen_ok, run_sizeOf hi, his]
          rw [if_neg (by omega)]
          by_cases h0 : n * te.size = 0
          · rw [if_pos h0]
            simp only [Sem.run_pure, Result.andThen_ok, Sem.run_bind]
            rw [hpl, hfill _ (by simp)]
            simp [newRow]
          · rw [if_neg h0]
            simp only [Sem.run_pure, Result.andThen_ok, Sem.run_bind, hzero]
            rw [hpl, hfill _ (by simp)]
            simp [newRow]
        refine ⟨_, _, hrun, ?_⟩
        rw [hdst] at hd ⊢
        have hxl : xs.length = n := by rw [g2, hnl]
        refine ⟨_, R.turned (bv := .slice (some ⟨w.heap.size, 0, none⟩) n n) hd hfree (seqDat_gs h5) (fun b hb => by simpa [blkOf] using hb.symm) ⟨rfl, rfl⟩ (fun h' hown => ?_)⟩
        refine .inr ⟨w.heap.size, n, _, [], by rw [hxl], ?_, ?_, by rw [hcl, hsz]; simp, by omega, by unfold maxLen; omega⟩
        · rw [List.append_nil]; exact heap_alloc_new w _
        · refine FzL.segs (FzL.mono (fun x v hx hc => ⟨cells_alloc hc, fun ho => ?_⟩) g3)
          rcases hown _ ho with h | h
          · exact hx h
          · have := World.block_lt_of_cell? w x hc
            omega
      · cases e
    · cases e
  · cases e

theorem dataOf_rel (R : Rel P w0 fp nt β st a w) {d : DT} {x : AV} {u : Value} (hx : AVRel st.heap β w x u) {xs : List d.T} {rs : List Nat} (e : dataOf st.heap d x = some (xs, rs)) :
    ∃ A c l, u = .slice A xs.length c ∧ (A = none → xs = []) ∧ (∀ A', A = some A' → ∀ j v, l[j]? = some v → w.cell? (A'.add j) = some v) ∧ SegsRel st.heap β w (xs.flatMap (encD d)) l := by
  unfold dataOf at e
  split at e
  · rename_i r
    simp only [AVRel, CVRel] at hx
    obtain ⟨g, hg, hp⟩ := hx
    split at e
    · rename_i e' d' ys hr
      rw [hr] at hg
      cases hg
      split at e
      · rename_i zs hz
        cases e
        obtain ⟨e0, hz⟩ := asDT_spec hz
        subst e0; subst hz
        obtain ⟨rfl, _⟩ := hp
        rcases R.heap r _ hr with ⟨hn, he⟩ | ⟨b, cap, l, tail, hbv, hh, hs, hl, hxc, hm⟩
        · subst he
          exact ⟨none, 0, [], hn, fun _ => rfl, (fun A' h => by cases h), rfl⟩
        · refine ⟨_, cap, l, hbv, (fun h => by cases h), (fun A' hA j v hv => ?_), hs⟩
          cases hA
          rw [add_lit, Nat.zero_add]
          have := win_block hh j v (by simp only []; rw [List.getElem?_append_left (List.getElem?_eq_some_iff.1 hv).1]; exact hv)
          rw [add_lit, Nat.zero_add] at this
          exact this
      · cases e
    · cases e
  · rename_i d' ys n
    split at e
    · rename_i zs hz
      obtain ⟨e0, hz⟩ := asDT_spec hz
      subst e0; subst hz
      simp only [AVRel, CVRel] at hx
      have key : ∀ (m : Nat) (zs : List d'.T), FzV w (Own st.heap β) (.fz d' ys n) u → zs = ys.take m → m = lenOfFz ys n → m ≤ ys.length → ∃ A c l, u = .slice A zs.length c ∧ (A = none → zs = []) ∧ (∀ A', A = some A' → ∀ j v, l[j]? = some v → w.cell? (A'.add j) = some v) ∧ SegsRel st.heap β w (zs.flatMap (encD d')) l := by
        intro m zs hf hzs hm hle
        cases hf with
        | fz _ _ _ A cap hn hc h0 hat =>
          have hzl : zs.length = m := by rw [hzs, List.length_take]; omega
          cases A with
          | none =>
            have hnil : zs = [] := by rw [hzs, (h0 rfl).1]; simp
            refine ⟨none, cap, [], by rw [← hm, hzl], (fun _ => hnil), (fun A' h => by cases h), by rw [hnil]; rfl⟩
          | some A =>
            have hwin : ∀ (k : Nat) (zs : List d'.T), (∀ i (hi : i < zs.length), FzAt w (Own st.heap β) (encD d' zs[i]) (A.add ((k + i) * d'.size))) → ∃ l, SegsRel st.heap β w (zs.flatMap (encD d')) l ∧ ∀ j v, l[j]? = some v → w.cell? (A.add (k * d'.size + j)) = some v := by
              intro k zs
              induction zs generalizing k with
              | nil => intro _; exact ⟨[], rfl, fun j v h => by simp at h⟩
              | cons z zs ih =>
                intro H
                obtain ⟨l1, h1, h2⟩ := fz_win (H 0 (by simp))
                obtain ⟨l2, h3, h4⟩ := ih (k + 1) (fun i hi => by have := H (i + 1) (by simpa using hi); simpa [show k + 1 + i = k + (i + 1) by omega] using this)
                refine ⟨l1 ++ l2, by rw [List.flatMap_cons]; exact h1.append h3, fun j v hj => ?_⟩
                have hl1 := h1.length
                rw [List.getElem_cons_zero, encD_size] at hl1
                by_cases hjl : j < l1.length
                · rw [List.getElem?_append_left hjl] at hj
                  have := h2 j v hj
                  rw [add_add] at this
                  simpa using this
                · rw [List.getElem?_append_right (by omega)] at hj
                  have := h4 _ v hj
                  rwa [show (k + 1) * d'.size + (j - l1.length) = k * d'.size + j by rw [Nat.add_mul, Nat.one_mul]; omega] at this
            obtain ⟨l, h1, h2⟩ := hwin 0 zs (fun i hi => by
              have := hat A rfl i (by omega)
              subst hzs
              rw [List.getElem_take, Nat.zero_add]; exact this)
            refine ⟨some A, cap, l, by rw [← hm, hzl], (fun h => by cases h), (fun A' hA j v hv => ?_), h1⟩
            cases hA
            have := h2 j v hv
            rwa [Nat.zero_mul, Nat.zero_add] at this
      split at e
      · rename_i m
        cases e
        exact key m _ hx rfl rfl (by cases hx with | fz _ _ _ A cap hn _ _ _ => exact hn)
      · cases e
        exact key ys.length _ hx (by simp) rfl (Nat.le_refl _)
    · cases e
  · rename_i v
    obtain ⟨h1, h2⟩ := cond_some e
    cases h2
    obtain rfl := isNilS_spec h1
    simp only [AVRel, CVRel] at hx
    subst hx
    exact ⟨none, 0, [], rfl, fun _ => rfl, (fun A' h => by cases h), rfl⟩
  · cases e
end
end Go.Abs
