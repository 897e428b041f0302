/- Values built, rows made, all operations together. -/
import Derived.Test.YthihjipdkhmgkaaAbsOps5L
set_option linter.unusedVariables false
set_option linter.unusedSimpArgs false
namespace Go.Abs
open Go.RowKit

section
variable {P : Program} {w0 : World} {fp : FP} {nt : Nat} {β : Nat → Value} {st : St} {a : Act} {w : World} {T : Tab} {o : Oper} {Q : Exit → Act → World → Prop}

theorem newReg_rel (R : Rel P w0 fp nt β st a w) {dst : Option Nat} (hd : dstOk nt dst = true) {segs : List CV} {cells : Array Value} (hs : SegsRel st.heap β w segs cells.toList) (T' : Nat) {rq : Option Req} {δ : Delta} (e : newReg st dst segs = some (rq, δ)) :
    ∃ β', Rel P w0 fp nt β' (st.app dst δ) (a.put dst (.pointer (some ⟨w.heap.size, 0, none⟩))) (w.alloc (.cells cells T')) := by
  unfold newReg at e
  split at e
  · rename_i d
    split at e
    · rename_i hfree
      cases e
      refine ⟨_, R.new (bv := .pointer (some ⟨w.heap.size, 0, none⟩)) hd hfree (fun b hb => by simpa [blkOf] using hb.symm) ?_ ?_⟩
      · intro h' M
        exact ⟨w.heap.size, T', cells, rfl, heap_alloc_new w _, hs.mono M⟩
      · simp only [AVRel, CVRel]
        refine ⟨_, upd_same _ _ _, w.heap.size, upd_same _ _ _, ?_, by simp [offOf], by simp⟩
        simp [offOf]
    · cases e
  · cases e

theorem newRow_rel (R : Rel P w0 fp nt β st a w) {d : Nat} (hd : dstOk nt (some d) = true) (hfree : st.heap d = none) {e : Nat} {k : IntKind} {xs : List Int} {cap : Nat} {tail : List Value} (hc : xs.length + tail.length = cap) (hm : cap ≤ maxLen) {hr : List Nat} :
    ∃ β', Rel P w0 fp nt β' (st.app (some d) ⟨.c (.full d), [(d, .row e k xs)], hr⟩) (a.put (some d) (.slice (some ⟨w.heap.size, 0, none⟩) xs.length cap)) (w.alloc (.cells (intsV k xs ++ tail).toArray e)) := by
  refine ⟨_, R.new (bv := .slice (some ⟨w.heap.size, 0, none⟩) xs.length cap) hd hfree (fun b hb => by simpa [blkOf] using hb.symm) ?_ ?_⟩
  · intro h' M
    exact .inr ⟨w.heap.size, cap, tail, rfl, heap_alloc_new w _, hc, hm⟩
  · simp only [AVRel, CVRel]
    exact ⟨_, upd_same _ _ _, by rw [upd_same], rfl⟩

/-- parts of a composite laid into cells -/
theorem fill_fold (off : Nat) : ∀ (vs : List Value) (cells : Array Value) (j : Nat), (vs.zipIdx j).foldl (fun cs (p : Value × Nat) => cs.setIfInBounds (off + p.2) p.1) cells = (vs.zipIdx j).foldl (fun cs (c, j) => cs.setIfInBounds (off + j) c) cells := fun _ _ _ => rfl

theorem fold_splice (off : Nat) : ∀ (vs : List Value) (cells : List Value) (j : Nat), off + j + vs.length ≤ cells.length →
    ((vs.zipIdx j).foldl (fun (cs : Array Value) (p : Value × Nat) => cs.setIfInBounds (off + p.2) p.1) cells.toArray) = (cells.take (off + j) ++ vs ++ cells.drop (off + j + vs.length)).toArray := by
  intro vs
  induction vs with
  | nil => intro cells j h; simp
  | cons v vs ih =>
    intro cells j h
    simp only [List.zipIdx_cons, List.foldl_cons, List.setIfInBounds_toArray]
    simp only [List.length_cons] at h ⊢
    rw [ih _ _ (by simp; omega)]
    congr 1
    rw [← set_eq_splice _ _ _ (by omega)]
    have e1 : (cells.take (off + j)).length = off + j := by simp; omega
    rw [List.append_assoc (cells.take (off + j)), List.take_append, List.drop_append, e1, List.take_of_length_le (l := cells.take (off + j)) (i := off + (j + 1)) (by omega), List.drop_of_length_le (l := cells.take (off + j)) (i := off + (j + 1) + vs.length) (by omega)]
    rw [show off + (j + 1) - (off + j) = 1 by omega, show off + (j + 1) + vs.length - (off + j) = vs.length + 1 by omega]
    simp only [List.singleton_append, List.take_succ_cons, List.take_zero, List.nil_append, List.drop_succ_cons, List.drop_drop, List.append_assoc, List.cons_append]
    congr 4
    omega

/-- one part laid: the model's 'fill' at a place -/
theorem fill_one {place : Nat → Option (Nat × Nat)} {i off size : Nat} {v : Value} {rest : List (Nat × Value)} {cells : List Value} (hp : place i = some (off, size)) (hs : v.cells.size = size) (hl : off + size ≤ cells.length) :
    Instr.fill place cells.toArray ((i, v) :: rest) = Instr.fill place (cells.take off ++ v.cells.toList ++ cells.drop (off + size)).toArray rest := by
  have h := fold_splice off v.cells.toList cells 0 (by simp; omega)
  simp only [Nat.add_zero, Array.length_toList, hs] at h
  simp only [Instr.fill, hp]
  rw [if_neg (by simp [hs]; omega)]
  rw [← h, ← Array.foldl_toList]
  simp [Array.toList_zipIdx]

theorem replSegs_rel {h : Heap} {segs segs' new : List CV} {off : Nat} {l m : List Value} (H : SegsRel h β w segs l) (K : SegsRel h β w new m) (e : replSegs segs off new = some segs') :
    off + m.length ≤ l.length ∧ SegsRel h β w segs' (l.take off ++ m ++ l.drop (off + m.length)) := by
  unfold replSegs at e
  cases hs : splitSegs segs off with
  | none => rw [hs] at e; cases e
  | some pr =>
    obtain ⟨p, rest⟩ := pr
    rw [hs] at e
    simp only [] at e
    cases hd : dropSegs rest (segSize new) with
    | none => rw [hd] at e; cases e
    | some r =>
      rw [hd] at e
      cases e
      obtain ⟨l1, l2, rfl, hl1, h1, h2⟩ := splitSegs_rel H hs
      obtain ⟨h3, h4⟩ := dropSegs_rel h2 hd
      rw [← K.length] at h3 h4
      refine ⟨by simp; omega, ?_⟩
      rw [List.take_append_of_le_length (by omega), List.take_of_length_le (by omega), List.append_assoc]
      refine h1.append (K.append ?_)
      rw [List.drop_append, List.drop_of_length_le (by omega), List.nil_append, hl1, Nat.add_sub_cancel_left]
      exact h4

theorem valSize_rel {h : Heap} {v : AV} {x : Value} {new : List CV} (H : AVRel h β w v x) (e : cellAV v = some new) : x.cells.size = valSize v := by
  have hs := (cellAV_rel H e).length
  cases v with
  | c y =>
    have : segSize new = 1 := by
      cases y <;> simp only [cellAV] at e <;> try (cases e; rfl)
      · rename_i u
        cases h1 : u.oneCell' <;> simp only [h1, cond_true, cond_false] at e
        · cases e
        · cases e; rfl
      · simp only [AVRel, CVRel] at H
      · simp only [AVRel, CVRel] at H
    simp only [valSize]
    rw [this] at hs
    simpa using hs
  | agg xs => cases e; simpa [valSize] using hs
  | tup => cases e
  | pan => cases e

theorem buildStruct_rel {h : Heap} {fs : List (Nat × Nat)} {place : Nat → Option (Nat × Nat)} (hplace : ∀ i t off ft, fieldOf fs i = some (t, off) → T.get t = some ft → place i = some (off, ft.size)) :
    ∀ (ps : List (Nat × AV)) (vs : List Value) (segs segs' : List CV) (l : List Value), AVsRel h β w (ps.map (·.2)) vs → SegsRel h β w segs l → buildStruct T fs segs ps = some segs' →
    ∃ l', Instr.fill place l.toArray ((ps.map (·.1)).zip vs) = some l'.toArray ∧ SegsRel h β w segs' l' := by
  intro ps
  induction ps with
  | nil =>
    intro vs segs segs' l hv hs e
    cases e
    simp only [List.map_nil, AVsRel] at hv
    subst hv
    exact ⟨l, rfl, hs⟩
  | cons p ps ih =>
    obtain ⟨i, v⟩ := p
    intro vs segs segs' l hv hs e
    simp only [List.map_cons, AVsRel] at hv
    obtain ⟨x, r, rfl, hx, hr⟩ := hv
    simp only [buildStruct] at e
    cases hf : fieldOf fs i with
    | none => rw [hf] at e; cases e
    | some to =>
      obtain ⟨t, off⟩ := to
      cases hc : cellAV v with
      | none => rw [hf, hc] at e; cases e
      | some new =>
        rw [hf, hc] at e
        simp only [] at e
        cases ht : T.get t with
        | none => rw [ht] at e; cases e
        | some ft =>
          rw [ht] at e
          simp only [] at e
          cases hb : Nat.beq (valSize v) ft.size <;> simp only [hb, cond_true, cond_false] at e
          · cases e
          have hvs := nbeq.1 hb
          cases hrp : replSegs segs off new with
          | none => rw [hrp] at e; cases e
          | some s' =>
            rw [hrp] at e
            have hn := cellAV_rel hx hc
            obtain ⟨h1, h2⟩ := replSegs_rel hs hn hrp
            have hsz0 : x.cells.size = ft.size := (valSize_rel hx hc).trans hvs
            rw [Array.length_toList, hsz0] at h1 h2
            obtain ⟨l', hl', hs'⟩ := ih r s' segs' _ hr h2 e
            refine ⟨l', ?_, hs'⟩
            simp only [List.map_cons, List.zip_cons_cons]
            rw [fill_one (hplace i t off ft hf ht) hsz0 h1]
            exact hl'

theorem fillArr_rel {h : Heap} {k : IntKind} {n : Nat} : ∀ (ps : List (Nat × AV)) (vs : List Value) (f g : Nat → Int), AVsRel h β w (ps.map (·.2)) vs → fillArr k n f ps = some g →
    Instr.fill (fun i => some (i * 1, 1)) (fnV k n f).toArray ((ps.map (·.1)).zip vs) = some (fnV k n g).toArray := by
  intro ps
  induction ps with
  | nil =>
    intro vs f g hv e
    cases e
    simp only [List.map_nil, AVsRel] at hv
    subst hv
    rfl
  | cons p ps ih =>
    obtain ⟨i, v⟩ := p
    intro vs f g hv e
    simp only [List.map_cons, AVsRel] at hv
    obtain ⟨x, r, rfl, hx, hr⟩ := hv
    cases v with
    | agg => cases e
    | tup => cases e
    | pan => cases e
    | c y =>
      cases y <;> simp only [fillArr] at e <;> try (cases e; done)
      rename_i k' m
      cases hb : (k == k' && Nat.blt i n) <;> simp only [hb, cond_true, cond_false] at e
      · cases e
      simp only [Bool.and_eq_true] at hb
      obtain rfl := beqK.1 hb.1
      have hi := nblt.1 hb.2
      simp only [AVRel, CVRel] at hx
      subst hx
      simp only [List.map_cons, List.zip_cons_cons]
      rw [fill_one (place := fun i => some (i * 1, 1)) (off := i * 1) (size := 1) rfl rfl (by simp; omega)]
      have := ih r _ _ hr e
      rw [fnV_upd _ _ _ _ _ hi] at this
      simpa [Value.cells] using this

theorem fillInts_rel {h : Heap} {k : IntKind} : ∀ (ps : List (Nat × AV)) (vs : List Value) (xs ys : List Int), AVsRel h β w (ps.map (·.2)) vs → fillInts k xs ps = some ys →
    Instr.fill (fun i => some (i * 1, 1)) (intsV k xs).toArray ((ps.map (·.1)).zip vs) = some (intsV k ys).toArray ∧ ys.length = xs.length := by
  intro ps
  induction ps with
  | nil =>
    intro vs xs ys hv e
    cases e
    simp only [List.map_nil, AVsRel] at hv
    subst hv
    exact ⟨rfl, rfl⟩
  | cons p ps ih =>
    obtain ⟨i, v⟩ := p
    intro vs xs ys hv e
    simp only [List.map_cons, AVsRel] at hv
    obtain ⟨x, r, rfl, hx, hr⟩ := hv
    cases v with
    | agg => cases e
    | tup => cases e
    | pan => cases e
    | c y =>
      cases y <;> simp only [fillInts] at e <;> try (cases e; done)
      rename_i k' m
      cases hb : (k == k' && Nat.blt i xs.length) <;> simp only [hb, cond_true, cond_false] at e
      · cases e
      simp only [Bool.and_eq_true] at hb
      obtain rfl := beqK.1 hb.1
      have hi := nblt.1 hb.2
      simp only [AVRel, CVRel] at hx
      subst hx
      simp only [List.map_cons, List.zip_cons_cons]
      rw [fill_one (place := fun i => some (i * 1, 1)) (off := i * 1) (size := 1) rfl rfl (by simp; omega)]
      obtain ⟨h1, h2⟩ := ih r _ _ hr e
      refine ⟨?_, by simpa using h2⟩
      rw [← h1]
      congr 2
      simp only [Value.cells, Nat.mul_one]
      rw [set_eq_splice _ _ _ (by simp; omega)]
      simp [intsV, List.map_set]

theorem mapM_places {fs : List Field} (hf : ∀ f ∈ fs, ∃ i, P.info? f.type = some i) :
    (fs.mapM fun f => (do pure (f.offset, ← sizeOf f.type) : Sem (Nat × Nat))).run P w = .ok (fs.map fun f => (f.offset, ((P.info? f.type).map (·.size)).getD 0)) w := by
  induction fs with
  | nil => simp
  | cons f fs ih =>
    obtain ⟨i, hi⟩ := hf f (by simp)
    simp only [List.mapM_cons, Sem.run_bind, run_sizeOf hi, Result.andThen_ok, Sem.run_pure, ih (fun g hg => hf g (by simp [hg]))]
    simp [hi]

theorem build_rel (hT : TabOk P T) (R : Rel P w0 fp nt β st a w) {t : Nat} {ps : Array (Nat × Operand)} {rq : Option Req} {δ : Delta} (ho : o.op = .build t ps) (e : aop T o st = some (rq, δ)) :
    δ.hw = [] ∧ ∃ v, (Instr.build t (ps.map fun (i, x) => (i, a.eval x))).run P w = .ok v w ∧ AVRel st.heap β w δ.av v := by
  simp only [aop, ho] at e
  cases h1 : T.get t with
  | none => rw [h1] at e; cases partsAV st ps.toList <;> cases e
  | some ti =>
    cases h2 : partsAV st ps.toList with
    | none => rw [h1, h2] at e; obtain ⟨td, sz, by', z⟩ := ti; cases td <;> cases e
    | some l =>
      rw [h1, h2] at e
      obtain ⟨hi1, hi2⟩ := partsAV_rel R h2
      have hok := hT _ _ h1
      obtain ⟨i, hi, hsz, hby, zv, hz, hzs⟩ := hok.info
      have hpl : (ps.map fun (i, x) => (i, a.eval x)).toList = (l.map (·.1)).zip (ps.toList.map fun p => a.eval p.2) := by
        rw [hi1, Array.toList_map, List.zip_map', ]
      obtain ⟨td, sz, by', z⟩ := ti
      have hzero : (zeroValue t).run P w = .ok zv w := by simp [zeroValue, typeInfo, hi, hz]
      cases td
      case struct fs =>
        simp only [] at e
        cases hb : buildStruct T fs z l with
        | none => rw [hb] at e; cases e
        | some s =>
          rw [hb] at e
          cases e
          obtain ⟨fl, hu, hl⟩ := tdStruct hok
          have hfl := hok.flds fl hu
          have hpm := mapM_places (P := P) (w := w) (fs := fl.toList) (fun f hf => Option.isSome_iff_exists.1 (hfl f hf))
          obtain ⟨l', hl', hs'⟩ := buildStruct_rel (T := T) (fs := fs) (place := fun i => (fl.toList.map fun f => (f.offset, ((P.info? f.type).map (·.size)).getD 0))[i]?) (by
              intro i t' off ft h3 h4
              obtain ⟨fd, hfd, rfl, rfl⟩ := fieldOf_rel hl h3
              obtain ⟨i', hi', hsz', _⟩ := (hT _ _ h4).info
              simp [hfd, hi', hsz']) l _ z s zv.cells.toList hi2 (hzs st.heap β w) hb
          refine ⟨rfl, .agg l'.toArray, ?_, l', rfl, hs'⟩
          have hrun : (fl.mapM fun f => (do pure (f.offset, ← sizeOf f.type) : Sem (Nat × Nat))).run P w = .ok (fl.toList.map fun f => (f.offset, ((P.info? f.type).map (·.size)).getD 0)).toArray w := by
            cases fl with
            | mk fll =>
            rw [List.mapM_toArray, Sem.run_map]
            simp only [Sem.run_bind] at hpm ⊢
            rw [hpm]
            rfl
          simp only [Instr.build, Sem.run_bind, hzero, Result.andThen_ok, Sem.run_pure, run_underlying hu]
          simp only [hrun, Result.andThen_ok]
          rw [hpl]
          simp only [List.getElem?_toArray]
          rw [show zv.cells = zv.cells.toList.toArray by simp]
          rw [hl']
          simp
      case array n el =>
        have hu := tdArray hok
        cases l with
        | nil =>
          simp only [] at e
          cases h3 : T.get el with
          | none => rw [h3] at e; cases e
          | some te =>
          rw [h3] at e
          cases e
          obtain ⟨ie, hie, _⟩ := (hT _ _ h3).info
          have hnil : ps.toList = [] := by
            cases hps : ps.toList with
            | nil => rfl
            | cons p r => rw [hps] at hi1; simp at hi1
          refine ⟨rfl, .agg zv.cells, ?_, zv.cells.toList, by simp, hzs _ _ _⟩
          simp only [Instr.build, Sem.run_bind, hzero, Result.andThen_ok, Sem.run_pure, run_underlying hu, run_sizeOf hie, hpl]
          simp [Instr.fill]
        | cons p r =>
          have hz1 : ∃ k n' f, z = [.ints k n' f] := by
            match z, e with
            | [.ints k n' f], _ => exact ⟨k, n', f, rfl⟩
          obtain ⟨k, n', f, rfl⟩ := hz1
          simp only [] at e
          cases h3 : intElem T el <;> simp only [h3, cond_true, cond_false] at e
          · cases e
          cases h4 : fillArr k n' f (p :: r) with
          | none => rw [h4] at e; cases e
          | some g =>
          rw [h4] at e
          cases e
          have hel : ∃ ie, P.info? el = some ie ∧ ie.size = 1 := by
            unfold intElem at h3
            split at h3
            · rename_i k1 s1 b1 z1 h5
              obtain ⟨ie, hie, hs1, _⟩ := (hT _ _ h5).info
              exact ⟨ie, hie, hs1.trans ((hT _ _ h5).agg1 rfl)⟩
            · cases h3
          obtain ⟨ie, hie, hie1⟩ := hel
          have hzc : zv.cells = (fnV k n' f).toArray := by
            have := hzs st.heap β w
            simp only [SegsRel] at this
            obtain ⟨r', hr', rfl⟩ := this
            rw [List.append_nil] at hr'
            rw [← hr']
          have hfill := fillArr_rel (p :: r) _ f g hi2 h4
          refine ⟨rfl, .agg (fnV k n' g).toArray, ?_, fnV k n' g, rfl, by simp only [SegsRel]; exact ⟨[], by simp, rfl⟩⟩
          simp only [Instr.build, Sem.run_bind, hzero, Result.andThen_ok, Sem.run_pure, run_underlying hu, run_sizeOf hie, hpl, hie1, hzc, hfill]
      all_goals (cases l <;> cases e)
end
end Go.Abs
