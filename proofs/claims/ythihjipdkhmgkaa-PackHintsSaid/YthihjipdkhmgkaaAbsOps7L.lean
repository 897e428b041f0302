/- Rows made, arrays behind slices; all operations together. -/
import Derived.Test.YthihjipdkhmgkaaAbsOps6L
set_option linter.unusedVariables false
set_option linter.unusedSimpArgs false
namespace Go.Abs
open Go.RowKit

section
variable {P : Program} {w0 : World} {fp : FP} {nt : Nat} {β : Nat → Value} {st : St} {a : Act} {w : World} {T : Tab} {o : Oper} {Q : Exit → Act → World → Prop}

theorem AVsRel.get {h : Heap} : ∀ {l : List AV} {vs : List Value} {i : Nat} {av : AV}, AVsRel h β w l vs → l[i]? = some av → ∃ v, vs[i]? = some v ∧ AVRel h β w av v := by
  intro l
  induction l with
  | nil => intro vs i av _ e; simp at e
  | cons x l ih =>
    intro vs i av H e
    simp only [AVsRel] at H
    obtain ⟨v, r, rfl, hv, hr⟩ := H
    cases i with
    | zero => simp at e; subst e; exact ⟨v, by simp, hv⟩
    | succ i => simpa using ih hr (by simpa using e)

theorem AVsRel.length {h : Heap} : ∀ {l : List AV} {vs : List Value}, AVsRel h β w l vs → vs.length = l.length := by
  intro l
  induction l with
  | nil => intro vs H; simp only [AVsRel] at H; simp [H]
  | cons x l ih =>
    intro vs H
    simp only [AVsRel] at H
    obtain ⟨v, r, rfl, hv, hr⟩ := H
    simp [ih hr]

theorem arrayAt_rel (hT : TabOk P T) (R : Rel P w0 fp nt β st a w) {d : Nat} {x : AV} {u : Value} (hx : AVRel st.heap β w x u) {x' : Operand} (hx' : opd st x' = some x) (hop : o.op = .sliceToArrayPointer d x') {rq : Option Req} {δ : Delta} (e : aop T o st = some (rq, δ)) (hr : ∀ r, rq = some r → r.p) :
    δ.hw = [] ∧ ∃ v, (Instr.arrayAt d u).run P w = .ok v w ∧ AVRel st.heap β w δ.av v := by
  simp only [aop, hop, hx'] at e
  split at e
  · rename_i n el sz by' z r h1 h2
    have ht := tdArray (hT _ _ h1)
    cases h2
    split at e
    · rename_i e' k xs h3
      cases h4 : Nat.blt 0 n <;> simp only [h4, cond_true, cond_false] at e
      · cases e
      cases e
      have hp := hr _ rfl
      have hn := nblt.1 h4
      simp only [AVRel, CVRel] at hx
      obtain ⟨g, hg, hf⟩ := hx
      rw [h3] at hg
      cases hg
      obtain ⟨rfl, _⟩ := hf
      rcases R.heap _ _ h3 with ⟨_, rfl⟩ | ⟨b, cap, tail, hbv, hw, hl, hm⟩
      · simp at hp; omega
      · refine ⟨rfl, .pointer (some ⟨b, 0, none⟩), ?_, ?_⟩
        · rw [hbv]
          simp only [Instr.arrayAt, Sem.run_bind, run_underlying ht, Result.andThen_ok]
          rw [if_neg (by omega)]
          rfl
        · simp only [AVRel, CVRel]
          refine ⟨_, h3, rfl, by simp [offOf]; omega, b, cap, hbv, by simp [offOf]⟩
    · cases e
  · rename_i n el sz by' z r base lo m lim h1 h2
    have ht := tdArray (hT _ _ h1)
    cases h2
    cases h4 : (cellsB st.heap r && Nat.blt 0 n) <;> simp only [h4, cond_true, cond_false] at e
    · cases e
    cases e
    have hp := hr _ rfl
    simp only [Bool.and_eq_true] at h4
    have hn := nblt.1 h4.2
    obtain ⟨segs, hs⟩ := cellsB_rel h4.1
    simp only [AVRel, CVRel] at hx
    obtain ⟨g, hg, hf⟩ := hx
    rw [hs] at hg
    cases hg
    obtain ⟨b, hbv, h5, h6, rfl⟩ := hf
    simp only at hp
    refine ⟨rfl, .pointer (some ⟨b, base + lo, none⟩), ?_, ?_⟩
    · simp only [Instr.arrayAt, Sem.run_bind, run_underlying ht, Result.andThen_ok]
      rw [if_neg (by omega), if_neg (by omega)]
      rfl
    · simp only [AVRel, CVRel]
      refine ⟨_, hs, b, hbv, by simp [offOf], by simp [offOf]; omega, ?_⟩
      intro i l hi
      cases hi
      omega
  · rename_i n el sz by' z r p m h1 h2
    have ht := tdArray (hT _ _ h1)
    cases h2
    split at e
    · rename_i e' k xs h3
      cases h4 : Nat.blt 0 n <;> simp only [h4, cond_true, cond_false] at e
      · cases e
      cases e
      have hp := hr _ rfl
      have hn := nblt.1 h4
      simp only at hp
      simp only [AVRel, CVRel] at hx
      obtain ⟨g, hg, hf⟩ := hx
      rw [h3] at hg
      cases hg
      obtain ⟨h5, A, cap, A', hbv, rfl, h6⟩ := hf
      rcases R.heap _ _ h3 with ⟨_, rfl⟩ | ⟨b, cap', tail, hbv', hw, hl, hm⟩
      · simp at h5; omega
      · rw [hbv] at hbv'
        cases hbv'
        obtain rfl := h6 (by omega)
        refine ⟨rfl, .pointer (some ⟨b, p, none⟩), ?_, ?_⟩
        · simp only [Instr.arrayAt, Sem.run_bind, run_underlying ht, Result.andThen_ok, Option.map_some, add_lit, Nat.zero_add]
          rw [if_neg (by omega)]
          rfl
        · simp only [AVRel, CVRel]
          refine ⟨_, h3, rfl, by simp [offOf]; omega, b, _, hbv, by simp [offOf]⟩
    · cases e
  · cases e

theorem makeSlice_rel (hT : TabOk P T) (R : Rel P w0 fp nt β st a w) (hd : dstOk nt o.dst = true) {t : Nat} {l c : Operand} (hop : o.op = .makeSlice t l c) {rq : Option Req} {δ : Delta} (e : aop T o st = some (rq, δ)) (hr : ∀ r, rq = some r → r.p) :
    ∃ v w', (Instr.makeSlice t (a.eval l) (a.eval c)).run P w = .ok v w' ∧ ∃ β', Rel P w0 fp nt β' (st.app o.dst δ) (a.put o.dst v) w' := by
  simp only [aop, hop] at e
  split at e
  · rename_i d el sz by' z kl n kc m hdst h1 h2 h3
    have ht := tdSlice (hT _ _ h1)
    have hl := opd_rel R h2
    have hc := opd_rel R h3
    simp only [AVRel, CVRel] at hl hc
    split at e
    · rename_i k sz' bytes k0 z0 h4 hfree
      cases hk : k0 == k <;> simp only [hk, cond_true, cond_false] at e
      · cases e
      obtain rfl := beqK.1 hk
      cases e
      have hp := hr _ rfl
      obtain ⟨hp1, hp2, hp3⟩ := hp
      obtain ⟨i, zv, hi, hsz, hby, hz, hzs⟩ := intZero (hT _ _ h4)
      have hzc : zv.cells = #[.int k0 z0] := by
        obtain ⟨i', hi', _, _, zv', hz', hzs'⟩ := (hT _ _ h4).info
        rw [hi] at hi'
        cases hi'
        rw [hz] at hz'
        cases hz'
        have := hzs' (fun _ => none) (fun _ => undef) default
        simp only [SegsRel, CVRel] at this
        obtain ⟨v, r, h5, _, rfl, rfl⟩ := this
        apply Array.toList_inj.1
        rw [h5]
      have hbp : 0 < bytes := (hT _ _ h4).bpos k0 rfl
      have hmx : m.toNat ≤ 281474976710656 := by
        unfold okBytes at hp3
        have := Nat.le_mul_of_pos_right (m.toNat + m.toNat / 4 + 192) hbp
        omega
      have hbytes : (i.bytes : Int) * m ≤ 281474976710656 := by
        rw [hby]
        unfold okBytes at hp3
        have h6 : m.toNat * bytes ≤ (m.toNat + m.toNat / 4 + 192) * bytes := Nat.mul_le_mul_right _ (by omega)
        have h7 : ((m.toNat * bytes : Nat) : Int) ≤ 281474976710656 := Int.ofNat_le.2 (Nat.le_trans h6 hp3)
        have h8 : ((m.toNat : Nat) : Int) = m := by omega
        rw [Int.natCast_mul, h8, Int.mul_comm] at h7
        omega
      have hrun := run_make (P := P) w t el i zv ht hi hz kl kc n m hp1 hp2 hbytes (by omega)
      rw [hl, hc]
      refine ⟨_, _, hrun, ?_⟩
      rw [hdst] at hd ⊢
      have key := newRow_rel (e := el) (k := k0) (xs := List.replicate n.toNat z0) (cap := m.toNat) (tail := List.replicate (m.toNat - n.toNat) (Value.int k0 z0)) (hr := [d]) R hd hfree (by simp; omega) (by unfold maxLen; omega)
      obtain ⟨β', hβ⟩ := key
      refine ⟨β', ?_⟩
      have hcells : madeCells zv.cells (m.toNat * i.size) = (intsV k0 (List.replicate n.toNat z0) ++ List.replicate (m.toNat - n.toNat) (Value.int k0 z0)).toArray := by
        rw [hzc, hsz]
        apply Array.toList_inj.1
        apply List.ext_getElem
        · simp [madeCells]; omega
        · intro j h1 h2
          simp only [madeCells, Array.toList_map, List.getElem_map, intsV, List.map_replicate]
          rw [List.getElem_append]
          split <;> simp [Nat.mod_one]
      rw [hcells]
      simpa using hβ
    · cases e
  · cases e

theorem seq_size : ∀ (l : List (Nat × AV)) (i : Nat) (segs : List CV), seqParts i l = some segs → segSize segs = segs.length := by
  intro l
  induction l with
  | nil => intro i segs e; cases e; rfl
  | cons p l ih =>
    intro i segs e
    obtain ⟨j, v⟩ := p
    cases v with
    | agg => cases e
    | tup => cases e
    | pan => cases e
    | c x =>
      cases x <;> simp only [seqParts] at e <;> try (cases e; done)
      cases hb : Nat.beq i j <;> rw [hb] at e <;> simp only [cond_true, cond_false] at e
      · cases e
      split at e
      · rename_i s hs
        cases e
        simp only [segSize, CV.size, List.length_cons, ih _ _ hs]; omega
      · cases e

theorem seqParts_rel {h : Heap} : ∀ (l : List (Nat × AV)) (vs : List Value) (i : Nat) (segs : List CV), AVsRel h β w (l.map (·.2)) vs → seqParts i l = some segs → SegsRel h β w segs vs ∧ segs.length = l.length := by
  intro l
  induction l with
  | nil => intro vs i segs hv e; cases e; simp only [List.map_nil, AVsRel] at hv; subst hv; exact ⟨by simp only [SegsRel], rfl⟩
  | cons p l ih =>
    intro vs i segs hv e
    obtain ⟨j, v⟩ := p
    simp only [List.map_cons, AVsRel] at hv
    obtain ⟨u, r, rfl, hu, hr⟩ := hv
    cases v with
    | agg => cases e
    | tup => cases e
    | pan => cases e
    | c x =>
      cases x <;> simp only [seqParts] at e <;> try (cases e; done)
      cases hb : Nat.beq i j <;> rw [hb] at e <;> simp only [cond_true, cond_false] at e
      · cases e
      split at e
      · rename_i s hs
        cases e
        obtain ⟨h1, h2⟩ := ih _ _ _ hr hs
        simp only [AVRel] at hu
        exact ⟨by simp only [SegsRel]; exact ⟨u, r, rfl, (hu.oneCell).resolve_left (by rintro ⟨x, hx⟩; cases hx), hu, h1⟩, by simp [h2]⟩
      · cases e

theorem fill_seq {h : Heap} : ∀ (l : List (Nat × AV)) (vs : List Value) (i : Nat) (segs : List CV), AVsRel h β w (l.map (·.2)) vs → seqParts i l = some segs → ∀ cells : List Value, i + vs.length ≤ cells.length →
    Instr.fill (fun i => some (i * 1, 1)) cells.toArray ((l.map (·.1)).zip vs) = some (cells.take i ++ vs ++ cells.drop (i + vs.length)).toArray := by
  intro l
  induction l with
  | nil => intro vs i segs hv e cells hc; simp only [List.map_nil, AVsRel] at hv; subst hv; simp [Instr.fill]
  | cons p l ih =>
    intro vs i segs hv e cells hc
    obtain ⟨j, v⟩ := p
    simp only [List.map_cons, AVsRel] at hv
    obtain ⟨u, r, rfl, hu, hr⟩ := hv
    cases v with
    | agg => cases e
    | tup => cases e
    | pan => cases e
    | c x =>
      cases x <;> simp only [seqParts] at e <;> try (cases e; done)
      cases hb : Nat.beq i j <;> rw [hb] at e <;> simp only [cond_true, cond_false] at e
      · cases e
      obtain rfl := nbeq.1 hb
      split at e
      · rename_i s hs
        simp only [AVRel] at hu
        have hone := (CVRel.oneCell hu).resolve_left (by rintro ⟨x, hx⟩; cases hx)
        have hu1 : u.cells = #[u] := by cases u <;> first | rfl | (cases hone; done)
        simp only [List.length_cons] at hc
        simp only [List.map_cons, List.zip_cons_cons]
        rw [fill_one (place := fun i => some (i * 1, 1)) (off := i * 1) (size := 1) rfl (by rw [hu1]; rfl) (by omega)]
        rw [hu1, Nat.mul_one]
        rw [ih _ _ _ hr hs _ (by simp; omega)]
        congr 2
        have e1 : (cells.take i).length = i := by simp; omega
        simp only [List.length_cons]
        rw [List.append_assoc (cells.take i), List.take_append, List.drop_append, e1, List.take_of_length_le (l := cells.take i) (i := i + 1) (by omega), List.drop_of_length_le (l := cells.take i) (i := i + 1 + r.length) (by omega)]
        rw [show i + 1 - i = 1 by omega, show i + 1 + r.length - i = r.length + 1 by omega]
        simp only [List.singleton_append, List.take_succ_cons, List.take_zero, List.nil_append, List.drop_succ_cons, List.drop_drop, List.append_assoc, List.cons_append]
        congr 4
        omega
      · cases e

theorem buildSlice_rel (hT : TabOk P T) (R : Rel P w0 fp nt β st a w) (hd : dstOk nt o.dst = true) {t n : Nat} {ps : Array (Nat × Operand)} (hop : o.op = .buildSlice t n ps) {rq : Option Req} {δ : Delta} (e : aop T o st = some (rq, δ)) :
    ∃ v w', (Instr.buildSlice t n (ps.map fun (i, x) => (i, a.eval x))).run P w = .ok v w' ∧ ∃ β', Rel P w0 fp nt β' (st.app o.dst δ) (a.put o.dst v) w' := by
  simp only [aop, hop] at e
  split at e
  · rename_i d el sz by' z l hdst h1 h2
    have ht := tdSlice (hT _ _ h1)
    obtain ⟨hi1, hi2⟩ := partsAV_rel R h2
    have hpl : (ps.map fun (i, x) => (i, a.eval x)).toList = (l.map (·.1)).zip (ps.toList.map fun p => a.eval p.2) := by
      rw [hi1, Array.toList_map, List.zip_map']
    split at e
    · rename_i k sz' bytes k0 z0 h4 hfree
      split at e
      · rename_i xs h5
        cases hb : (Nat.ble n 65536 && k0 == k) <;> simp only [hb, cond_true, cond_false] at e
        · cases e
        simp only [Bool.and_eq_true] at hb
        have hn := nble.1 hb.1
        obtain rfl := beqK.1 hb.2
        cases e
        obtain ⟨i, zv, hi, hsz, hby, hz, hzs⟩ := intZero (hT _ _ h4)
        have hzc : zv.cells = #[.int k0 z0] := by
          obtain ⟨i', hi', _, _, zv', hz', hzs'⟩ := (hT _ _ h4).info
          rw [hi] at hi'
          cases hi'
          rw [hz] at hz'
          cases hz'
          have := hzs' (fun _ => none) (fun _ => undef) default
          simp only [SegsRel, CVRel] at this
          obtain ⟨v, r, h5, _, rfl, rfl⟩ := this
          apply Array.toList_inj.1
          rw [h5]
        obtain ⟨hf1, hf2⟩ := fillInts_rel l _ (List.replicate n z0) xs hi2 h5
        have hlen : xs.length = n := by simpa using hf2
        simp only [Nat.mul_one] at hf1
        have hzero : (zeroValue el).run P w = .ok zv w := by simp [zeroValue, typeInfo, hi, hz]
        have hcells : ∀ z1 : Array Value, (0 < n → z1 = zv.cells) → (Array.range n).map (fun j => z1[j % z1.size]!) = (intsV k0 (List.replicate n z0)).toArray := by
          intro z1 h6
          apply Array.toList_inj.1
          apply List.ext_getElem
          · simp
          · intro j h7 h8
            simp at h7
            have h9 : z1 = #[.int k0 z0] := (h6 (by omega)).trans hzc
            subst h9
            simp [intsV, Nat.mod_one]
        have hrun : (Instr.buildSlice t n (ps.map fun (i, x) => (i, a.eval x))).run P w = .ok (.slice (some ⟨w.heap.size, 0, none⟩) n n) (w.alloc (.cells (intsV k0 xs).toArray el)) := by
          simp only [Instr.buildSlice, Sem.run_bind, run_underlying ht, Result.andThen_ok, run_sizeOf hi, hsz, Nat.mul_one]
          rw [if_neg (by omega)]
          by_cases h0 : n = 0
          · subst h0
            simp only [if_true, Sem.run_pure, Result.andThen_ok, Sem.run_bind]
            rw [hcells #[] (by omega), hpl, hf1]
            simp [newRow]
          · simp only [h0, if_false, Sem.run_pure, Result.andThen_ok, Sem.run_bind, hzero]
            rw [hcells zv.cells (fun _ => rfl), hpl, hf1]
            simp [newRow]
        refine ⟨_, _, hrun, ?_⟩
        rw [hdst] at hd ⊢
        have key := newRow_rel (e := el) (k := k0) (xs := xs) (cap := n) (tail := []) (hr := [d]) R hd hfree (by simp [hlen]) (by unfold maxLen; omega)
        obtain ⟨β', hβ⟩ := key
        refine ⟨β', ?_⟩
        simpa [hlen] using hβ
      · cases e
    · rename_i sz' bytes z' h4 hfree
      split at e
      · rename_i segs h5
        obtain ⟨hb, e⟩ : (Nat.ble n 65536 && Nat.beq segs.length n) = true ∧ some (none, (⟨.c (.asl d 0 0 n n), [(d, .cells segs)], [d]⟩ : Delta)) = some (rq, δ) := by
          cases hb : (Nat.ble n 65536 && Nat.beq segs.length n) <;> rw [hb] at e
          · cases e
          · exact ⟨rfl, e⟩
        simp only [Bool.and_eq_true] at hb
        have hn := nble.1 hb.1
        have hlen := nbeq.1 hb.2
        cases e
        obtain ⟨i, hi, hsz, hby, zv, hz, hzs⟩ := (hT _ _ h4).info
        have hsz1 : i.size = 1 := hsz.trans ((hT _ _ h4).agg1 rfl)
        have hzero : (zeroValue el).run P w = .ok zv w := by simp [zeroValue, typeInfo, hi, hz]
        obtain ⟨hs1, hs2⟩ := seqParts_rel (w := w) (β := β) l _ 0 segs hi2 h5
        have hvl : (ps.toList.map fun p => a.eval p.2).length = n := by rw [hi2.length, List.length_map, ← hs2, hlen]
        have hfill := fill_seq l (ps.toList.map fun p => a.eval p.2) 0 segs hi2 h5
        have hrun : (Instr.buildSlice t n (ps.map fun (i, x) => (i, a.eval x))).run P w = .ok (.slice (some ⟨w.heap.size, 0, none⟩) n n) (w.alloc (.cells (ps.toList.map fun p => a.eval p.2).toArray el)) := by
          simp only [Instr.buildSlice, Sem.run_bind, run_underlying ht, Result.andThen_ok, run_sizeOf hi, hsz1, Nat.mul_one]
          rw [if_neg (by omega)]
          have hf : ∀ zs : Array Value, zs.size = n → Instr.fill (fun i => some (i, 1)) zs ((l.map (·.1)).zip (ps.toList.map fun p => a.eval p.2)) = some (ps.toList.map fun p => a.eval p.2).toArray := by
            intro zs hzs'
            have := hfill zs.toList (by simp [hzs', hvl])
            simp only [Nat.mul_one] at this
            rw [show zs.toList.toArray = zs by simp] at this
            rw [this]
            simp [hzs', hvl]
          by_cases h0 : n = 0
          · subst h0
            simp only [if_true, Sem.run_pure, Result.andThen_ok, Sem.run_bind]
            rw [hpl, hf _ (by simp)]
            simp [newRow]
          · simp only [h0, if_false, Sem.run_pure, Result.andThen_ok, Sem.run_bind, hzero]
            rw [hpl, hf _ (by simp)]
            simp [newRow]
        refine ⟨_, _, hrun, ?_⟩
        rw [hdst] at hd ⊢
        refine ⟨_, R.new (bv := .pointer (some ⟨w.heap.size, 0, none⟩)) hd hfree (fun b hb => by simpa [blkOf] using hb.symm) ?_ ?_⟩
        · intro h' M
          exact ⟨w.heap.size, el, _, rfl, heap_alloc_new w _, hs1.mono M⟩
        · simp only [AVRel, CVRel]
          refine ⟨_, upd_same _ _ _, w.heap.size, upd_same _ _ _, by omega, ?_, by simp⟩
          rw [seq_size l 0 segs h5]; omega
      · cases e
    · cases e
  · cases e


theorem nilCheck_rel (R : Rel P w0 fp nt β st a w) {x' : Operand} (hop : o.op = .nilCheck x') {rq : Option Req} {δ : Delta} (e : aop T o st = some (rq, δ)) :
    δ.hw = [] ∧ (∃ A, a.eval x' = .pointer (some A)) ∧ AVRel st.heap β w δ.av (a.eval x') := by
  simp only [aop, hop] at e
  split at e
  · rename_i r b oo m h1
    have hv := opd_rel R h1
    cases h2 : liveB st.heap r <;> simp only [h2, cond_true, cond_false] at e
    · cases e
    cases e
    refine ⟨rfl, ?_, hv⟩
    simp only [AVRel, CVRel] at hv
    obtain ⟨g, hg, hp⟩ := hv
    obtain ⟨g', hg', hl⟩ := liveB_rel h2
    rw [hg] at hg'
    cases hg'
    cases g with
    | cells segs => obtain ⟨b', _, hv, _⟩ := hp; exact ⟨_, hv⟩
    | row e k xs => obtain ⟨_, _, b', cap, _, hv⟩ := hp; exact ⟨_, hv⟩
    | rowd => exact hp.elim
    | imap => exact hp.elim
    | dead => exact hl.elim
  · rename_i cs oo m h1
    have hv := opd_rel R h1
    cases e
    refine ⟨rfl, ?_, hv⟩
    simp only [AVRel, CVRel] at hv
    obtain ⟨A, hA, _⟩ := hv
    exact ⟨_, hA⟩
  · cases e

theorem nilRow_rel (R : Rel P w0 fp nt β st a w) (hd : dstOk nt o.dst = true) {rq : Option Req} {δ : Delta} (e : nilRow T o st = some (rq, δ)) :
    ∃ β', Rel P w0 fp nt β' (st.app o.dst δ) (a.put o.dst (.slice none 0 0)) w := by
  unfold nilRow at e
  split at e
  · rename_i d el _ _ _ hdst h1
    split at e
    · rename_i k _ _ _ h2 hfree
      cases e
      rw [hdst] at hd ⊢
      have hother : ∀ r g, st.heap r = some g → r ≠ d := fun r g hr e => by rw [e, hfree] at hr; cases hr
      refine ⟨upd β d (.slice none 0 0), R.update (w' := w) (h' := upd st.heap d (some (.row el k []))) hd rfl rfl rfl (Nat.le_refl _) (dst_hid R hd _) (fun _ _ _ => rfl) ?_ ?_ (dst_io R hd) ?_ ?_ ?_⟩
      · rintro b ⟨r, g, hr, hl, hb⟩
        by_cases e : r = d
        · subst e; rw [upd_same] at hb; simp [blkOf] at hb
        · rw [upd_ne _ _ e] at hr hb; exact .inl ⟨r, g, hr, hl, hb⟩
      · intro r g hr
        exact ⟨g, by rw [upd_ne _ _ (hother r g hr)]; exact hr, .refl g, fun _ => upd_ne _ _ (hother r g hr)⟩
      · intro M r g hr
        by_cases e : r = d
        · subst e; rw [upd_same] at hr ⊢; cases hr; exact .inl ⟨rfl, rfl⟩
        · rw [upd_ne _ _ e] at hr ⊢; exact (R.heap r g hr).mono M fun _ _ _ => rfl
      · intro r r' g g' b h9 h10 h11 h12 h13 h14
        by_cases e : r = d <;> by_cases e' : r' = d
        · rw [e, e']
        · subst e; rw [upd_same] at h13; simp [blkOf] at h13
        · subst e'; rw [upd_same] at h14; simp [blkOf] at h14
        · rw [upd_ne _ _ e] at h9 h13
          rw [upd_ne _ _ e'] at h10 h14
          exact R.sep r r' g g' b h9 h10 h11 h12 h13 h14
      · intro _
        simp only [AVRel, CVRel]
        exact ⟨_, upd_same _ _ _, by rw [upd_same], rfl⟩
    · rename_i hdst' _
      cases e
      exact ⟨β, R.pure hd (by simp only [AVRel, CVRel])⟩
  · cases e
    exact ⟨β, R.pure hd (by simp only [AVRel, CVRel])⟩
  · cases e

theorem aop_sound (hT : TabOk P T) (hdep : 4 ≤ P.depth) (R : Rel P w0 fp nt β st a w) (hd : dstOk nt o.dst = true) {rq : Option Req} {δ : Delta} (e : aop T o st = some (rq, δ)) (hr : ∀ r, rq = some r → r.p) :
    o.wp P a w (Post P w0 fp nt (st.app o.dst δ)) Q := by
  have fin : ∀ (v : Value), (execOp a.eval o).run P w = .ok (.value v) w → δ.hw = [] → AVRel st.heap β w δ.av v → o.wp P a w (Post P w0 fp nt (st.app o.dst δ)) Q := by
    intro v h1 h2 h3
    obtain ⟨av, hw, hr'⟩ := δ
    simp only at h2
    subst h2
    exact fin_pure R hd h1 h3
  have fin' : ∀ (v : Value) (w' : World), (execOp a.eval o).run P w = .ok (.value v) w' → (∃ β', Rel P w0 fp nt β' (st.app o.dst δ) (a.put o.dst v) w') → o.wp P a w (Post P w0 fp nt (st.app o.dst δ)) Q := fun v w' h1 h2 => wp_val h1 h2
  cases hop : o.op
  case move x =>
    simp only [aop, hop] at e
    cases h1 : opd st x with
    | none => rw [h1] at e; cases e
    | some av => rw [h1] at e; cases e; exact fin _ (by simp [execOp, hop]) rfl (opd_rel R h1)
  case assign x =>
    simp only [aop, hop] at e
    cases hnil : isNilConst x with
    | true =>
      rw [hnil] at e
      simp only [cond_true] at e
      have hx : a.eval x = .slice none 0 0 := by
        unfold isNilConst at hnil
        split at hnil
        · simp only [Bool.and_eq_true, nbeq] at hnil
          obtain ⟨rfl, rfl⟩ := hnil
          rfl
        · cases hnil
      exact fin' (.slice none 0 0) w (by simp [execOp, hop, hx]) (nilRow_rel R hd e)
    | false =>
    rw [hnil] at e
    simp only [cond_false] at e
    cases h1 : opd st x with
    | none => rw [h1] at e; cases e
    | some av => rw [h1] at e; cases e; exact fin _ (by simp [execOp, hop]) rfl (opd_rel R h1)
  case pick c x y =>
    simp only [aop, hop] at e
    split at e
    · rename_i h1
      have hc := opd_rel R h1
      simp only [AVRel, CVRel] at hc
      cases h2 : opd st x with
      | none => rw [h2] at e; cases e
      | some av => rw [h2] at e; cases e; exact fin _ (by simp [execOp, hop, hc, asBool]) rfl (opd_rel R h2)
    · rename_i h1
      have hc := opd_rel R h1
      simp only [AVRel, CVRel] at hc
      cases h2 : opd st y with
      | none => rw [h2] at e; cases e
      | some av => rw [h2] at e; cases e; exact fin _ (by simp [execOp, hop, hc, asBool]) rfl (opd_rel R h2)
    · cases e
  case alloc el =>
    simp only [aop, hop] at e
    cases h1 : T.get el with
    | none => rw [h1] at e; cases e
    | some ti =>
      rw [h1] at e
      obtain ⟨i, hi, hsz, hby, zv, hz, hzs⟩ := (hT _ _ h1).info
      refine fin' _ _ ?_ (newReg_rel R hd (hzs _ _ _) el e)
      simp [execOp, hop, Instr.alloc, zeroValue, typeInfo, hi, hz, newVar, newRow]
  case box el x =>
    simp only [aop, hop] at e
    cases h1 : opd st x with
    | none => rw [h1] at e; cases e
    | some av =>
      rw [h1] at e
      simp only [] at e
      cases h2 : cellAV av with
      | none => rw [h2] at e; cases e
      | some segs =>
        rw [h2] at e
        refine fin' _ _ ?_ (newReg_rel R hd (cellAV_rel (opd_rel R h1) h2) el e)
        simp [execOp, hop, Instr.box, newVar, newRow]
  case build t ps =>
    obtain ⟨h1, v, h2, h3⟩ := build_rel hT R hop e
    exact fin v (by simp [execOp, hop, Sem.run_bind, h2]) h1 h3
  case buildSlice t n ps =>
    obtain ⟨v, w', h1, h2⟩ := buildSlice_rel hT R hd hop e
    exact fin' v w' (by simp [execOp, hop, Sem.run_bind, h1]) h2
  case load t x =>
    simp only [aop, hop] at e
    split at e
    · rename_i ti c h1 h2
      split at e
      · rename_i δ' h3
        cases e
        have hx := opd_rel R h2
        simp only [AVRel] at hx
        obtain ⟨h4, v, h5, h6⟩ := loadAt_rel R (hT _ _ h1) hx h3
        exact fin v (by simp [execOp, hop, Sem.run_bind, h5]) h4 h6
      · cases e
    · cases e
  case store t x y =>
    simp only [aop, hop] at e
    split at e
    · rename_i ti c av h1 h2 h3
      split at e
      · rename_i δ' h4
        cases e
        have hx := opd_rel R h2
        simp only [AVRel] at hx
        obtain ⟨w', h5, h6⟩ := storeAt_rel R (hT _ _ h1) hx (opd_rel R h3) h4 hd
        exact wp_skip' (by simp [execOp, hop, Sem.run_bind, h5]) ⟨β, h6⟩
      · cases e
    · cases e
  case nilCheck x =>
    obtain ⟨h1, ⟨A, h2⟩, h3⟩ := nilCheck_rel R hop e
    exact fin _ (by simp [execOp, hop, h2]) h1 h3
  case binOp op t x y so =>
    simp only [aop, hop] at e
    split at e
    · rename_i u v h1 h2
      obtain ⟨h3, v, h4, h5⟩ := binAV_rel hT hdep R h1 h2 e hr
      refine fin v ?_ h3 h5
      simp only [execOp, hop]
      rw [Sem.run_bind, h4]
      rfl
    · cases e
  case unOp op t x =>
    simp only [aop, hop] at e
    split at e
    · rename_i u h1
      obtain ⟨h3, h4, h5⟩ := unAV_rel (P := P) (opd_rel R h1) e
      exact fin _ (by simp [execOp, hop, Sem.run_bind, h4]) h3 h5
    · cases e
  case convert s d x =>
    simp only [aop, hop] at e
    split at e
    · rename_i tis k _ _ _ k' n h0 h1 h2
      cases e
      have hx := opd_rel R h2
      simp only [AVRel, CVRel] at hx
      have hu := tdInt (hT _ _ h1)
      obtain ⟨d', hs', _⟩ := (hT _ _ h0).desc
      have hs := run_underlying (w := w) hs'
      refine fin (.int k (k.wrap n)) ?_ rfl (by simp only [AVRel, CVRel])
      simp only [execOp, hop, convert, Sem.run_bind, hs, run_underlying hu, hx, Result.andThen_ok]
      cases d' <;> simp [Conv.intToInt]
    · cases e
  case sliceToArrayPointer d x =>
    have e' := e
    simp only [aop, hop] at e'
    cases h1 : opd st x with
    | none => rw [h1] at e'; cases hg : T.get d <;> rw [hg] at e' <;> (try cases e') ; (rename_i ti; obtain ⟨td, _, _, _⟩ := ti; cases td <;> cases e')
    | some av =>
      obtain ⟨h3, v, h4, h5⟩ := arrayAt_rel hT R (opd_rel R h1) h1 hop e hr
      exact fin v (by simp [execOp, hop, Sem.run_bind, h4]) h3 h5
  case makeSlice t l c =>
    obtain ⟨v, w', h1, h2⟩ := makeSlice_rel hT R hd hop e hr
    exact fin' v w' (by simp [execOp, hop, Sem.run_bind, h1]) h2
  case slice t x lo hi mx =>
    cases mx with
    | some m => simp only [aop, hop] at e; cases e
    | none =>
      simp only [aop, hop] at e
      split at e
      · rename_i av l r h1 h2 h3
        obtain ⟨h4, v, h5, h6⟩ := slice_rel hT R (opd_rel R h1) (natOpt_rel R h2) (natOpt_rel R h3) e hr
        exact fin v (by simp [execOp, hop, Sem.run_bind, h5]) h4 h6
      · cases e
  case fieldAddr s x f =>
    simp only [aop, hop] at e
    split at e
    · rename_i u h1
      obtain ⟨h3, v, h4, h5⟩ := fieldAddr_rel hT R (opd_rel R h1) e
      exact fin v (by simp [execOp, hop, Sem.run_bind, h4]) h3 h5
    · cases e
  case field s x f =>
    simp only [aop, hop] at e
    split at e
    · rename_i u h1
      obtain ⟨h3, v, h4, h5⟩ := field_rel hT (opd_rel R h1) e
      exact fin v (by simp [execOp, hop, Sem.run_bind, h4]) h3 h5
    · cases e
  case indexAddr t x i =>
    simp only [aop, hop] at e
    split at e
    · rename_i u k n h1 h2
      have hi := opd_rel R h2
      simp only [AVRel, CVRel] at hi
      obtain ⟨h3, v, h4, h5⟩ := indexAddr_rel (k := k) hT R (opd_rel R h1) e hr
      exact fin v (by simp [execOp, hop, Sem.run_bind, hi, h4]) h3 h5
    · cases e
  case index t x i =>
    simp only [aop, hop] at e
    split at e
    · rename_i u k n h1 h2
      have hi := opd_rel R h2
      simp only [AVRel, CVRel] at hi
      obtain ⟨h3, v, h4, h5⟩ := index_rel (P := P) (k := k) hT (opd_rel R h1) e hr
      exact fin v (by simp [execOp, hop, Sem.run_bind, hi, h4]) h3 h5
    · cases e
  case extract x i =>
    simp only [aop, hop] at e
    split at e
    · rename_i l h1
      split at e
      · rename_i av h2
        cases e
        have hx := opd_rel R h1
        simp only [AVRel] at hx
        obtain ⟨vs, hv, hs⟩ := hx
        obtain ⟨v, h3, h4⟩ := hs.get h2
        exact fin v (by simp [execOp, hop, Sem.run_bind, Instr.extract, hv, h3]) rfl h4
      · cases e
    · cases e
  case call c =>
    obtain ⟨callee, args, tys⟩ := c
    cases callee with
    | value => simp only [aop, hop] at e; cases e
    | invoke => simp only [aop, hop] at e; cases e
    | builtin b =>
      simp only [aop, hop] at e
      split at e
      · rename_i av h1
        split at e
        · rename_i t h2
          have hx := opds_rel R h1
          simp only [AVsRel] at hx
          obtain ⟨u, r, h3, hu, rfl⟩ := hx
          obtain ⟨h4, v, h5, h6⟩ := len_rel (ty := o.type) hT R hu e
          have ha : args.map a.eval = #[u] := by
            apply Array.toList_inj.1
            simpa using h3
          have ht : tys = #[t] := by
            apply Array.toList_inj.1
            simpa using h2
          refine fin v ?_ h4 h6
          simp [execOp, hop, resolve, invoke, builtin, Sem.run_bind, ha, ht, h5]
        · cases e
      · rename_i av1 av2 h1
        split at e
        · rename_i t t' h2
          cases h8 : Nat.beq t t' <;> simp only [h8, cond_true, cond_false] at e
          · cases e
          obtain rfl := nbeq.1 h8
          have hx := opds_rel R h1
          simp only [AVsRel] at hx
          obtain ⟨u, r, h3, hu, u2, r2, rfl, hu2, rfl⟩ := hx
          obtain ⟨v, w', h5, h6⟩ := append_rel (ty := o.type) hT R hd hu hu2 e hr
          have ha : args.map a.eval = #[u, u2] := by
            apply Array.toList_inj.1
            simpa using h3
          have ht : tys = #[t, t] := by
            apply Array.toList_inj.1
            simpa using h2
          refine fin' v w' ?_ h6
          simp [execOp, hop, resolve, invoke, builtin, Sem.run_bind, ha, ht, h5]
        · cases e
      · rename_i l h1
        obtain ⟨h4, v, h5, h6⟩ := minMax_rel (P := P) (opds_rel R h1) e tys o.type
        have ha : (args.toList.map a.eval).toArray = args.map a.eval := by
          apply Array.toList_inj.1
          simp
        rw [ha] at h5
        simp only [if_true] at h5
        refine fin v ?_ h4 h6
        simp [execOp, hop, resolve, invoke, builtin, Sem.run_bind, h5]
      · rename_i l h1
        obtain ⟨h4, v, h5, h6⟩ := minMax_rel (P := P) (opds_rel R h1) e tys o.type
        have ha : (args.toList.map a.eval).toArray = args.map a.eval := by
          apply Array.toList_inj.1
          simp
        rw [ha] at h5
        simp only [Bool.false_eq_true, if_false] at h5
        refine fin v ?_ h4 h6
        simp [execOp, hop, resolve, invoke, builtin, Sem.run_bind, h5]
      · cases e
  all_goals (simp only [aop, hop] at e; cases e)
end
end Go.Abs
