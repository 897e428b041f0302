/- Rows of own trees: they are built and appended to; all operations are right, with these; what they depend on. -/
import Derived.Test.YtmfdbnhknaemdaaAbsOps10M
set_option linter.unusedVariables false
set_option linter.unusedSimpArgs false
namespace Go.Abs
universe u
open Go.RowKit

section
variable {P : Program} {w0 : World} {fp : FP} {nt : Nat} {β : Nat → Value} {st : St} {a : Act} {w : World} {T : Tab} {o : Oper} {Q : Exit → Act → World → Prop}

/-- own regions are given up; a new one has their blocks, or new ones -/
theorem Rel.fuse (R : Rel P w0 fp nt β st a w) {q : Nat} (hd : dstOk nt (some q) = true) (hfree : st.heap q = none) {gs : List Nat} {g : Reg} {bv v : Value} {w' : World} {hr : List Nat} (hos : w'.os = w.os) (htape : w'.tape = w.tape) (hout : w'.output = w.output) (hgrow : w.heap.size ≤ w'.heap.size)
    (hgs : ∀ r ∈ gs, ∃ g, st.heap r = some g) (hblk : ∀ b, b < w.heap.size → (∀ r ∈ gs, ∀ g, st.heap r = some g → g.live → ¬ Blk (β r) b) → w'.heap[b]? = w.heap[b]?)
    (hbv : ∀ b, Blk bv b → (∃ r ∈ gs, ∃ g, st.heap r = some g ∧ g.live ∧ Blk (β r) b) ∨ w.heap.size ≤ b) (hfull : FullOk bv v g) (hreg : ∀ h', RegRel h' (upd β q bv) w' bv g) :
    Rel P w0 fp nt (upd β q bv) (st.app (some q) ⟨.c (.full q), gs.map (fun r => (r, Reg.dead)) ++ [(q, g)], hr⟩) (a.put (some q) v) w' := by
  have hne : ∀ r g1, st.heap r = some g1 → r ≠ q := fun r g1 h e => by subst e; rw [hfree] at h; cases h
  have hkill : ∀ (h : Heap), heapPut h (gs.map (fun r => (r, Reg.dead)) ++ [(q, g)]) = upd (heapPut h (gs.map fun r => (r, Reg.dead))) q (some g) := by
    intro h
    have : ∀ (l l' : List (Nat × Reg)) (h : Heap), heapPut h (l ++ l') = heapPut (heapPut h l) l' := by
      intro l
      induction l with
      | nil => intro l' h; rfl
      | cons p l ih => intro l' h; obtain ⟨a, b⟩ := p; simp only [List.cons_append, heapPut]; exact ih _ _
    rw [this]
    rfl
  have hdead : ∀ (l : List Nat) (h : Heap) r, heapPut h (l.map fun r => (r, Reg.dead)) r = if r ∈ l then some .dead else h r := by
    intro l
    induction l with
    | nil => intro h r; simp [heapPut]
    | cons x l ih =>
      intro h r
      simp only [List.map_cons, heapPut]
      rw [ih]
      by_cases h1 : r ∈ l
      · simp [h1]
      · by_cases h2 : r = x
        · subst h2; simp [h1, upd_same]
        · simp [h1, h2, upd_ne _ _ h2]
  simp only [St.app]
  rw [hkill]
  have look : ∀ r g1, heapPut st.heap (gs.map fun r => (r, Reg.dead)) r = some g1 → g1.live → st.heap r = some g1 ∧ r ∉ gs := by
    intro r g1 h1 hl
    rw [hdead] at h1
    split at h1
    · cases h1; cases hl
    · rename_i hm; exact ⟨h1, hm⟩
  have apart : ∀ r g1 b, st.heap r = some g1 → g1.live → r ∉ gs → Blk (β r) b → ∀ r' ∈ gs, ∀ g, st.heap r' = some g → g.live → ¬ Blk (β r') b := by
    intro r g1 b h1 h2 h3 h4 r' hr' g' hg' hl' hb'
    have := R.sep r r' g1 g' b h1 hg' h2 hl' h4 hb'
    subst this
    exact h3 hr'
  refine R.update (w' := w') hd hos htape hout hgrow (dst_hid R hd _) (fun b hb hno => hblk b hb fun r hr g hg hl hbb => hno ⟨r, g, hg, hl, hbb⟩) ?_ ?_ ?_ ?_ ?_ ?_
  · rintro b ⟨r, g1, h1, h2, h3⟩
    by_cases e : r = q
    · subst e
      rw [upd_same] at h3
      rcases hbv b h3 with ⟨r, _, g, hg, hl, hb⟩ | h
      · exact .inl ⟨r, g, hg, hl, hb⟩
      · exact .inr h
    · rw [upd_ne _ _ e] at h1 h3
      exact .inl ⟨r, g1, (look r g1 h1 h2).1, h2, h3⟩
  · intro r g1 h1
    have e := hne r g1 h1
    rw [upd_ne _ _ e, hdead]
    split
    · exact ⟨.dead, rfl, by cases g1 <;> trivial, fun h => h.elim⟩
    · exact ⟨g1, h1, .refl g1, fun _ => upd_ne _ _ e⟩
  · intro r g1 hio h1
    have e : r ≠ q := fun h => by
      have h1 : q < nt := by simpa [dstOk, Nat.blt_eq] using hd
      have := R.small
      omega
    rw [upd_ne _ _ e, hdead] at h1
    split at h1
    · rename_i hm; exact hgs r hm
    · exact ⟨g1, h1⟩
  · intro M r g1 h1
    by_cases e : r = q
    · subst e
      rw [upd_same] at h1
      cases h1
      rw [upd_same]
      exact hreg _
    · rw [upd_ne _ _ e] at h1
      rw [upd_ne _ _ e]
      cases g1 with
      | dead => trivial
      | _ =>
        obtain ⟨h2, h3⟩ := look r _ h1 trivial
        exact (R.heap r _ h2).mono M fun b hb hl => hblk b (OwnR.lt R ⟨r, _, h2, hl, hb⟩) (apart r _ b h2 hl h3 hb)
  · intro r r' g1 g2 b h1 h2 l1 l2 e1 e2
    have clash : ∀ r' g', heapPut st.heap (gs.map fun r => (r, Reg.dead)) r' = some g' → g'.live → Blk (β r') b → Blk bv b → False := by
      intro r' g' h1 h2 h3 h4
      obtain ⟨q1, q2⟩ := look r' g' h1 h2
      rcases hbv b h4 with ⟨r, hr, g, hg, hl, hb⟩ | h
      · exact apart r' g' b q1 h2 q2 h3 r hr g hg hl hb
      · have := OwnR.lt R ⟨r', g', q1, h2, h3⟩
        omega
    by_cases d1 : r = q <;> by_cases d2 : r' = q
    · rw [d1, d2]
    · subst d1
      rw [upd_same] at e1
      rw [upd_ne _ _ d2] at h2 e2
      exact (clash r' g2 h2 l2 e2 e1).elim
    · subst d2
      rw [upd_same] at e2
      rw [upd_ne _ _ d1] at h1 e1
      exact (clash r g1 h1 l1 e1 e2).elim
    · rw [upd_ne _ _ d1] at h1 e1
      rw [upd_ne _ _ d2] at h2 e2
      exact R.sep r r' g1 g2 b (look r g1 h1 l1).1 (look r' g2 h2 l2).1 l1 l2 e1 e2
  · intro _
    simp only [AVRel, CVRel]
    exact ⟨g, upd_same _ _ _, by rw [upd_same]; exact hfull⟩

/-- an own row of bytes, as a tree's body -/
theorem row_body {h : Heap} {e : Nat} {xs : List Int} {bv : Value} (H : RegRel h β w bv (.row e .u8 xs)) : ∃ S, BodyAt w e S xs bv ∧ S.Nodup ∧ ∀ b, b ∈ S ↔ Blk bv b := by
  rcases H with ⟨rfl, rfl⟩ | ⟨b, cap, tail, rfl, hh, hl, hm⟩
  · exact ⟨[], .inl ⟨rfl, rfl, rfl⟩, by simp, fun b => by simp⟩
  · exact ⟨[b], .inr ⟨b, cap, tail, rfl, hh, hl, hm, rfl⟩, by simp, fun x => by simp [eq_comm]⟩

theorem body_obj {eb : Nat} {Sb : List Nat} {body : List Int} {bv : Value} (H : BodyAt w eb Sb body bv) : ∀ b ∈ Sb, ∃ o, w.heap[b]? = some o := by
  rcases H with ⟨_, _, rfl⟩ | ⟨b, cap, tail, _, hw, _, _, rfl⟩
  · simp
  · intro x hx; simp at hx; subst hx; exact ⟨_, hw⟩

theorem DeepAt.cons_inv {e eb : Nat} {S : List Nat} {x : Tree} {xs : List Tree} {l : List Value} (H : DeepAt w e eb S (x :: xs) l) :
    ∃ S1 S2 c0 c1 c2 l', S = S1 ++ S2 ∧ l = c0 :: c1 :: c2 :: l' ∧ DeepAt w e eb S1 [x] [c0, c1, c2] ∧ DeepAt w e eb S2 xs l' := by
  cases H with
  | leaf tag body bv Sb S xs l hb hr => exact ⟨Sb ++ [], S, _, _, _, _, by simp, rfl, .leaf tag body bv Sb [] [] [] hb .nil, hr⟩
  | node tag body kids bv b cap l' tail Sb Sk S xs l hb hw hl hc hm hk hr =>
    exact ⟨Sb ++ (b :: Sk) ++ [], S, _, _, _, _, by simp, rfl, .node tag body kids bv b cap l' tail Sb Sk [] [] [] hb hw hl hc hm hk .nil, hr⟩

/-- a tree of a row, by itself -/
theorem DeepAt.split {e eb : Nat} : ∀ {k : Nat} {S : List Nat} {xs : List Tree} {l : List Value} (hk : k < xs.length), DeepAt w e eb S xs l →
    ∃ S1 S2 S3 l1 c0 c1 c2 l3, S = S1 ++ (S2 ++ S3) ∧ l = l1 ++ ([c0, c1, c2] ++ l3) ∧ l1.length = 3 * k ∧ DeepAt w e eb S1 (xs.take k) l1 ∧ DeepAt w e eb S2 [xs[k]] [c0, c1, c2] ∧ DeepAt w e eb S3 (xs.drop (k + 1)) l3 := by
  intro k
  induction k with
  | zero =>
    intro S xs l hk H
    cases xs with
    | nil => exact absurd hk (Nat.not_lt_zero _)
    | cons x xs =>
      obtain ⟨S1, S2, c0, c1, c2, l', rfl, rfl, h1, h2⟩ := H.cons_inv
      exact ⟨[], S1, S2, [], c0, c1, c2, l', rfl, rfl, rfl, .nil, h1, h2⟩
  | succ k ih =>
    intro S xs l hk H
    cases xs with
    | nil => exact absurd hk (Nat.not_lt_zero _)
    | cons x xs =>
      obtain ⟨S1, S2, c0, c1, c2, l', rfl, rfl, h1, h2⟩ := H.cons_inv
      obtain ⟨T1, T2, T3, l1, d0, d1, d2, l3, rfl, rfl, h3, h4, h5, h6⟩ := ih (by simpa using hk) h2
      refine ⟨S1 ++ T1, T2, T3, [c0, c1, c2] ++ l1, d0, d1, d2, l3, by simp, by simp, by simp; omega, h1.append h4, h5, h6⟩

theorem DeepAt.join {e eb : Nat} {k : Nat} {S1 S2 S3 : List Nat} {xs : List Tree} {y : Tree} {l1 l2 l3 : List Value} (hk : k < xs.length) (h1 : DeepAt w e eb S1 (xs.take k) l1) (h2 : DeepAt w e eb S2 [y] l2) (h3 : DeepAt w e eb S3 (xs.drop (k + 1)) l3) :
    DeepAt w e eb (S1 ++ (S2 ++ S3)) (xs.set k y) (l1 ++ (l2 ++ l3)) := by
  rw [← set_eq_splice xs k y hk, List.append_assoc]
  exact h1.append (h2.append h3)

theorem DeepAt.retag {e eb : Nat} {S : List Nat} {x : Tree} {c0 c1 c2 : Value} (H : DeepAt w e eb S [x] [c0, c1, c2]) (n : Int) : DeepAt w e eb S [Go.Abs.retag n x] [.int .u8 n, c1, c2] := by
  cases H with
  | leaf tag body _ Sb S _ _ hb hr => exact .leaf n body _ Sb S _ _ hb hr
  | node tag body kids _ b cap l' tail Sb Sk S _ _ hb hw hl hc hm hk hr => exact .node n body kids _ b cap l' tail Sb Sk S _ _ hb hw hl hc hm hk hr

theorem DeepAt.leaf0 {e eb : Nat} (n : Int) : DeepAt w e eb [] [.node n [] []] [.int .u8 n, .slice none 0 0, .slice none 0 0] := .leaf n [] _ [] [] [] [] (.inl ⟨rfl, rfl, rfl⟩) .nil

/-- a tree out of its parts -/
theorem deep_one {h : Heap} {e eb : Nat} {xs : List Tree} {bv kv : Value} {tag : Int} {body : List Int} {Sb : List Nat} {v : Value} (hb : BodyAt w eb Sb body v) (hnb : Sb.Nodup) (H : RegRel h β w bv (.deep e eb xs)) (hk : kv = rootOf bv) (hd : ∀ b, b ∈ Sb → ¬ Blk bv b) :
    ∃ S, DeepAt w e eb S [.node tag body xs] [.int .u8 tag, v, kv] ∧ S.Nodup ∧ (∀ b, b ∈ S → b ∈ Sb ∨ Blk bv b) := by
  rcases H with ⟨rfl, rfl⟩ | ⟨b, cap, l, tail, S0, S, rfl, hh, hs, hl, hc, hm, hnd0, hnd, hss, hex⟩
  · subst hk
    exact ⟨Sb ++ [], .leaf tag body v Sb [] [] [] hb .nil, by simpa using hnb, fun b => by simp⟩
  · subst hk
    refine ⟨Sb ++ (b :: S) ++ [], .node tag body xs v b cap l tail Sb S [] [] [] hb hh hl hc hm hs .nil, ?_, fun x => ?_⟩
    · rw [List.append_nil, List.nodup_append]
      refine ⟨hnb, List.nodup_cons.2 ⟨fun h => (List.nodup_cons.1 hnd0).1 (hss _ h), hnd⟩, fun x hx y hy e => ?_⟩
      subst e
      refine hd x hx (Blk_tuple.2 ?_)
      simp only [List.mem_cons] at hy
      exact hy.imp Eq.symm (hss x)
    · rw [Blk_tuple]
      simp only [List.append_nil, List.mem_append, List.mem_cons]
      exact Or.imp id (Or.imp Eq.symm (hss x))

theorem run_build_n {t el : Nat} (ht : P.underlying t = some (.slice el)) {i : TypeInfo} {zv : Value} (hi : P.info? el = some i) (hz : i.zero = some zv) {n : Nat} (his : i.size = n) (hn : 0 < n) (hzs : zv.cells.size = n) {vs : List Value} (hv : ∀ v ∈ vs, v.cells.size = n) (h0 : 0 < vs.length) (hmax : vs.length * n ≤ 65536) :
    (Instr.buildSlice t vs.length ((List.range' 0 vs.length).zip vs).toArray).run P w = .ok (.slice (some ⟨w.heap.size, 0, none⟩) vs.length vs.length) (w.alloc (.cells (vs.flatMap fun v => v.cells.toList).toArray el)) := by
  have hzero : (zeroValue el).run P w = .ok zv w := by simp [zeroValue, typeInfo, hi, hz]
  have hfill : ∀ zs : Array Value, zs.size = vs.length * n → Instr.fill (fun i => some (i * n, n)) zs ((List.range' 0 vs.length).zip vs) = some (vs.flatMap fun v => v.cells.toList).toArray := by
    intro zs hzs
    have := fill_dat (sz := n) vs 0 zs.toList hv (by simp [hzs])
    rw [show zs.toList.toArray = zs by simp] at this
    rw [this]
    have e2 : List.drop (vs.length * n) zs.toList = [] := List.drop_of_length_le (by simp [hzs])
    simp [e2]
  have hpos : ¬ vs.length * n = 0 := Nat.ne_of_gt (Nat.mul_pos h0 hn)
  have hl : vs.length ≤ vs.length * n := Nat.le_mul_of_pos_right _ hn
  simp only [Instr.buildSlice, Sem.run_bind, run_underlying ht, Result.andThen_ok, run_sizeOf hi, his]
  rw [if_neg (by omega), if_neg hpos]
  simp only [Sem.run_pure, Result.andThen_ok, Sem.run_bind, hzero]
  rw [hfill _ (by simp)]
  simp [newRow]

theorem run_build_one {t el : Nat} (ht : P.underlying t = some (.slice el)) {i : TypeInfo} {zv : Value} (hi : P.info? el = some i) (hz : i.zero = some zv) {n : Nat} (his : i.size = n) (hn : 0 < n) (hzs : zv.cells.size = n) {v : Value} (hv : v.cells.size = n) (hmax : n ≤ 65536) :
    (Instr.buildSlice t 1 #[(0, v)]).run P w = .ok (.slice (some ⟨w.heap.size, 0, none⟩) 1 1) (w.alloc (.cells v.cells el)) := by
  have := run_build_n (P := P) (w := w) ht hi hz his hn hzs (vs := [v]) (by simpa using hv) (by simp) (by simpa using hmax)
  simpa using this

theorem isLeafC_spec {v : Value} {n : Int} (h : isLeafC v = some n) : v = .agg #[.int .u8 n, .slice none 0 0, .slice none 0 0] := by
  unfold isLeafC at h
  split at h
  · rename_i cs
    split at h
    · rename_i m hm
      cases h
      congr 1
      apply Array.toList_inj.1
      exact hm
    · cases h
  · cases h

theorem constItems_rel {e eb : Nat} {h : Heap} : ∀ {l : List (Nat × AV)} {n : Nat} {xs : List Tree} {vs : List Value}, constItems l n = some xs → AVsRel h β w (l.map (·.2)) vs →
    l.map (·.1) = List.range' n vs.length ∧ vs.length = l.length ∧ xs.length = l.length ∧ (∀ v ∈ vs, v.cells.size = 3) ∧ DeepAt w e eb [] xs (vs.flatMap fun v => v.cells.toList) := by
  intro l
  induction l with
  | nil =>
    intro n xs vs e hv
    cases e
    simp only [List.map_nil, AVsRel] at hv
    subst hv
    exact ⟨rfl, rfl, rfl, by simp, .nil⟩
  | cons p l ih =>
    obtain ⟨i, av⟩ := p
    intro n xs vs e hv
    simp only [List.map_cons, AVsRel] at hv
    obtain ⟨u, r, rfl, hu, hr⟩ := hv
    unfold constItems at e
    split at e
    · rename_i heq; cases heq
    · rename_i i' v r' n' heq
      cases heq
      have h70 := cond_some e
      have h1 := nbeq.1 h70.1
      replace e := h70.2
      clear h70
      split at e
      · rename_i t l' h2 h3
        cases e
        have hv := isLeafC_spec h2
        simp only [AVRel, CVRel] at hu
        subst hu
        subst hv
        obtain ⟨g1, g2, g3, g4, g5⟩ := ih h3 hr
        refine ⟨?_, by simp [g2], by simp [g3], ?_, ?_⟩
        · rw [List.map_cons, List.length_cons, List.range'_succ, g1, h1]
        · intro v hv
          rcases List.mem_cons.1 hv with rfl | hv
          · rfl
          · exact g4 v hv
        · rw [List.flatMap_cons]
          exact (DeepAt.leaf0 t).append g5
      · cases e
    · cases e

theorem deepBuild_rel (hT : TabOk P T) (R : Rel P w0 fp nt β st a w) {dst : Option Nat} (hd : dstOk nt dst = true) {t n : Nat} {l : List (Nat × AV)} {vs : List Value} (hvs : AVsRel st.heap β w (l.map (·.2)) vs) {rq : Option Req} {δ : Delta} (e : deepBuild T st.heap dst t n l = some (rq, δ)) :
    ∃ v w', (Instr.buildSlice t n ((l.map (·.1)).zip vs).toArray).run P w = .ok v w' ∧ ∃ β', Rel P w0 fp nt β' (st.app dst δ) (a.put dst v) w' := by
  unfold deepBuild at e
  split at e
  · rename_i i x q1 q2
    split at e
    · rename_i q el _ _ _ h1
      have ht := tdSlice (hT _ _ h1)
      split at e
      · rename_i te eb body e' eb' kids h2 hfree hg1 hg2
        have h70 := cond_some e
        have h3 := h70.1
        replace e := h70.2
        clear h70
        cases e
        simp only [Bool.and_eq_true] at h3
        obtain ⟨⟨⟨⟨hi0, hn1⟩, hsz⟩, he⟩, heb⟩ := h3
        obtain rfl := nbeq.1 hi0
        obtain rfl := nbeq.1 hn1
        obtain rfl := nbeq.1 he
        obtain rfl := nbeq.1 heb
        have hsz := nbeq.1 hsz
        obtain ⟨i, zv, hi, his, hby, hz, hzs⟩ := datInfo hT h2
        simp only [List.map_cons, List.map_nil, AVsRel] at hvs
        obtain ⟨v, r, rfl, hv, rfl⟩ := hvs
        simp only [AVRel] at hv
        obtain ⟨lv, rfl, hs⟩ := hv
        simp only [SegsRel] at hs
        obtain ⟨u0, r0, rfl, _, h0, u1, r1, rfl, _, h01, u2, r2, rfl, _, h02, rfl⟩ := hs
        simp only [CVRel] at h0 h01 h02
        obtain ⟨g1, hg1', hp1⟩ := h01
        obtain ⟨g2, hg2', hp2⟩ := h02
        rw [hg1] at hg1'
        cases hg1'
        rw [hg2] at hg2'
        cases hg2'
        simp only [FullOk] at hp1 hp2
        obtain ⟨rfl, _⟩ := hp1
        have hk := hp2.1
        subst h0
        obtain ⟨Sb, hb1, hb2, hb3⟩ := row_body (R.heap q1 _ hg1)
        have hdis : ∀ b, b ∈ Sb → ¬ Blk (β q2) b := fun b hb hb' => by
          have := R.sep q1 q2 _ _ b hg1 hg2 trivial trivial ((hb3 b).1 hb) hb'
          subst this
          rw [hg1] at hg2
          cases hg2
        obtain ⟨S, hS, hnd, hm⟩ := deep_one (tag := x) hb1 hb2 (R.heap q2 _ hg2) hk hdis
        have hrun := run_build_one (P := P) (w := w) ht hi hz (n := 3) (by rw [his, hsz]) (by omega) (by rw [hzs, hsz]) (v := .agg [Value.int .u8 x, β q1, u2].toArray) (by simp [Value.cells]) (by omega)
        refine ⟨_, _, hrun, ?_⟩
        have hold : ∀ b ∈ S, b < w.heap.size := fun b hb => by
          obtain ⟨o, ho⟩ := hS.obj b hb
          exact (Array.getElem?_eq_some_iff.1 ho).1
        refine ⟨_, R.fuse (gs := [q1, q2]) (bv := .tuple (.slice (some ⟨w.heap.size, 0, none⟩) 1 1 :: S.map ptrTo).toArray) hd hfree rfl rfl rfl (by simp) ?_ (fun b hb _ => Below.heap_alloc w _ b hb) ?_ ⟨rfl, rfl⟩ ?_⟩
        · intro r hr
          simp only [List.mem_cons, List.not_mem_nil, or_false] at hr
          rcases hr with rfl | rfl
          · exact ⟨_, hg1⟩
          · exact ⟨_, hg2⟩
        · intro b hb
          rcases Blk_tuple.1 hb with rfl | hb
          · exact .inr (Nat.le_refl _)
          · rcases hm b hb with hb | hb
            · exact .inl ⟨q1, by simp, _, hg1, trivial, (hb3 b).1 hb⟩
            · exact .inl ⟨q2, by simp, _, hg2, trivial, hb⟩
        · intro h'
          have hS' := hS.mono (w' := w.alloc (.cells (Value.agg [Value.int .u8 x, β q1, u2].toArray).cells el)) fun b hb => Below.heap_alloc w _ b (hold b hb)
          refine .inr ⟨w.heap.size, 1, _, [], S, S, rfl, ?_, hS', rfl, Nat.le_refl _, by unfold maxLen; omega, ?_, hnd, fun _ h => h, hS'.obj⟩
          · rw [List.append_nil]; exact heap_alloc_new w _
          · refine List.nodup_cons.2 ⟨fun h => ?_, hnd⟩
            have := hold _ h
            omega
      · cases e
    · cases e
  · split at e
    · rename_i q el _ _ _ h1
      have ht := tdSlice (hT _ _ h1)
      split at e
      · rename_i f1 tb f2 f3 f4 f5 sz by' z xs h2 hfree hci
        split at e
        · rename_i eb _ _ _ h3
          have h70 := cond_some e
          have h4 := h70.1
          replace e := h70.2
          clear h70
          cases e
          simp only [Bool.and_eq_true] at h4
          obtain ⟨⟨⟨hsz, hn⟩, hn0⟩, hn1⟩ := h4
          have hsz := nbeq.1 hsz
          have hn := nbeq.1 hn
          have hn0 := nblt.1 hn0
          have hn1 := nble.1 hn1
          obtain ⟨i, zv, hi, his, hby, hz, hzs⟩ := datInfo hT h2
          simp only at his hzs
          obtain ⟨g1, g2, g3, g4, g5⟩ := constItems_rel (e := el) (eb := eb) hci hvs
          have hrun := run_build_n (P := P) (w := w) ht hi hz (n := 3) (by rw [his, hsz]) (by omega) (by rw [hzs, hsz]) g4 (by omega) (by omega)
          rw [← g1] at hrun
          have hvn : vs.length = n := by omega
          rw [hvn] at hrun
          refine ⟨_, _, hrun, ?_⟩
          have hxn : xs.length = n := by omega
          refine ⟨_, R.fuse (gs := []) (bv := .tuple (.slice (some ⟨w.heap.size, 0, none⟩) n n :: ([] : List Nat).map ptrTo).toArray) hd hfree rfl rfl rfl (by simp) (fun r hr => by simp at hr) (fun b hb _ => Below.heap_alloc w _ b hb) ?_ ⟨rfl, rfl⟩ ?_⟩
          · intro b hb
            rcases Blk_tuple.1 hb with rfl | hb
            · exact .inr (Nat.le_refl _)
            · simp at hb
          · intro h'
            have hl := g5.length
            refine .inr ⟨w.heap.size, n, _, [], [], [], by rw [hxn], ?_, g5.mono (fun b hb => by simp at hb), by rw [hl, hxn]; rfl, by omega, by unfold maxLen; omega, by simp, by simp, fun _ h => h, fun x hx => by simp at hx⟩
            rw [List.append_nil]; exact heap_alloc_new w _
        · cases e
      · cases e
    · cases e

theorem deep_owns {h : Heap} {e eb : Nat} {xs : List Tree} {bv : Value} (H : RegRel h β w bv (.deep e eb xs)) : ∃ (l : List Value) (S S' : List Nat), DeepAt w e eb S' xs l ∧ w.ownsRow 0 e 3 (rootOf bv) xs.length l ∧ S.Nodup ∧ (∀ b, Blk bv b ↔ (rootOf bv).ownBlock = some b ∨ b ∈ S) ∧ (∀ b, (rootOf bv).ownBlock = some b → b ∉ S) ∧ S'.Nodup ∧ (∀ b ∈ S', b ∈ S) ∧ ∀ b ∈ S, ∃ o, w.heap[b]? = some o := by
  rcases H with ⟨rfl, rfl⟩ | ⟨b, cap, l, tail, S, S', rfl, hh, hs, hl, hc, hm, hnd, hnd', hss, hex⟩
  · exact ⟨[], [], [], .nil, ⟨by simp, .inl ⟨rfl, rfl⟩⟩, by simp, fun b => by simp [rootOf, Value.ownBlock], by simp, by simp, by simp, by simp⟩
  · have hls := hs.length
    refine ⟨l, S, S', hs, ⟨hls, .inr ⟨b, cap, _, rfl, Nat.zero_le _, hh, hc, hm, by simpa using hl, ?_⟩⟩, (List.nodup_cons.1 hnd).2, fun x => ?_, fun x hx => ?_, hnd', hss, hex⟩
    · simp only [← hls]
      exact List.take_left
    · rw [Blk_tuple]
      simp [rootOf, Value.ownBlock]
    · have : b = x := by simpa [rootOf, Value.ownBlock] using hx
      subst this
      exact (List.nodup_cons.1 hnd).1

theorem owns_deep {h : Heap} {e eb : Nat} {xs : List Tree} {v : Value} {l : List Value} {S S' : List Nat} (hs : DeepAt w e eb S' xs l) (H : w.ownsRow 0 e 3 v xs.length l) (hnd : S.Nodup) (hv : ∀ b, v.ownBlock = some b → b ∉ S) (hnd' : S'.Nodup) (hss : ∀ b ∈ S', b ∈ S) (hex : ∀ b ∈ S, ∃ o, w.heap[b]? = some o) :
    ∃ bv, rootOf bv = v ∧ RegRel h β w bv (.deep e eb xs) ∧ ∀ b, Blk bv b → v.ownBlock = some b ∨ b ∈ S := by
  rcases H.2 with ⟨rfl, hn⟩ | ⟨g, cap, cur, rfl, _, hh, hc, hm, hcs, htk⟩
  · exact ⟨.slice none 0 0, rfl, .inl ⟨rfl, List.eq_nil_of_length_eq_zero hn⟩, fun b hb => by simp at hb⟩
  · have hls := hs.length
    refine ⟨.tuple (.slice (some ⟨g, 0, none⟩) xs.length cap :: S.map ptrTo).toArray, rfl, .inr ⟨g, cap, l, cur.toList.drop (xs.length * 3), S, S', rfl, ?_, hs, ?_, hc, hm, List.nodup_cons.2 ⟨hv g rfl, hnd⟩, hnd', hss, hex⟩, fun b hb => ?_⟩
    · rw [hh]
      congr 2
      apply Array.ext'
      simp only []
      rw [← htk, List.take_append_drop]
    · have e1 : (cur.toList.drop (xs.length * 3)).length = cap * 3 - xs.length * 3 := by
        rw [List.length_drop]; congr 1
      rw [hls, e1]
      omega
    · rcases Blk_tuple.1 hb with rfl | hb
      · exact .inl rfl
      · exact .inr hb

theorem deepAppend_rel (hT : TabOk P T) (R : Rel P w0 fp nt β st a w) {dst : Option Nat} (hd : dstOk nt dst = true) {t ty q2 : Nat} {s : AV} {u y : Value} (hs : AVRel st.heap β w s u) (hy : AVRel st.heap β w (.c (.full q2)) y)
    {rq : Option Req} {δ : Delta} (e : deepAppend T st.heap dst t s q2 = some (rq, δ)) (hr : ∀ r, rq = some r → r.p) :
    ∃ v w', (Builtin.append_ #[t, t] ty #[u, y]).run P w = .ok v w' ∧ ∃ β', Rel P w0 fp nt β' (st.app dst δ) (a.put dst v) w' := by
  unfold deepAppend at e
  split at e
  · rename_i q el sz by' z h1
    have ht := tdSlice (hT _ _ h1)
    split at e
    · rename_i te e' eb ys h2 hfree hg2
      have h70 := cond_some e
      have h3 := h70.1
      replace e := h70.2
      clear h70
      simp only [Bool.and_eq_true] at h3
      obtain ⟨⟨hsz, hby⟩, he⟩ := h3
      have hsz := nbeq.1 hsz
      have hby := nblt.1 hby
      obtain rfl := nbeq.1 he
      obtain ⟨i, zv, hi, his, hib, hz, hzs⟩ := datInfo hT h2
      simp only [AVRel, CVRel] at hy
      obtain ⟨g2, hg2', hp2⟩ := hy
      rw [hg2] at hg2'
      cases hg2'
      simp only [FullOk] at hp2
      obtain ⟨hyr, hy1⟩ := hp2
      obtain ⟨ly, Sy, Sy', hSy, hoy, hndy, hmy, hny, hndy', hssy, hexy⟩ := deep_owns (R.heap q2 _ hg2)
      rw [← hyr] at hoy hmy hny
      have holdy : ∀ b ∈ Sy, b < w.heap.size := fun b hb => by
        obtain ⟨o, ho⟩ := hexy b hb
        exact (Array.getElem?_eq_some_iff.1 ho).1
      -- the second operand's cells
      obtain ⟨A, c, rfl, hnil, hcells⟩ : ∃ A c, y = .slice A ys.length c ∧ (A = none → ys = []) ∧ ∀ A', A = some A' → ∀ j v, ly[j]? = some v → w.cell? (A'.add j) = some v := by
        rcases R.heap q2 _ hg2 with ⟨hb, rfl⟩ | ⟨b, cap, l, tail, S, S', hb, hh, hs', hl, hc, hm, hnd, _⟩
        · exact ⟨none, 0, by rw [hyr, hb]; rfl, fun _ => rfl, fun A' h => by cases h⟩
        · refine ⟨some ⟨b, 0, none⟩, cap, by rw [hyr, hb]; rfl, (fun h => by cases h), fun A' hA j v hj => ?_⟩
          cases hA
          rcases hoy.2 with ⟨h, _⟩ | ⟨g, cap', cur, h, _, hh', hc', hm', hcs', htk⟩
          · rw [hyr, hb] at h; cases h
          · rw [hyr, hb] at h
            simp only [rootOf, List.headD_cons, Value.slice.injEq, Option.some.injEq, Addr.mk.injEq, and_true, true_and] at h
            obtain ⟨rfl, rfl⟩ := h
            refine win_block hh' j v ?_
            rw [← htk, List.getElem?_take] at hj
            split at hj
            · exact hj
            · cases hj
      have hlm : ly.length = ys.length * te.size := by rw [hsz]; exact hSy.length
      have core : ∀ (n : Nat) (l : List Value) (u : Value), w.ownsRow 0 el te.size u n l → okBytes (n + ys.length) te.bytes →
          ∃ v w', (Builtin.append_ #[t, t] ty #[u, .slice A ys.length c]).run P w = .ok v w' ∧ w'.ownsRow 0 el te.size v (n + ys.length) (l ++ ly) ∧ w.grownBy w' u.ownBlock ∧ (v.ownBlock = u.ownBlock ∨ v.ownBlock = some w.heap.size) := by
        intro n l u hown hb
        have hm : n + ys.length ≤ maxLen := by
          unfold okBytes at hb
          have : (n + ys.length) + (n + ys.length) / 4 + 192 ≤ ((n + ys.length) + (n + ys.length) / 4 + 192) * te.bytes := Nat.le_mul_of_pos_right _ hby
          simp only [maxLen]
          omega
        cases A with
        | none =>
          have h0 := hnil rfl
          subst h0
          have hlm0 : ly = [] := List.eq_nil_of_length_eq_zero (by simpa using hlm)
          subst hlm0
          obtain ⟨A0, cap, rfl, hc⟩ : ∃ A0 cap, u = .slice A0 n cap ∧ n ≤ cap := by
            rcases hown.2 with ⟨rfl, h0⟩ | ⟨g, cap, cur, rfl, _, _, h0, _⟩
            · exact ⟨none, 0, by rw [h0], by omega⟩
            · exact ⟨_, cap, rfl, h0⟩
          exact ⟨_, w, run_append_none ht hi A0 n cap c hc, by simpa using hown, ⟨rfl, rfl, rfl, Nat.le_refl _, fun _ _ _ => rfl⟩, .inl rfl⟩
        | some A =>
          obtain ⟨v, w', hrun, h2', h3, _, h5⟩ := append_own_far (P := P) w 0 t ty el i zv te.size te.bytes ht hi hz his hib hzs (by omega) u n l hown A ys.length c ly hlm (hcells A rfl) hSy.one hm hb (Nat.zero_le _)
          exact ⟨v, w', hrun, h2', h3, h5⟩
      split at e
      · rename_i r
        split at e
        · rename_i e2 eb2 xs hg
          have h70 := cond_some e
          have h4 := h70.1
          replace e := h70.2
          clear h70
          simp only [Bool.and_eq_true, Bool.not_eq_true'] at h4
          obtain ⟨⟨h4, h5⟩, h6⟩ := h4
          obtain rfl := nbeq.1 h4
          obtain rfl := nbeq.1 h5
          have hrq : r ≠ q2 := fun h => by subst h; rw [Nat.beq_refl] at h6; cases h6
          cases e
          have hin := hr _ rfl
          simp only [req] at hin
          simp only [AVRel, CVRel] at hs
          obtain ⟨g', hg', hp⟩ := hs
          rw [hg] at hg'
          cases hg'
          simp only [FullOk] at hp
          obtain ⟨hur, hu1⟩ := hp
          obtain ⟨lx, Sx, Sx', hSx, hox, hndx, hmx, hnx, hndx', hssx, hexx⟩ := deep_owns (R.heap r _ hg)
          rw [← hur] at hox hmx hnx
          have holdx : ∀ b ∈ Sx, b < w.heap.size := fun b hb => by
            obtain ⟨o, ho⟩ := hexx b hb
            exact (Array.getElem?_eq_some_iff.1 ho).1
          obtain ⟨v, w', hrun, g3, g4, g5⟩ := core xs.length lx u (by rw [hsz]; exact hox) hin
          have hsep : ∀ b, Blk (β r) b → ¬ Blk (β q2) b := fun b h h' => hrq (R.sep r q2 _ _ b hg hg2 trivial trivial h h')
          have keepx : ∀ b ∈ Sx, w'.heap[b]? = w.heap[b]? := fun b hb => g4.block b (holdx b hb) fun h => hnx b h.symm hb
          have keepy : ∀ b ∈ Sy, w'.heap[b]? = w.heap[b]? := fun b hb => g4.block b (holdy b hb) fun h => hsep b ((hmx b).2 (.inl h.symm)) ((hmy b).2 (.inr hb))
          obtain ⟨bv, hbv, hreg, hblk⟩ := owns_deep (h := fun _ => none) (β := β) (S := Sx ++ Sy) ((hSx.mono fun b hb => keepx b (hssx b hb)).append (hSy.mono fun b hb => keepy b (hssy b hb))) (by rw [List.length_append]; rw [hsz] at g3; exact g3) (List.nodup_append.2 ⟨hndx, hndy, fun x hx y hy e => by subst e; exact hsep x ((hmx x).2 (.inr hx)) ((hmy x).2 (.inr hy))⟩) (fun b hb h => by
            rcases g5 with g5 | g5
            · rw [g5] at hb
              rcases List.mem_append.1 h with h | h
              · exact hnx b hb h
              · exact hsep b ((hmx b).2 (.inl hb)) ((hmy b).2 (.inr h))
            · rw [g5] at hb
              cases hb
              rcases List.mem_append.1 h with h | h
              · have := holdx _ h; omega
              · have := holdy _ h; omega) (List.nodup_append.2 ⟨hndx', hndy', fun x hx y hy e => by subst e; exact hsep x ((hmx x).2 (.inr (hssx x hx))) ((hmy x).2 (.inr (hssy x hy)))⟩) (fun b hb => by
                rcases List.mem_append.1 hb with h | h
                · exact List.mem_append_left _ (hssx b h)
                · exact List.mem_append_right _ (hssy b h)) (fun b hb => by
                rcases List.mem_append.1 hb with h | h
                · rw [keepx b h]; exact hexx b h
                · rw [keepy b h]; exact hexy b h)
          refine ⟨v, w', hrun, _, R.fuse (gs := [r, q2]) (bv := bv) hd hfree g4.os g4.tape g4.output g4.size ?_ ?_ ?_ ⟨hbv.symm, ?_⟩ (fun h' => hreg)⟩
          · intro r' hr'
            simp only [List.mem_cons, List.not_mem_nil, or_false] at hr'
            rcases hr' with rfl | rfl
            · exact ⟨_, hg⟩
            · exact ⟨_, hg2⟩
          · intro b hb hno
            exact g4.block b hb fun h => hno r (by simp) _ hg trivial ((hmx b).2 (.inl h.symm))
          · intro b hb
            rcases hblk b hb with h | h
            · rcases g5 with g5 | g5
              · exact .inl ⟨r, by simp, _, hg, trivial, (hmx b).2 (.inl (by rw [← g5]; exact h))⟩
              · rw [g5] at h; cases h; exact .inr (Nat.le_refl _)
            · rcases List.mem_append.1 h with h | h
              · exact .inl ⟨r, by simp, _, hg, trivial, (hmx b).2 (.inr h)⟩
              · exact .inl ⟨q2, by simp, _, hg2, trivial, (hmy b).2 (.inr h)⟩
          · rcases g3.2 with ⟨rfl, _⟩ | ⟨g, cap, cur, rfl, _⟩ <;> rfl
        · cases e
      · rename_i v0
        have h70 := cond_some e
        have h5 := h70.1
        replace e := h70.2
        clear h70
        cases e
        obtain rfl := isNilS_spec h5
        have hin := hr _ rfl
        simp only [req] at hin
        simp only [AVRel, CVRel] at hs
        subst hs
        have hown : w.ownsRow 0 el te.size (.slice none 0 0) 0 [] := ⟨by simp, .inl ⟨rfl, rfl⟩⟩
        obtain ⟨v, w', hrun, g3, g4, g5⟩ := core 0 [] _ hown (by simpa using hin)
        have keepy : ∀ b ∈ Sy, w'.heap[b]? = w.heap[b]? := fun b hb => g4.block b (holdy b hb) fun h => by cases h
        obtain ⟨bv, hbv, hreg, hblk⟩ := owns_deep (h := fun _ => none) (β := β) (S := Sy) (hSy.mono fun b hb => keepy b (hssy b hb)) (by rw [hsz, Nat.zero_add, List.nil_append] at g3; exact g3) hndy (fun b hb h => by
          rcases g5 with g5 | g5
          · rw [g5] at hb; cases hb
          · rw [g5] at hb; cases hb; have := holdy _ h; omega) hndy' hssy (fun b hb => by rw [keepy b hb]; exact hexy b hb)
        refine ⟨v, w', hrun, _, R.fuse (gs := [q2]) (bv := bv) hd hfree g4.os g4.tape g4.output g4.size ?_ (fun b hb _ => g4.block b hb fun h => by cases h) ?_ ⟨hbv.symm, ?_⟩ (fun h' => hreg)⟩
        · intro r' hr'
          simp only [List.mem_cons, List.not_mem_nil, or_false] at hr'
          subst hr'
          exact ⟨_, hg2⟩
        · intro b hb
          rcases hblk b hb with h | h
          · rcases g5 with g5 | g5
            · rw [g5] at h; cases h
            · rw [g5] at h; cases h; exact .inr (Nat.le_refl _)
          · exact .inl ⟨q2, by simp, _, hg2, trivial, (hmy b).2 (.inr h)⟩
        · rcases g3.2 with ⟨rfl, _⟩ | ⟨g, cap, cur, rfl, _⟩ <;> rfl
      · cases e
    · cases e
  · cases e

theorem parts_run {ps : Array (Nat × Operand)} {l : List (Nat × AV)} {vs : List Value} (h : l.map (·.1) = ps.toList.map (·.1)) (h2 : vs = ps.toList.map fun p => a.eval p.2) : (ps.map fun (i, x) => (i, a.eval x)) = ((l.map (·.1)).zip vs).toArray := by
  apply Array.toList_inj.1
  rw [h, h2, Array.toList_map, List.zip_map']

theorem field_run (hT : TabOk P T) {s f t off : Nat} {fs : List (Nat × Nat)} {sz by' : Nat} {z : List CV} {ft : TI} (h1 : T.get s = some ⟨.struct fs, sz, by', z⟩) (h2 : fieldOf fs f = some (t, off)) (h3 : T.get t = some ft) (h4 : 0 < ft.size) (A : Addr) :
    (Instr.fieldAt s (.pointer (some A)) f).run P w = .ok (.pointer (some (A.add off))) w := by
  obtain ⟨l, hu, hl⟩ := tdStruct (hT _ _ h1)
  obtain ⟨fd, hfd, rfl, rfl⟩ := fieldOf_rel hl h2
  obtain ⟨i, hi, hsz, _⟩ := (hT _ _ h3).info
  have hne : ¬ i.size = 0 := by omega
  simp [Instr.fieldAt, run_underlying hu, hfd, Instr.sureAddr, fieldPlace, run_sizeOf hi, hne]

theorem partField_rel (hT : TabOk P T) (R : Rel P w0 fp nt β st a w) {s f r base room : Nat} {o : Option (Nat × Nat)} {u : Value} (hx : AVRel st.heap β w (.c (.ptr r base o room)) u) {rq : Option Req} {δ : Delta} (e : partField T st.heap s f r base o room = some (rq, δ)) :
    δ.hw = [] ∧ ∃ v, (Instr.fieldAt s u f).run P w = .ok v w ∧ AVRel st.heap β w δ.av v := by
  unfold partField at e
  split at e
  · rename_i fs sz by' z h1
    split at e
    · rename_i t off h2
      simp only [AVRel, CVRel] at hx
      obtain ⟨g, hg, hp⟩ := hx
      split at e
      · rename_i ft segs h3 hg'
        rw [hg] at hg'
        cases hg'
        have h70 := cond_some e
        have h4 := h70.1
        replace e := h70.2
        clear h70
        cases e
        simp only [Bool.and_eq_true] at h4
        have h5 := nble.1 h4.1
        have h6 := nblt.1 h4.2
        obtain ⟨_, b, sh, pre, post, TI0, hbv, rfl, hsz⟩ := hp
        refine ⟨rfl, _, field_run hT h1 h2 h3 h6 _, ?_⟩
        simp only [AVRel, CVRel]
        refine ⟨_, hg, rfl, b, sh, pre, post, TI0, hbv, by rw [add_lit, Nat.add_assoc], by omega⟩
      · rename_i b2 z2 e2 eb2 xs2 k h3 hg'
        rw [hg] at hg'
        cases hg'
        have h70 := cond_some e
        have h4 := h70.1
        replace e := h70.2
        clear h70
        cases e
        simp only [Bool.and_eq_true] at h4
        obtain ⟨⟨h4, h5⟩, h6⟩ := h4
        obtain rfl := nbeq.1 h4
        obtain rfl := nbeq.1 h5
        obtain rfl := nbeq.1 h6
        obtain ⟨_, k', b, n, cap, hk, hlt, hroot, rfl⟩ := hp
        cases hk
        refine ⟨rfl, _, field_run hT h1 h2 h3 (show 0 < 1 from Nat.zero_lt_one) _, ?_⟩
        simp only [AVRel, CVRel]
        exact ⟨_, hg, by omega, k, b, n, cap, rfl, hlt, hroot, by rw [add_lit]⟩
      · cases e
    · cases e
  · cases e

theorem partLoad_rel (R : Rel P w0 fp nt β st a w) {t : Nat} {ti : TI} (hT : TIOk P t ti) {r base room : Nat} {o : Option (Nat × Nat)} {u : Value} (hx : AVRel st.heap β w (.c (.ptr r base o room)) u) {δ : Delta} (e : partLoad ti st.heap r base o room = some δ) :
    δ.hw = [] ∧ ∃ v, (Instr.loadAt t u).run P w = .ok v w ∧ AVRel st.heap β w δ.av v := by
  unfold partLoad at e
  have h70 := cond_some e
  have h1 := h70.1
  replace e := h70.2
  clear h70
  simp only [Bool.and_eq_true, Bool.not_eq_true'] at h1
  obtain ⟨⟨h1, h2⟩, h3⟩ := h1
  have h1 := nbeq.1 h1
  simp only [AVRel, CVRel] at hx
  obtain ⟨g, hg, hp⟩ := hx
  split at e
  · rename_i segs hg'
    rw [hg] at hg'
    cases hg'
    split at e
    · rename_i rest hd
      split at e
      · rename_i av hrd
        cases e
        refine ⟨rfl, ?_⟩
        obtain ⟨_, b, sh, pre, post, TI0, hbv, rfl, hsz⟩ := hp
        obtain ⟨b', sh', pre', cs, post', TT, hbv', hps, hh, hs⟩ := R.heap r _ hg
        rw [hbv] at hbv'
        simp only [Value.tuple.injEq, Array.mk.injEq, List.cons.injEq, Value.pointer.injEq, Option.some.injEq, Addr.mk.injEq, and_true, true_and, Value.agg.injEq, Value.int.injEq] at hbv'
        obtain ⟨⟨rfl, rfl⟩, rfl, rfl, rfl⟩ := hbv'
        obtain ⟨h4, h5⟩ := dropSegs_rel hs hd
        obtain ⟨h6, _, h8⟩ := readSegs_rel h5 hrd (fun i lim e => by cases e) hT.agg1
        obtain ⟨v, hv, hav⟩ := h8 h3
        have hlt : base < cs.toList.length := by
          have := (List.getElem?_eq_some_iff.1 hv).1
          simp only [offOf, List.length_drop] at this
          omega
        have hcell : (pre ++ cs ++ post).toList[sh + base]? = some v := by
          rw [Array.toList_append, Array.toList_append, List.append_assoc, List.getElem?_append_right (by simp; omega), show sh + base - pre.toList.length = base by simp; omega, List.getElem?_append_left hlt]
          simpa [offOf] using hv
        have hw := win_block hh
        have H := (run_loadVar (P := P) hT hw (off := sh + base) (by
          have := (List.getElem?_eq_some_iff.1 hcell).1
          omega)).2 h3 v hcell
        rw [add_lit, Nat.zero_add] at H
        exact ⟨v, by simp [Instr.loadAt, Instr.sureAddr, H], hav⟩
      · cases e
    · cases e
  · cases e

theorem run_storeAt {t : Nat} {ti : TI} (hT : TIOk P t ti) {b off : Nat} {old : Array Value} {T' : Nat} {y : Value} (hh : w.heap[b]? = some (.cells old T' (0, 0))) (hlen : off + y.cells.size ≤ old.size) (h1 : ∀ u ∈ y.cells.toList, u.oneCell' = true) (h2 : y.cells.size = ti.size) :
    (Instr.storeAt t (.pointer (some ⟨b, off, none⟩)) y).run P w = .ok () (w.setRow b (old.toList.take off ++ y.cells.toList ++ old.toList.drop (off + y.cells.size)).toArray) := by
  obtain ⟨i, hi, hsz, _⟩ := hT.info
  have := run_storeCells_at (P := P) b off T' y.cells.toList 0 old w hh (by simp; omega) h1
  simp only [Nat.add_zero, Array.length_toList] at this
  simp [Instr.storeAt, Instr.sureAddr, storeVar, run_sizeOf hi, hsz, h2, this]

theorem splice3 {α : Type} {l1 m l3 tl y : List α} {n k : Nat} (hn : l1.length = n) (hm : k ≤ m.length) (hy : y.length = k) : (l1 ++ (m ++ l3) ++ tl).take n ++ y ++ (l1 ++ (m ++ l3) ++ tl).drop (n + k) = l1 ++ ((y ++ m.drop k) ++ l3) ++ tl := by
  subst hn
  have e : l1 ++ (m ++ l3) ++ tl = l1 ++ (m ++ (l3 ++ tl)) := by simp
  rw [e, List.take_left, List.drop_append, List.drop_of_length_le (by omega), List.nil_append, Nat.add_sub_cancel_left, List.drop_append_of_le_length hm]
  simp [List.append_assoc]

/-- a tree of a row is written over, in place -/
theorem deepStore_rel (R : Rel P w0 fp nt β st a w) {t : Nat} {ti : TI} (hT : TIOk P t ti) {r k e eb : Nat} {xs : List Tree} {u y : Value} {x' : Tree} (hg : st.heap r = some (.deep e eb xs)) (hlt : k < xs.length) {b n cap : Nat} (hroot : rootOf (β r) = .slice (some ⟨b, 0, none⟩) n cap) (hu : u = .pointer (some ⟨b, 3 * k + 0, none⟩))
    (hsz : y.cells.size = ti.size) (hle : y.cells.size ≤ 3) (h1 : ∀ v ∈ y.cells.toList, v.oneCell' = true)
    (hx : ∀ (S : List Nat) (c0 c1 c2 : Value), DeepAt w e eb S [xs[k]] [c0, c1, c2] → ∃ S2, (∀ b ∈ S2, b ∈ S) ∧ (S.Nodup → S2.Nodup) ∧ DeepAt w e eb S2 [x'] (y.cells.toList ++ [c0, c1, c2].drop y.cells.size)) {dst : Option Nat} (hd : dstOk nt dst = true) {hr : List Nat} :
    ∃ w', (Instr.storeAt t u y).run P w = .ok () w' ∧ Rel P w0 fp nt β (st.app dst ⟨.c (.val undef), [(r, .deep e eb (xs.set k x'))], hr⟩) (a.put dst undef) w' := by
  subst hu
  rcases R.heap r _ hg with ⟨hb, _⟩ | ⟨b', cap', l, tail, S, S', hbv, hh, hs, hl, hc, hm, hnd, hnd', hss, hex⟩
  · rw [hb] at hroot; cases hroot
  · rw [hbv] at hroot
    simp only [rootOf, List.headD_cons, Value.slice.injEq, Option.some.injEq, Addr.mk.injEq, and_true, true_and] at hroot
    obtain ⟨rfl, _, _⟩ := hroot
    obtain ⟨S1, S2, S3, l1, c0, c1, c2, l3, rfl, rfl, hl1, h4, h5, h6⟩ := hs.split hlt
    obtain ⟨S2', g1, g2, g3⟩ := hx _ _ _ _ h5
    have hrun := run_storeAt (P := P) hT (off := 3 * k + 0) (y := y) hh (by simp; omega) h1 hsz
    have hcells : ((l1 ++ ([c0, c1, c2] ++ l3) ++ tail).toArray.toList.take (3 * k + 0) ++ y.cells.toList ++ (l1 ++ ([c0, c1, c2] ++ l3) ++ tail).toArray.toList.drop (3 * k + 0 + y.cells.size)) = l1 ++ ((y.cells.toList ++ [c0, c1, c2].drop y.cells.size) ++ l3) ++ tail :=
      splice3 (by omega) (by simpa using hle) (by simp)
    refine ⟨_, hrun, ?_⟩
    rw [hcells]
    refine R.write (g' := .deep e eb (xs.set k x')) hg trivial (by rw [hbv]; exact Blk_tuple.2 (.inl rfl)) ⟨rfl, rfl, by simp⟩ hd ?_
    intro h' M
    have hS : ∀ x ∈ S, (w.setRow b' (l1 ++ ((y.cells.toList ++ [c0, c1, c2].drop y.cells.size) ++ l3) ++ tail).toArray).heap[x]? = w.heap[x]? := fun x hx => setRow_other w b' x _ (fun e => (List.nodup_cons.1 hnd).1 (e ▸ hx))
    have hj := h4.join hlt g3 h6
    have hsub : ∀ x ∈ S1 ++ (S2' ++ S3), x ∈ S1 ++ (S2 ++ S3) := by
      intro x hx
      simp only [List.mem_append] at hx ⊢
      exact hx.imp id (Or.imp (g1 x) id)
    refine .inr ⟨b', cap', _, tail, S, S1 ++ (S2' ++ S3), by rw [hbv]; simp, setRow_block hh, hj.mono (fun x hx => hS x (hss x (hsub x hx))), ?_, by simpa using hc, hm, hnd, ?_, fun x hx => hss x (hsub x hx), fun x hx => by rw [hS x hx]; exact hex x hx⟩
    · simp only [List.length_append, List.length_drop, List.length_cons, List.length_nil, Array.length_toList] at hl ⊢
      omega
    · rw [List.nodup_append] at hnd' ⊢
      obtain ⟨n1, n2, n3⟩ := hnd'
      rw [List.nodup_append] at n2 ⊢
      obtain ⟨n4, n5, n6⟩ := n2
      exact ⟨n1, ⟨g2 n4, n5, fun x hx y hy => n6 x (g1 x hx) y hy⟩, fun x hx y hy => n3 x hx y (by
        simp only [List.mem_append] at hy ⊢
        exact hy.imp (g1 y) id)⟩

theorem partStore_rel (R : Rel P w0 fp nt β st a w) {t : Nat} {ti : TI} (hT : TIOk P t ti) {r base room : Nat} {o : Option (Nat × Nat)} {u y : Value} {v : AV} (hx : AVRel st.heap β w (.c (.ptr r base o room)) u) (hy : AVRel st.heap β w v y) {δ : Delta} (e : partStore ti st.heap v r base o room = some δ)
    {dst : Option Nat} (hd : dstOk nt dst = true) : ∃ w', (Instr.storeAt t u y).run P w = .ok () w' ∧ Rel P w0 fp nt β (st.app dst δ) (a.put dst undef) w' := by
  unfold partStore at e
  simp only [AVRel, CVRel] at hx
  obtain ⟨g, hg, hp⟩ := hx
  split at e
  · rename_i segs hg'
    rw [hg] at hg'
    cases hg'
    have h70 := cond_some e
    have h1 := h70.1
    replace e := h70.2
    clear h70
    simp only [Bool.and_eq_true] at h1
    obtain ⟨⟨h1, h2⟩, h3⟩ := h1
    have h1 := nbeq.1 h1
    have h3 := nbeq.1 h3
    split at e
    · rename_i p rest hsp
      split at e
      · rename_i rest' hwr
        cases e
        obtain ⟨_, b, sh, pre, post, TI0, hbv, rfl, hsz⟩ := hp
        obtain ⟨b', sh', pre', cs, post', TT, hbv', hps, hh, hs⟩ := R.heap r _ hg
        rw [hbv] at hbv'
        simp only [Value.tuple.injEq, Array.mk.injEq, List.cons.injEq, Value.pointer.injEq, Option.some.injEq, Addr.mk.injEq, and_true, true_and, Value.agg.injEq, Value.int.injEq] at hbv'
        obtain ⟨⟨rfl, rfl⟩, rfl, rfl, rfl⟩ := hbv'
        obtain ⟨l1, l2, hl, hl1, hp1, hp2⟩ := splitSegs_rel hs hsp
        have hys : y.cells.size = 1 := by
          cases v with
          | tup xs => simp only [writeSegs] at hwr; cases hwr
          | pan t' n' => simp only [writeSegs] at hwr; cases hwr
          | agg xs =>
            obtain ⟨l, rfl, hs'⟩ := hy
            have := hs'.length
            simp only [valSize] at h3
            simp [Value.cells]
            omega
          | c z =>
            have hone := CVRel.oneCell hy
            have key : y.oneCell' = true → y.cells.size = 1 := fun h1 => by cases y <;> simp_all [Value.cells, Value.oneCell']
            rcases hone with ⟨u, rfl⟩ | h1
            · have : y = u := hy
              subst this
              cases h1 : y.oneCell' with
              | true => exact key h1
              | false =>
                exfalso
                simp only [writeSegs] at hwr
                cases rest with
                | nil => cases hwr
                | cons c' cs' => cases c' <;> simp only [cellAV, h1, cond_false] at hwr <;> cases hwr
            · exact key h1
        obtain ⟨h4, h5, h6⟩ := writeSegs_rel hp2 hy hwr (fun i lim e => by cases e)
        simp only [offOf, Nat.zero_add, List.take_zero, List.nil_append] at h4 h6
        have hone1 : ∀ u ∈ y.cells.toList, u.oneCell' = true := fun u hu => h6.one u (by simp [hu])
        have hcsl : cs.size = base + l2.length := by rw [← Array.length_toList, hl]; simp [hl1]
        have hrun := run_storeAt (P := P) hT (off := sh + base) (y := y) hh (by simp; omega) hone1 (by omega)
        refine ⟨_, hrun, ?_⟩
        refine R.write (g' := .part (p ++ rest')) hg trivial (by rw [hbv]; simp) ?_ hd ?_
        · simp only [Shape]
          rw [segSize_append, h5, ← hp1.length, ← hp2.length, ← hs.length, hl]
          simp
        · intro h' M
          refine ⟨b, sh, pre, (l1 ++ (y.cells.toList ++ l2.drop y.cells.size)).toArray, post, TT, hbv, hps, ?_, (hp1.append h6).mono M⟩
          rw [setRow_block hh]
          congr 2
          apply Array.toList_inj.1
          have e1 : (pre ++ cs ++ post).toList = (pre.toList ++ l1) ++ (l2 ++ post.toList) := by
            simp [hl, List.append_assoc]
          have e2 : (pre.toList ++ l1).length = sh + base := by simp [hl1, hps]
          rw [e1, List.take_append_of_le_length (by omega), List.take_of_length_le (by omega), List.drop_append, List.drop_of_length_le (by omega), List.nil_append, e2, Nat.add_sub_cancel_left, List.drop_append_of_le_length (by omega)]
          simp [List.append_assoc]
      · cases e
    · cases e
  · rename_i e0 eb xs k hg'
    rw [hg] at hg'
    cases hg'
    have h70 := cond_some e
    have h1 := h70.1
    replace e := h70.2
    clear h70
    obtain rfl := nbeq.1 h1
    obtain ⟨_, k', b, n, cap, hk, hlt, hroot, rfl⟩ := hp
    cases hk
    split at e
    · rename_i m
      have h70 := cond_some e
      have h1 := h70.1
      replace e := h70.2
      clear h70
      simp only [Bool.and_eq_true] at h1
      have h2 := nbeq.1 h1.1
      cases e
      simp only [AVRel, CVRel] at hy
      subst hy
      refine deepStore_rel R hT hg hlt hroot rfl (by rw [h2]; rfl) (by simp [Value.cells]) (by simp [Value.cells, Value.oneCell']) (fun S c0 c1 c2 H => ⟨S, fun _ h => h, id, ?_⟩) hd
      have e1 : xs.getD k dTree = xs[k] := by rw [List.getD_eq_getElem?_getD, List.getElem?_eq_getElem hlt]; rfl
      rw [e1]
      exact H.retag m
    · rename_i m
      have h70 := cond_some e
      have h1 := h70.1
      replace e := h70.2
      clear h70
      simp only [Bool.and_eq_true] at h1
      have h2 := nbeq.1 h1.1
      cases e
      simp only [AVRel] at hy
      obtain ⟨ly, rfl, hs⟩ := hy
      simp only [SegsRel, CVRel] at hs
      obtain ⟨u0, r0, rfl, _, rfl, u1, r1, rfl, _, rfl, u2, r2, rfl, _, rfl, rfl⟩ := hs
      refine deepStore_rel R hT hg hlt hroot rfl (by rw [h2]; rfl) (by simp [Value.cells]) (by simp [Value.cells, Value.oneCell']) (fun S c0 c1 c2 H => ⟨[], by simp, by simp, ?_⟩) hd
      exact DeepAt.leaf0 m
    · cases e
  · cases e

theorem aop4_sound (hT : TabOk P T) (R : Rel P w0 fp nt β st a w) (hd : dstOk nt o.dst = true) {rq : Option Req} {δ : Delta} (e : aop4 T o st = some (rq, δ)) (hr : ∀ r, rq = some r → r.p) :
    o.wp P a w (Post P w0 fp nt (st.app o.dst δ)) Q := by
  have fin : ∀ (v : Value), (execOp a.eval o).run P w = .ok (.value v) w → δ.hw = [] → AVRel st.heap β w δ.av v → o.wp P a w (Post P w0 fp nt (st.app o.dst δ)) Q := by
    intro v h1 h2 h3
    obtain ⟨av, hw, hr'⟩ := δ
    simp only at h2
    subst h2
    exact fin_pure R hd h1 h3
  have fin' : ∀ (v : Value) (w' : World), (execOp a.eval o).run P w = .ok (.value v) w' → (∃ β', Rel P w0 fp nt β' (st.app o.dst δ) (a.put o.dst v) w') → o.wp P a w (Post P w0 fp nt (st.app o.dst δ)) Q := fun v w' h1 h2 => wp_val h1 h2
  cases hop : o.op
  case buildSlice t n ps =>
    simp only [aop4, hop] at e
    split at e
    · rename_i l hl
      obtain ⟨h1, h2⟩ := partsAV_rel R hl
      obtain ⟨v, w', h3, h4⟩ := deepBuild_rel hT R hd h2 e
      rw [← parts_run (a := a) h1 rfl] at h3
      exact fin' v w' (by simp [execOp, hop, Sem.run_bind, h3]) h4
    · cases e
  case indexAddr t x i =>
    simp only [aop4, hop] at e
    split at e
    · rename_i el _ _ _ q k n h1 h2 h3
      split at e
      · rename_i te e' eb xs h4 hg
        have h70 := cond_some e
        have h5 := nbeq.1 h70.1
        replace e := h70.2
        clear h70
        cases e
        have hin := hr _ rfl
        simp only [req] at hin
        have hx := opd_rel R h2
        simp only [AVRel, CVRel] at hx
        obtain ⟨g, hg', hp⟩ := hx
        rw [hg] at hg'
        cases hg'
        simp only [FullOk] at hp
        have hi := opd_rel R h3
        simp only [AVRel, CVRel] at hi
        rcases R.heap q _ hg with ⟨hb, rfl⟩ | ⟨b, cap, l, tail, S, S', hbv, hh, hs, _⟩
        · simp at hin; omega
        · have hxv : a.eval x = .slice (some ⟨b, 0, none⟩) xs.length cap := by rw [hp.1, hbv]; rfl
          have hu := tdSlice (hT _ _ h1)
          obtain ⟨ii, hii, hsz, _⟩ := (hT _ _ h4).info
          refine fin (.pointer (some (Addr.add ⟨b, 0, none⟩ (n.toNat * te.size)))) ?_ rfl ?_
          · simp [execOp, hop, hxv, hi, Sem.run_bind, Instr.indexAt, asIntOf_int, run_underlying hu, hin, run_sizeOf hii, hsz]
          · simp only [AVRel, CVRel]
            refine ⟨_, hg, by omega, n.toNat, b, xs.length, cap, rfl, by omega, by rw [hbv]; rfl, ?_⟩
            rw [add_lit, h5]
            congr 3
            omega
      · cases e
    · cases e
  case nilCheck x =>
    simp only [aop4, hop] at e
    split at e
    · rename_i r b m h1
      split at e
      · rename_i segs hg
        cases e
        have hx := opd_rel R h1
        have hx2 := hx
        simp only [AVRel, CVRel] at hx2
        obtain ⟨g, hg', hp⟩ := hx2
        rw [hg] at hg'
        cases hg'
        obtain ⟨_, b', sh, pre, post, TI0, hbv, hv, hsz⟩ := hp
        refine fin (a.eval x) ?_ rfl hx
        simp [execOp, hop, hv]
      · cases e
    · cases e
  case fieldAddr s x f =>
    simp only [aop4, hop] at e
    split at e
    · rename_i r b oo m h1
      obtain ⟨h2, v, h3, h4⟩ := partField_rel hT R (opd_rel R h1) e
      exact fin v (by simp [execOp, hop, Sem.run_bind, h3]) h2 h4
    · cases e
  case load t x =>
    simp only [aop4, hop] at e
    split at e
    · rename_i ti r b oo m h1 h2
      split at e
      · rename_i δ' h3
        cases e
        obtain ⟨h4, v, h5, h6⟩ := partLoad_rel R (hT _ _ h1) (opd_rel R h2) h3
        exact fin v (by simp [execOp, hop, Sem.run_bind, h5]) h4 h6
      · cases e
    · cases e
  case store t x v =>
    simp only [aop4, hop] at e
    split at e
    · rename_i ti r b oo m av h1 h2 h3
      split at e
      · rename_i δ' h4
        cases e
        obtain ⟨w', h5, h6⟩ := partStore_rel R (hT _ _ h1) (opd_rel R h2) (opd_rel R h3) h4 hd
        refine wp_skip' (w' := w') ?_ ⟨β, h6⟩
        simp [execOp, hop, Sem.run_bind, h5]
      · cases e
    · cases e
  case call c =>
    obtain ⟨callee, args, tys⟩ := c
    cases callee with
    | value => simp only [aop4, hop] at e; cases e
    | invoke => simp only [aop4, hop] at e; cases e
    | builtin b =>
      simp only [aop4, hop] at e
      split at e
      · rename_i t t' s q h1 h2
        have h70 := cond_some e
        have h3 := h70.1
        replace e := h70.2
        clear h70
        obtain rfl := nbeq.1 h3
        have hx := opds_rel R h2
        simp only [AVsRel] at hx
        obtain ⟨u, r1, h4, hu, y, r2, rfl, hy, rfl⟩ := hx
        have ha : args.map a.eval = #[u, y] := by
          apply Array.toList_inj.1
          simpa using h4
        have ht : tys = #[t, t] := by
          apply Array.toList_inj.1
          simpa using h1
        obtain ⟨v, w', h5, h6⟩ := deepAppend_rel hT R hd (ty := o.type) hu hy e hr
        refine fin' v w' ?_ h6
        simp [execOp, hop, resolve, invoke, builtin, Sem.run_bind, ha, ht, h5]
      · rename_i t q h1 h2
        split at e
        · rename_i el _ _ _ e0 eb xs h3 hg
          cases e
          have hx := opds_rel R h2
          simp only [AVsRel] at hx
          obtain ⟨u, r1, h4, hu, rfl⟩ := hx
          have ha : args.map a.eval = #[u] := by
            apply Array.toList_inj.1
            simpa using h4
          have ht : tys = #[t] := by
            apply Array.toList_inj.1
            simpa using h1
          simp only [AVRel, CVRel] at hu
          obtain ⟨g, hg', hp⟩ := hu
          rw [hg] at hg'
          cases hg'
          simp only [FullOk] at hp
          obtain ⟨A, cap, hs⟩ : ∃ A cap, u = .slice A xs.length cap := by
            rcases R.heap q _ hg with ⟨hb, rfl⟩ | ⟨b, cap, l, tail, S, S', hbv, _⟩
            · exact ⟨none, 0, by rw [hp.1, hb]; rfl⟩
            · exact ⟨_, cap, by rw [hp.1, hbv]; rfl⟩
          subst hs
          have hut := tdSlice (hT _ _ h3)
          refine fin (.int .i64 (xs.length : Nat)) ?_ rfl (by simp only [AVRel, CVRel])
          simp [execOp, hop, resolve, invoke, builtin, Sem.run_bind, ha, ht, Builtin.len_, run_underlying hut, goInt]
        · cases e
      · cases e
  all_goals (simp only [aop4, hop] at e; cases e)

theorem deepBuild_dep {h h' : Heap} {dst : Option Nat} {t n : Nat} {l : List (Nat × AV)} {rq : Option Req} {δ : Delta} (e : deepBuild T h dst t n l = some (rq, δ)) (H : Same h h' δ.hr) : deepBuild T h' dst t n l = some (rq, δ) ∧ WIn δ := by
  unfold deepBuild at e ⊢
  split at e
  · rename_i i x q1 q2
    split at e
    · rename_i q el _ _ _ h1
      split at e
      · rename_i te eb body e' eb' kids h2 hfree hg1 hg2
        have h70 := cond_some e
        have h3 := h70.1
        replace e := h70.2
        clear h70
        cases e
        refine ⟨?_, fun r hr => by simp at hr ⊢; omega⟩
        rw [H q (by simp), H q1 (by simp), H q2 (by simp)]
        simp only [h2, hfree, hg1, hg2, h3, cond_true]
      · cases e
    · cases e
  · split at e
    · rename_i q el _ _ _ h1
      split at e
      · rename_i f1 tb f2 f3 f4 f5 sz by' z xs h2 hfree hci
        split at e
        · rename_i eb _ _ _ h3
          have h70 := cond_some e
          have h4 := h70.1
          replace e := h70.2
          clear h70
          cases e
          refine ⟨?_, fun r hr => by simpa using hr⟩
          rw [H q (by simp)]
          simp only [h2, hfree, hci, h3, h4, cond_true]
        · cases e
      · cases e
    · cases e

theorem deepAppend_dep {h h' : Heap} {dst : Option Nat} {t q2 : Nat} {s : AV} {rq : Option Req} {δ : Delta} (e : deepAppend T h dst t s q2 = some (rq, δ)) (H : Same h h' δ.hr) : deepAppend T h' dst t s q2 = some (rq, δ) ∧ WIn δ := by
  unfold deepAppend at e ⊢
  split at e
  · rename_i q el sz by' z h1
    split at e
    · rename_i te e' eb ys h2 hfree hg2
      have h70 := cond_some e
      have h3 := h70.1
      replace e := h70.2
      clear h70
      split at e
      · rename_i r
        split at e
        · rename_i e2 eb2 xs hg
          have h70 := cond_some e
          have h4 := h70.1
          replace e := h70.2
          clear h70
          cases e
          refine ⟨?_, fun r hr => by simp at hr ⊢; omega⟩
          rw [H q (by simp), H q2 (by simp), H r (by simp)]
          simp only [h2, hfree, hg, hg2, h3, h4, cond_true]
        · cases e
      · have h70 := cond_some e
        have h4 := h70.1
        replace e := h70.2
        clear h70
        cases e
        refine ⟨?_, fun r hr => by simp at hr ⊢; omega⟩
        rw [H q (by simp), H q2 (by simp)]
        simp only [h2, hfree, hg2, h3, h4, cond_true]
      · cases e
    · cases e
  · cases e

theorem partField_dep {h h' : Heap} {s f r base room : Nat} {o : Option (Nat × Nat)} {rq : Option Req} {δ : Delta} (e : partField T h s f r base o room = some (rq, δ)) (H : h' r = h r) : partField T h' s f r base o room = some (rq, δ) ∧ WIn δ := by
  have nil : δ.hw = [] → WIn δ := fun h r hr => by simp [h] at hr
  unfold partField at e ⊢
  rw [H]
  refine ⟨e, nil ?_⟩
  split at e
  · split at e
    · split at e
      · obtain ⟨_, h2⟩ := cond_some e; cases h2; rfl
      · obtain ⟨_, h2⟩ := cond_some e; cases h2; rfl
      · cases e
    · cases e
  · cases e

theorem partLoad_dep {h h' : Heap} {ti : TI} {r base room : Nat} {o : Option (Nat × Nat)} {δ : Delta} (e : partLoad ti h r base o room = some δ) (H : h' r = h r) : partLoad ti h' r base o room = some δ ∧ WIn δ := by
  have nil : δ.hw = [] → WIn δ := fun h r hr => by simp [h] at hr
  unfold partLoad at e ⊢
  rw [H]
  refine ⟨e, nil ?_⟩
  have h70 := cond_some e
  replace e := h70.2
  clear h70
  split at e
  · split at e
    · split at e
      · cases e; rfl
      · cases e
    · cases e
  · cases e

theorem partStore_dep {h h' : Heap} {ti : TI} {v : AV} {r base room : Nat} {o : Option (Nat × Nat)} {δ : Delta} (e : partStore ti h v r base o room = some δ) (H : h' r = h r) : partStore ti h' v r base o room = some δ ∧ WIn δ := by
  unfold partStore at e ⊢
  rw [H]
  refine ⟨e, ?_⟩
  split at e
  · have h70 := cond_some e
    replace e := h70.2
    clear h70
    split at e
    · split at e
      · cases e; intro r hr; simpa using hr
      · cases e
    · cases e
  · have h70 := cond_some e
    replace e := h70.2
    clear h70
    split at e
    · obtain ⟨_, h2⟩ := cond_some e; cases h2; intro r hr; simpa using hr
    · obtain ⟨_, h2⟩ := cond_some e; cases h2; intro r hr; simpa using hr
    · cases e
  · cases e

theorem aop4_dep {st st2 : St} {rq : Option Req} {δ : Delta} (e : aop4 T o st = some (rq, δ)) (hO : ∀ x ∈ o.op.operands, opd st2 x = opd st x) (H : Same st.heap st2.heap δ.hr)
    (hc : ∀ q, deepCand T o st = some (some q) → st2.heap q = st.heap q) : aop4 T o st2 = some (rq, δ) ∧ WIn δ := by
  have nil : δ.hw = [] → WIn δ := fun h r hr => by simp [h] at hr
  cases hop : o.op <;> rw [hop] at hO <;> simp only [Op.operands] at hO
  case buildSlice t n ps =>
    simp only [aop4, hop] at e ⊢
    rw [partsAV_congr (by simpa using hO)]
    split at e
    · exact deepBuild_dep e H
    · cases e
  case indexAddr t x i =>
    simp only [aop4, hop] at e ⊢
    rw [hO x (by simp), hO i (by simp)]
    split at e
    · rename_i el _ _ _ q k n h1 h2 h3
      split at e
      · rename_i te e' eb xs h4 hg
        have h70 := cond_some e
        have h5 := h70.1
        replace e := h70.2
        clear h70
        cases e
        refine ⟨?_, nil rfl⟩
        rw [H q (by simp)]
        simp only [h4, hg, h5, cond_true]
      · cases e
    · cases e
  case nilCheck x =>
    simp only [aop4, hop] at e ⊢
    rw [hO x (by simp)]
    split at e
    · rename_i r b m h1
      split at e
      · rename_i segs hg
        cases e
        refine ⟨?_, nil rfl⟩
        rw [H r (by simp), hg]
      · cases e
    · cases e
  case fieldAddr s x f =>
    simp only [aop4, hop] at e ⊢
    rw [hO x (by simp)]
    split at e
    · rename_i r b oo m h1
      exact partField_dep e (hc r (by simp only [deepCand, hop, h1]))
    · cases e
  case load t x =>
    simp only [aop4, hop] at e ⊢
    rw [hO x (by simp)]
    split at e
    · rename_i ti r b oo m h1 h2
      split at e
      · rename_i δ' h3
        cases e
        obtain ⟨h4, h5⟩ := partLoad_dep h3 (hc r (by simp only [deepCand, hop, h2]))
        exact ⟨by rw [h4], h5⟩
      · cases e
    · cases e
  case store t x v =>
    simp only [aop4, hop] at e ⊢
    rw [hO x (by simp), hO v (by simp)]
    split at e
    · rename_i ti r b oo m av h1 h2 h3
      split at e
      · rename_i δ' h4
        cases e
        obtain ⟨h5, h6⟩ := partStore_dep h4 (hc r (by simp only [deepCand, hop, h2]))
        exact ⟨by rw [h5], h6⟩
      · cases e
    · cases e
  case call c =>
    obtain ⟨callee, args, tys⟩ := c
    cases callee with
    | value => simp only [aop4, hop] at e; cases e
    | invoke => simp only [aop4, hop] at e; cases e
    | builtin b =>
      have ho : opds st2 args.toList = opds st args.toList := opds_congr fun x hx => hO x (by simp only [Call.operands]; simpa using hx)
      simp only [aop4, hop] at e ⊢
      rw [ho]
      split at e
      · have h70 := cond_some e
        have h3 := h70.1
        replace e := h70.2
        clear h70
        simp only [h3, cond_true]
        exact deepAppend_dep e H
      · rename_i t q h1 h2
        split at e
        · rename_i h3 hg
          cases e
          refine ⟨?_, nil rfl⟩
          rw [H q (by simp), hg]
          simp only [h3]
        · cases e
      · cases e
  all_goals (simp only [aop4, hop] at e; cases e)

theorem addHr_spec {q : Nat} {r : Res} {rq : Option Req} {δ : Delta} (e : addHr q r = some (rq, δ)) : ∃ δ0, r = some (rq, δ0) ∧ δ = ⟨δ0.av, δ0.hw, q :: δ0.hr⟩ := by
  cases r with
  | none => cases e
  | some p => obtain ⟨rq0, δ0⟩ := p; cases e; exact ⟨δ0, rfl, rfl⟩

theorem aopA_sound (hT : TabOk P T) (hdep : 4 ≤ P.depth) (R : Rel P w0 fp nt β st a w) (hd : dstOk nt o.dst = true) {rq : Option Req} {δ : Delta} (e : aopA T o st = some (rq, δ)) (hr : ∀ r, rq = some r → r.p) :
    o.wp P a w (Post P w0 fp nt (st.app o.dst δ)) Q := by
  unfold aopA at e
  split at e
  · rename_i q _
    cases hb : isDeepB (st.heap q) <;> rw [hb] at e
    · obtain ⟨δ0, h1, rfl⟩ := addHr_spec e
      have := aopB_sound (Q := Q) hT hdep R hd h1 hr
      exact this
    · obtain ⟨δ0, h1, rfl⟩ := addHr_spec e
      have := aop4_sound (Q := Q) hT R hd h1 hr
      exact this
  · exact aop4_sound hT R hd e hr
  · exact aopB_sound hT hdep R hd e hr

theorem deepCand_dep {st st2 : St} (hO : ∀ x ∈ o.op.operands, opd st2 x = opd st x) : deepCand T o st2 = deepCand T o st := by
  cases hop : o.op <;> rw [hop] at hO <;> simp only [Op.operands] at hO
  case buildSlice t n ps =>
    simp only [deepCand, hop]
    rw [partsAV_congr (by simpa using hO)]
  case call c =>
    obtain ⟨callee, args, tys⟩ := c
    cases callee with
    | value => simp only [deepCand, hop]
    | invoke => simp only [deepCand, hop]
    | builtin b =>
      have ho : opds st2 args.toList = opds st args.toList := opds_congr fun x hx => hO x (by simp only [Call.operands]; simpa using hx)
      cases b <;> simp only [deepCand, hop]
      · rw [ho]
      · rw [ho]
  case indexAddr t x i => simp only [deepCand, hop]; rw [hO x (by simp)]
  case nilCheck x => simp only [deepCand, hop]; rw [hO x (by simp)]
  case fieldAddr s x f => simp only [deepCand, hop]; rw [hO x (by simp)]
  case load t x => simp only [deepCand, hop]; rw [hO x (by simp)]
  case store t x v => simp only [deepCand, hop]; rw [hO x (by simp)]
  all_goals simp only [deepCand, hop]

theorem aopA_dep {st st2 : St} {rq : Option Req} {δ : Delta} (e : aopA T o st = some (rq, δ)) (hO : ∀ x ∈ o.op.operands, opd st2 x = opd st x) (H : Same st.heap st2.heap δ.hr) : aopA T o st2 = some (rq, δ) ∧ WIn δ := by
  unfold aopA at e ⊢
  rw [deepCand_dep hO]
  have win : ∀ {q : Nat} {δ0 : Delta}, WIn δ0 → WIn ⟨δ0.av, δ0.hw, q :: δ0.hr⟩ := fun h r hr => List.mem_cons_of_mem _ (h r hr)
  split at e
  · rename_i q hq
    cases hb : isDeepB (st.heap q) <;> rw [hb] at e <;> obtain ⟨δ0, h1, rfl⟩ := addHr_spec e
    · have hqq := H q (by simp)
      obtain ⟨h2, h3⟩ := aopB_dep h1 hO fun r hr => H r (by simp [hr])
      refine ⟨?_, win h3⟩
      rw [hqq, hb, h2]
      rfl
    · have hqq := H q (by simp)
      obtain ⟨h2, h3⟩ := aop4_dep h1 hO (fun r hr => H r (by simp [hr])) (fun q' hq' => by rw [hq] at hq'; cases hq'; exact hqq)
      refine ⟨?_, win h3⟩
      rw [hqq, hb, h2]
      rfl
  · rename_i hq
    exact aop4_dep e hO H (fun q' hq' => by rw [hq] at hq'; cases hq')
  · exact aopB_dep e hO H
end
end Go.Abs
