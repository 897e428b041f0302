/- Stores, new blocks, rows. -/
import Derived.Test.YthihjipdkhmgkaaAbsOpsL
namespace Go.Abs
universe u
open Go.RowKit

section
variable {P : Program} {w0 : World} {fp : FP} {nt : Nat} {β : Nat → Value} {st : St} {a : Act} {w : World} {T : Tab} {o : Oper} {Q : Exit → Act → World → Prop}

theorem set_eq_splice {α : Type} (l : List α) (i : Nat) (x : α) (h : i < l.length) : l.take i ++ [x] ++ l.drop (i + 1) = l.set i x := by
  rw [List.set_eq_take_append_cons_drop, if_pos h]; simp

theorem upd_same {α : Type u} (f : Nat → α) (k : Nat) (v : α) : upd f k v k = v := by rw [upd_at, if_pos rfl]
theorem upd_ne {α : Type u} (f : Nat → α) {k n : Nat} (v : α) (h : n ≠ k) : upd f k v n = f n := by rw [upd_at, if_neg h]

/-- A region's block is written: same shape. -/
theorem Rel.write (R : Rel P w0 fp nt β st a w) {r b : Nat} {g g' : Reg} (hg : st.heap r = some g) (hl : g.live) (hbv : blkOf (β r) = some b) (hs : Shape g g') {cs : Array Value} {dst : Option Nat} (hd : dstOk nt dst = true)
    (hreg : ∀ h', Mono st.heap β w h' β (w.setRow b cs) → RegRel h' β (w.setRow b cs) (β r) g') :
    Rel P w0 fp nt β { env := putEnv st.env dst (.c (.val undef)), heap := upd st.heap r (some g') } (a.put dst undef) (w.setRow b cs) := by
  have hob : OwnR st.heap β b := ⟨r, g, hg, hl, hbv⟩
  have hOwn : ∀ b', OwnR (upd st.heap r (some g')) β b' → OwnR st.heap β b' := by
    rintro b' ⟨r', g1, h1, h2, h3⟩
    by_cases e : r' = r
    · subst e; exact ⟨r', g, hg, hl, h3⟩
    · rw [upd_ne _ _ e] at h1; exact ⟨r', g1, h1, h2, h3⟩
  refine R.update (w' := w.setRow b cs) hd rfl rfl rfl (by simp) (fun _ _ => rfl) (fun b' _ hn => setRow_other w b b' cs (fun e => hn (e ▸ hob))) (fun b' h => .inl (hOwn b' h)) ?_ ?_ ?_ ?_ (fun _ => by simp only [AVRel, CVRel])
  · intro r' g1 h1
    by_cases e : r' = r
    · subst e
      rw [hg] at h1
      cases h1
      exact ⟨g', upd_same _ _ _, hs, fun _ => rfl⟩
    · exact ⟨g1, by rw [upd_ne _ _ e]; exact h1, .refl g1, fun _ => rfl⟩
  · intro q g1 _ h1
    by_cases e : q = r
    · subst e; exact ⟨g, hg⟩
    · rw [upd_ne _ _ e] at h1; exact ⟨g1, h1⟩
  · intro M r' g1 h1
    by_cases e : r' = r
    · subst e
      rw [upd_same] at h1
      cases h1
      exact hreg _ M
    · rw [upd_ne _ _ e] at h1
      refine (R.heap r' g1 h1).mono M fun b' hb' hl1 => setRow_other w b b' cs (fun e' => ?_)
      subst e'
      exact e (R.sep r' r g1 g b' h1 hg hl1 hl hb' hbv)
  · intro r1 r2 g1 g2 b' h1 h2 l1 l2 e1 e2
    have back : ∀ r' g1, upd st.heap r (some g') r' = some g1 → g1.live → ∃ g2, st.heap r' = some g2 ∧ g2.live := by
      intro r' g1 h1 l1
      by_cases e : r' = r
      · subst e; exact ⟨g, hg, hl⟩
      · rw [upd_ne _ _ e] at h1; exact ⟨g1, h1, l1⟩
    obtain ⟨g1', h1', l1'⟩ := back r1 g1 h1 l1
    obtain ⟨g2', h2', l2'⟩ := back r2 g2 h2 l2
    exact R.sep r1 r2 g1' g2' b' h1' h2' l1' l2' e1 e2

/-- A new region in a new block. -/
theorem Rel.new (R : Rel P w0 fp nt β st a w) {d : Nat} (hd : dstOk nt (some d) = true) (hfree : st.heap d = none) {g : Reg} {obj : Obj} {bv : Value} {av : AV} {v : Value}
    (hbv : ∀ b, blkOf bv = some b → b = w.heap.size)
    (hreg : ∀ h', Mono st.heap β w h' (upd β d bv) (w.alloc obj) → RegRel h' (upd β d bv) (w.alloc obj) bv g)
    (hval : AVRel (upd st.heap d (some g)) (upd β d bv) (w.alloc obj) av v) :
    Rel P w0 fp nt (upd β d bv) { env := putEnv st.env (some d) av, heap := upd st.heap d (some g) } (a.put (some d) v) (w.alloc obj) := by
  have hne : ∀ r g1, st.heap r = some g1 → r ≠ d := fun r g1 h e => by subst e; rw [hfree] at h; cases h
  refine R.update (w' := w.alloc obj) hd rfl rfl rfl (by simp) (dst_hid R hd _) (fun b hb _ => Below.heap_alloc w obj b hb) ?_ ?_ (dst_io R hd) ?_ ?_ (fun _ => hval)
  · rintro b ⟨r, g1, h1, h2, h3⟩
    by_cases e : r = d
    · subst e
      rw [upd_same] at h3
      exact .inr (by rw [hbv b h3]; exact Nat.le_refl _)
    · rw [upd_ne _ _ e] at h1 h3
      exact .inl ⟨r, g1, h1, h2, h3⟩
  · intro r g1 h1
    have e := hne r g1 h1
    exact ⟨g1, by rw [upd_ne _ _ e]; exact h1, .refl g1, fun _ => upd_ne _ _ e⟩
  · intro M r g1 h1
    by_cases e : r = d
    · subst e
      rw [upd_same] at h1
      cases h1
      rw [upd_same]
      exact hreg _ M
    · rw [upd_ne _ _ e] at h1
      rw [upd_ne _ _ e]
      refine (R.heap r g1 h1).mono M fun b hb hl => Below.heap_alloc w obj b ?_
      exact OwnR.lt R ⟨r, g1, h1, hl, hb⟩
  · intro r1 r2 g1 g2 b h1 h2 l1 l2 e1 e2
    by_cases d1 : r1 = d <;> by_cases d2 : r2 = d
    · rw [d1, d2]
    · exfalso
      subst d1
      rw [upd_same] at e1
      rw [upd_ne _ _ d2] at h2 e2
      have := OwnR.lt R ⟨r2, g2, h2, l2, e2⟩
      have := hbv b e1
      omega
    · exfalso
      subst d2
      rw [upd_same] at e2
      rw [upd_ne _ _ d1] at h1 e1
      have := OwnR.lt R ⟨r1, g1, h1, l1, e1⟩
      have := hbv b e2
      omega
    · rw [upd_ne _ _ d1] at h1 e1
      rw [upd_ne _ _ d2] at h2 e2
      exact R.sep r1 r2 g1 g2 b h1 h2 l1 l2 e1 e2

theorem setRow_block {b : Nat} {old cs : Array Value} {T' : Nat} (h : w.heap[b]? = some (.cells old T' (0, 0))) : (w.setRow b cs).heap[b]? = some (.cells cs T' (0, 0)) := setRow_heap w b old cs T' (0, 0) h

theorem storeAt_rel (R : Rel P w0 fp nt β st a w) {t : Nat} {ti : TI} (hT : TIOk P t ti) {c : CV} {x : Value} (hx : CVRel st.heap β w c x) {v : AV} {y : Value} (hy : AVRel st.heap β w v y) {δ : Delta} (e : storeAt ti st.heap v c = some δ)
    {dst : Option Nat} (hd : dstOk nt dst = true) : ∃ w', (Instr.storeAt t x y).run P w = .ok () w' ∧ Rel P w0 fp nt β (st.app dst δ) (a.put dst undef) w' := by
  obtain ⟨i, hi, hsz, _⟩ := hT.info
  cases c <;> simp only [storeAt] at e <;> try (cases e; done)
  rename_i r base o room
  cases hb : (Nat.ble ti.size room && Nat.beq (valSize v) ti.size) <;> simp only [hb, cond_true, cond_false] at e
  · cases e
  simp only [Bool.and_eq_true] at hb
  have hroom := nble.1 hb.1
  have hvs := nbeq.1 hb.2
  obtain ⟨g, hg, hp⟩ := hx
  rw [hg] at e
  have hreg := R.heap r g hg
  have runit : ∀ {b off : Nat} {old : Array Value} {T' : Nat}, w.heap[b]? = some (.cells old T' (0, 0)) → off + y.cells.size ≤ old.size → (∀ u ∈ y.cells.toList, u.oneCell' = true) → y.cells.size = ti.size →
      (Instr.storeAt t (.pointer (some ⟨b, off, none⟩)) y).run P w = .ok () (w.setRow b (old.toList.take off ++ y.cells.toList ++ old.toList.drop (off + y.cells.size)).toArray) := by
    intro b off old T' hh hlen h1 h2
    have := run_storeCells_at (P := P) b off T' y.cells.toList 0 old w hh (by simp; omega) h1
    simp only [Nat.add_zero, Array.length_toList] at this
    simp [Instr.storeAt, Instr.sureAddr, storeVar, run_sizeOf hi, hsz, h2, this]
  cases g with
  | dead => cases e
  | rowd => cases e
  | imap => cases e
  | cells segs =>
    simp only [] at e
    obtain ⟨b, hbv, rfl, hsize, hlim⟩ := hp
    obtain ⟨b', TT, cs, hbv', hh, hs⟩ := hreg
    obtain rfl : b' = b := by rw [hbv] at hbv'; simpa using hbv'.symm
    cases hsp : splitSegs segs base with
    | none => rw [hsp] at e; cases e
    | some pr =>
      obtain ⟨p, rest⟩ := pr
      rw [hsp] at e
      simp only [] at e
      cases hwr : writeSegs v o rest with
      | none => rw [hwr] at e; cases e
      | some rest' =>
        rw [hwr] at e
        cases e
        obtain ⟨l1, l2, hl, hl1, hp1, hp2⟩ := splitSegs_rel hs hsp
        have hys : y.cells.size = ti.size := by
          cases v with
          | tup xs => simp only [writeSegs] at hwr; cases hwr
          | pan t' n' => simp only [writeSegs] at hwr; cases hwr
          | agg xs =>
            obtain ⟨l, rfl, hs'⟩ := hy
            have := hs'.length
            simp only [valSize] at hvs
            simp [Value.cells]
            omega
          | c z =>
            simp only [valSize] at hvs
            have hone := CVRel.oneCell hy
            have key : y.oneCell' = true → y.cells.size = 1 := fun h1 => by cases y <;> simp_all [Value.cells, Value.oneCell']
            rcases hone with ⟨u, rfl⟩ | h1
            · have : y = u := hy
              subst this
              cases h1 : y.oneCell' with
              | true => rw [key h1]; exact hvs
              | false =>
                exfalso
                simp only [writeSegs] at hwr
                cases rest with
                | nil => cases hwr
                | cons c' cs' => cases c' <;> cases o <;> simp only [cellAV, h1, cond_false] at hwr <;> cases hwr
            · rw [key h1]; exact hvs
        obtain ⟨h3, h4, h5⟩ := writeSegs_rel hp2 hy hwr (fun i lim e => by have := hlim i lim e; omega)
        have hcsl : cs.size = base + l2.length := by rw [← Array.length_toList, hl]; simp [hl1]
        have hone1 : ∀ u ∈ y.cells.toList, u.oneCell' = true := fun u hu => h5.one u (by simp [hu])
        have hrun := runit (off := base + offOf o) hh (by omega) hone1 hys
        refine ⟨_, hrun, ?_⟩
        refine R.write (g' := .cells (p ++ rest')) hg trivial (by simp [hbv, blkOf]) ?_ hd ?_
        · simp only [Shape]
          rw [segSize_append, h4, ← hp1.length, ← hp2.length, ← hs.length, hl]
          simp
        · intro h' M
          refine ⟨b', TT, _, hbv, setRow_block hh, ?_⟩
          have hnew : (cs.toList.take (base + offOf o) ++ y.cells.toList ++ cs.toList.drop (base + offOf o + y.cells.size)) = l1 ++ (l2.take (offOf o) ++ y.cells.toList ++ l2.drop (offOf o + y.cells.size)) := by
            rw [hl, List.take_append, List.drop_append, List.take_of_length_le (by omega), List.drop_of_length_le (by omega)]
            simp [hl1, Nat.add_sub_cancel_left, show base + offOf o + y.cells.size - base = offOf o + y.cells.size by omega]
          have key := (hp1.append h5).mono M
          rw [← hnew] at key
          simpa using key
  | row e' k xs =>
    simp only [] at e
    obtain ⟨rfl, hlen, b, cap, hbv, rfl⟩ := hp
    cases v with
    | tup => cases e
    | pan => cases e
    | agg => cases e
    | c z =>
      cases z <;> simp only [] at e <;> try (cases e; done)
      rename_i k' n
      cases hk : k == k' <;> simp only [hk, cond_true, cond_false] at e
      · cases e
      obtain rfl := beqK.1 hk
      cases e
      have hy' : y = .int k n := hy
      subst hy'
      simp only [valSize] at hvs
      rcases hreg with ⟨hn, _⟩ | ⟨b', cap', tail, hbv', hh, hcap, hmx⟩
      · rw [hn] at hbv; cases hbv
      rw [hbv'] at hbv
      have h1 : b' = b := by injection hbv with h; injection h with h; injection h
      subst h1
      have hrun := runit (off := offOf o) hh (by simp [Value.cells]; omega) (by simp [Value.cells, Value.oneCell']) (by simp [Value.cells]; omega)
      refine ⟨_, hrun, ?_⟩
      refine R.write (g' := .row e' k (xs.set (offOf o) n)) hg trivial (by simp [hbv', blkOf]) (by simp [Shape]) hd ?_
      intro h' M
      refine .inr ⟨b', cap', tail, by simpa using hbv', ?_, by simpa using hcap, hmx⟩
      rw [setRow_block hh]
      congr 2
      simp only [Value.cells, List.size_toArray, List.length_singleton]
      rw [set_eq_splice _ _ _ (by simp; omega), List.set_append_left _ _ (by simp; omega)]
      simp [intsV, List.map_set]
end
end Go.Abs
